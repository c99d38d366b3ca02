/- TE: making things, append, copy, maps: what the evaluator's operations say of the model's own. -/
import Derived.Test.YtfcephkliamgfaaGreatDoorTeOps2
import Derived.Laws.CopyRow
namespace Go.Te
open Go

section
variable {E : Env} {P : Program} {B0 : Nat} {σ : Sg} {μ : Mu}

theorem ti_zero (OK : EnvOk E P) {t : TypeId} {i : TI} {z : AV} (hi : E.ti t = some i) (hz : i.zero = some z) :
    ∃ info zv, P.info? t = some info ∧ info.size = i.size ∧ info.bytes = i.bytes ∧ info.zero = some zv ∧ ∀ σ μ, VR E B0 σ μ z zv := by
  obtain ⟨info, g1, g2, g3, g4, g5⟩ := OK.ti t i hi
  obtain ⟨zv, h1, h2⟩ := g5 z hz
  exact ⟨info, zv, g1, g3, g4, h1, fun _ _ => ofValue_sound h2⟩

/-- An operation that makes one new object, the k-th. -/
def MadeOk (E : Env) (B0 : Nat) (P : Program) (σ : Sg) (μ : Mu) (w : World) (k : Nat) (s : Sem Value) (v : AV) (ob : AO) : Prop :=
  ∃ y o p, s.run P w = .ok y (w.alloc o) ∧ p.blk = w.heap.size ∧ VR E B0 σ (Mu.put μ k p) v y ∧ ObjR E B0 σ (Mu.put μ k p) (w.alloc o) k ob ∧ ob.live = true

theorem var_made {h : List AO} {w : World} {e : TypeId} {x : AV} {v : Value} {k : Nat} (H : WR E B0 σ μ h w) (hμ : μ k = none) (hv : VR E B0 σ μ x v) {s : Sem Value}
    (hs : s.run P w = .ok (.pointer (some ⟨w.heap.size, 0, none⟩)) (w.alloc (.cells v.cells e (0, 0)))) : MadeOk E B0 P σ μ w k s (.ptr k 0) (.row e x.cells true false) := by
  obtain ⟨g1, g2⟩ := VR_cells hv
  refine ⟨_, _, ⟨w.heap.size, v.cells.size, e⟩, hs, rfl, ?_, row_new H hμ (by rw [g1]; exact Nat.le_refl _) g2 (fun _ => g1.symm), rfl⟩
  simp only [VR]
  exact ⟨_, Mu.put_self _ _ _, rfl⟩

theorem run_newVar {w : World} {e : TypeId} {v : Value} : (newVar e v).run P w = .ok ⟨w.heap.size, 0, none⟩ (w.alloc (.cells v.cells e (0, 0))) := by
  simp [newVar, run_newRow]

theorem alloc_ok (OK : EnvOk E P) {h : List AO} {w : World} {e : TypeId} {z : AV} {k : Nat} (H : WR E B0 σ μ h w) (hμ : μ k = none) (hz : zeroOf E e = some z) :
    MadeOk E B0 P σ μ w k (Instr.alloc e true (.tuple #[])) (.ptr k 0) (.row e z.cells true false) := by
  simp only [zeroOf] at hz
  obtain ⟨i, hi, hz⟩ := bind_some hz
  obtain ⟨info, zv, g1, g2, g3, g4, g5⟩ := ti_zero (B0 := B0) OK hi hz
  exact var_made H hμ (g5 σ μ) (by simp [Instr.alloc, run_zeroValue g1 g4, run_newVar])

theorem box_ok {h : List AO} {w : World} {e : TypeId} {x : AV} {v : Value} {k : Nat} (H : WR E B0 σ μ h w) (hμ : μ k = none) (hv : VR E B0 σ μ x v) :
    MadeOk E B0 P σ μ w k (Instr.box e v) (.ptr k 0) (.row e x.cells true false) :=
  var_made H hμ hv (by simp [Instr.box, run_newVar])

theorem makeMap_ok {h : List AO} {w : World} {t : TypeId} {k : Nat} (H : WR E B0 σ μ h w) (hμ : μ k = none) :
    MadeOk E B0 P σ μ w k (Instr.makeMap t none) (.map k) (.map [] 0) := by
  refine ⟨.map (some w.heap.size), .map #[] 0, ⟨w.heap.size, 0, t⟩, by simp [Instr.makeMap], rfl, ?_, ⟨⟨w.heap.size, 0, t⟩, #[], Mu.put_self _ _ _, heap_alloc_new w _, rfl, by simp, H.base, H.noSg (Nat.le_refl _)⟩, rfl⟩
  simp only [VR]
  exact ⟨_, Mu.put_self _ _ _, rfl⟩

theorem placesOf_sound (OK : EnvOk E P) : ∀ (fs : List Field) (ps : List (Nat × Nat)), placesOf E fs = some ps → fs.mapM (fun f => (P.info? f.type).map fun i => (f.offset, i.size)) = some ps
  | [], ps, h => by simp [placesOf] at h; subst h; rfl
  | f :: fs, ps, h => by
    simp only [placesOf, Option.bind_eq_bind] at h
    replace h := bind_some h; obtain ⟨i, hi, h⟩ := h
    replace h := bind_some h; obtain ⟨r, hr, h⟩ := h
    simp at h
    subst h
    obtain ⟨info, g1, _, g3, _⟩ := OK.ti _ i hi
    simp [List.mapM_cons, g1, g3, placesOf_sound OK fs r hr]

/-- Parts of a composite literal. -/
def PartsR (E : Env) (B0 : Nat) (σ : Sg) (μ : Mu) (ps : List (Nat × AV)) (qs : List (Nat × Value)) : Prop :=
  qs.length = ps.length ∧ ∀ (j i : Nat) (x : AV), ps[j]? = some (i, x) → ∃ v, qs[j]? = some (i, v) ∧ VR E B0 σ μ x v

theorem build_ok (OK : EnvOk E P) {w : World} {t : TypeId} {ps : List (Nat × AV)} {qs : Array (Nat × Value)} {x : AV} (hp : PartsR E B0 σ μ ps qs.toList) (h : buildA E t ps = some x) :
    ∃ y, (Instr.build t qs).run P w = .ok y w ∧ VR E B0 σ μ x y := by
  simp only [buildA, Option.bind_eq_bind] at h
  replace h := bind_some h; obtain ⟨i, hi, h⟩ := h
  replace h := bind_some h; obtain ⟨z, hz, h⟩ := h
  obtain ⟨info, zv, g1, g2, g3, g4, g5⟩ := ti_zero (B0 := B0) OK hi hz
  obtain ⟨_, _, k2, _⟩ := OK.ti t i hi
  have hzc := VR_cells (g5 σ μ)
  split at h
  · rename_i fields hd
    rw [hd] at k2
    replace h := bind_some h; obtain ⟨pl, hpl, h⟩ := h
    replace h := bind_some h; obtain ⟨cs, hcs, h⟩ := h
    simp at h
    subst h
    obtain ⟨c', f1, f2⟩ := fill_sound ps qs.toList (fun k => pl[k]?) (fun k => pl.toArray[k]?) _ _ _ (fun i => by simp) hp.1 hp.2 hzc hcs
    refine ⟨_, run_build w t qs c' ?_, VR_agg.2 ⟨_, rfl, f2⟩⟩
    simp only [Program.built, g1, k2, g4, placesOf_sound OK _ _ hpl]
    exact f1
  · rename_i len elem hd
    rw [hd] at k2
    replace h := bind_some h; obtain ⟨es, hes, h⟩ := h
    replace h := bind_some h; obtain ⟨cs, hcs, h⟩ := h
    simp only [Option.some.injEq] at h
    subst h
    obtain ⟨info', l1, _, l3, _⟩ := OK.ti _ es hes
    obtain ⟨c', f1, f2⟩ := fill_sound ps qs.toList (fun k => some (k * es.size, es.size)) (fun k => some (k * info'.size, info'.size)) _ _ _ (fun i => by rw [l3]) hp.1 hp.2 hzc hcs
    refine ⟨_, run_build w t qs c' ?_, VR_agg.2 ⟨_, rfl, f2⟩⟩
    simp only [Program.built, g1, k2, g4, l1]
    exact f1
  · cases h

theorem repeatA_length (z : List AV) : ∀ n, (repeatA z n).length = n * z.length
  | 0 => by simp [repeatA]
  | n + 1 => by simp [repeatA, repeatA_length z n, Nat.add_mul]; omega

theorem repeatA_get (z : List AV) : ∀ (n k : Nat), k < n * z.length → (repeatA z n)[k]? = z[k % z.length]?
  | 0, k, h => by simp at h
  | n + 1, k, h => by
    simp only [repeatA]
    by_cases hk : k < z.length
    · rw [List.getElem?_append_left hk, Nat.mod_eq_of_lt hk]
    · have hlt : k - z.length < n * z.length := by rw [Nat.add_mul, Nat.one_mul] at h; omega
      rw [List.getElem?_append_right (by omega), repeatA_get z n (k - z.length) hlt, Nat.mod_eq_sub_mod (a := k) (by omega)]

theorem made_ok {z : List AV} {zc : Array Value} (hz : VA E B0 σ μ z zc) (n : Nat) (h0 : 0 < z.length) : VA E B0 σ μ (repeatA z n) (madeCells zc (n * zc.size)) := by
  refine VA.mk' (by rw [size_madeCells, repeatA_length, hz.1]) fun k x hk => ?_
  have hlt : k < n * z.length := by
    have := (List.getElem?_eq_some_iff.1 hk).1
    rwa [repeatA_length] at this
  rw [repeatA_get z n k hlt] at hk
  obtain ⟨v, hv, hr⟩ := hz.get hk
  refine ⟨v, ?_, hr⟩
  have hm : k % zc.size < zc.size := Nat.mod_lt _ (by rw [hz.1]; exact h0)
  have hv' : zc[k % zc.size]? = some v := by rw [hz.1]; exact hv
  simp only [madeCells]
  rw [Array.getElem?_map, Array.getElem?_range]
  have : k < n * zc.size := by rw [hz.1]; exact hlt
  simp [this, getElem!_pos, hm]
  rw [Array.getElem?_eq_getElem hm] at hv'
  simpa using hv'

theorem fillA_length : ∀ (parts : List (Nat × AV)) (place : Nat → Option (Nat × Nat)) (cs cs' : List AV), fillA place cs parts = some cs' → cs'.length = cs.length
  | [], _, cs, cs', h => by simp [fillA] at h; rw [h]
  | (i, x) :: parts, place, cs, cs', h => by
    simp only [fillA] at h
    split at h
    · cases h
    · split at h
      · rw [fillA_length parts place _ cs' h, setMany_length]
      · cases h

theorem buildSlice_ok (OK : EnvOk E P) {h : List AO} {w : World} {t : TypeId} {n : Nat} {ps : List (Nat × AV)} {qs : Array (Nat × Value)} {x : AV} {ob : AO} {k : Nat} (H : WR E B0 σ μ h w) (hμ : μ k = none)
    (hp : PartsR E B0 σ μ ps qs.toList) (hb : buildSliceA E k t n ps = some (x, ob)) : MadeOk E B0 P σ μ w k (Instr.buildSlice t n qs) x ob := by
  simp only [buildSliceA] at hb
  replace hb := bind_some hb; obtain ⟨e, he, hb⟩ := hb
  replace hb := bind_some hb; obtain ⟨i, hi, hb⟩ := hb
  replace hb := bind_some hb; obtain ⟨z, hz, hb⟩ := hb
  have ht := elemOfSlice_sound OK he
  obtain ⟨info, zv, g1, g2, g3, g4, g5⟩ := ti_zero (B0 := B0) OK hi hz
  have hzc := VR_cells (g5 σ μ)
  split at hb
  · rename_i hc
    simp only [Bool.and_eq_true, Nat.ble_eq, Nat.beq_eq] at hc
    obtain ⟨⟨hc1, hc2⟩, hc3⟩ := hc
    replace hb := bind_some hb; obtain ⟨cs, hcs, hb⟩ := hb
    simp only [Option.some.injEq, Prod.mk.injEq] at hb
    obtain ⟨rfl, rfl⟩ := hb
    have hmade := made_ok hzc n (by omega)
    have hzs : zv.cells.size = i.size := by rw [hzc.1]; exact hc3
    obtain ⟨c', f1, f2⟩ := fill_sound ps qs.toList (fun k => some (k * i.size, i.size)) (fun k => some (k * info.size, info.size)) _ _ _ (fun i => by rw [g2]) hp.1 hp.2 hmade hcs
    have hlen : cs.length = n * i.size := by rw [fillA_length _ _ _ _ hcs, repeatA_length, hc3]
    refine ⟨.slice (some ⟨w.heap.size, 0, none⟩) n n, .cells c' e (0, 0), ⟨w.heap.size, c'.size, e⟩, ?_, rfl, ?_, row_new H hμ (by rw [f2.1]; exact Nat.le_refl _) f2.2 (fun _ => f2.1.symm), rfl⟩
    · have e1 : ¬ (n * info.size > 2 ^ 24) := by rw [g2]; omega
      have e2 : zv.cells.size = info.size := by rw [hzs, g2]
      rw [e2] at f1
      by_cases hn : n * info.size = 0
      · have er : ∀ f : Nat → Value, Array.map f (Array.range 0) = #[] := fun f => Array.eq_empty_of_size_eq_zero (by simp)
        have f1' : Instr.fill (fun i => some (i * info.size, info.size)) (#[] : Array Value) qs.toList = some c' := by
          rw [← f1, madeCells, hn, er]
        simp only [Instr.buildSlice, run_underlying ht, run_sizeOf g1, hn]
        simp [run_underlying ht, run_sizeOf g1, hn, er, f1', run_newRow]
      · have f1' : Instr.fill (fun i => some (i * info.size, info.size)) ((Array.range (n * info.size)).map fun x => zv.cells[x % zv.cells.size]!) qs.toList = some c' := f1
        simp [Instr.buildSlice, run_underlying ht, run_sizeOf g1, hn, e1, run_zeroValue g1 g4, f1', run_newRow]
    · simp only [VR]
      refine ⟨_, _, n, i.size, Mu.put_self _ _ _, rfl, Nat.le_refl _, fun _ => by simp, by simp, by simp [esz, hi], by omega, ?_, fun _ => ?_⟩
      · simp; rw [f2.1, hlen]; exact Nat.le_refl _
      · simp; rw [f2.1, hlen]
  · cases hb

theorem intOf_sound {x : AV} {n : Int} {v : Value} (h : intOf? x = some n) (hx : VR E B0 σ μ x v) : ∃ k, v = .int k n := by
  unfold intOf? at h
  split at h
  · rename_i k i
    simp at h
    subst h
    exact ⟨k, VR_int.1 hx⟩
  · cases h

theorem makeSlice_ok (OK : EnvOk E P) {h : List AO} {w : World} {t : TypeId} {l c x : AV} {lv cv : Value} {ob : AO} {k : Nat} (H : WR E B0 σ μ h w) (hμ : μ k = none) (hl : VR E B0 σ μ l lv) (hc : VR E B0 σ μ c cv)
    (hb : makeSliceA E k t l c = some (x, ob)) : MadeOk E B0 P σ μ w k (Instr.makeSlice t lv cv) x ob := by
  simp only [makeSliceA] at hb
  replace hb := bind_some hb; obtain ⟨e, he, hb⟩ := hb
  replace hb := bind_some hb; obtain ⟨i, hi, hb⟩ := hb
  replace hb := bind_some hb; obtain ⟨z, hz, hb⟩ := hb
  replace hb := bind_some hb; obtain ⟨ln, hln, hb⟩ := hb
  replace hb := bind_some hb; obtain ⟨cn, hcn, hb⟩ := hb
  have ht := elemOfSlice_sound OK he
  obtain ⟨info, zv, g1, g2, g3, g4, g5⟩ := ti_zero (B0 := B0) OK hi hz
  have hzc := VR_cells (g5 σ μ)
  obtain ⟨kl, rfl⟩ := intOf_sound hln hl
  obtain ⟨kc, rfl⟩ := intOf_sound hcn hc
  split at hb
  · rename_i hcond
    obtain ⟨c1, c2⟩ := hcond
    split at hb
    · rename_i hcond
      simp only [Bool.and_eq_true, Nat.ble_eq, Nat.beq_eq] at hcond
      obtain ⟨⟨⟨c3, c4⟩, c5⟩, c6⟩ := hcond
      simp only [Option.some.injEq, Prod.mk.injEq] at hb
      obtain ⟨rfl, rfl⟩ := hb
      unfold most at c3
      have hmade := made_ok hzc cn.toNat (by omega)
      have hzs : zv.cells.size = info.size := by rw [hzc.1, c6, g2]
      rw [hzs] at hmade
      have hcs : cn.toNat ≤ 2 ^ 20 := Nat.le_trans (Nat.le_mul_of_pos_right _ c5) c4
      have hby : (info.bytes : Int) * cn ≤ 281474976710656 := by
        rw [g3]
        have e1 : ((i.bytes : Int) * cn) = ((cn.toNat * i.bytes : Nat) : Int) := by
          rw [Int.natCast_mul, Int.toNat_of_nonneg (by omega), Int.mul_comm]
        rw [e1]
        omega
      refine ⟨.slice (some ⟨w.heap.size, 0, none⟩) ln.toNat cn.toNat, .cells (madeCells zv.cells (cn.toNat * info.size)) e (0, 0), ⟨w.heap.size, (madeCells zv.cells (cn.toNat * info.size)).size, e⟩,
        run_makeSlice w t e info zv ht g1 g4 kl kc ln cn c1 c2 (by rw [g2]; omega) hby (by omega), rfl, ?_, row_new H hμ (by rw [hmade.1]; exact Nat.le_refl _) hmade.2 (fun _ => hmade.1.symm), rfl⟩
      simp only [VR]
      refine ⟨_, _, cn.toNat, i.size, Mu.put_self _ _ _, rfl, by omega, fun _ => by simp, by simp, by simp [esz, hi], c5, ?_, fun _ => ?_⟩
      · simp [size_madeCells, g2]
      · simp [size_madeCells, g2]
    · cases hb
  · cases hb

/-! ## append, copy, len, cap -/

theorem rowCells_sound {h : List AO} {w : World} {size m : Nat} {x : AV} {v : Value} {new : List AV} (H : WR E B0 σ μ h w) (hr : rowCells h size x = some (m, new)) (hx : VR E B0 σ μ x v) :
    ∃ (a : Option Addr) (c : Nat) (vs : List Value), v = .slice a m c ∧ vs.length = new.length ∧ new.length = m * size ∧ (∀ (i : Nat) y, new[i]? = some y → ∃ u, vs[i]? = some u ∧ VR E B0 σ μ y u) ∧
      (0 < m → ∃ a', a = some a' ∧ ∀ (j : Nat) u, vs[j]? = some u → w.cell? (a'.add j) = some u) := by
  unfold rowCells at hr
  split at hr
  · simp only [Option.some.injEq, Prod.mk.injEq] at hr
    obtain ⟨rfl, rfl⟩ := hr
    simp only [VR] at hx
    subst hx
    exact ⟨none, 0, [], rfl, rfl, by simp, by simp, fun h => by omega⟩
  · simp only [Option.some.injEq, Prod.mk.injEq] at hr
    obtain ⟨rfl, rfl⟩ := hr
    simp only [VR] at hx
    obtain ⟨a, rfl⟩ := hx
    exact ⟨a, 0, [], rfl, rfl, by simp, by simp, fun h => by omega⟩
  · rename_i e n cs
    split at hr
    · rename_i hl
      rw [Nat.beq_eq] at hl
      simp only [Option.some.injEq, Prod.mk.injEq] at hr
      obtain ⟨rfl, rfl⟩ := hr
      simp only [VR] at hx
      obtain ⟨a, cap, s, rfl, g2, g3, g4, g5, g6⟩ := hx
      rcases g6 with g6 | ⟨blk, off, e', c, rfl, f2, f3, f4⟩
      · obtain ⟨rfl, _⟩ := g6
        have : cs = [] := by simpa using hl
        subst this
        exact ⟨a, cap, [], rfl, rfl, by simp, by simp, fun h => by omega⟩
      · obtain ⟨fr, hf⟩ := H.stable _ _ _ f2
        obtain ⟨vs, k1, k2, k3⟩ := VRl_values (VRl.mono (Sg.le_refl _) (NoMu.le μ) _ _ _ f4)
        exact ⟨_, cap, vs, rfl, k1, hl, k3, fun _ => ⟨_, rfl, fun j u hj => by rw [add_none, cell_of hf]; exact k2 j u hj⟩⟩
    · cases hr
  · rename_i b o n c
    split at hr
    · rename_i e cs ex se ho
      replace hr := bind_some hr; obtain ⟨ds, hs, hr⟩ := hr
      simp only [Option.some.injEq, Prod.mk.injEq] at hr
      obtain ⟨rfl, rfl⟩ := hr
      simp only [VR] at hx
      obtain ⟨p, a, cap, s, g1, rfl, g3, g4, _⟩ := hx
      obtain ⟨q, cc, fr, q1, q2, q3, q4, q5, q6, _⟩ := H.objs _ _ ho
      rw [g1] at q1
      cases q1
      have := VRl_slice q6 hs
      rw [Nat.zero_add] at this
      obtain ⟨vs, k1, k2, k3⟩ := VRl_values this
      refine ⟨_, cap, vs, rfl, k1, (slice?_spec hs).1, k3, fun hm => ⟨a, rfl, fun j u hj => ?_⟩⟩
      have := g4 (by omega)
      subst this
      rw [add_none, cell_of q3]
      exact k2 j u hj
    · cases hr
  · cases hr

theorem run_append_none {t ty e : TypeId} {info : TypeInfo} {w : World} (ht : P.underlying t = some (.slice e)) (hi : P.info? e = some info) (b b' : Option Addr) (n c c' : Nat) (hn : n ≤ c) :
    (Builtin.append_ #[t, t] ty #[.slice b n c, .slice b' 0 c']).run P w = .ok (.slice b n c) w := by
  cases b <;> cases b' <;> simp [Builtin.append_, run_underlying ht, run_sizeOf hi, Builtin.lenOf, Builtin.firstCells, hn, loadCells, loadCellsFrom, storeCells]

/-- The cells behind a grown slice. -/
theorem grown_ok {h : List AO} {w : World} {e : TypeId} {i : TI} {z : AV} {zv : Value} {cs : List AV} {us : List Value} {need cap : Nat} (H : WR E B0 σ μ h w) (hi : E.ti e = some i) (h0 : 0 < i.size)
    (hzs : zv.cells.size = i.size) (hu : us.length = cs.length) (hc : cs.length = need * i.size) (hcap : need ≤ cap) (hv : ∀ (j : Nat) y, cs[j]? = some y → ∃ u, us[j]? = some u ∧ VR E B0 σ μ y u) :
    WR E B0 σ (Mu.put μ h.length ⟨w.heap.size, cap * i.size, e⟩) (h ++ [.row e cs false false]) (w.drew.alloc (.cells (us.toArray ++ Builtin.zeroCells zv.cells (cap - need)) e (0, 0))) ∧
    Ev h σ μ w (h ++ [.row e cs false false]) σ (Mu.put μ h.length ⟨w.heap.size, cap * i.size, e⟩) (w.drew.alloc (.cells (us.toArray ++ Builtin.zeroCells zv.cells (cap - need)) e (0, 0))) ∧
    VR E B0 σ (Mu.put μ h.length ⟨w.heap.size, cap * i.size, e⟩) (.sl h.length 0 need none) (.slice (some ⟨w.heap.size, 0, none⟩) need cap) := by
  have hsize : (us.toArray ++ Builtin.zeroCells zv.cells (cap - need)).size = cap * i.size := by
    have e1 : cap * i.size = need * i.size + (cap - need) * i.size := by rw [← Nat.add_mul]; congr 1; omega
    simp [Builtin.zeroCells, hzs]; omega
  have Hd : WR E B0 σ μ h w.drew := H.of_heap rfl
  obtain ⟨k1, k2⟩ := Hd.newRow (e := e) (cs := cs) (c := us.toArray ++ Builtin.zeroCells zv.cells (cap - need)) (ex := false)
    (by rw [hsize, hc]; exact Nat.mul_le_mul_right _ hcap)
    (VRl_iff.2 fun j y hj => by
      obtain ⟨u, hu1, hr⟩ := hv j y hj
      refine ⟨u, ?_, hr⟩
      have hlt : j < us.length := (List.getElem?_eq_some_iff.1 hu1).1
      simp only [Nat.zero_add]
      rw [Array.getElem?_append_left (by simpa using hlt)]
      simpa using hu1) (by simp)
  rw [hsize] at k1 k2
  refine ⟨k1, (Ev.of_heap h σ μ w (w.drawn + 1)).trans k2, ?_⟩
  simp only [VR]
  exact ⟨_, _, cap, i.size, Mu.put_self _ _ _, rfl, hcap, fun _ => by simp, by simp, by simp [esz, hi], h0, by simp, fun _ => by simp⟩

end
end Go.Te
