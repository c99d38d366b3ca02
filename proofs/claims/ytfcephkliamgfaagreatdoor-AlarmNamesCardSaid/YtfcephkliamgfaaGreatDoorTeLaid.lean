/- TE: data that is read in the model's memory, as abstract cells. -/
import Derived.Test.YtfcephkliamgfaaGreatDoorTeMemo
import Derived.ChangeArms
import Derived.OpenShut
import Derived.LaidMore
import Derived.LaidHandle
import Derived.FnData
import Derived.DataElems
namespace Go.Te
open Go

section
variable {H : Type}

def sameA (f : DataW H → Option (List AV)) (s : Nat) : List (DataW H) → Option (List AV)
  | [] => some []
  | d :: ds => (f d).bind fun xs => if Nat.beq xs.length s then (sameA f s ds).bind fun r => some (xs ++ r) else none

def fieldsA (f : TypeId → DataW H → Option (List AV)) (sz : TypeId → Option Nat) : Nat → List Field → List (DataW H) → Option (List AV)
  | _, [], [] => some []
  | off, fd :: fs, d :: ds => (sz fd.type).bind fun s => (f fd.type d).bind fun xs =>
    if Nat.beq fd.offset off && Nat.beq xs.length s then (fieldsA f sz (off + s) fs ds).bind fun r => some (xs ++ r) else none
  | _, _, _ => none

/-- A datum as abstract cells. -/
def dAV (E : Env) (hf : H → Option FuncId) : Nat → TypeId → DataW H → Option (List AV)
  | 0, _, _ => none
  | n + 1, t, d => (E.ti t).bind fun i => match i.desc, d with
    | .bool, .lit (.bool b) => some [.bool b]
    | .int k, .lit (.int k' x) => if k = k' then some [.int k' x] else none
    | .string, .lit (.string s) => some [.str ⟨s.toArray⟩]
    | .func _ _ _, .held x => (hf x).bind fun f => some [.fn (.func f) [] []]
    | .array m e, .agg ds => (E.ti e).bind fun j => if Nat.beq ds.length m then (sameA (dAV E hf n e) j.size ds).bind fun r => if Nat.beq r.length i.size then some r else none else none
    | .struct fs, .agg ds => (fieldsA (dAV E hf n) (fun t => (E.ti t).map (·.size)) 0 fs.toList ds).bind fun r => if Nat.beq r.length i.size then some r else none
    | .slice e, .slice ds _ => (E.ti e).bind fun j => if Nat.ble 1 j.size then (sameA (dAV E hf n e) j.size ds).bind fun r => some [.tree e ds.length r] else none
    | .slice _, .nil => some [.snil]
    | _, _ => none

theorem sameA_spec {f : DataW H → Option (List AV)} {s : Nat} : ∀ {ds : List (DataW H)} {r : List AV}, sameA f s ds = some r → r.length = ds.length * s ∧ ∀ (k : Nat) d, ds[k]? = some d → ∃ xs, f d = some xs ∧ xs.length = s ∧ ∀ j, j < s → r[k * s + j]? = xs[j]?
  | [], r, h => by
    simp only [sameA, Option.some.injEq] at h; subst h; simp
  | d :: ds, r, h => by
    simp only [sameA] at h
    replace h := bind_some h; obtain ⟨xs, hx, h⟩ := h
    split at h
    · rename_i hl
      rw [Nat.beq_eq] at hl
      replace h := bind_some h; obtain ⟨r', hr, h⟩ := h
      simp only [Option.some.injEq] at h; subst h
      obtain ⟨k1, k2⟩ := sameA_spec hr
      refine ⟨by simp [k1, hl, Nat.succ_mul, Nat.add_comm], fun k e hk => ?_⟩
      cases k with
      | zero =>
        simp at hk; subst hk
        exact ⟨xs, hx, hl, fun j hj => by rw [Nat.zero_mul, Nat.zero_add, List.getElem?_append_left (by omega)]⟩
      | succ k =>
        obtain ⟨ys, h1, h2, h3⟩ := k2 k e (by simpa using hk)
        refine ⟨ys, h1, h2, fun j hj => ?_⟩
        have e1 : (k + 1) * s + j = s + (k * s + j) := by rw [Nat.succ_mul]; omega
        rw [e1, List.getElem?_append_right (by omega), hl, Nat.add_sub_cancel_left]
        exact h3 j hj
    · cases h

theorem fieldsA_spec {f : TypeId → DataW H → Option (List AV)} {sz : TypeId → Option Nat} : ∀ {off : Nat} {fs : List Field} {ds : List (DataW H)} {r : List AV}, fieldsA f sz off fs ds = some r →
    ∀ (i : Nat) x, r[i]? = some x → ∃ (k : Nat) (fd : Field) (d : DataW H) (xs : List AV) (j s : Nat), fs[k]? = some fd ∧ ds[k]? = some d ∧ sz fd.type = some s ∧ f fd.type d = some xs ∧ xs.length = s ∧ j < s ∧ fd.offset + j = off + i ∧ xs[j]? = some x
  | _, [], [], r, h, i, x, hi => by
    simp only [fieldsA, Option.some.injEq] at h; subst h; simp at hi
  | _, [], _ :: _, r, h, _, _, _ => by simp [fieldsA] at h
  | _, _ :: _, [], r, h, _, _, _ => by simp [fieldsA] at h
  | off, fd :: fs, d :: ds, r, h, i, x, hi => by
    simp only [fieldsA] at h
    replace h := bind_some h; obtain ⟨s, hs, h⟩ := h
    replace h := bind_some h; obtain ⟨xs, hx, h⟩ := h
    split at h
    · rename_i hc
      simp only [Bool.and_eq_true, Nat.beq_eq] at hc
      replace h := bind_some h; obtain ⟨r', hr, h⟩ := h
      simp only [Option.some.injEq] at h; subst h
      by_cases hlt : i < s
      · rw [List.getElem?_append_left (by omega)] at hi
        exact ⟨0, fd, d, xs, i, s, rfl, rfl, hs, hx, hc.2, hlt, by omega, hi⟩
      · rw [List.getElem?_append_right (by omega), hc.2] at hi
        obtain ⟨k, fd', d', xs', j, s', g1, g2, g3, g4, g5, g6, g7, g8⟩ := fieldsA_spec hr (i - s) x hi
        exact ⟨k + 1, fd', d', xs', j, s', by simpa using g1, by simpa using g2, g3, g4, g5, g6, by omega, g8⟩
    · cases h

/-- All that lies in a world's memory. -/
def sgAll (w : World) : Sg := fun b => match w.heap[b]? with
  | some (.cells c e _) => some (e, c)
  | _ => none

theorem sgAll_of {w : World} {b : Nat} {c : Array Value} {e : TypeId} {fr : Nat × Nat} (h : w.heap[b]? = some (.cells c e fr)) : sgAll w b = some (e, c) := by simp [sgAll, h]

theorem cells?_get {w : World} {base : Nat} {a : Addr} {n : Nat} {l : List Value} (h : w.cells? base a n = some l) : l.length = n ∧ ∀ j, j < n → w.cell? (a.add j) = l[j]? := by
  unfold World.cells? at h
  split at h
  · refine ⟨by simpa using mapM_some_length h, fun j hj => ?_⟩
    exact mapM_some_get h j j (by simp [hj])
  · cases h

variable {E : Env} {P : Program} {enc : TypeId × Value → H} {hf : H → Option FuncId} {base : Nat} {sp : Nat → Bool} {held : Bool} {w : World} {B0 : Nat}

theorem ti_size (OK : EnvOk E P) {t : TypeId} {i : TI} (h : E.ti t = some i) : P.cellsOf t = i.size := by
  obtain ⟨info, h1, _, h3, _⟩ := OK.ti t i h
  simp [Program.cellsOf, h1, h3]

theorem dAV_ok (OK : EnvOk E P) (hB : w.heap.size ≤ B0) (hh : ∀ t v f, hf (enc (t, v)) = some f → v = .func (.func f) #[] #[]) : ∀ (n : Nat) (t : TypeId) (d : DataW H) (xs : List AV) (fuel : Nat) (cs : List Value) (p : List MemPlace),
    dAV E hf n t d = some xs → DataW.trod enc P w base sp held fuel t cs = some (d, p) → cs.length = xs.length ∧ ∀ (i : Nat) x, xs[i]? = some x → ∃ v, cs[i]? = some v ∧ VR E B0 (sgAll w) NoMu x v
  | 0, _, _, _, _, _, _, h, _ => by cases h
  | n + 1, t, d, xs, fuel, cs, p, h, ht => by
    simp only [dAV] at h
    replace h := bind_some h; obtain ⟨i, hi, h⟩ := h
    have hu := desc_of OK hi
    have hsz := ti_size OK hi
    have one : ∀ {x : AV} {v : Value}, VR E B0 (sgAll w) NoMu x v → ([v] : List Value).length = [x].length ∧ ∀ (i : Nat) y, [x][i]? = some y → ∃ u, ([v] : List Value)[i]? = some u ∧ VR E B0 (sgAll w) NoMu y u := by
      intro x v hv
      refine ⟨rfl, fun i y hi => ?_⟩
      cases i with
      | zero => simp at hi; subst hi; exact ⟨v, rfl, hv⟩
      | succ i => simp at hi
    split at h
    · rename_i b hd
      rw [hd] at hu
      simp only [Option.some.injEq] at h; subst h
      obtain ⟨b', rfl, e⟩ := DataW.trod_bool hu ht
      simp only [Prod.mk.injEq, DataW.lit.injEq, Lit.bool.injEq] at e
      obtain ⟨rfl, _⟩ := e
      exact one (VR_bool.2 rfl)
    · rename_i k k' x hd
      rw [hd] at hu
      split at h
      · rename_i hk; subst hk
        simp only [Option.some.injEq] at h; subst h
        obtain ⟨b', rfl, e, _⟩ := DataW.trod_int hu ht
        simp only [Prod.mk.injEq, DataW.lit.injEq, Lit.int.injEq] at e
        obtain ⟨⟨_, rfl⟩, _⟩ := e
        exact one (VR_int.2 rfl)
      · cases h
    · rename_i s hd
      rw [hd] at hu
      simp only [Option.some.injEq] at h; subst h
      obtain ⟨b', rfl, e, _⟩ := DataW.trod_string hu ht
      simp only [Prod.mk.injEq, DataW.lit.injEq, Lit.string.injEq] at e
      obtain ⟨rfl, _⟩ := e
      exact one (VR_str.2 (by cases b'; rfl))
    · rename_i a b c x hd
      rw [hd] at hu
      replace h := bind_some h; obtain ⟨f, hx, h⟩ := h
      simp only [Option.some.injEq] at h; subst h
      cases fuel with
      | zero => simp [DataW.trod] at ht
      | succ m =>
        unfold DataW.trod at ht
        rw [hu] at ht
        split at ht <;> try (simp_all; done)
        · rename_i g first cap e1 e2
          split at ht
          · simp only [Option.some.injEq, Prod.mk.injEq, DataW.held.injEq] at ht
            obtain ⟨rfl, _⟩ := ht
            have := hh _ _ _ hx
            simp only [Value.func.injEq] at this
            obtain ⟨rfl, rfl, rfl⟩ := this
            refine one ?_
            simp only [VR]
            exact ⟨.func f, #[], #[], rfl, rfl, rfl, by simp [VRl], rfl, by simp [VRl]⟩
          · cases ht
    · rename_i m e ds hd
      rw [hd] at hu
      replace h := bind_some h; obtain ⟨j, hj, h⟩ := h
      split at h
      · rename_i hl
        rw [Nat.beq_eq] at hl
        replace h := bind_some h; obtain ⟨r, hr, h⟩ := h
        split at h
        · rename_i hrl
          rw [Nat.beq_eq] at hrl
          simp only [Option.some.injEq] at h; subst h
          obtain ⟨ys, m', _, e1, e2, e3, e4⟩ := DataW.trod_array hu ht
          simp only [Prod.mk.injEq, DataW.agg.injEq] at e1
          obtain ⟨rfl, _⟩ := e1
          obtain ⟨k1, k2⟩ := sameA_spec hr
          refine ⟨by rw [e2, hsz, hrl], fun q x hq => ?_⟩
          have hjs := ti_size OK hj
          have hlt := (List.getElem?_eq_some_iff.1 hq).1
          have hs0 : 0 < j.size := by
            rcases Nat.eq_zero_or_pos j.size with h0 | h0
            · rw [h0, Nat.mul_zero] at k1; omega
            · exact h0
          have hk : q / j.size < (ys.map (·.1)).length := by rw [Nat.div_lt_iff_lt_mul hs0]; omega
          have hqe : q = q / j.size * j.size + q % j.size := by rw [Nat.mul_comm]; exact (Nat.div_add_mod q j.size).symm
          obtain ⟨zs, z1, z2, z3⟩ := k2 (q / j.size) _ (List.getElem?_eq_getElem hk)
          have hq2 : zs[q % j.size]? = some x := by rw [← z3 _ (Nat.mod_lt _ hs0), ← hqe]; exact hq
          have hk' : q / j.size < ys.length := by simpa using hk
          have g1 := e4 (q / j.size) (by omega)
          rw [List.getElem?_eq_getElem hk'] at g1
          obtain ⟨g2, g3⟩ := dAV_ok OK hB hh n e _ zs _ _ _ z1 (by rw [g1, List.getElem_map])
          obtain ⟨v, hv, hr2⟩ := g3 _ x hq2
          refine ⟨v, ?_, hr2⟩
          rw [List.getElem?_take_of_lt (by rw [hjs]; exact Nat.mod_lt _ hs0), List.getElem?_drop, hjs, ← hqe] at hv
          exact hv
        · cases h
      · cases h
    · rename_i fs ds hd
      rw [hd] at hu
      replace h := bind_some h; obtain ⟨r, hr, h⟩ := h
      split at h
      · rename_i hrl
        rw [Nat.beq_eq] at hrl
        simp only [Option.some.injEq] at h; subst h
        obtain ⟨ys, m', _, e1, e2, e3, e4⟩ := DataW.trod_struct hu ht
        simp only [Prod.mk.injEq, DataW.agg.injEq] at e1
        obtain ⟨rfl, _⟩ := e1
        refine ⟨by rw [e2, hsz, hrl], fun q x hq => ?_⟩
        obtain ⟨k, fd, d, zs, j, s, f1, f2, f3, f4, f5, f6, f7, f8⟩ := fieldsA_spec hr q x hq
        have hk : k < ys.length := by have := (List.getElem?_eq_some_iff.1 f2).1; simpa using this
        have g1 := e4 k fd (by rw [← Array.getElem?_toList]; exact f1)
        rw [List.getElem?_eq_getElem hk] at g1
        rw [List.getElem?_map, List.getElem?_eq_getElem hk] at f2
        simp only [Option.map_some, Option.some.injEq] at f2
        obtain ⟨g2, g3⟩ := dAV_ok OK hB hh n fd.type d zs _ _ _ f4 (by rw [g1, ← f2])
        obtain ⟨v, hv, hr2⟩ := g3 j x f8
        refine ⟨v, ?_, hr2⟩
        have hs' : P.cellsOf fd.type = s := by
          cases hti : E.ti fd.type with
          | none => rw [hti] at f3; cases f3
          | some i' => rw [hti] at f3; simp only [Option.map_some, Option.some.injEq] at f3; rw [ti_size OK hti, f3]
        rw [List.getElem?_take_of_lt (by rw [hs']; exact f6), List.getElem?_drop, f7, Nat.zero_add] at hv
        exact hv
      · cases h
    · rename_i e ds rest hd
      rw [hd] at hu
      replace h := bind_some h; obtain ⟨j, hj, h⟩ := h
      split at h
      · rename_i hs0
        rw [Nat.ble_eq] at hs0
        replace h := bind_some h; obtain ⟨r, hr, h⟩ := h
        simp only [Option.some.injEq] at h; subst h
        rcases DataW.trod_slice hu ht with ⟨_, hx⟩ | ⟨a, len, cap, elems, rest', m, _, hcs, hx, _, hl, _, hlen, hel, _⟩
        · simp at hx
        · simp only [Prod.mk.injEq, DataW.slice.injEq] at hx
          obtain ⟨⟨rfl, _⟩, _⟩ := hx
          subst hcs
          obtain ⟨k1, k2⟩ := sameA_spec hr
          have hjs := ti_size OK hj
          have hlen' : (elems.map (·.1)).length = len := by simpa using hlen
          refine one ?_
          simp only [VR]
          refine ⟨some a, cap, j.size, by rw [hlen'], by rw [hlen']; exact hl, by simp [esz, hj], hs0, k1, ?_⟩
          by_cases hn : len = 0
          · left; exact ⟨by rw [hlen']; exact hn, rfl⟩
          · right
            -- each cell
            have cell : ∀ (q : Nat) (x : AV), r[q]? = some x → ∃ v, w.cell? (a.add q) = some v ∧ VR E B0 (sgAll w) NoMu x v := by
              intro q x hq
              have hlt := (List.getElem?_eq_some_iff.1 hq).1
              have hk : q / j.size < (elems.map (·.1)).length := by rw [Nat.div_lt_iff_lt_mul hs0]; omega
              have hqe : q = q / j.size * j.size + q % j.size := by rw [Nat.mul_comm]; exact (Nat.div_add_mod q j.size).symm
              obtain ⟨zs, z1, z2, z3⟩ := k2 (q / j.size) _ (List.getElem?_eq_getElem hk)
              have hq2 : zs[q % j.size]? = some x := by rw [← z3 _ (Nat.mod_lt _ hs0), ← hqe]; exact hq
              have hk' : q / j.size < elems.length := by simpa using hk
              have g1 := hel (q / j.size) (by omega)
              rw [List.getElem?_eq_getElem hk'] at g1
              obtain ⟨l, c1, c2⟩ := Option.bind_eq_some_iff.1 g1
              obtain ⟨c3, c4⟩ := cells?_get c1
              obtain ⟨g2, g3⟩ := dAV_ok OK hB hh n e _ zs _ _ _ z1 (by rw [c2, List.getElem_map])
              obtain ⟨v, hv, hr2⟩ := g3 _ x hq2
              refine ⟨v, ?_, hr2⟩
              have c5 := c4 (q % j.size) (by rw [hjs]; exact Nat.mod_lt _ hs0)
              rw [hv, hjs] at c5
              have e5 : (a.add (q / j.size * j.size)).add (q % j.size) = a.add q := by
                rw [Addr.add_add, ← hqe]
              rw [e5] at c5
              exact c5
            have hr0 : 0 < r.length := by rw [k1, hlen']; exact Nat.mul_pos (by omega) hs0
            obtain ⟨v0, hv0, _⟩ := cell 0 _ (List.getElem?_eq_getElem hr0)
            obtain ⟨blk, off, spot⟩ := a
            have hspot : spot = none := by
              have := World.cell?_spot hv0
              simpa [Addr.add] using this
            subst hspot
            have hblk : ∃ c e' fr, w.heap[blk]? = some (.cells c e' fr) := by
              simp only [World.cell?, add_none] at hv0
              split at hv0
              · rename_i c e' fr hb; exact ⟨c, e', fr, hb⟩
              · cases hv0
            obtain ⟨c, e', fr, hb⟩ := hblk
            refine ⟨blk, off, e', c, rfl, sgAll_of hb, .inr ?_, VRl_iff.2 fun q x hq => ?_⟩
            · exact Nat.lt_of_lt_of_le (Array.getElem?_eq_some_iff.1 hb).1 hB
            · obtain ⟨v, hv, hr2⟩ := cell q x hq
              rw [add_none, cell_of hb] at hv
              exact ⟨v, hv, hr2⟩
      · cases h
    · rename_i e hd
      rw [hd] at hu
      simp only [Option.some.injEq] at h; subst h
      rcases DataW.trod_slice hu ht with ⟨rfl, _⟩ | ⟨a, len, cap, elems, rest', m, _, hcs, hx, _⟩
      · exact one (by simp only [VR])
      · simp at hx
    · cases h

end
end Go.Te
