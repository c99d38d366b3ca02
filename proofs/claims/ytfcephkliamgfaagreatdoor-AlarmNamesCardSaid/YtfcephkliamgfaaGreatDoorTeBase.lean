/- TE: small laws: lists of cells, reading and writing, the tables. -/
import Derived.Test.YtfcephkliamgfaaGreatDoorTeRel
import Derived.Laws.Tables
import Derived.Laws.Cells
import Derived.Laws.Append
import Derived.Laws.AppendOwn
import Derived.Laws.Slices
import Derived.Laws.Entries
import Derived.Laws.StructEq
namespace Go.Te
open Go

/-- The tables fit the program. -/
structure EnvOk (E : Env) (P : Program) : Prop where
  ti : ∀ t i, E.ti t = some i → ∃ info, P.info? t = some info ∧ P.underlying t = some i.desc ∧ info.size = i.size ∧ info.bytes = i.bytes ∧
    ∀ z, i.zero = some z → ∃ zv, info.zero = some zv ∧ ofValue zv = some z
  fn : ∀ f g, E.fn f = some g → P.funcs[f]? = some g ∧ g.body.isSome = true ∧ g.name ≠ "runtime.NumGoroutine"
  mixed : P.follows .mixedOrders = true

section
variable {E : Env} {P : Program} {B0 : Nat}

/-- A list of abstract values, and an array. -/
def VA (E : Env) (B0 : Nat) (σ : Sg) (μ : Mu) (xs : List AV) (a : Array Value) : Prop := a.size = xs.length ∧ VRl E B0 σ μ xs (fun j => a[j]?) 0

variable {σ : Sg} {μ : Mu}

theorem VA.get {xs : List AV} {a : Array Value} (h : VA E B0 σ μ xs a) {i : Nat} {x : AV} (hi : xs[i]? = some x) : ∃ v, a[i]? = some v ∧ VR E B0 σ μ x v := by
  have := (VRl_iff.1 h.2) i x hi
  simpa using this

theorem VA.mk' {xs : List AV} {a : Array Value} (hs : a.size = xs.length) (h : ∀ (i : Nat) x, xs[i]? = some x → ∃ v, a[i]? = some v ∧ VR E B0 σ μ x v) : VA E B0 σ μ xs a :=
  ⟨hs, VRl_iff.2 fun i x hi => by simpa using h i x hi⟩

theorem VA.nil : VA E B0 σ μ [] #[] := ⟨rfl, by simp [VRl]⟩

theorem VA.mono {σ' : Sg} {μ' : Mu} (hσ : Sg.le σ σ') (hμ : Mu.le μ μ') {xs : List AV} {a : Array Value} (h : VA E B0 σ μ xs a) : VA E B0 σ' μ' xs a :=
  ⟨h.1, VRl.mono hσ hμ _ _ _ h.2⟩

theorem VR_agg {xs : List AV} {v : Value} : VR E B0 σ μ (.agg xs) v ↔ ∃ a, v = .agg a ∧ VA E B0 σ μ xs a := by simp only [VR, VA]
theorem VR_tup {xs : List AV} {v : Value} : VR E B0 σ μ (.tup xs) v ↔ ∃ a, v = .tuple a ∧ VA E B0 σ μ xs a := by simp only [VR, VA]
theorem VR_undef : VR E B0 σ μ (.tup []) undef := VR_tup.2 ⟨#[], rfl, VA.nil⟩
theorem VR_bool {b : Bool} {v : Value} : VR E B0 σ μ (.bool b) v ↔ v = .bool b := by simp only [VR]
theorem VR_int {k : IntKind} {n : Int} {v : Value} : VR E B0 σ μ (.int k n) v ↔ v = .int k n := by simp only [VR]
theorem VR_str {s : ByteArray} {v : Value} : VR E B0 σ μ (.str s) v ↔ v = .string s := by simp only [VR]

/-- Only a bool stands for a bool. -/
theorem VR_to_bool {x : AV} {b : Bool} (h : VR E B0 σ μ x (.bool b)) : x = .bool b := by
  cases x <;> simp [VR] at h ⊢
  · exact h.symm

theorem scalOf_sound {v : Value} {x : AV} (h : scalOf v = some x) : VR E B0 σ μ x v := by
  unfold scalOf at h
  split at h <;> simp at h <;> subst h <;> simp [VR]

theorem scalOf_cells {v : Value} {x : AV} (h : scalOf v = some x) : x.cells = [x] ∧ x.oneCell = true ∧ v.cells = #[v] ∧ v.oneCell' = true := by
  unfold scalOf at h
  split at h <;> simp at h <;> subst h <;> simp [AV.cells, AV.oneCell, Value.cells, Value.oneCell']

theorem bind_some {α β : Type} {x : Option α} {f : α → Option β} {b : β} (h : x.bind f = some b) : ∃ a, x = some a ∧ f a = some b := by
  cases x with
  | none => cases h
  | some a => exact ⟨a, rfl, h⟩

theorem scalsOf_spec : ∀ (l : List Value) (xs : List AV), scalsOf l = some xs → xs.length = l.length ∧ ∀ (i : Nat) x, xs[i]? = some x → ∃ v, l[i]? = some v ∧ scalOf v = some x
  | [], xs, h => by simp only [scalsOf, Option.some.injEq] at h; subst h; simp
  | v :: l, xs, h => by
    simp only [scalsOf] at h
    replace h := bind_some h; obtain ⟨y, hv, h⟩ := h
    replace h := bind_some h; obtain ⟨ys, hr, h⟩ := h
    simp only [Option.some.injEq] at h
    subst h
    obtain ⟨h1, h2⟩ := scalsOf_spec l ys hr
    refine ⟨by simp [h1], fun i x hi => ?_⟩
    cases i with
    | zero => simp at hi; subst hi; exact ⟨v, by simp, hv⟩
    | succ i => simpa using h2 i x (by simpa using hi)

theorem ofValue_sound {v : Value} {x : AV} (h : ofValue v = some x) : VR E B0 σ μ x v := by
  unfold ofValue at h
  split at h
  · rename_i cs
    replace h := bind_some h; obtain ⟨xs, hm, h⟩ := h
    simp only [Option.some.injEq] at h
    subst h
    obtain ⟨h1, h2⟩ := scalsOf_spec _ _ hm
    refine VR_agg.2 ⟨cs, rfl, VA.mk' (by simpa using h1.symm) fun i y hi => ?_⟩
    obtain ⟨u, hu, hs⟩ := h2 i y hi
    exact ⟨u, by simpa using hu, scalOf_sound hs⟩
  · rename_i vs
    split at h
    · rename_i h0
      simp only [Option.some.injEq] at h
      subst h
      have : vs = #[] := by cases vs; simp at h0; subst h0; rfl
      exact VR_tup.2 ⟨vs, rfl, by rw [this]; rfl, by simp [VRl]⟩
    · cases h
  · exact scalOf_sound h

theorem VR_single {x : AV} {v : Value} (h : VR E B0 σ μ x v) (hx : ∀ xs, x ≠ .agg xs) : v.cells = #[v] := by
  cases x with
  | agg xs => exact absurd rfl (hx xs)
  | bool b => rw [VR_bool.1 h]; rfl
  | int k n => rw [VR_int.1 h]; rfl
  | str s => rw [VR_str.1 h]; rfl
  | nilp => simp only [VR] at h; subst h; rfl
  | ptr b o => simp only [VR] at h; obtain ⟨p, _, rfl⟩ := h; rfl
  | tptr e n cs o => simp only [VR] at h; obtain ⟨blk, off, e', c, _, _, _, rfl⟩ := h; rfl
  | glob g o => simp only [VR] at h; subst h; rfl
  | snil => simp only [VR] at h; subst h; rfl
  | slnil => simp only [VR] at h; obtain ⟨a, rfl⟩ := h; rfl
  | sl b o n c => simp only [VR] at h; obtain ⟨p, a, cap, s, _, rfl, _⟩ := h; rfl
  | tree e n cs => simp only [VR] at h; obtain ⟨a, cap, s, rfl, _⟩ := h; rfl
  | mapnil => simp only [VR] at h; subst h; rfl
  | map b => simp only [VR] at h; obtain ⟨p, _, rfl⟩ := h; rfl
  | fn f xs ys => simp only [VR] at h; obtain ⟨g, a, c, rfl, _⟩ := h; rfl
  | nilfn => simp only [VR] at h; subst h; rfl
  | tup xs => obtain ⟨a, rfl, _⟩ := VR_tup.1 h; rfl

theorem VR_oneCell {x : AV} {v : Value} (h : VR E B0 σ μ x v) (hx : x.oneCell = true) : v.oneCell' = true := by
  cases x with
  | agg xs => simp [AV.oneCell] at hx
  | tup xs => simp [AV.oneCell] at hx
  | bool b => rw [VR_bool.1 h]; rfl
  | int k n => rw [VR_int.1 h]; rfl
  | str s => rw [VR_str.1 h]; rfl
  | nilp => simp only [VR] at h; subst h; rfl
  | ptr b o => simp only [VR] at h; obtain ⟨p, _, rfl⟩ := h; rfl
  | tptr e n cs o => simp only [VR] at h; obtain ⟨blk, off, e', c, _, _, _, rfl⟩ := h; rfl
  | glob g o => simp only [VR] at h; subst h; rfl
  | snil => simp only [VR] at h; subst h; rfl
  | slnil => simp only [VR] at h; obtain ⟨a, rfl⟩ := h; rfl
  | sl b o n c => simp only [VR] at h; obtain ⟨p, a, cap, s, _, rfl, _⟩ := h; rfl
  | tree e n cs => simp only [VR] at h; obtain ⟨a, cap, s, rfl, _⟩ := h; rfl
  | mapnil => simp only [VR] at h; subst h; rfl
  | map b => simp only [VR] at h; obtain ⟨p, _, rfl⟩ := h; rfl
  | fn f xs ys => simp only [VR] at h; obtain ⟨g, a, c, rfl, _⟩ := h; rfl
  | nilfn => simp only [VR] at h; subst h; rfl

theorem AV.cells_single {x : AV} (hx : ∀ xs, x ≠ .agg xs) : x.cells = [x] := by
  cases x <;> first | rfl | exact absurd rfl (hx _)

/-- Cells of a value. -/
theorem VR_cells {x : AV} {v : Value} (h : VR E B0 σ μ x v) : VA E B0 σ μ x.cells v.cells := by
  by_cases hx : ∃ xs, x = .agg xs
  · obtain ⟨xs, rfl⟩ := hx
    obtain ⟨a, rfl, ha⟩ := VR_agg.1 h
    exact ha
  · have hx' : ∀ xs, x ≠ .agg xs := fun xs e => hx ⟨xs, e⟩
    rw [AV.cells_single hx', VR_single h hx']
    refine VA.mk' rfl fun i y hi => ?_
    cases i with
    | zero => simp at hi; subst hi; exact ⟨v, by simp, h⟩
    | succ i => simp at hi

/-! ## Lists of cells -/

theorem slice?_spec {cs ds : List AV} {o n : Nat} (h : slice? cs o n = some ds) : ds.length = n ∧ o + n ≤ cs.length ∧ ∀ i, i < n → ds[i]? = cs[o + i]? := by
  unfold slice? at h
  split at h
  · rename_i hle
    simp only [Nat.ble_eq] at hle
    simp only [Option.some.injEq] at h
    subst h
    refine ⟨by simp; omega, hle, fun i hi => ?_⟩
    rw [List.getElem?_take_of_lt hi, List.getElem?_drop]
  · cases h

theorem slice?_get {cs ds : List AV} {o n i : Nat} {x : AV} (h : slice? cs o n = some ds) (hi : ds[i]? = some x) : cs[o + i]? = some x := by
  obtain ⟨h1, _, h3⟩ := slice?_spec h
  have : i < n := by rw [← h1]; exact (List.getElem?_eq_some_iff.1 hi).1
  rw [← h3 i this]; exact hi

theorem VRl_slice {cs ds : List AV} {f : Nat → Option Value} {p o n : Nat} (h : VRl E B0 σ μ cs f p) (hs : slice? cs o n = some ds) : VRl E B0 σ μ ds f (p + o) :=
  VRl_iff.2 fun i x hi => by
    have := VRl_iff.1 h (o + i) x (slice?_get hs hi)
    rwa [← Nat.add_assoc] at this

theorem setMany_length : ∀ (vs cs : List AV) (o : Nat), (setMany cs o vs).length = cs.length
  | [], _, _ => rfl
  | v :: vs, cs, o => by rw [setMany, setMany_length vs]; simp

theorem setMany_get : ∀ (vs cs : List AV) (o k : Nat), o + vs.length ≤ cs.length → (setMany cs o vs)[k]? = if o ≤ k ∧ k < o + vs.length then vs[k - o]? else cs[k]?
  | [], cs, o, k, _ => by
    have : ¬ (o ≤ k ∧ k < o + ([] : List AV).length) := by simp only [List.length_nil]; omega
    rw [if_neg this]; rfl
  | v :: vs, cs, o, k, h => by
    simp only [List.length_cons] at h
    rw [setMany, setMany_get vs (cs.set o v) (o + 1) k (by simp; omega)]
    by_cases hk : k = o
    · subst hk
      have h1 : ¬ (k + 1 ≤ k ∧ k < k + 1 + vs.length) := by omega
      have h2 : k ≤ k ∧ k < k + (v :: vs).length := by simp
      rw [if_neg h1, if_pos h2, List.getElem?_set_self (by omega)]
      simp
    · by_cases h1 : o + 1 ≤ k ∧ k < o + 1 + vs.length
      · have h2 : o ≤ k ∧ k < o + (v :: vs).length := by simp; omega
        rw [if_pos h1, if_pos h2, show k - o = (k - (o + 1)) + 1 by omega]
        simp
      · have h2 : ¬ (o ≤ k ∧ k < o + (v :: vs).length) := by simp; omega
        rw [if_neg h1, if_neg h2, List.getElem?_set_ne (Ne.symm hk)]

def setL (c : Array Value) (o : Nat) : List Value → Array Value
  | [] => c
  | v :: vs => setL (c.setIfInBounds o v) (o + 1) vs

theorem setL_size : ∀ (vs : List Value) (c : Array Value) (o : Nat), (setL c o vs).size = c.size
  | [], _, _ => rfl
  | v :: vs, c, o => by rw [setL, setL_size vs]; simp

theorem setL_get : ∀ (vs : List Value) (c : Array Value) (o k : Nat), o + vs.length ≤ c.size → (setL c o vs)[k]? = if o ≤ k ∧ k < o + vs.length then vs[k - o]? else c[k]?
  | [], c, o, k, _ => by
    have : ¬ (o ≤ k ∧ k < o + ([] : List Value).length) := by simp only [List.length_nil]; omega
    rw [if_neg this]; rfl
  | v :: vs, c, o, k, h => by
    simp only [List.length_cons] at h
    rw [setL, setL_get vs (c.setIfInBounds o v) (o + 1) k (by simp; omega)]
    by_cases hk : k = o
    · subst hk
      have h1 : ¬ (k + 1 ≤ k ∧ k < k + 1 + vs.length) := by omega
      have h2 : k ≤ k ∧ k < k + (v :: vs).length := by simp
      rw [if_neg h1, if_pos h2, Array.getElem?_setIfInBounds_self_of_lt (by omega)]
      simp
    · by_cases h1 : o + 1 ≤ k ∧ k < o + 1 + vs.length
      · have h2 : o ≤ k ∧ k < o + (v :: vs).length := by simp; omega
        rw [if_pos h1, if_pos h2, show k - o = (k - (o + 1)) + 1 by omega]
        simp
      · have h2 : ¬ (o ≤ k ∧ k < o + (v :: vs).length) := by simp; omega
        rw [if_neg h1, if_neg h2, Array.getElem?_setIfInBounds_ne (Ne.symm hk)]

/-- Writing the same cells on both sides. -/
theorem VRl_setMany {cs vs : List AV} {c : Array Value} {us : List Value} {o : Nat} (h : VRl E B0 σ μ cs (fun j => c[j]?) 0) (hc : cs.length ≤ c.size)
    (hl : us.length = vs.length) (hu : ∀ (i : Nat) x, vs[i]? = some x → ∃ v, us[i]? = some v ∧ VR E B0 σ μ x v) (ho : o + vs.length ≤ cs.length) :
    VRl E B0 σ μ (setMany cs o vs) (fun j => (setL c o us)[j]?) 0 :=
  VRl_iff.2 fun i x hi => by
    rw [setMany_get vs cs o i ho] at hi
    simp only [Nat.zero_add]
    rw [setL_get us c o i (by omega), hl]
    split at hi
    · rename_i hk
      rw [if_pos hk]
      exact hu _ _ hi
    · rename_i hk
      rw [if_neg hk]
      simpa using VRl_iff.1 h i x hi

/-! ## The tables -/

theorem run_underlying {t : TypeId} {d : TypeDesc} {w : World} (h : P.underlying t = some d) : (underlying t).run P w = .ok d w := by simp [underlying, h]
theorem run_typeInfo {t : TypeId} {i : TypeInfo} {w : World} (h : P.info? t = some i) : (typeInfo t).run P w = .ok i w := by simp [typeInfo, h]
theorem run_sizeOf {t : TypeId} {i : TypeInfo} {w : World} (h : P.info? t = some i) : (sizeOf t).run P w = .ok i.size w := by simp [sizeOf, run_typeInfo h]
theorem run_zeroValue {t : TypeId} {i : TypeInfo} {z : Value} {w : World} (h : P.info? t = some i) (hz : i.zero = some z) : (zeroValue t).run P w = .ok z w := by
  simp [zeroValue, run_typeInfo h, hz]
theorem run_isAgg {t : TypeId} {d : TypeDesc} {w : World} (h : P.underlying t = some d) : (isAgg t).run P w = .ok (isAggD d) w := by
  cases d <;> simp [isAgg, run_underlying h, isAggD]

/-! ## Reading -/

theorem add_none (blk o n : Nat) : (⟨blk, o, none⟩ : Addr).add n = ⟨blk, o + n, none⟩ := by
  unfold Addr.add
  split
  · rename_i h; simp [h]
  · rfl

theorem cell_of {w : World} {blk o : Nat} {c : Array Value} {e : TypeId} {fr : Nat × Nat} (h : w.heap[blk]? = some (.cells c e fr)) : w.cell? ⟨blk, o, none⟩ = c[o]? := by
  simp [World.cell?, h]

/-- What 'rd' reads lies in a row of cells. -/
theorem rd_sound {h : List AO} {w : World} {p : AV} {v : Value} {n : Nat} {cs : List AV} (H : WR E B0 σ μ h w) (hp : VR E B0 σ μ p v) (hr : rd E h p n = some cs) :
    ∃ blk off c e fr, v = .pointer (some ⟨blk, off, none⟩) ∧ w.heap[blk]? = some (.cells c e fr) ∧ cs.length = n ∧ VRl E B0 σ μ cs (fun j => c[j]?) off := by
  unfold rd at hr
  split at hr
  · rename_i b o
    split at hr
    · rename_i e cs0 ex se ho
      simp only [VR] at hp
      obtain ⟨p, hp1, rfl⟩ := hp
      obtain ⟨q, c, fr, h1, h2, h3, h4, h5, h6, _⟩ := H.objs _ _ ho
      rw [hp1] at h1
      cases h1
      have := VRl_slice h6 hr
      rw [Nat.zero_add] at this
      exact ⟨_, _, c, e, fr, rfl, h3, (slice?_spec hr).1, this⟩
    · cases hr
  · rename_i e k cs0 o
    simp only [VR] at hp
    obtain ⟨blk, off, e', c, h1, _, h3, rfl⟩ := hp
    obtain ⟨fr, hf⟩ := H.stable _ _ _ h1
    exact ⟨_, _, c, e', fr, rfl, hf, (slice?_spec hr).1, VRl_slice (VRl.mono (Sg.le_refl _) (NoMu.le _) _ _ _ h3) hr⟩
  · rename_i g o
    replace hr := bind_some hr; obtain ⟨cs0, hg, hr⟩ := hr
    simp only [VR] at hp
    subst hp
    obtain ⟨e, c, h1, h2⟩ := H.glob _ _ hg
    obtain ⟨fr, hf⟩ := H.stable _ _ _ h1
    have := VRl_slice (VRl.mono (Sg.le_refl _) (NoMu.le μ) _ _ _ h2) hr
    rw [Nat.zero_add] at this
    exact ⟨_, _, c, e, fr, rfl, hf, (slice?_spec hr).1, this⟩
  · cases hr

/-- The values behind a list of cells. -/
theorem VRl_values : ∀ {cs : List AV} {f : Nat → Option Value} {p : Nat}, VRl E B0 σ μ cs f p →
    ∃ vs : List Value, vs.length = cs.length ∧ (∀ (j : Nat) u, vs[j]? = some u → f (p + j) = some u) ∧ ∀ (i : Nat) x, cs[i]? = some x → ∃ v, vs[i]? = some v ∧ VR E B0 σ μ x v
  | [], _, _, _ => ⟨[], rfl, by simp, by simp⟩
  | x :: cs, f, p, h => by
    simp only [VRl] at h
    obtain ⟨⟨v, h1, h2⟩, h3⟩ := h
    obtain ⟨vs, g1, g2, g3⟩ := VRl_values h3
    refine ⟨v :: vs, by simp [g1], fun j u hj => ?_, fun i y hi => ?_⟩
    · cases j with
      | zero => simp at hj; subst hj; simpa using h1
      | succ j =>
        have := g2 j u (by simpa using hj)
        rwa [show p + 1 + j = p + (j + 1) by omega] at this
    · cases i with
      | zero => simp at hi; subst hi; exact ⟨v, by simp, h2⟩
      | succ i => simpa using g3 i y (by simpa using hi)

theorem run_loadT (OK : EnvOk E P) {h : List AO} {w : World} {t : TypeId} {p x : AV} {v : Value} (H : WR E B0 σ μ h w) (hp : VR E B0 σ μ p v) (hl : loadT E h t p = some x) :
    ∃ y, (Instr.loadAt t v).run P w = .ok y w ∧ VR E B0 σ μ x y ∧ ∃ a, v = .pointer (some a) ∧ (loadVar t a).run P w = .ok y w := by
  simp only [loadT] at hl
  replace hl := bind_some hl; obtain ⟨i, hi, hl⟩ := hl
  obtain ⟨info, g1, g2, g3, g4, g5⟩ := OK.ti t i hi
  split at hl
  · rename_i hagg
    replace hl := bind_some hl; obtain ⟨cs, hr, hl⟩ := hl
    simp only [Option.some.injEq] at hl
    subst hl
    obtain ⟨blk, off, c, e, fr, rfl, hb, hn, hv⟩ := rd_sound H hp hr
    obtain ⟨vs, k1, k2, k3⟩ := VRl_values hv
    have hld : (loadCells ⟨blk, off, none⟩ vs.length).run P w = .ok vs.toArray w :=
      run_loadCells_list _ _ _ fun j u hj => by rw [add_none, cell_of hb]; exact k2 j u hj
    have hlv : (loadVar t ⟨blk, off, none⟩).run P w = .ok (.agg vs.toArray) w := by
      simp [loadVar, run_isAgg g2, hagg, run_sizeOf g1, g3, ← hn, ← k1, hld]
    refine ⟨.agg vs.toArray, by simp [Instr.loadAt, Instr.sureAddr, hlv], VR_agg.2 ⟨_, rfl, VA.mk' (by simpa using k1) fun i y hi => ?_⟩, _, rfl, hlv⟩
    obtain ⟨u, hu, hvu⟩ := k3 i y hi
    exact ⟨u, by simpa using hu, hvu⟩
  · rename_i hagg
    replace hl := bind_some hl; obtain ⟨cs, hr, hl⟩ := hl
    obtain ⟨blk, off, c, e, fr, rfl, hb, hn, hv⟩ := rd_sound H hp hr
    have h0 : cs[0]? = some x := by rw [← hl]; cases cs <;> simp
    obtain ⟨u, hu, hvu⟩ := VRl_iff.1 hv 0 x h0
    simp only [Nat.add_zero] at hu
    have hlv : (loadVar t ⟨blk, off, none⟩).run P w = .ok u w := by
      simp [loadVar, run_isAgg g2, hagg, cell_of hb, hu]
    exact ⟨u, by simp [Instr.loadAt, Instr.sureAddr, hlv], hvu, _, rfl, hlv⟩

/-! ## Writing -/

theorem heap_setCell_self {w : World} {blk o : Nat} {c : Array Value} {e : TypeId} {fr : Nat × Nat} (v : Value) (h : w.heap[blk]? = some (.cells c e fr)) :
    (w.setCell ⟨blk, o, none⟩ v).heap[blk]? = some (.cells (c.setIfInBounds o v) e fr) := by
  simp [World.setCell, Array.getElem?_modify, h]

theorem run_storeCells : ∀ (vs : List Value) (w : World) (c : Array Value) (blk off i : Nat) (e : TypeId), w.heap[blk]? = some (.cells c e (0, 0)) → off + i + vs.length ≤ c.size →
    (∀ v ∈ vs, v.oneCell' = true) → ∃ w', (storeCells ⟨blk, off, none⟩ vs i).run P w = .ok () w' ∧ w'.heap[blk]? = some (.cells (setL c (off + i) vs) e (0, 0)) ∧
      (∀ b, b ≠ blk → w'.heap[b]? = w.heap[b]?) ∧ w'.heap.size = w.heap.size ∧ w'.os = w.os ∧ w'.tape = w.tape ∧ w'.output = w.output
  | [], w, c, blk, off, i, e, hb, _, _ => ⟨w, by simp [storeCells], by simpa [setL] using hb, fun _ _ => rfl, rfl, rfl, rfl, rfl⟩
  | v :: vs, w, c, blk, off, i, e, hb, hl, h1 => by
    simp only [List.length_cons] at hl
    have hcell : w.cell? ⟨blk, off + i, none⟩ = some (c[off + i]'(by omega)) := by
      rw [cell_of hb, Array.getElem?_eq_getElem (by omega)]
    have hfr : w.frozen? ⟨blk, off + i, none⟩ = false := by simp [World.frozen?, hb]
    have hst : (store ((⟨blk, off, none⟩ : Addr).add i) v).run P w = .ok () (w.setCell ⟨blk, off + i, none⟩ v) := by
      rw [add_none, run_store P w _ v _ (h1 v (by simp))]
      simp [hcell, hfr]
    obtain ⟨w', g1, g2, g3, g4, g5, g6, g7⟩ := run_storeCells vs (w.setCell ⟨blk, off + i, none⟩ v) (c.setIfInBounds (off + i) v) blk off (i + 1) e (heap_setCell_self v hb)
      (by simp; omega) (fun u hu => h1 u (by simp [hu]))
    refine ⟨w', by simp [storeCells, hst, g1], by rw [g2]; rfl, fun b hbn => ?_, by rw [g4]; simp [World.setCell], by rw [g5]; rfl, by rw [g6]; rfl, by rw [g7]; rfl⟩
    rw [g3 b hbn]
    simp [World.setCell, Array.getElem?_modify, Ne.symm hbn]

/-- 'wr' and 'storeCells'. -/
theorem run_wr {h h' : List AO} {w : World} {p : AV} {v : Value} {vs : List AV} {us : List Value} (H : WR E B0 σ μ h w) (hp : VR E B0 σ μ p v) (hw : wr h p vs = some h')
    (hl : us.length = vs.length) (hu : ∀ (i : Nat) x, vs[i]? = some x → ∃ u, us[i]? = some u ∧ VR E B0 σ μ x u) :
    ∃ a w', v = .pointer (some a) ∧ (storeCells a us).run P w = .ok () w' ∧ WR E B0 σ μ h' w' ∧ Ev h σ μ w h' σ μ w' := by
  unfold wr at hw
  split at hw
  · rename_i b o
    split at hw
    · rename_i e cs ex ho
      split at hw
      · rename_i hc
        simp only [Bool.and_eq_true, Nat.ble_eq] at hc
        obtain ⟨hlen, hone⟩ := hc
        simp only [Option.some.injEq] at hw
        subst hw
        simp only [VR] at hp
        obtain ⟨p, hp1, rfl⟩ := hp
        obtain ⟨q, c, fr, k1, k2, k3, k4, k5, k6, k7, k8, k9⟩ := H.objs _ _ ho
        rw [hp1] at k1
        cases k1
        rcases k9 with ⟨hx, _⟩ | ⟨_, k9, rfl⟩
        · cases hx
        have hones : ∀ u ∈ us, u.oneCell' = true := by
          intro u hm
          obtain ⟨i, hi⟩ := List.mem_iff_getElem?.1 hm
          have hi' : i < vs.length := by rw [← hl]; exact (List.getElem?_eq_some_iff.1 hi).1
          obtain ⟨u', hu', hr⟩ := hu i vs[i] (List.getElem?_eq_getElem hi')
          rw [hi] at hu'
          cases hu'
          exact VR_oneCell hr (List.all_eq_true.1 hone _ (List.getElem_mem hi'))
        obtain ⟨w', g1, g2, g3, g4, g5, g6, g7⟩ := run_storeCells (P := P) us w c p.blk o 0 e k3 (by omega) hones
        refine ⟨_, w', rfl, g1, H.set ho rfl hp1 k9 g3 g4 ⟨p, _, (0, 0), hp1, k2, g2, by rw [setL_size]; exact k4, by rw [setMany_length, setL_size]; exact k5, ?_, ?_, k8, .inr ⟨rfl, k9, rfl⟩⟩,
          Ev.set ho rfl hp1 g3 g4 g5 g6 g7⟩
        · exact VRl_setMany k6 k5 hl hu hlen
        · intro hex
          rw [setMany_length, setL_size]; exact k7 hex
      · cases hw
    · cases hw
  · cases hw

theorem run_storeT (OK : EnvOk E P) {h h' : List AO} {w : World} {t : TypeId} {p x : AV} {v y : Value} (H : WR E B0 σ μ h w) (hp : VR E B0 σ μ p v) (hx : VR E B0 σ μ x y)
    (hs : storeT E h t p x = some h') : ∃ w', (Instr.storeAt t v y).run P w = .ok () w' ∧ WR E B0 σ μ h' w' ∧ Ev h σ μ w h' σ μ w' := by
  simp only [storeT] at hs
  replace hs := bind_some hs; obtain ⟨i, hi, hs⟩ := hs
  obtain ⟨info, g1, g2, g3, g4, g5⟩ := OK.ti t i hi
  split at hs
  · rename_i hlen
    rw [Nat.beq_eq] at hlen
    obtain ⟨hc1, hc2⟩ := VR_cells hx
    obtain ⟨a, w', rfl, k1, k2, k3⟩ := run_wr (P := P) (us := y.cells.toList) H hp hs (by simpa using hc1) (fun j z hj => by
      obtain ⟨u, hu, hv⟩ := VRl_iff.1 hc2 j z hj
      exact ⟨u, by simpa using hu, hv⟩)
    refine ⟨w', ?_, k2, k3⟩
    have hsz : y.cells.size = info.size := by rw [hc1, hlen, g3]
    simp [Instr.storeAt, Instr.sureAddr, storeVar, run_sizeOf g1, hsz, k1]
  · cases hs

/-! ## New rows -/

theorem run_newRow {w : World} (e : TypeId) (c : Array Value) : (newRow e c).run P w = .ok ⟨w.heap.size, 0, none⟩ (w.alloc (.cells c e (0, 0))) := by
  simp [Go.newRow]

/-- A new own row, on both sides: in a place that was kept for it. -/
theorem row_new {h : List AO} {w : World} {e : TypeId} {cs : List AV} {c : Array Value} {ex : Bool} {id : Nat} (H : WR E B0 σ μ h w) (hμ : μ id = none) (hl : cs.length ≤ c.size)
    (hv : VRl E B0 σ μ cs (fun j => c[j]?) 0) (hex : ex = true → cs.length = c.size) :
    ObjR E B0 σ (Mu.put μ id ⟨w.heap.size, c.size, e⟩) (w.alloc (.cells c e (0, 0))) id (.row e cs ex false) :=
  ⟨⟨w.heap.size, c.size, e⟩, c, (0, 0), Mu.put_self _ _ _, rfl, heap_alloc_new w _, rfl, hl, VRl.mono (Sg.le_refl _) (Mu.le_put hμ) _ _ _ hv, hex, H.base, .inr ⟨rfl, H.noSg (Nat.le_refl _), rfl⟩⟩

theorem WR.newRow {h : List AO} {w : World} {e : TypeId} {cs : List AV} {c : Array Value} {ex : Bool} (H : WR E B0 σ μ h w) (hl : cs.length ≤ c.size)
    (hv : VRl E B0 σ μ cs (fun j => c[j]?) 0) (hex : ex = true → cs.length = c.size) :
    WR E B0 σ (Mu.put μ h.length ⟨w.heap.size, c.size, e⟩) (h ++ [.row e cs ex false]) (w.alloc (.cells c e (0, 0))) ∧
    Ev h σ μ w (h ++ [.row e cs ex false]) σ (Mu.put μ h.length ⟨w.heap.size, c.size, e⟩) (w.alloc (.cells c e (0, 0))) :=
  ⟨H.push (p := ⟨w.heap.size, c.size, e⟩) rfl (row_new H (H.fresh _ (Nat.le_refl _)) hl hv hex), Ev.push _ _ H rfl⟩

/-! ## Filling -/

theorem zipIdx_put : ∀ (vs : List Value) (c : Array Value) (off k : Nat), (vs.zipIdx k).foldl (fun cs (x : Value × Nat) => cs.setIfInBounds (off + x.2) x.1) c = setL c (off + k) vs
  | [], _, _, _ => rfl
  | v :: vs, c, off, k => by
    simp only [List.zipIdx_cons, List.foldl_cons, setL]
    exact zipIdx_put vs _ off (k + 1)

theorem fill_step (place : Nat → Option (Nat × Nat)) (c : Array Value) (i : Nat) (v : Value) (rest : List (Nat × Value)) (off size : Nat) (hp : place i = some (off, size))
    (h1 : v.cells.size = size) (h2 : off + v.cells.size ≤ c.size) : Instr.fill place c ((i, v) :: rest) = Instr.fill place (setL c off v.cells.toList) rest := by
  have h3 : ¬ (off + v.cells.size > c.size) := by omega
  simp only [Instr.fill, hp]
  rw [← Array.foldl_toList, Array.toList_zipIdx]
  have := zipIdx_put v.cells.toList c off 0
  simp only [Nat.add_zero] at this
  simp [h1] at h2 ⊢
  rw [← this]
  split
  · omega
  · rfl

theorem fill_sound : ∀ (parts : List (Nat × AV)) (parts' : List (Nat × Value)) (place place' : Nat → Option (Nat × Nat)) (cs cs' : List AV) (c : Array Value),
    (∀ i, place i = place' i) → parts'.length = parts.length → (∀ (j : Nat) (i : Nat) (x : AV), parts[j]? = some (i, x) → ∃ v, parts'[j]? = some (i, v) ∧ VR E B0 σ μ x v) →
    VA E B0 σ μ cs c → fillA place cs parts = some cs' → ∃ c', Instr.fill place' c parts' = some c' ∧ VA E B0 σ μ cs' c'
  | [], parts', place, place', cs, cs', c, _, hl, _, hc, h => by
    simp only [fillA, Option.some.injEq] at h
    subst h
    cases parts' with
    | nil => exact ⟨c, rfl, hc⟩
    | cons _ _ => simp at hl
  | (i, x) :: parts, parts', place, place', cs, cs', c, hpl, hl, hp, hc, h => by
    cases parts' with
    | nil => simp at hl
    | cons q parts' =>
      obtain ⟨v, hq, hv⟩ := hp 0 i x (by simp)
      simp at hq
      subst hq
      simp only [fillA] at h
      cases hpi : place i with
      | none => simp [hpi] at h
      | some os =>
        obtain ⟨off, size⟩ := os
        simp only [hpi] at h
        split at h
        · rename_i hcond
          simp only [Bool.and_eq_true, Nat.beq_eq, Nat.ble_eq] at hcond
          have hcond' : x.cells.length = size ∧ off + x.cells.length ≤ cs.length := hcond
          obtain ⟨k1, k2⟩ := VR_cells hv
          have hset : VA E B0 σ μ (setMany cs off x.cells) (setL c off v.cells.toList) := by
            refine ⟨by rw [setL_size, setMany_length]; exact hc.1, VRl_setMany hc.2 (by rw [hc.1]; exact Nat.le_refl _) (by simpa using k1) (fun j z hj => ?_) hcond'.2⟩
            obtain ⟨u, hu, hr⟩ := VRl_iff.1 k2 j z hj
            exact ⟨u, by simpa using hu, hr⟩
          obtain ⟨c', f1, f2⟩ := fill_sound parts parts' place place' _ cs' _ hpl (by simpa using hl) (fun j i' y hj => by simpa using hp (j + 1) i' y (by simpa using hj)) hset h
          refine ⟨c', ?_, f2⟩
          rw [fill_step place' c i v parts' off size (by rw [← hpl]; exact hpi) (by rw [k1]; exact hcond'.1) (by rw [k1, hc.1]; exact hcond'.2)]
          exact f1
        · cases h

end
end Go.Te
