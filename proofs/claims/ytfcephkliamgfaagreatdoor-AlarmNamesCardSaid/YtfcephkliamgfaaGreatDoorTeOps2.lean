/- TE: structs, arrays, slices: what the evaluator's operations say of the model's own. -/
import Derived.Test.YtfcephkliamgfaaGreatDoorTeOps
import Derived.Laws.MakeOwn
import Derived.Laws.Tables
import Derived.Lib.MinMax
namespace Go.Te
open Go

section
variable {E : Env} {P : Program} {B0 : Nat} {σ : Sg} {μ : Mu}

theorem natOf_sound {x : AV} {n : Nat} {v : Value} (h : natOf? x = some n) (hx : VR E B0 σ μ x v) : ∃ k i, v = .int k i ∧ 0 ≤ i ∧ i.toNat = n := by
  unfold natOf? at h
  split at h
  · rename_i k i
    simp only [Option.some.injEq] at h
    subst h
    exact ⟨k, .ofNat i, VR_int.1 hx, Int.natCast_nonneg i, rfl⟩
  · cases h

theorem addP_sound {p q : AV} {n : Nat} {v : Value} (h : addP p n = some q) (hp : VR E B0 σ μ p v) :
    ∃ blk o, v = .pointer (some ⟨blk, o, none⟩) ∧ VR E B0 σ μ q (.pointer (some ⟨blk, o + n, none⟩)) := by
  unfold addP at h
  split at h
  · simp only [VR] at hp
    obtain ⟨p, h1, rfl⟩ := hp
    simp at h; subst h
    refine ⟨_, _, rfl, ?_⟩
    simp only [VR]
    exact ⟨p, h1, rfl⟩
  · simp only [VR] at hp
    obtain ⟨blk, off, e', c, h1, h2, h3, rfl⟩ := hp
    simp at h; subst h
    refine ⟨_, _, rfl, ?_⟩
    simp only [VR]
    exact ⟨blk, off, e', c, h1, h2, h3, by rw [Nat.add_assoc]⟩
  · simp only [VR] at hp
    subst hp
    simp at h; subst h
    refine ⟨_, _, rfl, ?_⟩
    simp only [VR]
  · cases h

theorem fieldOf_sound (OK : EnvOk E P) {t : TypeId} {f : Nat} {fd : Field} (h : fieldOf E t f = some fd) : ∃ fs, P.underlying t = some (.struct fs) ∧ fs[f]? = some fd := by
  simp only [fieldOf, Option.bind_eq_bind] at h
  replace h := bind_some h; obtain ⟨i, hi, h⟩ := h
  obtain ⟨_, _, g2, _⟩ := OK.ti t i hi
  split at h
  · rename_i fs hd
    rw [hd] at g2
    exact ⟨fs, g2, h⟩
  · cases h

theorem fieldAddr_sound (OK : EnvOk E P) {s : TypeId} {x v : AV} {f : Nat} {u : Value} {w : World} (h : fieldAddrA E s x f = some v) (hx : VR E B0 σ μ x u) :
    ∃ z, (Instr.fieldAt s u f).run P w = .ok z w ∧ VR E B0 σ μ v z := by
  simp only [fieldAddrA, Option.bind_eq_bind] at h
  replace h := bind_some h; obtain ⟨fd, hf, h⟩ := h
  replace h := bind_some h; obtain ⟨i, hi, h⟩ := h
  obtain ⟨fs, g1, g2⟩ := fieldOf_sound OK hf
  obtain ⟨info, k1, _, k3, _⟩ := OK.ti _ i hi
  split at h
  · rename_i h0
    rw [Nat.ble_eq] at h0
    obtain ⟨blk, o, rfl, hv⟩ := addP_sound h hx
    refine ⟨_, ?_, hv⟩
    have hsz : info.size ≠ 0 := by omega
    simp [Instr.fieldAt, run_underlying g1, g2, Instr.sureAddr, fieldPlace, run_sizeOf k1, hsz, add_none]
  · cases h

theorem part_sound (OK : EnvOk E P) {t : TypeId} {cs : List AV} {a : Array Value} {off : Nat} {x : AV} {w : World} (h : partA E t cs off = some x) (hc : VA E B0 σ μ cs a) :
    ∃ z, (part t a off).run P w = .ok z w ∧ VR E B0 σ μ x z := by
  simp only [partA, Option.bind_eq_bind] at h
  replace h := bind_some h; obtain ⟨i, hi, h⟩ := h
  obtain ⟨info, k1, k2, k3, _⟩ := OK.ti _ i hi
  split at h
  · rename_i hagg
    replace h := bind_some h; obtain ⟨ds, hs, h⟩ := h
    simp only [Option.some.injEq] at h
    subst h
    obtain ⟨l1, l2, l3⟩ := slice?_spec hs
    refine ⟨_, by simp [part, run_isAgg k2, hagg, run_sizeOf k1, k3]; rfl, VR_agg.2 ⟨_, rfl, VA.mk' ?_ fun j y hj => ?_⟩⟩
    · have := hc.1
      simp [l1]; omega
    · have hjl : j < i.size := by rw [← l1]; exact (List.getElem?_eq_some_iff.1 hj).1
      obtain ⟨u, hu, hr⟩ := hc.get (slice?_get hs hj)
      refine ⟨u, ?_, hr⟩
      rw [Array.getElem?_extract]
      have := hc.1
      rw [if_pos (by omega)]
      exact hu
  · rename_i hagg
    obtain ⟨u, hu, hr⟩ := hc.get h
    exact ⟨u, by simp [part, run_isAgg k2, hagg, hu], hr⟩

theorem field_sound (OK : EnvOk E P) {t : TypeId} {x v : AV} {f : Nat} {u : Value} {w : World} (h : fieldA E t x f = some v) (hx : VR E B0 σ μ x u) :
    ∃ z, (Instr.field t u f).run P w = .ok z w ∧ VR E B0 σ μ v z := by
  simp only [fieldA, Option.bind_eq_bind] at h
  replace h := bind_some h; obtain ⟨fd, hf, h⟩ := h
  obtain ⟨fs, g1, g2⟩ := fieldOf_sound OK hf
  split at h
  · rename_i cs
    obtain ⟨a, rfl, ha⟩ := VR_agg.1 hx
    obtain ⟨z, hz, hv⟩ := part_sound (w := w) OK h ha
    exact ⟨z, by simp [Instr.field, run_underlying g1, g2, asAgg, hz], hv⟩
  · cases h

theorem indexAddr_sound (OK : EnvOk E P) {t : TypeId} {x ix v : AV} {u n : Value} {w : World} (h : indexAddrA E t x ix = some v) (hx : VR E B0 σ μ x u) (hn : VR E B0 σ μ ix n) :
    ∃ z, (Instr.indexAt t u n).run P w = .ok z w ∧ VR E B0 σ μ v z := by
  simp only [indexAddrA, Option.bind_eq_bind] at h
  replace h := bind_some h; obtain ⟨i, hi, h⟩ := h
  replace h := bind_some h; obtain ⟨ty, ht, h⟩ := h
  obtain ⟨k, j, rfl, hj0, hj⟩ := natOf_sound hi hn
  obtain ⟨_, _, g2, _⟩ := OK.ti t ty ht
  split at h
  · rename_i len elem hd
    rw [hd] at g2
    replace h := bind_some h; obtain ⟨es, hes, h⟩ := h
    obtain ⟨info, k1, _, k3, _⟩ := OK.ti _ es hes
    split at h
    · rename_i hlt
      rw [Nat.ble_eq] at hlt
      obtain ⟨blk, o, rfl, hv⟩ := addP_sound h hx
      refine ⟨_, ?_, hv⟩
      have hcond : 0 ≤ j ∧ j < (len : Int) := ⟨hj0, by omega⟩
      simp [Instr.indexAt, asIntOf, run_underlying g2, Instr.sureAddr, hcond, run_sizeOf k1, k3, add_none, hj]
    · cases h
  · rename_i elem hd
    rw [hd] at g2
    replace h := bind_some h; obtain ⟨es, hes, h⟩ := h
    obtain ⟨info, k1, _, k3, _⟩ := OK.ti _ es hes
    split at h
    · rename_i b o nn c
      split at h
      · rename_i hc
        simp only [Bool.and_eq_true, Nat.ble_eq] at hc
        obtain ⟨hlt, hs⟩ := hc
        simp only [Option.some.injEq] at h
        subst h
        simp only [VR] at hx
        obtain ⟨p, a, cap, s, h1, rfl, h3, h4, _⟩ := hx
        have ha := h4 (by omega)
        subst ha
        refine ⟨.pointer (some ⟨p.blk, o + i * es.size, none⟩), ?_, by simp only [VR]; exact ⟨p, h1, rfl⟩⟩
        have hcond : 0 ≤ j ∧ j < (nn : Int) := ⟨hj0, by omega⟩
        simp [Instr.indexAt, asIntOf, run_underlying g2, hcond, run_sizeOf k1, k3, add_none, hj]
      · cases h
    · rename_i e nn cs
      split at h
      · rename_i hc
        simp only [Bool.and_eq_true, Nat.ble_eq, Nat.beq_eq] at hc
        obtain ⟨⟨hlt, he⟩, hs⟩ := hc
        simp only [Option.some.injEq] at h
        subst h
        subst he
        simp only [VR] at hx
        obtain ⟨a, cap, s, rfl, h2, h3, h4, h5, h6⟩ := hx
        rcases h6 with h6 | ⟨blk, off, e', c, rfl, f2, f3, f4⟩
        · omega
        refine ⟨.pointer (some ⟨blk, off + i * es.size, none⟩), ?_, by simp only [VR]; exact ⟨blk, off, e', c, f2, f3, f4, rfl⟩⟩
        have hcond : 0 ≤ j ∧ j < (nn : Int) := ⟨hj0, by omega⟩
        simp [Instr.indexAt, asIntOf, run_underlying g2, hcond, run_sizeOf k1, k3, add_none, hj]
      · cases h
    · cases h
  · cases h

theorem index_sound (OK : EnvOk E P) {t : TypeId} {x ix v : AV} {u n : Value} {w : World} (h : indexA E t x ix = some v) (hx : VR E B0 σ μ x u) (hn : VR E B0 σ μ ix n) :
    ∃ z, (Instr.index t u n).run P w = .ok z w ∧ VR E B0 σ μ v z := by
  simp only [indexA, Option.bind_eq_bind] at h
  replace h := bind_some h; obtain ⟨i, hi, h⟩ := h
  replace h := bind_some h; obtain ⟨ty, ht, h⟩ := h
  obtain ⟨k, j, rfl, hj0, hj⟩ := natOf_sound hi hn
  obtain ⟨_, _, g2, _⟩ := OK.ti t ty ht
  split at h
  · rename_i len elem cs hd
    rw [hd] at g2
    replace h := bind_some h; obtain ⟨es, hes, h⟩ := h
    obtain ⟨info, k1, _, k3, _⟩ := OK.ti _ es hes
    split at h
    · rename_i hlt
      rw [Nat.ble_eq] at hlt
      obtain ⟨a, rfl, ha⟩ := VR_agg.1 hx
      obtain ⟨z, hz, hv⟩ := part_sound (w := w) OK h ha
      have hcond : 0 ≤ j ∧ j < (len : Int) := ⟨hj0, by omega⟩
      exact ⟨z, by simp [Instr.index, asIntOf, run_underlying g2, hcond, run_sizeOf k1, k3, hj, hz], hv⟩
    · cases h
  · rename_i s hd
    rw [hd] at g2
    rw [VR_str.1 hx]
    replace h := bind_some h; obtain ⟨b, hb, h⟩ := h
    simp only [Option.some.injEq] at h
    subst h
    refine ⟨.int .u8 b.toNat, ?_, VR_int.2 rfl⟩
    simp [Instr.index, asIntOf, run_underlying g2, hj0, hj, hb]
  · cases h

/-! ## Slices -/

theorem elemOfSlice_sound (OK : EnvOk E P) {t e : TypeId} (h : elemOfSlice E t = some e) : P.underlying t = some (.slice e) := by
  simp only [elemOfSlice, Option.bind_eq_bind] at h
  replace h := bind_some h; obtain ⟨i, hi, h⟩ := h
  obtain ⟨_, _, g2, _⟩ := OK.ti t i hi
  split at h
  · rename_i e' hd
    rw [hd] at g2
    simp at h
    subst h
    exact g2
  · cases h

theorem run_sliceBound' {k : IntKind} {i : Int} {y n : Nat} {code : BoundsCode} {w : World} (h0 : 0 ≤ i) (hn : i.toNat = n) (h1 : n ≤ y) : (Instr.sliceBound (.int k i) y code).run P w = .ok n w := by
  have hc : 0 ≤ i ∧ i ≤ (y : Int) := ⟨h0, by omega⟩
  simp [Instr.sliceBound, asIntOf, hc, hn]

/-- An optional bound. -/
def BoundIs (v : Option Value) (d n : Nat) : Prop :=
  match v with
  | none => n = d
  | some v => ∃ k i, v = .int k i ∧ 0 ≤ i ∧ i.toNat = n

theorem optNat_sound {x : Option AV} {v : Option Value} {d n : Nat} (h : optNat x d = some n) (hx : ∀ a, x = some a → ∃ u, v = some u ∧ VR E B0 σ μ a u) (h0 : x = none → v = none) : BoundIs v d n := by
  cases x with
  | none => rw [h0 rfl]; simp [optNat] at h; exact h.symm
  | some a =>
    obtain ⟨u, rfl, hu⟩ := hx a rfl
    exact natOf_sound h hu

theorem run_sliceBounds {len cap l r m : Nat} {lo hi mx : Option Value} {w : World} (hm : BoundIs mx cap m) (hr : BoundIs hi len r) (hl : BoundIs lo 0 l)
    (h1 : l ≤ r) (h2 : r ≤ m) (h3 : m ≤ cap) (h4 : hi = none → mx = none) : (Instr.sliceBounds true len cap lo hi mx).run P w = .ok (l, r, m) w := by
  cases mx with
  | none =>
    simp only [BoundIs] at hm
    subst hm
    cases hi with
    | none =>
      simp only [BoundIs] at hr
      subst hr
      cases lo with
      | none => simp only [BoundIs] at hl; subst hl; simp [Instr.sliceBounds]
      | some lo => obtain ⟨k, i, rfl, a, b⟩ := hl; simp [Instr.sliceBounds, run_sliceBound' a b h1]
    | some hi =>
      obtain ⟨k, i, rfl, a, b⟩ := hr
      cases lo with
      | none => simp only [BoundIs] at hl; subst hl; simp [Instr.sliceBounds, run_sliceBound' a b h2]
      | some lo => obtain ⟨k', i', rfl, a', b'⟩ := hl; simp [Instr.sliceBounds, run_sliceBound' a b h2, run_sliceBound' a' b' h1]
  | some mx =>
    obtain ⟨k0, i0, rfl, a0, b0⟩ := hm
    cases hi with
    | none => cases h4 rfl
    | some hi =>
      obtain ⟨k, i, rfl, a, b⟩ := hr
      cases lo with
      | none => simp only [BoundIs] at hl; subst hl; simp [Instr.sliceBounds, run_sliceBound' a0 b0 h3, run_sliceBound' a b h2]
      | some lo => obtain ⟨k', i', rfl, a', b'⟩ := hl; simp [Instr.sliceBounds, run_sliceBound' a0 b0 h3, run_sliceBound' a b h2, run_sliceBound' a' b' h1]

theorem run_sliceAt {t e : TypeId} {info : TypeInfo} {a : Option Addr} {len cap l r m : Nat} {lo hi mx : Option Value} {w : World} (ht : P.underlying t = some (.slice e)) (hi' : P.info? e = some info)
    (hb : (Instr.sliceBounds true len cap lo hi mx).run P w = .ok (l, r, m) w) :
    (Instr.sliceAt t (.slice a len cap) lo hi mx).run P w = .ok (.slice (if m = l then a else a.map (·.add (l * info.size))) (r - l) (m - l)) w := by
  simp [Instr.sliceAt, run_underlying ht, Instr.slice, hb, run_sizeOf hi']

theorem rowIs_sound {h : List AO} {b : Nat} {e : TypeId} (hr : rowIs h b e = true) : ∃ cs ex se, h[b]? = some (.row e cs ex se) := by
  unfold rowIs rowType at hr
  split at hr
  · rename_i e' he
    split at he
    · rename_i e0 cs0 ex0 se0 ho
      simp only [Option.some.injEq] at he
      rw [Nat.beq_eq] at hr
      subst he hr
      exact ⟨_, _, _, ho⟩
    · cases he
  · cases hr

theorem rowIs_place {h : List AO} {b : Nat} {e : TypeId} {w : World} {p : Pl} (H : WR E B0 σ μ h w) (hr : rowIs h b e = true) (hp : μ b = some p) : p.e = e := by
  obtain ⟨cs, ex, se, ho⟩ := rowIs_sound hr
  obtain ⟨q, cc, fr, q1, q2, _⟩ := H.objs _ _ ho
  rw [hp] at q1
  cases q1
  exact q2

theorem knownCap_sound {h : List AO} {b o n k cap : Nat} {c : Option Nat} {p : Pl} {s : Nat} {w : World} (H : WR E B0 σ μ h w) (hk : knownCap h b o c s = some k) (hp : μ b = some p) (h0 : 0 < s)
    (h5 : ∀ k, c = some k → cap = k) (h9 : c = none → o + cap * s = p.size) : k = cap := by
  unfold knownCap at hk
  split at hk
  · simp only [Option.some.injEq] at hk; subst hk; exact (h5 _ rfl).symm
  · split at hk
    · rename_i e0 cs0 se0 ho
      simp only [Option.some.injEq] at hk
      have hg9 := h9 rfl
      obtain ⟨q, cc, fr, q1, q2, q3, q4, q5, q6, q7, _⟩ := H.objs _ _ ho
      rw [hp] at q1
      cases q1
      have := q7 rfl
      have e1 : cap * s = cs0.length - o := by omega
      rw [← hk, ← e1, Nat.mul_div_cancel _ h0]
    · cases hk

theorem slice_sound (OK : EnvOk E P) {h : List AO} {t : TypeId} {x v : AV} {lo hi mx : Option AV} {u : Value} {lo' hi' mx' : Option Value} {w : World} (H : WR E B0 σ μ h w)
    (hs : sliceA E h t x lo hi mx = some v) (hx : VR E B0 σ μ x u)
    (hlo : ∀ a, lo = some a → ∃ u, lo' = some u ∧ VR E B0 σ μ a u) (hlo0 : lo = none → lo' = none)
    (hhi : ∀ a, hi = some a → ∃ u, hi' = some u ∧ VR E B0 σ μ a u) (hhi0 : hi = none → hi' = none)
    (hmx : ∀ a, mx = some a → ∃ u, mx' = some u ∧ VR E B0 σ μ a u) (hmx0 : mx = none → mx' = none) (h4 : hi' = none → mx' = none) :
    ∃ z, (Instr.sliceAt t u lo' hi' mx').run P w = .ok z w ∧ VR E B0 σ μ v z := by
  simp only [sliceA] at hs
  replace hs := bind_some hs; obtain ⟨e, he, hs⟩ := hs
  replace hs := bind_some hs; obtain ⟨es, hes, hs⟩ := hs
  replace hs := bind_some hs; obtain ⟨l, hl, hs⟩ := hs
  have ht := elemOfSlice_sound OK he
  obtain ⟨info, k1, _, k3, _⟩ := OK.ti _ es hes
  have bl := optNat_sound hl hlo hlo0
  split at hs
  · replace hs := bind_some hs; obtain ⟨r, hr, hs⟩ := hs
    replace hs := bind_some hs; obtain ⟨m, hm, hs⟩ := hs
    split at hs
    · rename_i hc
      simp only [Bool.and_eq_true, Nat.beq_eq] at hc
      obtain ⟨⟨rfl, rfl⟩, rfl⟩ := hc
      simp only [Option.some.injEq] at hs
      subst hs
      simp only [VR] at hx
      subst hx
      have br := optNat_sound hr hhi hhi0
      have bm := optNat_sound hm hmx hmx0
      exact ⟨_, run_sliceAt ht k1 (run_sliceBounds bm br bl (Nat.le_refl _) (Nat.le_refl _) (Nat.le_refl _) h4), by simp [VR]⟩
    · cases hs
  · replace hs := bind_some hs; obtain ⟨r, hr, hs⟩ := hs
    replace hs := bind_some hs; obtain ⟨m, hm, hs⟩ := hs
    split at hs
    · rename_i hc
      simp only [Bool.and_eq_true, Nat.beq_eq] at hc
      obtain ⟨⟨rfl, rfl⟩, rfl⟩ := hc
      simp only [Option.some.injEq] at hs
      subst hs
      simp only [VR] at hx
      obtain ⟨a, rfl⟩ := hx
      have br := optNat_sound hr hhi hhi0
      have bm := optNat_sound hm hmx hmx0
      refine ⟨_, run_sliceAt ht k1 (run_sliceBounds bm br bl (Nat.le_refl _) (Nat.le_refl _) (Nat.le_refl _) h4), ?_⟩
      simp only [VR]
      exact ⟨_, rfl⟩
    · cases hs
  · rename_i e' n cs
    replace hs := bind_some hs; obtain ⟨r, hr, hs⟩ := hs
    replace hs := bind_some hs; obtain ⟨m, hm, hs⟩ := hs
    have br := optNat_sound hr hhi hhi0
    split at hs
    · rename_i hc
      simp only [Bool.and_eq_true, Nat.beq_eq, Nat.ble_eq] at hc
      obtain ⟨⟨⟨⟨rfl, c1⟩, c2⟩, c3⟩, c4⟩ := hc
      simp only [VR] at hx
      obtain ⟨a, cap, s, rfl, g2, g3, g4, g5, g6⟩ := hx
      have hs' : s = es.size := by simp [esz, hes] at g3; exact g3.symm
      subst hs'
      -- the bound above: the capacity, or what was given
      have hmm : ∃ m', BoundIs mx' cap m' ∧ r ≤ m' ∧ m' ≤ cap ∧ (mx.isSome = true → m' = m) := by
        cases mx with
        | none => rw [hmx0 rfl]; exact ⟨cap, rfl, by simp [optNat] at hm; omega, Nat.le_refl _, by simp⟩
        | some a =>
          obtain ⟨u, rfl, hu⟩ := hmx a rfl
          exact ⟨m, natOf_sound hm hu, c2, by omega, fun _ => rfl⟩
      obtain ⟨m', b1, b2, b3, b4⟩ := hmm
      refine ⟨_, run_sliceAt ht k1 (run_sliceBounds b1 br bl c1 b2 b3 h4), ?_⟩
      split at hs
      · rename_i hq
        simp only [Bool.and_eq_true, Nat.beq_eq] at hq
        simp only [Option.some.injEq] at hs
        subst hs
        have : m' = l := by rw [b4 hq.1]; exact hq.2
        subst this
        simp only [VR]
        have : r = m' := by omega
        subst this
        exact ⟨a, by simp⟩
      · simp only [Option.some.injEq] at hs
        subst hs
        simp only [VR]
        refine ⟨_, m' - l, es.size, rfl, by omega, by simp [esz, hes], c4, ?_, ?_⟩
        · have : (l + (r - l)) * es.size ≤ n * es.size := Nat.mul_le_mul_right _ (by omega)
          rw [Nat.add_mul] at this
          simp only [List.length_take, List.length_drop, g5]; omega
        · rcases g6 with g6 | ⟨blk, off, e'', c, rfl, f2, f3, f4⟩
          · left
            refine ⟨by omega, ?_⟩
            split <;> simp [g6.2]
          · by_cases hrl : r - l = 0
            · refine .inl ⟨hrl, ?_⟩
              split <;> simp
            · right
              have hml : ¬ (m' = l) := by omega
              refine ⟨blk, off + l * es.size, e'', c, by simp [hml, add_none, k3], f2, f3, VRl_iff.2 fun i y hi => ?_⟩
              have hi' : i < (r - l) * es.size := by
                have := (List.getElem?_eq_some_iff.1 hi).1
                simp only [List.length_take, List.length_drop] at this
                omega
              rw [List.getElem?_take_of_lt hi', List.getElem?_drop] at hi
              obtain ⟨z, hz, hv⟩ := VRl_iff.1 f4 _ y hi
              exact ⟨z, by rw [Nat.add_assoc]; exact hz, hv⟩
    · cases hs
  · rename_i b o n c
    replace hs := bind_some hs; obtain ⟨r, hr, hs⟩ := hs
    have br := optNat_sound hr hhi hhi0
    split at hs
    · rename_i hc
      simp only [Bool.and_eq_true, Nat.ble_eq] at hc
      obtain ⟨⟨⟨c1, c2⟩, c4⟩, c5⟩ := hc
      simp only [VR] at hx
      obtain ⟨p, a, cap, s, g1, rfl, g3, g4, g5, g6, g7, g8, g9⟩ := hx
      have hpe : p.e = e := rowIs_place H c5 g1
      have hs' : s = es.size := by rw [hpe] at g6; simp [esz, hes] at g6; exact g6.symm
      subst hs'
      split at hs
      · simp only [Option.some.injEq] at hs
        subst hs
        rw [hmx0 rfl]
        refine ⟨_, run_sliceAt ht k1 (run_sliceBounds (m := cap) (by simp [BoundIs]) br bl c1 (by omega) (Nat.le_refl _) (fun _ => rfl)), ?_⟩
        simp only [VR]
        have hmul : (cap - l) * es.size + l * es.size = cap * es.size := by rw [← Nat.add_mul]; congr 1; omega
        refine ⟨p, if cap = l then a else ⟨p.blk, o + l * es.size, none⟩, cap - l, es.size, g1, ?_, by omega, ?_, ?_, g6, g7, by omega, ?_⟩
        · by_cases hcl : cap = l
          · simp [hcl]
          · have := g4 (by omega)
            subst this
            simp [hcl, add_none, k3]
        · intro hne
          have hcl : ¬ (cap = l) := by omega
          simp [hcl]
        · intro k hk
          cases c with
          | none => simp at hk
          | some c =>
            have := g5 c rfl
            simp at hk
            omega
        · intro hk
          have : c = none := by cases c <;> simp at hk ⊢
          have := g9 this
          omega
      · rename_i m0
        replace hs := bind_some hs; obtain ⟨m, hm, hs⟩ := hs
        obtain ⟨um, rfl, hum⟩ := hmx m0 rfl
        split at hs
        · rename_i hc2
          simp only [Bool.and_eq_true, Bool.or_eq_true, Nat.ble_eq] at hc2
          obtain ⟨c6, c7⟩ := hc2
          simp only [Option.some.injEq] at hs
          subst hs
          have hmc : m ≤ cap := by
            rcases c7 with c7 | c7
            · omega
            · unfold leCap at c7
              split at c7
              · rename_i k hk
                rw [Nat.ble_eq] at c7
                have := knownCap_sound (n := n) H hk g1 c4 g5 g9
                omega
              · cases c7
          refine ⟨_, run_sliceAt ht k1 (run_sliceBounds (natOf_sound hm hum) br bl c1 c6 hmc h4), ?_⟩
          simp only [VR]
          have hmul : (cap - l) * es.size + l * es.size = cap * es.size := by rw [← Nat.add_mul]; congr 1; omega
          have hmul2 : (m - l) * es.size ≤ (cap - l) * es.size := Nat.mul_le_mul_right _ (by omega)
          refine ⟨p, if m = l then a else ⟨p.blk, o + l * es.size, none⟩, m - l, es.size, g1, ?_, by omega, ?_, ?_, g6, g7, by omega, by simp⟩
          · by_cases hcl : m = l
            · simp [hcl]
            · have := g4 (by omega)
              subst this
              simp [hcl, add_none, k3]
          · intro hne
            have hcl : ¬ (m = l) := by omega
            simp [hcl]
          · intro k hk
            simp at hk
            exact hk
        · cases hs
    · cases hs
  · cases hs

end
end Go.Te
