/- TE: snapshots, and what comes back of a call that was handed them. -/
import Derived.Test.YtfcephkliamgfaaGreatDoorTeMap2
namespace Go.Te
open Go

section
variable {E : Env} {P : Program} {B0 : Nat} {σ : Sg} {μ : Mu}

/-- The rows of S stand as they are now. -/
noncomputable def Sg.with (σ : Sg) (μ : Mu) (h : List AO) (w : World) (S : Nat → Prop) : Sg := fun b => by
  classical
  exact if ∃ id e cs ex se p, S id ∧ h[id]? = some (.row e cs ex se) ∧ μ id = some p ∧ p.blk = b then
    (match w.heap[b]? with
      | some (.cells c e _) => some (e, c)
      | _ => none)
  else σ b

theorem with_row {h : List AO} {w : World} {S : Nat → Prop} {id : Nat} {e : TypeId} {cs : List AV} {ex se : Bool} {p : Pl} {c : Array Value} {fr : Nat × Nat} (hs : S id) (ho : h[id]? = some (.row e cs ex se)) (hp : μ id = some p)
    (hw : w.heap[p.blk]? = some (.cells c e fr)) : Sg.with σ μ h w S p.blk = some (e, c) := by
  unfold Sg.with
  rw [if_pos ⟨id, e, cs, ex, se, p, hs, ho, hp, rfl⟩, hw]

theorem with_le {h : List AO} {w : World} (S : Nat → Prop) (H : WR E B0 σ μ h w) : Sg.le σ (Sg.with σ μ h w S) := by
  intro b x hb
  unfold Sg.with
  obtain ⟨fr, hf⟩ := H.stable b x.1 x.2 hb
  split
  · rw [hf]
  · exact hb

theorem with_inv {h : List AO} {w : World} {S : Nat → Prop} {b : Nat} {x : TypeId × Array Value} (hb : Sg.with σ μ h w S b = some x) :
    σ b = some x ∨ ∃ id e cs ex se p, S id ∧ h[id]? = some (.row e cs ex se) ∧ μ id = some p ∧ p.blk = b := by
  unfold Sg.with at hb
  split at hb
  · rename_i he; exact .inr he
  · exact .inl hb

theorem with_stable {h : List AO} {w : World} {S : Nat → Prop} (H : WR E B0 σ μ h w) {b : Nat} {e : TypeId} {c : Array Value} (hb : Sg.with σ μ h w S b = some (e, c)) : ∃ fr, w.heap[b]? = some (.cells c e fr) := by
  unfold Sg.with at hb
  split at hb
  · split at hb
    · rename_i c' e' fr hw
      simp only [Option.some.injEq, Prod.mk.injEq] at hb
      obtain ⟨rfl, rfl⟩ := hb
      exact ⟨fr, hw⟩
    · cases hb
  · exact H.stable _ _ _ hb

/-- Nothing but what stands still. -/
theorem WR.bare {h : List AO} {w : World} (S : Nat → Prop) (H : WR E B0 σ μ h w) : WR E B0 (Sg.with σ μ h w S) NoMu [] w where
  stable := fun _ _ _ hb => with_stable H hb
  objs := fun id o ho => by simp at ho
  fresh := fun _ _ => rfl
  glob := fun g cs hg => by
    obtain ⟨e, c, h1, h2⟩ := H.glob g cs hg
    exact ⟨e, c, with_le S H _ _ h1, VRl.mono (with_le S H) (Mu.le_refl _) _ _ _ h2⟩
  inj := fun i j a b p q hi => by simp at hi
  lt := fun id p hp => by cases hp
  base := H.base

theorem mapO_spec {f : AV → Option AV} : ∀ (xs ys : List AV), mapO f xs = some ys → ys.length = xs.length ∧ ∀ (i : Nat) y, ys[i]? = some y → ∃ x, xs[i]? = some x ∧ f x = some y
  | [], ys, h => by simp only [mapO, Option.some.injEq] at h; subst h; simp
  | x :: xs, ys, h => by
    simp only [mapO] at h
    replace h := bind_some h; obtain ⟨v, hv, h⟩ := h
    replace h := bind_some h; obtain ⟨vs, hvs, h⟩ := h
    simp only [Option.some.injEq] at h
    subst h
    obtain ⟨h1, h2⟩ := mapO_spec xs vs hvs
    refine ⟨by simp [h1], fun i y hi => ?_⟩
    cases i with
    | zero => simp at hi; subst hi; exact ⟨x, by simp, hv⟩
    | succ i => simpa using h2 i y (by simpa using hi)

theorem flatO_spec {f : AV → Option (List Nat)} : ∀ (xs : List AV) (l : List Nat), flatO f xs = some l → ∀ x ∈ xs, ∃ m, f x = some m ∧ ∀ i ∈ m, i ∈ l
  | [], _, _, x, hx => by cases hx
  | y :: ys, l, h, x, hx => by
    simp only [flatO] at h
    replace h := bind_some h; obtain ⟨v, hv, h⟩ := h
    replace h := bind_some h; obtain ⟨vs, hvs, h⟩ := h
    simp only [Option.some.injEq] at h
    subst h
    rcases List.mem_cons.1 hx with rfl | hx
    · exact ⟨v, hv, fun i hi => List.mem_append_left _ hi⟩
    · obtain ⟨m, h1, h2⟩ := flatO_spec ys vs hvs x hx
      exact ⟨m, h1, fun i hi => List.mem_append_right _ (h2 i hi)⟩

/-- The unsealed rows that a snapshot reads are of S. -/
def Cov (E : Env) (h : List AO) (S : Nat → Prop) (d : Nat) (x : AV) : Prop := (∀ id, S id) ∨ ∃ l, seenBy E h d x = some l ∧ ∀ id ∈ l, S id
def CovL (E : Env) (h : List AO) (S : Nat → Prop) (d : Nat) (xs : List AV) : Prop := (∀ id, S id) ∨ ∃ l, flatO (seenBy E h d) xs = some l ∧ ∀ id ∈ l, S id
theorem CovL.mem {h : List AO} {S : Nat → Prop} {d : Nat} {xs : List AV} (H : CovL E h S d xs) {x : AV} (hx : x ∈ xs) : Cov E h S d x := by
  rcases H with H | ⟨l, h1, h2⟩
  · exact .inl H
  · obtain ⟨m, k1, k2⟩ := flatO_spec _ _ h1 x hx
    exact .inr ⟨m, k1, fun i hi => h2 i (k2 i hi)⟩

theorem snap_sound {h : List AO} {w : World} {S : Nat → Prop} (H : WR E B0 σ μ h w) : ∀ (d : Nat) (x y : AV) (v : Value), snap E h d x = some y → Cov E h S d x → VR E B0 σ μ x v → VR E B0 (Sg.with σ μ h w S) NoMu y v := by
  intro d
  induction d with
  | zero => intro x y v hs; simp [snap] at hs
  | succ d ih =>
    intro x y v hs hc hv
    have list : ∀ (xs ys : List AV) (f : Nat → Option Value) (p : Nat), mapO (snap E h d) xs = some ys → CovL E h S d xs → VRl E B0 σ μ xs f p → VRl E B0 (Sg.with σ μ h w S) NoMu ys f p := by
      intro xs ys f p hm hcl hl
      obtain ⟨_, h2⟩ := mapO_spec _ _ hm
      refine VRl_iff.2 fun i z hz => ?_
      obtain ⟨x, hx, hsx⟩ := h2 i z hz
      obtain ⟨u, hu, hr⟩ := VRl_iff.1 hl i x hx
      exact ⟨u, hu, ih x z u hsx (hcl.mem (List.mem_of_getElem? hx)) hr⟩
    cases x with
    | bool b => simp only [snap, Option.some.injEq] at hs; subst hs; exact VR_bool.2 (VR_bool.1 hv)
    | int k n => simp only [snap, Option.some.injEq] at hs; subst hs; exact VR_int.2 (VR_int.1 hv)
    | str s => simp only [snap, Option.some.injEq] at hs; subst hs; exact VR_str.2 (VR_str.1 hv)
    | nilp => simp only [snap, Option.some.injEq] at hs; subst hs; simpa only [VR] using hv
    | snil => simp only [snap, Option.some.injEq] at hs; subst hs; simpa only [VR] using hv
    | slnil => simp only [snap, Option.some.injEq] at hs; subst hs; simpa only [VR] using hv
    | mapnil => simp only [snap, Option.some.injEq] at hs; subst hs; simpa only [VR] using hv
    | nilfn => simp only [snap, Option.some.injEq] at hs; subst hs; simpa only [VR] using hv
    | glob g o => simp only [snap, Option.some.injEq] at hs; subst hs; simpa only [VR] using hv
    | tree e n cs =>
      simp only [snap, Option.some.injEq] at hs; subst hs
      simp only [VR] at hv ⊢
      obtain ⟨a, cap, s, h1, h2, h3, h4, h5, h6⟩ := hv
      refine ⟨a, cap, s, h1, h2, h3, h4, h5, ?_⟩
      rcases h6 with h6 | ⟨blk, off, e', c, g1, g2, g3, g4⟩
      · exact .inl h6
      · exact .inr ⟨blk, off, e', c, g1, with_le S H _ _ g2, g3, VRl.mono (with_le S H) (Mu.le_refl _) cs _ _ g4⟩
    | tptr e n cs o =>
      simp only [snap, Option.some.injEq] at hs; subst hs
      simp only [VR] at hv ⊢
      obtain ⟨blk, off, e', c, h1, h2, h3, h4⟩ := hv
      exact ⟨blk, off, e', c, with_le S H _ _ h1, h2, VRl.mono (with_le S H) (Mu.le_refl _) cs _ _ h3, h4⟩
    | ptr b o => simp [snap] at hs
    | map b => simp [snap] at hs
    | fn f first caps =>
      simp only [snap] at hs
      split at hs
      · rename_i hy
        replace hs := bind_some hs; obtain ⟨a, ha, hs⟩ := hs
        replace hs := bind_some hs; obtain ⟨b, hb, hs⟩ := hs
        simp only [Option.some.injEq] at hs; subst hs
        have hcs : CovL E h S d first ∧ CovL E h S d caps := by
          rcases hc with hc | ⟨l, h1, h2⟩
          · exact ⟨.inl hc, .inl hc⟩
          · simp only [seenBy] at h1
            replace h1 := bind_some h1; obtain ⟨l1, g1, h1⟩ := h1
            replace h1 := bind_some h1; obtain ⟨l2, g2, h1⟩ := h1
            simp only [Option.some.injEq] at h1; subst h1
            exact ⟨.inr ⟨l1, g1, fun i hi => h2 i (List.mem_append_left _ hi)⟩, .inr ⟨l2, g2, fun i hi => h2 i (List.mem_append_right _ hi)⟩⟩
        simp only [VR] at hv ⊢
        obtain ⟨g, a', c', h1, h2, h3, h4, h5, h6⟩ := hv
        refine ⟨g, a', c', h1, ?_, by rw [h3, (mapO_spec _ _ ha).1], list _ _ _ _ ha hcs.1 h4, by rw [h5, (mapO_spec _ _ hb).1], list _ _ _ _ hb hcs.2 h6⟩
        cases f <;> first | exact h2 | (simp [noYield] at hy)
      · cases hs
    | agg xs =>
      simp only [snap] at hs
      replace hs := bind_some hs; obtain ⟨ys, ha, hs⟩ := hs
      simp only [Option.some.injEq] at hs; subst hs
      have hcs : CovL E h S d xs := by
        rcases hc with hc | ⟨l, h1, h2⟩
        · exact .inl hc
        · exact .inr ⟨l, by simpa only [seenBy] using h1, h2⟩
      obtain ⟨a, rfl, g1, g2⟩ := VR_agg.1 hv
      exact VR_agg.2 ⟨a, rfl, by rw [g1, (mapO_spec _ _ ha).1], list _ _ _ _ ha hcs g2⟩
    | tup xs =>
      simp only [snap] at hs
      replace hs := bind_some hs; obtain ⟨ys, ha, hs⟩ := hs
      simp only [Option.some.injEq] at hs; subst hs
      have hcs : CovL E h S d xs := by
        rcases hc with hc | ⟨l, h1, h2⟩
        · exact .inl hc
        · exact .inr ⟨l, by simpa only [seenBy] using h1, h2⟩
      obtain ⟨a, rfl, g1, g2⟩ := VR_tup.1 hv
      exact VR_tup.2 ⟨a, rfl, by rw [g1, (mapO_spec _ _ ha).1], list _ _ _ _ ha hcs g2⟩
    | sl b o n c =>
      simp only [snap] at hs
      split at hs
      case h_2 => cases hs
      rename_i e cs ex se ho
      replace hs := bind_some hs; obtain ⟨i, hi, hs⟩ := hs
      split at hs
      case isFalse => cases hs
      rename_i hpos
      rw [Nat.ble_eq] at hpos
      replace hs := bind_some hs; obtain ⟨ds, hds, hs⟩ := hs
      replace hs := bind_some hs; obtain ⟨ys, hys, hs⟩ := hs
      simp only [Option.some.injEq] at hs; subst hs
      simp only [VR] at hv ⊢
      obtain ⟨p, a, cap, s, q1, rfl, q3, q4, q5, q6, q7, q8, q9⟩ := hv
      obtain ⟨q, cc, fr, w1, w2, w3, w4, w5, w6, w7, w8, w9⟩ := H.objs _ _ ho
      rw [q1] at w1; cases w1
      obtain ⟨l1, l2, l3⟩ := slice?_spec hds
      refine ⟨some a, cap, i.size, rfl, q3, by simp [esz, hi], by omega, by rw [(mapO_spec _ _ hys).1, l1], ?_⟩
      by_cases hn : n = 0
      · exact .inl ⟨hn, rfl⟩
      · right
        have := q4 (by omega)
        subst this
        have hcs : CovL E h S d ds ∧ (se = true ∨ S b) := by
          rcases hc with hc | ⟨l, h1, h2⟩
          · exact ⟨.inl hc, .inr (hc b)⟩
          · simp only [seenBy, ho] at h1
            replace h1 := bind_some h1; obtain ⟨i', hi', h1⟩ := h1
            rw [hi] at hi'; cases hi'
            replace h1 := bind_some h1; obtain ⟨ds', hds', h1⟩ := h1
            rw [hds] at hds'; cases hds'
            replace h1 := bind_some h1; obtain ⟨l', hl', h1⟩ := h1
            simp only [Option.some.injEq] at h1
            cases se with
            | true => simp at h1; subst h1; exact ⟨.inr ⟨l', hl', h2⟩, .inl rfl⟩
            | false => simp at h1; subst h1; exact ⟨.inr ⟨l', hl', fun i hi => h2 i (List.mem_cons_of_mem _ hi)⟩, .inr (h2 b (by simp))⟩
        refine ⟨p.blk, o, e, cc, rfl, ?_, .inl rfl, ?_⟩
        · rcases hcs.2 with hse | hS
          · rcases w9 with ⟨_, g⟩ | ⟨g, _⟩
            · exact with_le S H _ _ g
            · rw [hse] at g; cases g
          · exact with_row hS ho q1 w3
        · have := VRl_slice w6 hds
          rw [Nat.zero_add] at this
          exact list _ _ _ _ hys hcs.1 this

/-! ## Renaming -/

theorem posIn_spec : ∀ (keep : List Nat) (b k j : Nat), posIn b keep k = some j → k ≤ j ∧ keep[j - k]? = some b
  | [], _, _, _, h => by simp [posIn] at h
  | c :: cs, b, k, j, h => by
    simp only [posIn] at h
    split at h
    · rename_i e
      rw [Nat.beq_eq] at e
      simp only [Option.some.injEq] at h
      subst e h
      exact ⟨Nat.le_refl _, by simp⟩
    · obtain ⟨h1, h2⟩ := posIn_spec cs b (k + 1) j h
      refine ⟨by omega, ?_⟩
      rw [show j - k = (j - (k + 1)) + 1 by omega]
      simpa using h2

mutual
theorem VR.ren {μ2 : Mu} {f : Nat → Option Nat} (hf : ∀ b j p, f b = some j → μ b = some p → μ2 j = some p) : ∀ (x y : AV) (v : Value), Te.ren f x = some y → VR E B0 σ μ x v → VR E B0 σ μ2 y v
  | .bool _, y, _, hr, h => by simp only [Te.ren, Option.some.injEq] at hr; subst hr; simpa only [VR] using h
  | .int _ _, y, _, hr, h => by simp only [Te.ren, Option.some.injEq] at hr; subst hr; simpa only [VR] using h
  | .str _, y, _, hr, h => by simp only [Te.ren, Option.some.injEq] at hr; subst hr; simpa only [VR] using h
  | .nilp, y, _, hr, h => by simp only [Te.ren, Option.some.injEq] at hr; subst hr; simpa only [VR] using h
  | .tptr _ _ _ _, y, _, hr, h => by simp only [Te.ren, Option.some.injEq] at hr; subst hr; simpa only [VR] using h
  | .glob _ _, y, _, hr, h => by simp only [Te.ren, Option.some.injEq] at hr; subst hr; simpa only [VR] using h
  | .snil, y, _, hr, h => by simp only [Te.ren, Option.some.injEq] at hr; subst hr; simpa only [VR] using h
  | .slnil, y, _, hr, h => by simp only [Te.ren, Option.some.injEq] at hr; subst hr; simpa only [VR] using h
  | .tree _ _ _, y, _, hr, h => by simp only [Te.ren, Option.some.injEq] at hr; subst hr; simpa only [VR] using h
  | .mapnil, y, _, hr, h => by simp only [Te.ren, Option.some.injEq] at hr; subst hr; simpa only [VR] using h
  | .nilfn, y, _, hr, h => by simp only [Te.ren, Option.some.injEq] at hr; subst hr; simpa only [VR] using h
  | .ptr b o, y, _, hr, h => by
    simp only [Te.ren] at hr
    replace hr := bind_some hr; obtain ⟨j, hj, hr⟩ := hr
    simp only [Option.some.injEq] at hr; subst hr
    simp only [VR] at h ⊢
    obtain ⟨p, h1, h2⟩ := h
    exact ⟨p, hf _ _ _ hj h1, h2⟩
  | .sl b o n c, y, _, hr, h => by
    simp only [Te.ren] at hr
    replace hr := bind_some hr; obtain ⟨j, hj, hr⟩ := hr
    simp only [Option.some.injEq] at hr; subst hr
    simp only [VR] at h ⊢
    obtain ⟨p, a, cap, s, h1, h2⟩ := h
    exact ⟨p, a, cap, s, hf _ _ _ hj h1, h2⟩
  | .map b, y, _, hr, h => by
    simp only [Te.ren] at hr
    replace hr := bind_some hr; obtain ⟨j, hj, hr⟩ := hr
    simp only [Option.some.injEq] at hr; subst hr
    simp only [VR] at h ⊢
    obtain ⟨p, h1, h2⟩ := h
    exact ⟨p, hf _ _ _ hj h1, h2⟩
  | .fn g xs ys, y, _, hr, h => by
    simp only [Te.ren] at hr
    replace hr := bind_some hr; obtain ⟨g', hg, hr⟩ := hr
    replace hr := bind_some hr; obtain ⟨xs', hxs, hr⟩ := hr
    replace hr := bind_some hr; obtain ⟨ys', hys, hr⟩ := hr
    simp only [Option.some.injEq] at hr; subst hr
    simp only [VR] at h ⊢
    obtain ⟨g2, a, c, h1, h2, h3, h4, h5, h6⟩ := h
    obtain ⟨l1, k1⟩ := VRl.ren hf xs xs' hxs _ _ h4
    obtain ⟨l2, k2⟩ := VRl.ren hf ys ys' hys _ _ h6
    refine ⟨g2, a, c, h1, ?_, by rw [h3, l1], k1, by rw [h5, l2], k2⟩
    cases g with
    | yield l =>
      simp only [renF] at hg
      replace hg := bind_some hg; obtain ⟨j, hj, hg⟩ := hg
      simp only [Option.some.injEq] at hg; subst hg
      obtain ⟨p, e1, e2⟩ := h2
      exact ⟨p, hf _ _ _ hj e1, e2⟩
    | func _ => simp only [renF, Option.some.injEq] at hg; subst hg; exact h2
    | method _ => simp only [renF, Option.some.injEq] at hg; subst hg; exact h2
    | methodOf _ _ => simp only [renF, Option.some.injEq] at hg; subst hg; exact h2
    | via _ _ _ _ => simp only [renF, Option.some.injEq] at hg; subst hg; exact h2
  | .agg xs, y, _, hr, h => by
    simp only [Te.ren] at hr
    replace hr := bind_some hr; obtain ⟨xs', hxs, hr⟩ := hr
    simp only [Option.some.injEq] at hr; subst hr
    simp only [VR] at h ⊢
    obtain ⟨a, h1, h2, h3⟩ := h
    obtain ⟨l1, k1⟩ := VRl.ren hf xs xs' hxs _ _ h3
    exact ⟨a, h1, by rw [h2, l1], k1⟩
  | .tup xs, y, _, hr, h => by
    simp only [Te.ren] at hr
    replace hr := bind_some hr; obtain ⟨xs', hxs, hr⟩ := hr
    simp only [Option.some.injEq] at hr; subst hr
    simp only [VR] at h ⊢
    obtain ⟨a, h1, h2, h3⟩ := h
    obtain ⟨l1, k1⟩ := VRl.ren hf xs xs' hxs _ _ h3
    exact ⟨a, h1, by rw [h2, l1], k1⟩
theorem VRl.ren {μ2 : Mu} {f : Nat → Option Nat} (hf : ∀ b j p, f b = some j → μ b = some p → μ2 j = some p) : ∀ (xs ys : List AV), renL f xs = some ys → ∀ (g : Nat → Option Value) (p : Nat), VRl E B0 σ μ xs g p →
    ys.length = xs.length ∧ VRl E B0 σ μ2 ys g p
  | [], ys, hr, _, _, _ => by simp only [renL, Option.some.injEq] at hr; subst hr; exact ⟨rfl, by simp only [VRl]⟩
  | x :: xs, ys, hr, g, p, h => by
    simp only [renL] at hr
    replace hr := bind_some hr; obtain ⟨y, hy, hr⟩ := hr
    replace hr := bind_some hr; obtain ⟨ys', hys, hr⟩ := hr
    simp only [Option.some.injEq] at hr; subst hr
    simp only [VRl] at h ⊢
    obtain ⟨⟨v, h1, h2⟩, h3⟩ := h
    obtain ⟨l, k⟩ := VRl.ren hf xs ys' hys g (p + 1) h3
    exact ⟨by simp [l], ⟨v, h1, VR.ren hf x y v hy h2⟩, k⟩
end

/-! ## Fewer rows that stand still -/

def Down (B0 : Nat) (σ σ2 : Sg) (ts : List TypeId) : Prop := ∀ blk e' c e, σ blk = some (e', c) → (e' = e ∨ blk < B0) → e ∈ ts → σ2 blk = some (e', c)

mutual
theorem VR.down {σ2 : Sg} {ts : List TypeId} (hd : Down B0 σ σ2 ts) : ∀ (μ : Mu) (x : AV) (v : Value), (∀ e ∈ trees x, e ∈ ts) → VR E B0 σ μ x v → VR E B0 σ2 μ x v
  | _, .bool _, _, _, h => by simpa only [VR] using h
  | _, .int _ _, _, _, h => by simpa only [VR] using h
  | _, .str _, _, _, h => by simpa only [VR] using h
  | _, .nilp, _, _, h => by simpa only [VR] using h
  | _, .ptr _ _, _, _, h => by simpa only [VR] using h
  | _, .glob _ _, _, _, h => by simpa only [VR] using h
  | _, .snil, _, _, h => by simpa only [VR] using h
  | _, .slnil, _, _, h => by simpa only [VR] using h
  | _, .sl _ _ _ _, _, _, h => by simpa only [VR] using h
  | _, .mapnil, _, _, h => by simpa only [VR] using h
  | _, .map _, _, _, h => by simpa only [VR] using h
  | _, .nilfn, _, _, h => by simpa only [VR] using h
  | _, .tptr e n cs o, _, ht, h => by
    simp only [VR] at h ⊢
    simp only [trees] at ht
    obtain ⟨blk, off, e', c, h1, h2, h3, h4⟩ := h
    exact ⟨blk, off, e', c, hd _ _ _ e h1 h2 (ht e (by simp)), h2, VRl.down hd NoMu cs _ _ (fun e he => ht e (List.mem_cons_of_mem _ he)) h3, h4⟩
  | _, .tree e n cs, _, ht, h => by
    simp only [VR] at h ⊢
    simp only [trees] at ht
    obtain ⟨a, cap, s, h1, h2, h3, h4, h5, h6⟩ := h
    refine ⟨a, cap, s, h1, h2, h3, h4, h5, ?_⟩
    rcases h6 with h6 | ⟨blk, off, e', c, g1, g2, g3, g4⟩
    · exact .inl h6
    · exact .inr ⟨blk, off, e', c, g1, hd _ _ _ e g2 g3 (ht e (by simp)), g3, VRl.down hd NoMu cs _ _ (fun e he => ht e (List.mem_cons_of_mem _ he)) g4⟩
  | μ, .fn f xs ys, _, ht, h => by
    simp only [VR] at h ⊢
    simp only [trees] at ht
    obtain ⟨g, a, c, h1, h2, h3, h4, h5, h6⟩ := h
    exact ⟨g, a, c, h1, h2, h3, VRl.down hd μ xs _ _ (fun e he => ht e (List.mem_append_left _ he)) h4, h5, VRl.down hd μ ys _ _ (fun e he => ht e (List.mem_append_right _ he)) h6⟩
  | μ, .agg xs, _, ht, h => by
    simp only [VR] at h ⊢
    simp only [trees] at ht
    obtain ⟨a, h1, h2, h3⟩ := h
    exact ⟨a, h1, h2, VRl.down hd μ xs _ _ ht h3⟩
  | μ, .tup xs, _, ht, h => by
    simp only [VR] at h ⊢
    simp only [trees] at ht
    obtain ⟨a, h1, h2, h3⟩ := h
    exact ⟨a, h1, h2, VRl.down hd μ xs _ _ ht h3⟩
theorem VRl.down {σ2 : Sg} {ts : List TypeId} (hd : Down B0 σ σ2 ts) : ∀ (μ : Mu) (xs : List AV) (f : Nat → Option Value) (p : Nat), (∀ e ∈ treesL xs, e ∈ ts) → VRl E B0 σ μ xs f p → VRl E B0 σ2 μ xs f p
  | _, [], _, _, _, _ => by simp only [VRl]
  | μ, x :: xs, f, p, ht, h => by
    simp only [VRl] at h ⊢
    simp only [treesL] at ht
    obtain ⟨⟨v, h1, h2⟩, h3⟩ := h
    exact ⟨⟨v, h1, VR.down hd μ x v (fun e he => ht e (List.mem_append_left _ he)) h2⟩, VRl.down hd μ xs f (p + 1) (fun e he => ht e (List.mem_append_right _ he)) h3⟩
end

end
end Go.Te
