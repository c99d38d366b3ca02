/- TE: a region that draws its order: what the trace says; what an operation leaves alone. -/
import Derived.Test.YtfcephkliamgfaaGreatDoorTeDraw
namespace Go.Te
open Go

section
variable {E : Env} {r : Rec} {ops : Array Oper} {ms : List Nat} {I0 : Info} {st' : St} {info : Nat → Info} {kind : Nat → Kind}

def isMk (kind : Nat → Kind) (j : Nat) : Prop := ∃ v ob, kind j = .make v ob
def obOf (kind : Nat → Kind) (j : Nat) : AO :=
  match kind j with
  | .make _ ob => ob
  | _ => .dead
def FP.isChain : FP → Bool
  | .none | .load _ _ _ | .read => false
  | _ => true
def isChain (kind : Nat → Kind) (j : Nat) : Prop := ∃ res f, kind j = .op res f ∧ f.isChain = true
def dstOf (ops : Array Oper) (i : Nat) : Option Tmp := (ops[i]?).bind (·.dst)

theorem fits_comm (f g : FP) : f.fits g = g.fits f := by
  cases f <;> cases g <;> rfl

theorem noteFP_mem {i j : Nat} {f g : FP} {fs : List (Nat × FP)} : (j, g) ∈ noteFP i f fs ↔ (j, g) ∈ fs ∨ (j = i ∧ g = f ∧ f ≠ .none) := by
  unfold noteFP
  split
  · simp
  · rename_i hf
    simp only [List.mem_cons, Prod.mk.injEq]
    constructor
    · rintro (⟨rfl, rfl⟩ | h)
      · exact .inr ⟨rfl, rfl, fun e => hf e⟩
      · exact .inl h
    · rintro (h | ⟨rfl, rfl, _⟩)
      · exact .inr h
      · exact .inl ⟨rfl, rfl⟩

theorem fitsAll_spec {m : Nat} {f : FP} : ∀ (fs : List (Nat × FP)), fitsAll m f fs = true → ∀ j g, (j, g) ∈ fs → m.testBit j = true ∨ f.fits g = true
  | [], _, _, _, h => by cases h
  | (k, x) :: fs, hf, j, g, h => by
    simp only [fitsAll, Bool.and_eq_true, Bool.or_eq_true] at hf
    rcases List.mem_cons.1 h with e | h
    · cases e; exact hf.1
    · exact fitsAll_spec fs hf.2 j g h

section

theorem tr_step (t : Trace E r ops ms 0 I0 st' info kind) {i : Nat} (hi : i < ops.size) : StepOk E r ops i ops[i] (ms.getD i 0) (kind i) (info i) (info (i + 1)) :=
  t.step i _ (Nat.zero_le _) (Array.getElem?_eq_getElem hi)

theorem tr_round (t : Trace E r ops ms 0 I0 st' info kind) : ∀ i, i ≤ ops.size → (info i).st.round = I0.st.round
  | 0, _ => by rw [t.start]
  | i + 1, hi => by
    have ih := tr_round t i (by omega)
    have h := tr_step t (show i < ops.size by omega)
    cases hk : kind i with
    | skip => rw [hk] at h; obtain ⟨_, e⟩ := h; rw [e]; exact ih
    | make v ob => rw [hk] at h; obtain ⟨_, _, _, e⟩ := h; rw [e]; exact ih
    | op res f => rw [hk] at h; obtain ⟨_, _, _, _, _, e⟩ := h; rw [e]; exact ih

theorem tr_tmps (t : Trace E r ops ms 0 I0 st' info kind) : ∀ i, i ≤ ops.size → (info i).st.tmps = tv I0.st.tmps (fun j => (kind j).val) (dstOf ops) (fun _ => true) i
  | 0, _ => by rw [t.start]; rfl
  | i + 1, hi => by
    have ih := tr_tmps t i (by omega)
    have hlt : i < ops.size := by omega
    have h := tr_step t hlt
    have hd : dstOf ops i = ops[i].dst := by simp [dstOf, Array.getElem?_eq_getElem hlt]
    simp only [tv, if_true, hd]
    cases hk : kind i with
    | skip => rw [hk] at h; obtain ⟨_, e⟩ := h; rw [e, ← ih]; rfl
    | make v ob => rw [hk] at h; obtain ⟨_, _, _, e⟩ := h; rw [e, ← ih]; rfl
    | op res f => rw [hk] at h; obtain ⟨_, _, _, _, _, e⟩ := h; rw [e, ← ih]; rfl

theorem tr_rs (t : Trace E r ops ms 0 I0 st' info kind) (h0 : I0.rs = []) : ∀ i, i ≤ ops.size → ∀ j q, (j, q) ∈ (info i).rs ↔ j < i ∧ isMk kind j ∧ q = (info j).q
  | 0, _, j, q => by rw [t.start, h0]; simp
  | i + 1, hi, j, q => by
    have ih := tr_rs t h0 i (by omega) j q
    have h := tr_step t (show i < ops.size by omega)
    have nomk : ∀ (hn : ¬ isMk kind i), (j < i ∧ isMk kind j ∧ q = (info j).q) ↔ (j < i + 1 ∧ isMk kind j ∧ q = (info j).q) := by
      intro hn
      constructor
      · rintro ⟨h1, h2, h3⟩; exact ⟨by omega, h2, h3⟩
      · rintro ⟨h1, h2, h3⟩
        refine ⟨?_, h2, h3⟩
        by_cases e : j = i
        · subst e; exact absurd h2 hn
        · omega
    cases hk : kind i with
    | skip =>
      rw [hk] at h; obtain ⟨_, e⟩ := h; rw [e]
      exact ih.trans (nomk (by rintro ⟨v, ob, e⟩; rw [hk] at e; cases e))
    | make v ob =>
      rw [hk] at h; obtain ⟨_, _, _, e⟩ := h; rw [e]
      simp only [List.mem_cons, Prod.mk.injEq]
      constructor
      · rintro (⟨rfl, rfl⟩ | h)
        · exact ⟨by omega, ⟨v, ob, hk⟩, rfl⟩
        · obtain ⟨h1, h2, h3⟩ := ih.1 h; exact ⟨by omega, h2, h3⟩
      · rintro ⟨h1, h2, h3⟩
        by_cases e : j = i
        · subst e; exact .inl ⟨rfl, h3⟩
        · exact .inr (ih.2 ⟨by omega, h2, h3⟩)
    | op res f =>
      rw [hk] at h; obtain ⟨_, _, _, _, _, e⟩ := h; rw [e]
      exact ih.trans (nomk (by rintro ⟨v, ob, e⟩; rw [hk] at e; cases e))

theorem tr_fs (t : Trace E r ops ms 0 I0 st' info kind) (h0 : I0.fs = []) : ∀ i, i ≤ ops.size → ∀ j g, (j, g) ∈ (info i).fs ↔ j < i ∧ g ≠ .none ∧ ∃ res, kind j = .op res g
  | 0, _, j, q => by rw [t.start, h0]; simp
  | i + 1, hi, j, g => by
    have ih := tr_fs t h0 i (by omega) j g
    have h := tr_step t (show i < ops.size by omega)
    have noop : (¬ ∃ res, kind i = .op res g ∧ g ≠ .none) → ((j < i ∧ g ≠ .none ∧ ∃ res, kind j = .op res g) ↔ (j < i + 1 ∧ g ≠ .none ∧ ∃ res, kind j = .op res g)) := by
      intro hn
      constructor
      · rintro ⟨h1, h2, h3⟩; exact ⟨by omega, h2, h3⟩
      · rintro ⟨h1, h2, h3⟩
        refine ⟨?_, h2, h3⟩
        by_cases e : j = i
        · subst e; obtain ⟨res, hr⟩ := h3; exact absurd ⟨res, hr, h2⟩ hn
        · omega
    cases hk : kind i with
    | skip =>
      rw [hk] at h; obtain ⟨_, e⟩ := h; rw [e]
      exact ih.trans (noop (by rintro ⟨res, e, _⟩; rw [hk] at e; cases e))
    | make v ob =>
      rw [hk] at h; obtain ⟨_, _, _, e⟩ := h; rw [e]
      exact ih.trans (noop (by rintro ⟨res, e, _⟩; rw [hk] at e; cases e))
    | op res f =>
      rw [hk] at h; obtain ⟨_, _, _, _, _, e⟩ := h; rw [e]
      show (j, g) ∈ noteFP i f (info i).fs ↔ _
      rw [noteFP_mem, ih]
      constructor
      · rintro (⟨h1, h2, h3⟩ | ⟨rfl, rfl, h3⟩)
        · exact ⟨by omega, h2, h3⟩
        · exact ⟨by omega, h3, res, hk⟩
      · rintro ⟨h1, h2, h3⟩
        by_cases e : j = i
        · subst e
          obtain ⟨res', hr⟩ := h3
          rw [hk] at hr
          simp only [Kind.op.injEq] at hr
          obtain ⟨_, rfl⟩ := hr
          exact .inr ⟨rfl, rfl, h2⟩
        · exact .inl ⟨by omega, h2, h3⟩

theorem tr_q (t : Trace E r ops ms 0 I0 st' info kind) : ∀ i, i ≤ ops.size → (info i).q + makesIn (ops.toList.drop i) ≤ I0.q + makesIn ops.toList ∧ I0.q ≤ (info i).q
  | 0, _ => by rw [t.start]; simp
  | i + 1, hi => by
    obtain ⟨ih1, ih2⟩ := tr_q t i (by omega)
    have hlt : i < ops.size := by omega
    have h := tr_step t hlt
    have hd : ops.toList.drop i = ops[i] :: ops.toList.drop (i + 1) := by
      rw [List.drop_eq_getElem_cons (by simpa using hlt)]; simp
    rw [hd] at ih1
    have hge : makesIn (ops.toList.drop (i + 1)) ≤ makesIn (ops[i] :: ops.toList.drop (i + 1)) := by
      simp only [makesIn]; split <;> omega
    cases hk : kind i with
    | skip => rw [hk] at h; obtain ⟨_, e⟩ := h; rw [e]; exact ⟨by simp only; omega, ih2⟩
    | make v ob =>
      rw [hk] at h; obtain ⟨_, hm, _, e⟩ := h; rw [e]
      simp only [makesIn, hm, if_true] at ih1
      exact ⟨by simp only; omega, by simp only; omega⟩
    | op res f => rw [hk] at h; obtain ⟨_, _, _, _, _, e⟩ := h; rw [e]; exact ⟨by simp only; omega, ih2⟩

theorem tr_q_mono (t : Trace E r ops ms 0 I0 st' info kind) : ∀ (i j : Nat), i ≤ j → j ≤ ops.size → (info i).q ≤ (info j).q
  | i, 0, hij, _ => by have : i = 0 := by omega
                       subst this; exact Nat.le_refl _
  | i, j + 1, hij, hj => by
    rcases Nat.lt_or_ge i (j + 1) with h1 | h1
    · have ih := tr_q_mono t i j (by omega) (by omega)
      have h := tr_step t (show j < ops.size by omega)
      cases hk : kind j with
      | skip => rw [hk] at h; obtain ⟨_, e⟩ := h; rw [e]; exact ih
      | make v ob => rw [hk] at h; obtain ⟨_, _, _, e⟩ := h; rw [e]; exact Nat.le_succ_of_le ih
      | op res f => rw [hk] at h; obtain ⟨_, _, _, _, _, e⟩ := h; rw [e]; exact ih
    · have : i = j + 1 := by omega
      subst this; exact Nat.le_refl _

theorem tr_slot (t : Trace E r ops ms 0 I0 st' info kind) {j : Nat} (hj : j < ops.size) (hm : isMk kind j) : I0.q ≤ (info j).q ∧ (info j).q < I0.q + makesIn ops.toList := by
  have h := tr_step t hj
  obtain ⟨v, ob, hk⟩ := hm
  rw [hk] at h; obtain ⟨_, hm, _, e⟩ := h
  have h1 := tr_q t (j + 1) (by omega)
  rw [e] at h1
  have h2 := (tr_q t j (by omega)).2
  exact ⟨h2, by simp only at h1; omega⟩

theorem tr_slot_lt (t : Trace E r ops ms 0 I0 st' info kind) {i j : Nat} (hij : i < j) (hj : j ≤ ops.size) (hm : isMk kind i) : (info i).q < (info j).q := by
  have h := tr_step t (show i < ops.size by omega)
  obtain ⟨v, ob, hk⟩ := hm
  rw [hk] at h; obtain ⟨_, hm, _, e⟩ := h
  have h1 := tr_q_mono t (i + 1) j (by omega) hj
  rw [e] at h1
  simp only at h1; omega

theorem tr_slot_inj (t : Trace E r ops ms 0 I0 st' info kind) {i j : Nat} (hi : i < ops.size) (hj : j < ops.size) (mi : isMk kind i) (mj : isMk kind j) (he : (info i).q = (info j).q) : i = j := by
  rcases Nat.lt_trichotomy i j with h | h | h
  · have := tr_slot_lt t h (by omega) mi; omega
  · exact h
  · have := tr_slot_lt t h (by omega) mj; omega

theorem tr_hid (t : Trace E r ops ms 0 I0 st' info kind) (h0 : I0.rs = []) {i : Nat} (hi : i ≤ ops.size) {m id : Nat} : hid m (info i).rs id = true ↔ ∃ j, j < i ∧ isMk kind j ∧ (info j).q = id ∧ m.testBit j = false := by
  unfold hid
  rw [List.any_eq_true]
  constructor
  · rintro ⟨⟨j, q⟩, hm, h⟩
    simp only [Bool.and_eq_true, Bool.not_eq_true'] at h
    rw [Nat.beq_eq] at h
    obtain ⟨h1, h2, h3⟩ := (tr_rs t h0 i hi j q).1 hm
    exact ⟨j, h1, h2, by rw [← h3]; exact h.2, h.1⟩
  · rintro ⟨j, h1, h2, h3, h4⟩
    refine ⟨(j, (info j).q), (tr_rs t h0 i hi j _).2 ⟨h1, h2, rfl⟩, ?_⟩
    simp only [h4, Bool.not_false, Bool.true_and]
    rw [Nat.beq_eq]; exact h3
end

/-! ## What operations bring -/

theorem quietFP_kind {T : List AV} {op : Op} {f : FP} (h : quietFP E T op = some f) : f = .none ∨ (∃ b o n, f = .load b o n) ∨ f = .read ∨ f = .call := by
  unfold quietFP at h
  split at h
  · simp only [Option.some.injEq] at h; exact .inl h.symm
  · split at h
    · replace h := bind_some h; obtain ⟨p, _, h⟩ := h
      split at h
      · replace h := bind_some h; obtain ⟨n, _, h⟩ := h
        simp only [Option.some.injEq] at h; exact .inr (.inl ⟨_, _, _, h.symm⟩)
      · simp only [Option.some.injEq] at h; exact .inl h.symm
      · simp only [Option.some.injEq] at h; exact .inl h.symm
      · cases h
    · simp only [Option.some.injEq] at h; exact .inr (.inr (.inl h.symm))
    · simp only [Option.some.injEq] at h; exact .inr (.inr (.inl h.symm))
    · split at h
      · simp only [Option.some.injEq] at h; exact .inr (.inr (.inl h.symm))
      · simp only [Option.some.injEq] at h; exact .inr (.inr (.inr h.symm))
    · simp only [Option.some.injEq] at h; exact .inr (.inr (.inr h.symm))

theorem loudA_inv {hm h' : List AO} {f : FP} (h : loudA hm h' = some f) : ∃ ch, f = .loud ch ∧ changedA 0 hm h' = some ch := by
  unfold loudA at h
  replace h := bind_some h; obtain ⟨ch, hc, h⟩ := h
  simp only [Option.some.injEq] at h
  exact ⟨ch, h.symm, hc⟩

theorem loudFP_kind {T : List AV} {hm h' : List AO} {op : Op} {f : FP} (h : loudFP E T hm h' op = some f) : (∃ b o n, f = .store b o n) ∨ (∃ b, f = .app b) ∨ ∃ ch, f = .loud ch ∧ changedA 0 hm h' = some ch := by
  unfold loudFP at h
  split at h
  · replace h := bind_some h; obtain ⟨p, _, h⟩ := h
    split at h
    · replace h := bind_some h; obtain ⟨n, _, h⟩ := h
      simp only [Option.some.injEq] at h; exact .inl ⟨_, _, _, h.symm⟩
    · cases h
  · replace h := bind_some h; obtain ⟨p, _, h⟩ := h
    split at h
    · simp only [Option.some.injEq] at h; exact .inr (.inl ⟨_, h.symm⟩)
    · cases h
  · replace h := bind_some h; obtain ⟨p, _, h⟩ := h
    split at h
    · simp only [Option.some.injEq] at h; exact .inr (.inl ⟨_, h.symm⟩)
    · cases h
  · split at h
    · split at h
      · replace h := bind_some h; obtain ⟨p, _, h⟩ := h
        split at h
        · simp only [Option.some.injEq] at h; exact .inr (.inl ⟨_, h.symm⟩)
        · simp only [Option.some.injEq] at h; exact .inr (.inl ⟨_, h.symm⟩)
      · exact .inr (.inr (loudA_inv h))
    · exact .inr (.inr (loudA_inv h))
  · exact .inr (.inr (loudA_inv h))

/-- An operation that floats brings a value alone. -/
theorem float_res {T : List AV} {hm : List AO} {op : Op} {res : OpRes} {f : FP} (h : fpOf E T hm op res = some f) (hc : f.isChain = false) : ∃ v, res = .quiet v [] [] ∧ quietFP E T op = some f := by
  unfold fpOf at h
  split at h
  · exact ⟨_, rfl, h⟩
  · simp only [Option.some.injEq] at h; subst h; simp [FP.isChain] at hc
  · obtain ⟨ch, rfl, _⟩ := loudA_inv h; simp [FP.isChain] at hc
  · rcases loudFP_kind h with ⟨b, o, n, rfl⟩ | ⟨b, rfl⟩ | ⟨ch, rfl, _⟩ <;> simp [FP.isChain] at hc

theorem call_res {T : List AV} {hm : List AO} {op : Op} {res : OpRes} (h : fpOf E T hm op res = some .call) : ∃ v new, res = .quiet v new [] := by
  unfold fpOf at h
  split at h
  · exact ⟨_, _, rfl⟩
  · exact ⟨_, _, rfl⟩
  · obtain ⟨ch, e, _⟩ := loudA_inv h; cases e
  · rcases loudFP_kind h with ⟨b, o, n, e⟩ | ⟨b, e⟩ | ⟨ch, e, _⟩ <;> cases e

theorem loud_res {T : List AV} {hm : List AO} {op : Op} {res : OpRes} {f : FP} (h : fpOf E T hm op res = some f) (hf : (∃ b o n, f = .store b o n) ∨ ∃ b, f = .app b) : ∃ v h' ds, res = .loud v h' ds ∧ loudFP E T hm h' op = some f := by
  unfold fpOf at h
  split at h
  · rcases quietFP_kind h with rfl | ⟨b, o, n, rfl⟩ | rfl | rfl <;> rcases hf with ⟨_, _, _, e⟩ | ⟨_, e⟩ <;> cases e
  · simp only [Option.some.injEq] at h; subst h; rcases hf with ⟨_, _, _, e⟩ | ⟨_, e⟩ <;> cases e
  · obtain ⟨ch, rfl, _⟩ := loudA_inv h; rcases hf with ⟨_, _, _, e⟩ | ⟨_, e⟩ <;> cases e
  · exact ⟨_, _, _, rfl, h⟩

theorem loud_changed {T : List AV} {hm : List AO} {op : Op} {res : OpRes} {ch : List Nat} (h : fpOf E T hm op res = some (.loud ch)) : changedA 0 hm (resH hm res) = some ch := by
  unfold fpOf at h
  split at h
  · rcases quietFP_kind h with e | ⟨b, o, n, e⟩ | e | e <;> cases e
  · cases h
  · obtain ⟨ch', e, h'⟩ := loudA_inv h; cases e; exact h'
  · rcases loudFP_kind h with ⟨b, o, n, e⟩ | ⟨b, e⟩ | ⟨ch', e, h'⟩ <;> cases e
    exact h'

def RowAt (h : List AO) (b o n : Nat) (ds : List AV) : Prop := ∃ e cs ex se, h[b]? = some (.row e cs ex se) ∧ slice? cs o n = some ds

theorem RowAt.congr {h h' : List AO} {b o n : Nat} {ds : List AV} (e : h'[b]? = h[b]?) : RowAt h b o n ds ↔ RowAt h' b o n ds := by
  unfold RowAt; rw [e]

theorem slice?_same {cs cs' : List AV} {o n : Nat} (hl : cs'.length = cs.length) (hg : ∀ i, o ≤ i → i < o + n → cs'[i]? = cs[i]?) : slice? cs' o n = slice? cs o n := by
  unfold slice?
  rw [hl]
  split
  · congr 1
    refine List.ext_getElem? fun i => ?_
    by_cases hi : i < n
    · rw [List.getElem?_take_of_lt hi, List.getElem?_take_of_lt hi, List.getElem?_drop, List.getElem?_drop]
      exact hg _ (by omega) (by omega)
    · rw [List.getElem?_eq_none (by simp; omega), List.getElem?_eq_none (by simp; omega)]
  · rfl

theorem wr_effect {h h' : List AO} {b' o' : Nat} {vs : List AV} (hw : wr h (.ptr b' o') vs = some h') : h'.length = h.length ∧ ∀ b o n ds, apartC b o n b' o' vs.length = true → (RowAt h b o n ds ↔ RowAt h' b o n ds) := by
  simp only [wr] at hw
  · split at hw
    · rename_i e cs ex ho
      split at hw
      · rename_i hc
        simp only [Bool.and_eq_true, Nat.ble_eq] at hc
        simp only [Option.some.injEq] at hw
        subst hw
        refine ⟨by simp, fun b o n ds hap => ?_⟩
        by_cases hb : b = b'
        · subst hb
          have hlt := (List.getElem?_eq_some_iff.1 ho).1
          have hr : o + n ≤ o' ∨ o' + vs.length ≤ o := by
            simp only [apartC, Bool.or_eq_true, Nat.ble_eq, Bool.not_eq_true'] at hap
            rcases hap with (h1 | h1) | h1
            · have : Nat.beq b b = true := by rw [Nat.beq_eq]
              rw [this] at h1; cases h1
            · exact .inl h1
            · exact .inr h1
          have hs : slice? (setMany cs o' vs) o n = slice? cs o n := slice?_same (setMany_length _ _ _) fun i h1 h2 => by
            rw [setMany_get _ _ _ _ hc.1, if_neg (by omega)]
          constructor
          · rintro ⟨e2, cs2, ex2, se2, h1, h2⟩
            rw [ho] at h1; cases h1
            exact ⟨_, _, _, _, List.getElem?_set_self hlt, by rw [hs]; exact h2⟩
          · rintro ⟨e2, cs2, ex2, se2, h1, h2⟩
            rw [List.getElem?_set_self hlt] at h1; cases h1
            exact ⟨_, _, _, _, ho, by rw [← hs]; exact h2⟩
        · exact RowAt.congr (by rw [List.getElem?_set_ne (Ne.symm hb)])
      · cases hw
    · cases hw

theorem builtin_append_inv {h : List AO} {ts : List TypeId} {args : List AV} {res : OpRes} (hb : builtinA E h .append ts args = some res) : ∃ t u s x v h', ts = [t, u] ∧ args = [s, x] ∧ appendA E h t s x = some (v, h') ∧ res = .loud v h' [] := by
  unfold builtinA at hb
  split at hb <;> try contradiction
  split at hb
  · replace hb := bind_some hb; obtain ⟨⟨v, h'⟩, hv, hb⟩ := hb
    simp only [Option.some.injEq] at hb
    exact ⟨_, _, _, _, v, h', rfl, rfl, hv, hb.symm⟩
  · cases hb

theorem lenA_free {h1 h2 : List AO} {t : TypeId} {x : AV} (hf : isMapAV x = false) : lenA E h2 t x = lenA E h1 t x := by
  simp only [lenA]
  congr 1
  funext i
  generalize i.desc = d
  cases x <;> first | (simp [isMapAV] at hf; done) | (cases d <;> rfl)

theorem builtin_len_inv {h : List AO} {ts : List TypeId} {args : List AV} {res : OpRes} (hb : builtinA E h .len ts args = some res) : ∃ t x v, ts = [t] ∧ args = [x] ∧ lenA E h t x = some v ∧ res = .quiet v [] [] := by
  unfold builtinA at hb
  split at hb <;> try contradiction
  replace hb := bind_some hb; obtain ⟨v, hv, hb⟩ := hb
  simp only [Option.some.injEq] at hb
  exact ⟨_, _, v, rfl, rfl, hv, hb.symm⟩

theorem maxmin_free (h1 : List AO) {h2 : List AO} {ts : List TypeId} {args : List AV} : builtinA E h1 .max ts args = builtinA E h2 .max ts args := by
  cases args with
  | nil => cases ts <;> rfl
  | cons x xs => cases ts with
    | nil => rfl
    | cons t ts => cases ts <;> cases xs <;> rfl
theorem minmax_free (h1 : List AO) {h2 : List AO} {ts : List TypeId} {args : List AV} : builtinA E h1 .min ts args = builtinA E h2 .min ts args := by
  cases args with
  | nil => cases ts <;> rfl
  | cons x xs => cases ts with
    | nil => rfl
    | cons t ts => cases ts <;> cases xs <;> rfl

theorem append_effect {h h' : List AO} {t : TypeId} {s x v : AV} (ha : appendA E h t s x = some (v, h')) : h.length ≤ h'.length ∧ ∀ id, id < h.length → (∀ b o n c, s = .sl b o n c → id ≠ b) → h'[id]? = h[id]? := by
  simp only [appendA] at ha
  replace ha := bind_some ha; obtain ⟨e, he, ha⟩ := ha
  replace ha := bind_some ha; obtain ⟨i, hi, ha⟩ := ha
  replace ha := bind_some ha; obtain ⟨z, hz, ha⟩ := ha
  split at ha
  case isFalse => cases ha
  replace ha := bind_some ha; obtain ⟨⟨m, new⟩, hrow, ha⟩ := ha
  simp only at ha
  split at ha
  · have : h' = h := by
      split at ha <;> first | (simp only [Option.some.injEq, Prod.mk.injEq] at ha; exact ha.2.symm) | cases ha
    subst this
    exact ⟨Nat.le_refl _, fun _ _ _ => rfl⟩
  · split at ha
    case isFalse => cases ha
    have new1 : ∀ (k : AV) (x : AO), some (k, h ++ [x]) = some (v, h') → h.length ≤ h'.length ∧ ∀ id, id < h.length → (∀ b o n c, s = .sl b o n c → id ≠ b) → h'[id]? = h[id]? := by
      intro k x e
      simp only [Option.some.injEq, Prod.mk.injEq] at e
      obtain ⟨_, rfl⟩ := e
      exact ⟨by simp, fun id hid _ => List.getElem?_append_left hid⟩
    split at ha
    · split at ha
      · exact new1 _ _ ha
      · cases ha
    · split at ha
      · exact new1 _ _ ha
      · cases ha
    · rename_i b o n c
      have set1 : ∀ (k : AV) (x : AO), some (k, h.set b x) = some (v, h') → h.length ≤ h'.length ∧ ∀ id, id < h.length → (∀ b' o' n' c', AV.sl b o n c = .sl b' o' n' c' → id ≠ b') → h'[id]? = h[id]? := by
        intro k x e
        simp only [Option.some.injEq, Prod.mk.injEq] at e
        obtain ⟨_, rfl⟩ := e
        exact ⟨by simp, fun id hid hne => List.getElem?_set_ne (Ne.symm (hne _ _ _ _ rfl))⟩
      split at ha
      case h_2 => cases ha
      split at ha
      case isFalse => cases ha
      replace ha := bind_some ha; obtain ⟨old, hold, ha⟩ := ha
      split at ha
      · split at ha
        · split at ha
          · exact set1 _ _ ha
          · cases ha
        · split at ha
          · exact new1 _ _ ha
          · cases ha
      · split at ha
        · exact set1 _ _ ha
        · split at ha
          · simp only [Option.some.injEq, Prod.mk.injEq] at ha
            obtain ⟨_, rfl⟩ := ha
            refine ⟨by simp, fun id hid hne => ?_⟩
            rw [List.getElem?_append_left (by simpa using hid), List.getElem?_set_ne (Ne.symm (hne _ _ _ _ rfl))]
          · cases ha
    · cases ha

theorem mapUpdate_effect {h h' : List AO} {t : TypeId} {b : Nat} {k v : AV} (hm : mapUpdateA E h t (.map b) k v = some h') : h'.length = h.length ∧ ∀ id, id ≠ b → h'[id]? = h[id]? := by
  simp only [mapUpdateA] at hm
  replace hm := bind_some hm; obtain ⟨⟨kt, et⟩, _, hm⟩ := hm
  replace hm := bind_some hm; obtain ⟨_, _, hm⟩ := hm
  split at hm
  · replace hm := bind_some hm; obtain ⟨⟨es, c⟩, _, hm⟩ := hm
    simp only [Option.some.injEq] at hm
    subst hm
    exact ⟨by simp, fun id hid => List.getElem?_set_ne (Ne.symm hid)⟩
  · cases hm

/-- What an operation that stands in no order with a load leaves alone. -/
theorem effect {o : Oper} {T : List AV} {hm : List AO} {res : OpRes} {f : FP} {b0 o0 n0 : Nat} (ho : opA E r o T hm = some res) (hf : fpOf E T hm o.op res = some f) (hfit : f.fits (.load b0 o0 n0) = true) :
    hm.length ≤ (resH hm res).length ∧ ∀ ds, b0 < hm.length → (RowAt hm b0 o0 n0 ds ↔ RowAt (resH hm res) b0 o0 n0 ds) := by
  by_cases hc : f.isChain = true
  · cases f with
    | none => simp [FP.isChain] at hc
    | load _ _ _ => simp [FP.isChain] at hc
    | read => simp [FP.isChain] at hc
    | loud ch =>
      have hb : memN b0 ch = false := by simpa [FP.fits] using hfit
      obtain ⟨k1, k2⟩ := changedA_spec (loud_changed hf)
      exact ⟨k1, fun ds hlt => RowAt.congr (k2 b0 hlt (by simpa using hb))⟩
    | call =>
      obtain ⟨v, new, rfl⟩ := call_res hf
      simp only [resH, sealAll, joinH_eq]
      exact ⟨by simp, fun ds hb => RowAt.congr (List.getElem?_append_left hb)⟩
    | store b' o' n' =>
      obtain ⟨v, h', ds, rfl, hl⟩ := loud_res hf (.inl ⟨_, _, _, rfl⟩)
      simp only [resH]
      have hap : apartC b0 o0 n0 b' o' n' = true := hfit
      unfold loudFP at hl
      split at hl
      · rename_i t a x hop
        replace hl := bind_some hl; obtain ⟨p, hp, hl⟩ := hl
        split at hl
        · replace hl := bind_some hl; obtain ⟨i, hi, hl⟩ := hl
          simp only [Option.some.injEq, FP.store.injEq] at hl
          obtain ⟨rfl, rfl, rfl⟩ := hl
          simp only [opA, hop] at ho
          obtain ⟨y, hy, e⟩ := unit_res ho
          simp only [OpRes.loud.injEq] at e
          obtain ⟨_, rfl, _⟩ := e
          rw [hp] at hy
          replace hy := bind_some hy; obtain ⟨p2, e, hy⟩ := hy
          cases e
          replace hy := bind_some hy; obtain ⟨xv, hx, hy⟩ := hy
          simp only [storeT] at hy
          replace hy := bind_some hy; obtain ⟨i2, hi2, hy⟩ := hy
          rw [hi] at hi2; cases hi2
          split at hy
          · rename_i hlen
            rw [Nat.beq_eq] at hlen
            obtain ⟨h1, h2⟩ := wr_effect hy
            exact ⟨by omega, fun ds _ => h2 _ _ _ ds (by rw [hlen]; exact hap)⟩
          · cases hy
        · cases hl
      · replace hl := bind_some hl; obtain ⟨p, hp, hl⟩ := hl
        split at hl <;> simp at hl
      · replace hl := bind_some hl; obtain ⟨p, hp, hl⟩ := hl
        split at hl <;> simp at hl
      · split at hl
        · split at hl
          · replace hl := bind_some hl; obtain ⟨p, hp, hl⟩ := hl
            split at hl <;> simp at hl
          · obtain ⟨ch, e, _⟩ := loudA_inv hl; cases e
        · obtain ⟨ch, e, _⟩ := loudA_inv hl; cases e
      · obtain ⟨ch, e, _⟩ := loudA_inv hl; cases e
    | app b' =>
      obtain ⟨v, h', ds, rfl, hl⟩ := loud_res hf (.inr ⟨_, rfl⟩)
      simp only [resH]
      have hne : b0 ≠ b' := by
        simp only [FP.fits, Bool.not_eq_true'] at hfit
        intro e
        have : Nat.beq b0 b' = true := by rw [Nat.beq_eq]; exact e
        rw [this] at hfit; cases hfit
      unfold loudFP at hl
      split at hl
      · replace hl := bind_some hl; obtain ⟨p, hp, hl⟩ := hl
        split at hl
        · replace hl := bind_some hl; obtain ⟨i, hi, hl⟩ := hl; simp at hl
        · cases hl
      · rename_i t m k x hop
        replace hl := bind_some hl; obtain ⟨p, hp, hl⟩ := hl
        split at hl
        · simp only [Option.some.injEq, FP.app.injEq] at hl
          subst hl
          simp only [opA, hop] at ho
          obtain ⟨y, hy, e⟩ := unit_res ho
          simp only [OpRes.loud.injEq] at e
          obtain ⟨_, rfl, _⟩ := e
          rw [hp] at hy
          replace hy := bind_some hy; obtain ⟨p2, e, hy⟩ := hy
          cases e
          replace hy := bind_some hy; obtain ⟨kv, _, hy⟩ := hy
          replace hy := bind_some hy; obtain ⟨xv, _, hy⟩ := hy
          obtain ⟨h1, h2⟩ := mapUpdate_effect hy
          exact ⟨by omega, fun ds _ => RowAt.congr (h2 _ hne)⟩
        · cases hl
      · rename_i t m k x hop
        replace hl := bind_some hl; obtain ⟨p, hp, hl⟩ := hl
        split at hl
        · simp only [Option.some.injEq, FP.app.injEq] at hl
          subst hl
          simp only [opA, hop] at ho
          obtain ⟨y, hy, e⟩ := unit_res ho
          simp only [OpRes.loud.injEq] at e
          obtain ⟨_, rfl, _⟩ := e
          rw [hp] at hy
          replace hy := bind_some hy; obtain ⟨p2, e, hy⟩ := hy
          cases e
          replace hy := bind_some hy; obtain ⟨kv, _, hy⟩ := hy
          replace hy := bind_some hy; obtain ⟨xv, _, hy⟩ := hy
          obtain ⟨h1, h2⟩ := mapUpdate_effect hy
          exact ⟨by omega, fun ds _ => RowAt.congr (h2 _ hne)⟩
        · cases hl
      · rename_i c hop
        split at hl
        · rename_i hcal
          split at hl
          · rename_i s rest hargs
            replace hl := bind_some hl; obtain ⟨sv, hs, hl⟩ := hl
            simp only [opA, hop, hcal, hargs, evs] at ho
            replace ho := bind_some ho; obtain ⟨args, hev, ho⟩ := ho
            rw [hs] at hev
            replace hev := bind_some hev; obtain ⟨sv', e, hev⟩ := hev
            cases e
            replace hev := bind_some hev; obtain ⟨rv, hrv, hev⟩ := hev
            simp only [Option.some.injEq] at hev
            subst hev
            obtain ⟨t, u, s', x, v2, h2, _, e, happ, e2⟩ := builtin_append_inv ho
            simp only [List.cons.injEq] at e
            obtain ⟨rfl, _⟩ := e
            simp only [OpRes.loud.injEq] at e2
            obtain ⟨_, rfl, _⟩ := e2
            obtain ⟨k1, k2⟩ := append_effect happ
            refine ⟨k1, fun ds hb => RowAt.congr (k2 b0 hb ?_)⟩
            rintro b o n c rfl
            simp only [Option.some.injEq, FP.app.injEq] at hl
            rw [hl]; exact hne
          · obtain ⟨ch, e, _⟩ := loudA_inv hl; cases e
        · obtain ⟨ch, e, _⟩ := loudA_inv hl; cases e
      · obtain ⟨ch, e, _⟩ := loudA_inv hl; cases e
  · obtain ⟨v, rfl, _⟩ := float_res hf (by simpa using hc)
    exact ⟨Nat.le_refl _, fun _ _ => Iff.rfl⟩

/-- An operation that reads no own object answers the same on every heap. -/
theorem free_opA {o : Oper} {T : List AV} (hf : isFreeAt T o.op = true) (h1 h2 : List AO) : ∀ v, opA E r o T h1 = some (.quiet v [] []) → opA E r o T h2 = some (.quiet v [] []) := by
  intro v ho
  unfold isFreeAt at hf
  simp only [Bool.or_eq_true] at hf
  cases hop : o.op with
  | call c =>
    rw [hop] at hf
    simp only [isFree, Bool.false_eq_true, false_or] at hf
    simp only [opA, hop] at ho ⊢
    split at hf
    · rename_i hcal
      split at hf
      · rename_i x hx
        simp only [hcal, hx, Option.bind_some] at ho ⊢
        obtain ⟨t, y, u, h1', h2', h3, h4⟩ := builtin_len_inv ho
        simp only [List.cons.injEq, and_true] at h2'
        subst h2'
        simp only [OpRes.quiet.injEq, and_true] at h4
        subst h4
        have : lenA E h2 t x = lenA E h1 t x := lenA_free (by simpa using hf)
        rw [h1']
        simp only [builtinA, this, h3, Option.bind_some]
      · cases hf
    · rename_i hcal
      simp only [hcal] at ho ⊢
      replace ho := bind_some ho; obtain ⟨args, ha, ho⟩ := ho
      simp only [ha, Option.bind_some]
      rw [maxmin_free h1] at ho
      exact ho
    · rename_i hcal
      simp only [hcal] at ho ⊢
      replace ho := bind_some ho; obtain ⟨args, ha, ho⟩ := ho
      simp only [ha, Option.bind_some]
      rw [minmax_free h1] at ho
      exact ho
    · cases hf
  | move _ => simpa only [opA, hop] using ho
  | assign _ => simpa only [opA, hop] using ho
  | pick _ _ _ => simpa only [opA, hop] using ho
  | build _ _ => simpa only [opA, hop] using ho
  | nilCheck _ => simpa only [opA, hop] using ho
  | binOp _ _ _ _ _ => simpa only [opA, hop] using ho
  | unOp _ _ _ => simpa only [opA, hop] using ho
  | convert _ _ _ => simpa only [opA, hop] using ho
  | makeFunc _ _ _ => simpa only [opA, hop] using ho
  | fieldAddr _ _ _ => simpa only [opA, hop] using ho
  | field _ _ _ => simpa only [opA, hop] using ho
  | indexAddr _ _ _ => simpa only [opA, hop] using ho
  | index _ _ _ => simpa only [opA, hop] using ho
  | extract _ _ => simpa only [opA, hop] using ho
  | _ => rw [hop] at hf; simp [isFree] at hf

/-- A load answers the same where its cells are the same. -/
theorem load_opA {o : Oper} {T : List AV} {t : TypeId} {a : Operand} {p v : AV} {h1 h2 : List AO} {n : Nat} (hop : o.op = .load t a) (hp : ev T a = some p) (hn : sizeT E t = some n) (hrd : ∀ ds, rd E h1 p n = some ds → rd E h2 p n = some ds)
    (ho : opA E r o T h1 = some (.quiet v [] [])) : opA E r o T h2 = some (.quiet v [] []) := by
  simp only [opA, hop, hp, Option.bind_some] at ho ⊢
  obtain ⟨x, hx, e⟩ := val_res ho
  simp only [OpRes.quiet.injEq, and_true] at e
  subst e
  simp only [loadT] at hx
  replace hx := bind_some hx; obtain ⟨i, hi, hx⟩ := hx
  simp only [sizeT, hi, Option.bind_some, Option.some.injEq] at hn
  simp only [loadT, hi, Option.bind_some]
  split at hx
  · rename_i hagg
    rw [if_pos hagg] at hn ⊢
    replace hx := bind_some hx; obtain ⟨cs, hcs, hx⟩ := hx
    rw [← hn] at hrd
    rw [hrd _ hcs]
    simp only [Option.some.injEq] at hx
    subst hx
    rfl
  · rename_i hagg
    rw [if_neg hagg] at hn ⊢
    replace hx := bind_some hx; obtain ⟨cs, hcs, hx⟩ := hx
    rw [← hn] at hrd
    rw [hrd _ hcs]
    simp only [Option.bind_some, hx]
    rfl

end
end Go.Te
