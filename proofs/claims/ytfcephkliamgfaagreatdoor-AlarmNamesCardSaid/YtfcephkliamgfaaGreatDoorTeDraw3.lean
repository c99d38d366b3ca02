/- TE: a region that draws its order: whatever the order, the end is that of the text's order. -/
import Derived.Test.YtfcephkliamgfaaGreatDoorTeDraw2
namespace Go.Te
open Go

section
variable {E : Env} {P : Program} {B0 : Nat}

theorem list_of (n : Nat) (f : Nat → AO) : ∃ l : List AO, l.length = n ∧ ∀ id, l[id]? = if id < n then some (f id) else none :=
  ⟨(List.range n).map f, by simp, fun id => by
    by_cases h : id < n
    · simp [h]
    · simp [h]⟩

theorem next_chain (p : Nat → Prop) [DecidablePred p] (N : Nat) : ∀ (d k : Nat), k + d = N → ∃ y, k ≤ y ∧ y ≤ N ∧ (∀ i, k ≤ i → i < y → ¬ p i) ∧ (y < N → p y)
  | 0, k, h => ⟨k, Nat.le_refl _, by omega, by omega, by omega⟩
  | d + 1, k, h => by
    by_cases hp : p k
    · exact ⟨k, Nat.le_refl _, by omega, by omega, fun _ => hp⟩
    · obtain ⟨y, h1, h2, h3, h4⟩ := next_chain p N d (k + 1) (by omega)
      refine ⟨y, by omega, h2, fun i hi hiy => ?_, h4⟩
      by_cases e : i = k
      · subst e; exact hp
      · exact h3 i (by omega) hiy

/-- An own place is filled, long behind the beginning. -/
theorem Ev.then_fill {h0 h : List AO} {σ0 σ : Sg} {μ0 μ : Mu} {w0 w : World} {id : Nat} {a : AO} {o : Obj} {p : Pl} (ev : Ev h0 σ0 μ0 w0 h σ μ w) (hμ : μ id = none) (hid : h0.length ≤ id) (hp : p.blk = w.heap.size) :
    Ev h0 σ0 μ0 w0 (h.set id a) σ (Mu.put μ id p) (w.alloc o) where
  sg := ev.sg
  sgnew := ev.sgnew
  mu := Mu.le_trans ev.mu (Mu.le_put hμ)
  ids := fun k q hq => by
    by_cases e : k = id
    · exact .inr (by omega)
    · rw [Mu.put_ne e] at hq; exact ev.ids k q hq
  len := by simp; exact ev.len
  own := by
    rintro b ⟨k, x, q, h1, h2, h3, h4⟩
    by_cases e : k = id
    · subst e; rw [Mu.put_self] at h3; cases h3
      exact .inr (by rw [← h4, hp]; exact ev.size)
    · rw [List.getElem?_set_ne (Ne.symm e)] at h1
      rw [Mu.put_ne e] at h3
      exact ev.own b ⟨k, x, q, h1, h2, h3, h4⟩
  os := ev.os
  tape := ev.tape
  output := ev.output
  size := by rw [heap_alloc_size]; have := ev.size; omega
  keep := fun b hb hn => by rw [heap_alloc_lt w o (by have := ev.size; omega)]; exact ev.keep b hb hn

section
variable {r : Rec} {ops : Array Oper} {ms : List Nat} {I0 : Info} {st' : St} {info : Nat → Info} {kind : Nat → Kind}

abbrev HH (info : Nat → Info) (i : Nat) : List AO := (info i).st.heap
abbrev SL (info : Nat → Info) (j : Nat) : Nat := (info j).q

section

/-- Where nothing but makes and floating operations lie between. -/
theorem between (t : Trace E r ops ms 0 I0 st' info kind) (x : Nat) : ∀ x', x ≤ x' → x' ≤ ops.size → (∀ i, x ≤ i → i < x' → ¬ isChain kind i) →
    (HH info x').length = (HH info x).length ∧ (info x').st.defers = (info x).st.defers ∧
    (∀ id, (∀ j, x ≤ j → j < x' → isMk kind j → SL info j ≠ id) → (HH info x')[id]? = (HH info x)[id]?) ∧
    (∀ j, x ≤ j → j < x' → isMk kind j → SL info j < (HH info x).length → (HH info x')[SL info j]? = some (obOf kind j))
  | 0, hx, _, _ => by
    have : x = 0 := by omega
    subst this
    exact ⟨rfl, rfl, fun _ _ => rfl, fun j h1 h2 => by omega⟩
  | x' + 1, hx, hN, hno => by
    by_cases e : x = x' + 1
    · subst e
      exact ⟨rfl, rfl, fun _ _ => rfl, fun j h1 h2 => by omega⟩
    · obtain ⟨i1, i2, i3, i4⟩ := between t x x' (by omega) (by omega) (fun i h1 h2 => hno i h1 (by omega))
      have h := tr_step t (show x' < ops.size by omega)
      cases hk : kind x' with
      | skip =>
        rw [hk] at h; obtain ⟨_, e'⟩ := h
        have hh : HH info (x' + 1) = HH info x' := by simp only [HH, e', St.skip]
        have hd : (info (x' + 1)).st.defers = (info x').st.defers := by rw [e']; rfl
        rw [hh, hd]
        refine ⟨i1, i2, fun id hid => i3 id (fun j h1 h2 => hid j h1 (by omega)), fun j h1 h2 hm => ?_⟩
        refine i4 j h1 ?_ hm
        by_cases e2 : j = x'
        · subst e2; obtain ⟨v, ob, hm⟩ := hm; rw [hk] at hm; cases hm
        · omega
      | make v ob =>
        rw [hk] at h; obtain ⟨_, _, _, e'⟩ := h
        have hh : HH info (x' + 1) = (HH info x').set (SL info x') ob := by simp only [HH, SL, e']
        have hd : (info (x' + 1)).st.defers = (info x').st.defers := by rw [e']
        rw [hh, hd]
        refine ⟨by simp [i1], i2, fun id hid => ?_, fun j h1 h2 hm hl => ?_⟩
        · rw [List.getElem?_set_ne (hid x' (by omega) (by omega) ⟨v, ob, hk⟩)]
          exact i3 id (fun j h1 h2 => hid j h1 (by omega))
        · by_cases e2 : j = x'
          · subst e2
            rw [List.getElem?_set_self (by omega)]
            simp [obOf, hk]
          · have hlt := tr_slot_lt t (show j < x' by omega) (by omega) hm
            rw [List.getElem?_set_ne (by simp only [SL]; omega)]
            exact i4 j h1 (by omega) hm hl
      | op res f =>
        rw [hk] at h; obtain ⟨_, _, hf, _, _, e'⟩ := h
        have hc : f.isChain = false := by
          cases hc : f.isChain with
          | false => rfl
          | true => exact absurd ⟨res, f, hk, hc⟩ (hno x' (by omega) (by omega))
        obtain ⟨v, rfl, _⟩ := float_res hf hc
        have hh : HH info (x' + 1) = HH info x' := by
          simp only [HH, e', resH, sealAll, joinH]; exact backH_maskH _ _ _
        have hd : (info (x' + 1)).st.defers = (info x').st.defers := by rw [e']; rfl
        rw [hh, hd]
        refine ⟨i1, i2, fun id hid => i3 id (fun j h1 h2 => hid j h1 (by omega)), fun j h1 h2 hm => ?_⟩
        refine i4 j h1 ?_ hm
        by_cases e2 : j = x'
        · subst e2; obtain ⟨v, ob, hm⟩ := hm; rw [hk] at hm; cases hm
        · omega

/-- What is behind an operation, place by place. -/
theorem op_heap (t : Trace E r ops ms 0 I0 st' info kind) (h0 : I0.rs = []) {k : Nat} {res : OpRes} {f : FP} (hk : k < ops.size) (hkd : kind k = .op res f) : (HH info (k + 1)).length = (resH (maskH (ms.getD k 0) (info k).rs (HH info k)) res).length ∧
    (∀ id, hid (ms.getD k 0) (info k).rs id = false → (HH info (k + 1))[id]? = (resH (maskH (ms.getD k 0) (info k).rs (HH info k)) res)[id]?) ∧
    (∀ id, hid (ms.getD k 0) (info k).rs id = true → id < (resH (maskH (ms.getD k 0) (info k).rs (HH info k)) res).length → (HH info (k + 1))[id]? = some ((HH info k).getD id .dead)) := by
  have h := tr_step t hk
  rw [hkd] at h
  obtain ⟨_, _, _, _, _, e'⟩ := h
  have hh : HH info (k + 1) = backH (ms.getD k 0) (HH info k) (info k).rs (resH (maskH (ms.getD k 0) (info k).rs (HH info k)) res) := by simp only [HH, e']
  rw [hh]
  refine ⟨backH_length _ _, fun id hi => by rw [backH_get, hi]; rfl, fun id hi hl => ?_⟩
  rw [backH_get, hi, List.getElem?_eq_getElem hl]
  rfl

/-- A row's cells that a chain operation leaves alone. -/
theorem row_step (t : Trace E r ops ms 0 I0 st' info kind) (h0 : I0.rs = []) {i b o n : Nat} (hi : i < ops.size) (hfit : ∀ res f, kind i = .op res f → f.fits (.load b o n) = true) (hslot : isMk kind i → SL info i ≠ b) :
    (HH info i).length ≤ (HH info (i + 1)).length ∧ ∀ ds, b < (HH info i).length → (RowAt (HH info i) b o n ds ↔ RowAt (HH info (i + 1)) b o n ds) := by
  have h := tr_step t hi
  cases hk : kind i with
  | skip =>
    rw [hk] at h; obtain ⟨_, e'⟩ := h
    have hh : HH info (i + 1) = HH info i := by simp only [HH, e', St.skip]
    rw [hh]; exact ⟨Nat.le_refl _, fun _ _ => Iff.rfl⟩
  | make v ob =>
    rw [hk] at h; obtain ⟨_, _, _, e'⟩ := h
    have hh : HH info (i + 1) = (HH info i).set (SL info i) ob := by simp only [HH, SL, e']
    rw [hh]
    exact ⟨by simp, fun ds _ => RowAt.congr (List.getElem?_set_ne (hslot ⟨v, ob, hk⟩))⟩
  | op res f =>
    rw [hk] at h; obtain ⟨_, ho, hf, _, _, _⟩ := h
    have hml : (maskH (ms.getD i 0) (info i).rs (HH info i)).length = (HH info i).length := maskH_length _ _
    obtain ⟨g1, g2⟩ := effect ho hf (hfit res f hk)
    replace g1 : (maskH (ms.getD i 0) (info i).rs (HH info i)).length ≤ (resH (maskH (ms.getD i 0) (info i).rs (HH info i)) res).length := g1
    obtain ⟨l1, l2, l3⟩ := op_heap t h0 hi hk
    refine ⟨by rw [l1]; omega, fun ds hb => ?_⟩
    by_cases hh : hid (ms.getD i 0) (info i).rs b = true
    · have e3 := l3 b hh (by omega)
      refine RowAt.congr ?_
      rw [e3, List.getD_eq_getElem?_getD, List.getElem?_eq_getElem hb]; rfl
    · have hh' : hid (ms.getD i 0) (info i).rs b = false := by simpa using hh
      have e1 : RowAt (HH info i) b o n ds ↔ RowAt (maskH (ms.getD i 0) (info i).rs (HH info i)) b o n ds := RowAt.congr (by rw [maskH_get, hh']; rfl)
      have e2 : RowAt (resH (maskH (ms.getD i 0) (info i).rs (HH info i)) res) b o n ds ↔ RowAt (HH info (i + 1)) b o n ds := RowAt.congr (l2 b hh')
      exact e1.trans ((g2 ds (by have h5 := hml; simp only [HH] at hb h5; omega)).trans e2)

theorem row_steps (t : Trace E r ops ms 0 I0 st' info kind) (h0 : I0.rs = []) {b o n : Nat} (x : Nat) : ∀ x', x ≤ x' → x' ≤ ops.size → (∀ i, x ≤ i → i < x' → (∀ res f, kind i = .op res f → f.fits (.load b o n) = true) ∧ (isMk kind i → SL info i ≠ b)) →
    (HH info x).length ≤ (HH info x').length ∧ ∀ ds, b < (HH info x).length → (RowAt (HH info x) b o n ds ↔ RowAt (HH info x') b o n ds)
  | 0, hx, _, _ => by
    have : x = 0 := by omega
    subst this
    exact ⟨Nat.le_refl _, fun _ _ => Iff.rfl⟩
  | x' + 1, hx, hN, hall => by
    by_cases e : x = x' + 1
    · subst e; exact ⟨Nat.le_refl _, fun _ _ => Iff.rfl⟩
    · obtain ⟨i1, i2⟩ := row_steps t h0 x x' (by omega) (by omega) (fun i h1 h2 => hall i h1 (by omega))
      obtain ⟨a1, a2⟩ := hall x' (by omega) (by omega)
      obtain ⟨j1, j2⟩ := row_step t h0 (show x' < ops.size by omega) a1 a2
      exact ⟨by omega, fun ds hb => (i2 ds hb).trans (j2 ds (by omega))⟩

/-- Two operations of which one must not come before the other. -/
theorem fits_of (t : Trace E r ops ms 0 I0 st' info kind) (hf0 : I0.fs = []) {i j : Nat} {res1 res2 : OpRes} {f g : FP} (hij : i < j) (hj : j < ops.size) (hi : kind i = .op res1 f) (hjk : kind j = .op res2 g) (hm : (ms.getD j 0).testBit i = false) : g.fits f = true := by
  by_cases hn : f = .none
  · subst hn; cases g <;> rfl
  · have h := tr_step t hj
    rw [hjk] at h
    obtain ⟨_, _, _, hfit, _, _⟩ := h
    have hmem : (i, f) ∈ (info j).fs := (tr_fs t hf0 j (by omega) i f).2 ⟨hij, hn, res1, hi⟩
    rcases fitsAll_spec _ hfit i f hmem with h1 | h1
    · rw [hm] at h1; cases h1
    · exact h1
end

def Closed (ops : Array Oper) (ms : List Nat) (S : Nat → Bool) : Prop := ∀ i, i < ops.size → S i = true → ∀ j, (ms.getD i 0).testBit j = true → S j = true

/-- The state when the operations of S have been done, in whatever order. -/
structure Inv (E : Env) (B0 : Nat) (ops : Array Oper) (h0 : List AO) (T0 : List AV) (info : Nat → Info) (kind : Nat → Kind) (S : Nat → Bool) (σ0 : Sg) (μ0 : Mu) (w0 : World) (σ : Sg) (μ : Mu) (h : List AO) (y : Nat) (a : Act) (w : World) : Prop where
  yle : y ≤ ops.size
  ylo : ∀ i, i < y → isChain kind i → S i = true
  yhi : ∀ i, y ≤ i → i < ops.size → isChain kind i → S i = false
  yat : y < ops.size → isChain kind y
  mono : ∀ i, i < y → (HH info i).length ≤ (HH info (i + 1)).length
  unf : ∀ i, i ≤ y → ∀ j, i ≤ j → j < ops.size → isMk kind j → (HH info i)[SL info j]? = some .dead
  wr : WR E B0 σ μ h w
  len : h.length = (HH info y).length
  g1 : ∀ id, (∀ j, j < ops.size → isMk kind j → SL info j ≠ id) → h[id]? = (HH info y)[id]?
  g2 : ∀ j, j < ops.size → isMk kind j → S j = true → j < y → h[SL info j]? = (HH info y)[SL info j]?
  g3 : ∀ j, j < ops.size → isMk kind j → S j = true → y ≤ j → h[SL info j]? = some (obOf kind j)
  g4 : ∀ j, j < ops.size → isMk kind j → S j = false → h[SL info j]? = some .dead ∧ μ (SL info j) = none
  tm : VA E B0 σ μ (tv T0 (fun j => (kind j).val) (dstOf ops) S ops.size) a.tmps
  df : DR E B0 σ μ (info y).st.defers a.defers
  ev : Ev h0 σ0 μ0 w0 h σ μ w

section
variable {h0 : List AO} {σ0 : Sg} {μ0 : Mu} {w0 : World}

theorem Inv.hmono {T0 : List AV} {S : Nat → Bool} {σ : Sg} {μ : Mu} {h : List AO} {y : Nat} {a : Act} {w : World} (I : Inv E B0 ops h0 T0 info kind S σ0 μ0 w0 σ μ h y a w) : ∀ (i j : Nat), i ≤ j → j ≤ y → (HH info i).length ≤ (HH info j).length
  | i, 0, hij, _ => by have : i = 0 := by omega
                       subst this; exact Nat.le_refl _
  | i, j + 1, hij, hj => by
    by_cases e : i = j + 1
    · subst e; exact Nat.le_refl _
    · exact Nat.le_trans (I.hmono i j (by omega) (by omega)) (I.mono j (by omega))


/-- A filled place that no chain operation so far may see. -/
theorem slot_keep (p : Plan ops ms) (t : Trace E r ops ms 0 I0 st' info kind) (hrs : I0.rs = []) (hfs : I0.fs = []) {S : Nat → Bool} {σ : Sg} {μ : Mu} {h : List AO} {y : Nat} {a : Act} {w : World} (I : Inv E B0 ops h0 I0.st.tmps info kind S σ0 μ0 w0 σ μ h y a w) (hcl : Closed ops ms S) {k : Nat} (hk : isMk kind k) (hS : S k = false) :
    ∀ i, k < i → i ≤ y → (HH info i)[SL info k]? = some (obOf kind k)
  | 0, h1, _ => by omega
  | i + 1, h1, h2 => by
    have hyN := I.yle
    have hlt : i < ops.size := by omega
    have hst := tr_step t hlt
    have hsl : SL info k < (HH info i).length := by
      have e0 := I.unf 0 (Nat.zero_le _) k (Nat.zero_le _) (by omega) hk
      have := (List.getElem?_eq_some_iff.1 e0).1
      have := I.hmono 0 i (Nat.zero_le _) (by omega)
      omega
    by_cases e : i = k
    · subst e
      obtain ⟨v, ob, hkk⟩ := hk
      rw [hkk] at hst; obtain ⟨_, _, _, e'⟩ := hst
      have hh : HH info (i + 1) = (HH info i).set (SL info i) ob := by simp only [HH, SL, e']
      rw [hh, List.getElem?_set_self hsl]; simp [obOf, hkk]
    · have ih := slot_keep p t hrs hfs I hcl hk hS i (by omega) (by omega)
      cases hki : kind i with
      | skip =>
        rw [hki] at hst; obtain ⟨_, e'⟩ := hst
        have hh : HH info (i + 1) = HH info i := by simp only [HH, e', St.skip]
        rw [hh]; exact ih
      | make v ob =>
        rw [hki] at hst; obtain ⟨_, _, _, e'⟩ := hst
        have hh : HH info (i + 1) = (HH info i).set (SL info i) ob := by simp only [HH, SL, e']
        have hne : SL info i ≠ SL info k := fun e2 => e (tr_slot_inj t hlt (by omega) ⟨v, ob, hki⟩ hk e2)
        rw [hh, List.getElem?_set_ne hne]; exact ih
      | op res f =>
        obtain ⟨l1, l2, l3⟩ := op_heap t hrs hlt hki
        by_cases hc : f.isChain = true
        · have hSi := I.ylo i (by omega) ⟨res, f, hki, hc⟩
          have hbit : (ms.getD i 0).testBit k = false := by
            cases hb : (ms.getD i 0).testBit k with
            | false => rfl
            | true => have := hcl i hlt hSi k hb; rw [hS] at this; cases this
          have hh : hid (ms.getD i 0) (info i).rs (SL info k) = true := (tr_hid t hrs (by omega)).2 ⟨k, by omega, hk, rfl, hbit⟩
          have hml := I.mono i (by omega)
          rw [l3 _ hh (by rw [← l1]; omega)]
          rw [List.getD_eq_getElem?_getD, ih]; rfl
        · obtain ⟨b1, b2, b3, b4⟩ := between t i (i + 1) (by omega) (by omega) (fun j h3 h4 => by
            have : j = i := by omega
            subst this
            rintro ⟨res', f', e1, e2⟩
            rw [hki] at e1; cases e1; exact hc e2)
          rw [b3 _ (fun j h3 h4 hm => by
            have : j = i := by omega
            subst this
            obtain ⟨v, ob, hm⟩ := hm; rw [hki] at hm; cases hm)]
          exact ih

/-- Before an operation that looks at the heap: what it may see. -/
theorem seen_heap (p : Plan ops ms) (t : Trace E r ops ms 0 I0 st' info kind) (hrs : I0.rs = []) (hfs : I0.fs = []) {S : Nat → Bool} {σ : Sg} {μ : Mu} {h : List AO} {y : Nat} {a : Act} {w : World} (I : Inv E B0 ops h0 I0.st.tmps info kind S σ0 μ0 w0 σ μ h y a w) {k : Nat} (hky : k ≤ y)
    (hm : ∀ j, (ms.getD k 0).testBit j = true → S j = true) (hno : ∀ i, k ≤ i → i < y → ¬ isChain kind i) :
    (maskH (ms.getD k 0) (info k).rs (HH info k)).length = h.length ∧ ∀ id : Nat, (maskH (ms.getD k 0) (info k).rs (HH info k))[id]? = h[id]? ∨ (maskH (ms.getD k 0) (info k).rs (HH info k))[id]? = some AO.dead := by
  have hyN := I.yle
  obtain ⟨b1, b2, b3, b4⟩ := between t k y hky hyN hno
  have hl : (maskH (ms.getD k 0) (info k).rs (HH info k)).length = h.length := by rw [maskH_length, I.len, b1]
  refine ⟨hl, fun id => ?_⟩
  rw [maskH_get]
  by_cases hh : hid (ms.getD k 0) (info k).rs id = true
  · rw [if_pos hh]
    by_cases hlt : id < (HH info k).length
    · right; rw [List.getElem?_eq_getElem hlt]; rfl
    · left
      have e1 : (HH info k)[id]? = none := List.getElem?_eq_none (by omega)
      have e2 : h[id]? = none := List.getElem?_eq_none (by rw [I.len, b1]; omega)
      rw [e1, e2]; rfl
  · rw [if_neg hh]
    by_cases hs : ∃ j, j < ops.size ∧ isMk kind j ∧ SL info j = id
    · obtain ⟨j, hj, hmk, rfl⟩ := hs
      by_cases hjk : j < k
      · have hbit : (ms.getD k 0).testBit j = true := by
          cases hb : (ms.getD k 0).testBit j with
          | true => rfl
          | false => exact absurd ((tr_hid t hrs (by omega)).2 ⟨j, hjk, hmk, rfl, hb⟩) hh
        left
        rw [I.g2 j hj hmk (hm j hbit) (by omega), b3 _ (fun i h1 h2 hmi e => by
          have := tr_slot_inj t (by omega) hj hmi hmk e
          omega)]
      · right
        exact I.unf k hky j (by omega) hj hmk
    · left
      rw [I.g1 id (fun j hj hmk e => hs ⟨j, hj, hmk, e⟩), b3 id (fun j h1 h2 hmk e => hs ⟨j, by omega, hmk, e⟩)]

/-- What the operands read. -/
theorem look_same (p : Plan ops ms) (t : Trace E r ops ms 0 I0 st' info kind) (hrs : I0.rs = []) (hfs : I0.fs = []) {S : Nat → Bool} (hcl : Closed ops ms S) {k : Nat} (hk : k < ops.size) (hS : S k = false) (hm : ∀ j, (ms.getD k 0).testBit j = true → S j = true) {tt : Tmp} (ht : tt ∈ looksA ops ops[k]) :
    (tv I0.st.tmps (fun j => (kind j).val) (dstOf ops) S ops.size)[tt]? = (info k).st.tmps[tt]? := by
  rw [tr_tmps t k (by omega)]
  refine tv_agree _ _ _ _ _ tt _ _ fun i => ?_
  have clash : ∀ i, i < ops.size → dstOf ops i = some tt → i ≠ k → (i < k ∧ (ms.getD k 0).testBit i = true) ∨ (k < i ∧ (ms.getD i 0).testBit k = true) := by
    intro i hi hd hne
    have hdi : ops[i].dst = some tt := by simpa [dstOf, Array.getElem?_eq_getElem hi] using hd
    rcases Nat.lt_or_ge i k with h1 | h1
    · left
      refine ⟨h1, ?_⟩
      cases hb : (ms.getD k 0).testBit i with
      | true => rfl
      | false =>
        have := p.free k i _ _ (Array.getElem?_eq_getElem hk) (Array.getElem?_eq_getElem hi) h1 hb
        simp [clashA, hdi, ht] at this
    · right
      have h2 : k < i := by omega
      refine ⟨h2, ?_⟩
      cases hb : (ms.getD i 0).testBit k with
      | true => rfl
      | false =>
        have := p.free i k _ _ (Array.getElem?_eq_getElem hi) (Array.getElem?_eq_getElem hk) h2 hb
        simp [clashA, hdi, ht] at this
  constructor
  · rintro ⟨h1, h2, h3⟩
    have hne : i ≠ k := by rintro rfl; rw [hS] at h2; cases h2
    rcases clash i h1 h3 hne with ⟨g1, _⟩ | ⟨_, g2⟩
    · exact ⟨g1, rfl, h3⟩
    · have := hcl i h1 h2 k g2
      rw [hS] at this; cases this
  · rintro ⟨h1, _, h3⟩
    rcases clash i (by omega) h3 (by omega) with ⟨_, g2⟩ | ⟨g1, _⟩
    · exact ⟨by omega, hm i g2, h3⟩
    · omega

/-- Nobody ahead in S writes behind. -/
theorem no_later (p : Plan ops ms) {S : Nat → Bool} (hcl : Closed ops ms S) {k : Nat} (hk : k < ops.size) (hS : S k = false) : ∀ tt, dstOf ops k = some tt → ∀ i, k < i → i < ops.size → ¬ (S i = true ∧ dstOf ops i = some tt) := by
  rintro tt hd i h1 h2 ⟨h3, h4⟩
  have hdk : ops[k].dst = some tt := by simpa [dstOf, Array.getElem?_eq_getElem hk] using hd
  have hdi : ops[i].dst = some tt := by simpa [dstOf, Array.getElem?_eq_getElem h2] using h4
  cases hb : (ms.getD i 0).testBit k with
  | true => have := hcl i h2 h3 k hb; rw [hS] at this; cases this
  | false =>
    have := p.free i k _ _ (Array.getElem?_eq_getElem h2) (Array.getElem?_eq_getElem hk) h1 hb
    have hb' : Nat.beq tt tt = true := by rw [Nat.beq_eq]
    simp [clashA, hdi, hdk, hb'] at this

end
end
end
end Go.Te
