/- TE: a region that draws its order: each step, and the end. -/
import Derived.Test.YtfcephkliamgfaaGreatDoorTeDraw3
namespace Go.Te
open Go

section
variable {E : Env} {P : Program} {B0 : Nat} {r : Rec} {ops : Array Oper} {ms : List Nat} {I0 : Info} {st' : St} {info : Nat → Info} {kind : Nat → Kind}
variable {h0 : List AO} {σ0 : Sg} {μ0 : Mu} {w0 : World}

def addS (S : Nat → Bool) (k : Nat) : Nat → Bool := fun i => S i || i == k
theorem addS_self (S : Nat → Bool) (k : Nat) : addS S k k = true := by simp [addS]
theorem addS_ne {S : Nat → Bool} {k i : Nat} (h : i ≠ k) : addS S k i = S i := by simp [addS, h]
theorem addS_of {S : Nat → Bool} {k i : Nat} (h : S i = true) : addS S k i = true := by simp [addS, h]
theorem addS_false {S : Nat → Bool} {k i : Nat} (h : addS S k i = false) : S i = false ∧ i ≠ k := by
  simp only [addS, Bool.or_eq_false_iff, beq_eq_false_iff_ne] at h; exact h

theorem makeA_live {k : Nat} {T : List AV} {o : Op} {v : AV} {ob : AO} (h : makeA E k T o = some (v, ob)) : ob.live = true := by
  unfold makeA at h
  split at h
  · obtain ⟨z, _, h⟩ := bind_some h
    simp only [Option.some.injEq, Prod.mk.injEq] at h; obtain ⟨_, rfl⟩ := h; rfl
  · obtain ⟨z, _, h⟩ := bind_some h
    simp only [Option.some.injEq, Prod.mk.injEq] at h; obtain ⟨_, rfl⟩ := h; rfl
  · obtain ⟨ps, _, h⟩ := bind_some h
    simp only [buildSliceA] at h
    obtain ⟨e, _, h⟩ := bind_some h
    obtain ⟨i, _, h⟩ := bind_some h
    obtain ⟨z, _, h⟩ := bind_some h
    split at h
    · obtain ⟨cs, _, h⟩ := bind_some h
      simp only [Option.some.injEq, Prod.mk.injEq] at h; obtain ⟨_, rfl⟩ := h; rfl
    · cases h
  · simp only [Option.some.injEq, Prod.mk.injEq] at h; obtain ⟨_, rfl⟩ := h; rfl
  · obtain ⟨l, _, h⟩ := bind_some h
    obtain ⟨c, _, h⟩ := bind_some h
    simp only [makeSliceA] at h
    obtain ⟨e, _, h⟩ := bind_some h
    obtain ⟨i, _, h⟩ := bind_some h
    obtain ⟨z, _, h⟩ := bind_some h
    obtain ⟨l', _, h⟩ := bind_some h
    obtain ⟨c', _, h⟩ := bind_some h
    split at h
    · split at h
      · simp only [Option.some.injEq, Prod.mk.injEq] at h; obtain ⟨_, rfl⟩ := h; rfl
      · cases h
    · cases h
  · cases h

theorem mem_looks {o : Oper} {x : Tmp} (h : Operand.tmp x ∈ o.op.operands.toList) : x ∈ looksA ops o := by
  unfold looksA
  refine List.mem_append_left _ ?_
  generalize o.op.operands.toList = l at h
  induction l with
  | nil => cases h
  | cons y ys ih =>
    simp only [tmpsOf]
    rcases List.mem_cons.1 h with rfl | h
    · simp [tmpOf]
    · exact List.mem_append_right _ (ih h)

theorem ev_same {T T' : List AV} {o : Oper} (h : ∀ t ∈ looksA ops o, T'[t]? = T[t]?) {x : Operand} (hx : x ∈ o.op.operands.toList) : ev T x = ev T' x := by
  cases x with
  | tmp t => simp only [ev, List.getD_eq_getElem?_getD, h t (mem_looks hx)]
  | _ => rfl

theorem wanted_same {T T' : List AV} {o : Oper} (h : ∀ t ∈ looksA ops o, T'[t]? = T[t]?) : Region.wanted o (yieldedA ops T) = Region.wanted o (yieldedA ops T') := by
  unfold Region.wanted
  cases hg : o.guard with
  | none => rfl
  | some g =>
    obtain ⟨j, b⟩ := g
    simp only
    congr 1
    unfold yieldedA
    cases hd : (ops[j]?).bind (·.dst) with
    | none => rfl
    | some d =>
      have : d ∈ looksA ops o := by
        unfold looksA
        refine List.mem_append_right _ ?_
        simp [hg, hd]
      simp only [Option.bind_some, h d this]

section

/-- One more operation, whichever comes. -/
theorem inv_step (OK : EnvAll E P) (R : RecOk E B0 P r) (p : Plan ops ms) (t : Trace E r ops ms 0 I0 st' info kind) (hrs : I0.rs = []) (hfs : I0.fs = []) (hq : h0.length ≤ I0.q) {F : Fence} {Q : Exit → Act → World → Prop} {S : Nat → Bool} {σ : Sg} {μ : Mu} {h : List AO} {y : Nat} {a : Act} {w : World} (hF : FenceIs μ0 I0.st.round F) (I : Inv E B0 ops h0 I0.st.tmps info kind S σ0 μ0 w0 σ μ h y a w)
    (hcl : Closed ops ms S) {k : Nat} (hk : k < ops.size) (hS : S k = false) (hm : ∀ j, (ms.getD k 0).testBit j = true → S j = true) :
    wpOpIn F 0 P ops Q k (fun a' w' => ∃ σ' μ' h' y', Inv E B0 ops h0 I0.st.tmps info kind (addS S k) σ0 μ0 w0 σ' μ' h' y' a' w') a w := by
  classical
  have hFμ : FenceIs μ I0.st.round F := hF.mono I.ev.mu
  have hst := tr_step t hk
  have hsame : ∀ tt ∈ looksA ops ops[k], (tv I0.st.tmps (fun j => (kind j).val) (dstOf ops) S ops.size)[tt]? = (info k).st.tmps[tt]? := fun tt htt => look_same p t hrs hfs hcl hk hS hm htt
  have hw : Region.wanted ops[k] (yielded ops a.tmps) = Region.wanted ops[k] (yieldedA ops (info k).st.tmps) := by
    rw [wanted_same (T' := tv I0.st.tmps (fun j => (kind j).val) (dstOf ops) S ops.size) (fun tt htt => hsame tt htt)]
    congr 1
    exact (funext fun j => yielded_sound I.tm j).symm
  have hops : ∀ {σ' : Sg} {μ' : Mu}, Sg.le σ σ' → Mu.le μ μ' → OpsR E B0 σ' μ' (info k).st.tmps a ops[k].op.operands.toList := by
    intro σ' μ' hσ hμ x hx v hv
    rw [ev_same (T' := tv I0.st.tmps (fun j => (kind j).val) (dstOf ops) S ops.size) (fun tt htt => hsame tt htt) hx] at hv
    exact VR.mono hσ hμ _ _ (ev_sound I.tm hv)
  have hdst : dstOf ops k = ops[k].dst := by simp [dstOf, Array.getElem?_eq_getElem hk]
  -- the temporaries behind it
  have htm : ∀ {σ' : Sg} {μ' : Mu} {u : Value} {ds : List Deferred}, Sg.le σ σ' → Mu.le μ μ' → VR E B0 σ' μ' (kind k).val u →
      VA E B0 σ' μ' (tv I0.st.tmps (fun j => (kind j).val) (dstOf ops) (addS S k) ops.size) (({ a with defers := ds ++ a.defers } : Act).put ops[k].dst u).tmps := by
    intro σ' μ' u ds hσ hμ hv
    rw [tv_put I0.st.tmps (fun j => (kind j).val) (dstOf ops) S (addS S k) k ops.size hk (fun i => rfl) (no_later p hcl hk hS), hdst]
    exact put_sound (a := { a with defers := ds ++ a.defers }) (I.tm.mono hσ hμ) hv _
  unfold wpOpIn
  rw [Array.getElem?_eq_getElem hk]
  simp only
  rw [hw]
  -- an operation that is no chain operation leaves 'y' where it is
  have yy : ¬ isChain kind k → (∀ i, i < y → isChain kind i → addS S k i = true) ∧ (∀ i, y ≤ i → i < ops.size → isChain kind i → addS S k i = false) := by
    intro hnc
    refine ⟨fun i hi hc => addS_of (I.ylo i hi hc), fun i hi hN hc => ?_⟩
    have hik : i ≠ k := by rintro rfl; exact hnc hc
    rw [addS_ne hik]
    exact I.yhi i hi hN hc
  cases hkd : kind k with
  | skip =>
    rw [hkd] at hst
    obtain ⟨hwant, _⟩ := hst
    rw [if_neg (by rw [hwant]; simp)]
    have hnc : ¬ isChain kind k := by rintro ⟨_, _, e, _⟩; rw [hkd] at e; cases e
    have hnm : ¬ isMk kind k := by rintro ⟨_, _, e⟩; rw [hkd] at e; cases e
    refine ⟨fun f _ => hFμ.all.1 f, σ, μ, h, y, I.yle, (yy hnc).1, (yy hnc).2, I.yat, I.mono, I.unf, I.wr, I.len, I.g1, fun j hj hmk hs hjy => ?_, fun j hj hmk hs hjy => ?_, fun j hj hmk hs => ?_, ?_, by rw [put_defers]; exact I.df, I.ev⟩
    · have hjk : j ≠ k := fun e => hnm (e ▸ hmk)
      rw [addS_ne hjk] at hs; exact I.g2 j hj hmk hs hjy
    · have hjk : j ≠ k := fun e => hnm (e ▸ hmk)
      rw [addS_ne hjk] at hs; exact I.g3 j hj hmk hs hjy
    · exact I.g4 j hj hmk (addS_false hs).1
    · have := htm (ds := []) (Sg.le_refl _) (Mu.le_refl _) (u := undef) (by rw [hkd]; exact VR_undef)
      simpa using this
  | make v ob =>
    rw [hkd] at hst
    obtain ⟨hwant, hmk0, hmk1, _⟩ := hst
    rw [if_pos hwant]
    have hnc : ¬ isChain kind k := by rintro ⟨_, _, e, _⟩; rw [hkd] at e; cases e
    have hmkk : isMk kind k := ⟨v, ob, hkd⟩
    have hob : obOf kind k = ob := by simp [obOf, hkd]
    obtain ⟨hdead, hμ0⟩ := I.g4 k hk hmkk hS
    have hsl : SL info k < h.length := (List.getElem?_eq_some_iff.1 hdead).1
    obtain ⟨s, he, hmade, hnd⟩ := makeA_ok (a := a) OK.toEnvOk2 I.wr hμ0 (hops (Sg.le_refl _) (Mu.le_refl _)) hmk1
    obtain ⟨u, obj, pl, m1, m2, m3, m4, m5⟩ := hmade
    refine wpIn_of_value (y := u) (w' := w.alloc obj) hFμ.all.1 (by rw [Oper.semAt_eq _ _ _ hnd, he]; simp [m1]) ?_
    have hle : Mu.le μ (Mu.put μ (SL info k) pl) := Mu.le_put hμ0
    refine ⟨σ, Mu.put μ (SL info k) pl, h.set (SL info k) ob, y, I.yle, (yy hnc).1, (yy hnc).2, I.yat, I.mono, I.unf, I.wr.place m2 hdead hμ0 m4, by simp [I.len], fun id hid => ?_, fun j hj hmk hs hjy => ?_, fun j hj hmk hs hjy => ?_, fun j hj hmk hs => ?_, ?_,
      by rw [put_defers]; exact I.df.mono (Sg.le_refl _) hle, ?_⟩
    · rw [List.getElem?_set_ne (hid k hk hmkk)]; exact I.g1 id hid
    · by_cases hjk : j = k
      · subst hjk
        rw [List.getElem?_set_self hsl, slot_keep p t hrs hfs I hcl hmkk hS y hjy (Nat.le_refl _), hob]
      · rw [addS_ne hjk] at hs
        rw [List.getElem?_set_ne (fun e => hjk (tr_slot_inj t hk hj hmkk hmk e).symm)]
        exact I.g2 j hj hmk hs hjy
    · by_cases hjk : j = k
      · subst hjk
        rw [List.getElem?_set_self hsl, hob]
      · rw [addS_ne hjk] at hs
        rw [List.getElem?_set_ne (fun e => hjk (tr_slot_inj t hk hj hmkk hmk e).symm)]
        exact I.g3 j hj hmk hs hjy
    · obtain ⟨h1, hjk⟩ := addS_false hs
      have hne : SL info k ≠ SL info j := fun e => hjk (tr_slot_inj t hk hj hmkk hmk e).symm
      rw [List.getElem?_set_ne hne, Mu.put_ne (Ne.symm hne)]
      exact I.g4 j hj hmk h1
    · have := htm (ds := []) (Sg.le_refl _) hle (u := u) (by rw [hkd]; exact m3)
      simpa using this
    · exact I.ev.then_fill hμ0 (Nat.le_trans hq (tr_slot t hk hmkk).1) m2
  | op res f =>
    rw [hkd] at hst
    obtain ⟨hwant, hop, hfp, hfit, hrd, hnext⟩ := hst
    rw [if_pos hwant]
    have hround := tr_round t k (by omega)
    rw [hround] at hrd
    have hnm : ¬ isMk kind k := by rintro ⟨_, _, e⟩; rw [hkd] at e; cases e
    -- order against chain operations
    have ahead : ∀ i, i < k → isChain kind i → f ≠ .none → (∀ b o n, f ≠ .load b o n) → (ms.getD k 0).testBit i = true := by
      rintro i hi ⟨res', g, hg, hgc⟩ hn hl
      cases hb : (ms.getD k 0).testBit i with
      | true => rfl
      | false =>
        have := fits_of t hfs hi hk hg hkd hb
        cases f <;> cases g <;> simp [FP.isChain, FP.fits] at hgc this hn hl
    have behind : ∀ i, k < i → i < ops.size → isChain kind i → f ≠ .none → (∀ b o n, f ≠ .load b o n) → (ms.getD i 0).testBit k = true := by
      rintro i hi hN ⟨res', g, hg, hgc⟩ hn hl
      cases hb : (ms.getD i 0).testBit k with
      | true => rfl
      | false =>
        have := fits_of t hfs hi hN hkd hg hb
        cases f <;> cases g <;> simp [FP.isChain, FP.fits] at hgc this hn hl
    by_cases hc : f.isChain = true
    · -- a chain operation: y is here
      have hch : isChain kind k := ⟨res, f, hkd, hc⟩
      have hfn : f ≠ .none := by rintro rfl; simp [FP.isChain] at hc
      have hfl : ∀ b o n, f ≠ .load b o n := by rintro b o n rfl; simp [FP.isChain] at hc
      have hyk : y = k := by
        rcases Nat.lt_trichotomy y k with g | g | g
        · have hyc := I.yat (by omega)
          have := hm y (ahead y g hyc hfn hfl)
          rw [I.yhi y (Nat.le_refl _) (by omega) hyc] at this; cases this
        · exact g
        · have := I.ylo k g hch; rw [hS] at this; cases this
      subst hyk
      obtain ⟨hml, hmd⟩ := seen_heap p t hrs hfs I (Nat.le_refl y) hm (fun i h1 h2 => by omega)
      have Hm := I.wr.forget hml hmd
      refine opA_ok OK R Hm (hops (Sg.le_refl _) (Mu.le_refl _)) hFμ hrd hop ?_
      intro u σ' μ' w' ds H' hv ev hds
      obtain ⟨l1, l2, l3⟩ := op_heap t hrs hk hkd
      have hlen' := ev.len
      -- what is put back
      let back : Nat → Prop := fun id => ∃ j, j < ops.size ∧ isMk kind j ∧ SL info j = id ∧ (ms.getD y 0).testBit j = false
      obtain ⟨h', hl', hg'⟩ := list_of (resH (maskH (ms.getD y 0) (info y).rs (HH info y)) res).length (fun id => if back id then h.getD id .dead else (resH (maskH (ms.getD y 0) (info y).rs (HH info y)) res).getD id .dead)
      have hback : ∀ id, back id → h'[id]? = h[id]? ∧ (maskH (ms.getD y 0) (info y).rs (HH info y))[id]? = some AO.dead := by
        rintro id ⟨j, hj, hmk, rfl, hbit⟩
        have hlt : SL info j < h.length := by
          by_cases hs : S j = true
          · by_cases hjy : j < y
            · have e0 := I.unf 0 (Nat.zero_le _) j (Nat.zero_le _) hj hmk
              have h1 := (List.getElem?_eq_some_iff.1 e0).1
              have h2 := I.hmono 0 y (Nat.zero_le _) (Nat.le_refl _)
              rw [I.len]; omega
            · exact (List.getElem?_eq_some_iff.1 (I.g3 j hj hmk hs (by omega))).1
          · exact (List.getElem?_eq_some_iff.1 (I.g4 j hj hmk (by simpa using hs)).1).1
        refine ⟨?_, ?_⟩
        · rw [hg', if_pos (by omega), if_pos ⟨j, hj, hmk, rfl, hbit⟩, List.getElem?_eq_getElem hlt, List.getD_eq_getElem?_getD, List.getElem?_eq_getElem hlt]; rfl
        · rw [maskH_get]
          by_cases hjy : j < y
          · have hh : hid (ms.getD y 0) (info y).rs (SL info j) = true := (tr_hid t hrs (by omega)).2 ⟨j, hjy, hmk, rfl, hbit⟩
            rw [if_pos hh]
            have : SL info j < (HH info y).length := by rw [← I.len]; exact hlt
            rw [List.getElem?_eq_getElem this]; rfl
          · rw [I.unf y (Nat.le_refl _) j (by omega) hj hmk]
            split <;> rfl
      have hnback : ∀ id, ¬ back id → h'[id]? = (resH (maskH (ms.getD y 0) (info y).rs (HH info y)) res)[id]? := by
        intro id hb
        by_cases hlt : id < (resH (maskH (ms.getD y 0) (info y).rs (HH info y)) res).length
        · rw [hg', if_pos hlt, if_neg hb, List.getD_eq_getElem?_getD, List.getElem?_eq_getElem hlt]; rfl
        · rw [hg', if_neg hlt, List.getElem?_eq_none (by omega)]
      obtain ⟨Hr, Er⟩ := I.wr.restore hml hmd H' ev hl' (fun id => by
        by_cases hb : back id
        · exact .inr ⟨(hback id hb).2, (hback id hb).1⟩
        · exact .inl (hnback id hb))
      -- where the next chain operation stands
      obtain ⟨y', n1, n2, n3, n4⟩ := next_chain (isChain kind) ops.size (ops.size - (y + 1)) (y + 1) (by omega)
      obtain ⟨b1, b2, b3, b4⟩ := between t (y + 1) y' n1 n2 n3
      have hslot : ∀ j, j < ops.size → isMk kind j → SL info j < (HH info y).length := by
        intro j hj hmk
        have e0 := I.unf 0 (Nat.zero_le _) j (Nat.zero_le _) hj hmk
        have h1 := (List.getElem?_eq_some_iff.1 e0).1
        have h2 := I.hmono 0 y (Nat.zero_le _) (Nat.le_refl _)
        omega
      have hgrow : (HH info y).length ≤ (HH info (y + 1)).length := by
        rw [l1]
        have : (maskH (ms.getD y 0) (info y).rs (HH info y)).length = (HH info y).length := maskH_length _ _
        omega
      have hmono' : ∀ i, i < y' → (HH info i).length ≤ (HH info (i + 1)).length := by
        intro i hi
        rcases Nat.lt_trichotomy i y with g | g | g
        · exact I.mono i g
        · subst g; exact hgrow
        · obtain ⟨c1, _⟩ := between t i (i + 1) (by omega) (by omega) (fun j h1 h2 => n3 j (by omega) (by omega))
          omega
      have hunfk : ∀ j, y + 1 ≤ j → j < ops.size → isMk kind j → (HH info (y + 1))[SL info j]? = some .dead := by
        intro j h1 hj hmk
        have hnh : hid (ms.getD y 0) (info y).rs (SL info j) = false := by
          cases hh : hid (ms.getD y 0) (info y).rs (SL info j) with
          | false => rfl
          | true =>
            obtain ⟨i, hi, hmi, he, _⟩ := (tr_hid t hrs (by omega)).1 hh
            have := tr_slot_inj t (by omega) hj hmi hmk he
            omega
        rw [l2 _ hnh]
        -- nothing lives in a place that is not filled
        have hmdead : (maskH (ms.getD y 0) (info y).rs (HH info y))[SL info j]? = some .dead := by
          rw [maskH_get, hnh]; exact I.unf y (Nat.le_refl _) j (by omega) hj hmk
        have hltr : SL info j < (resH (maskH (ms.getD y 0) (info y).rs (HH info y)) res).length := by
          have := hslot j hj hmk
          rw [← l1]; omega
        rw [List.getElem?_eq_getElem hltr]
        generalize hx : (resH (maskH (ms.getD y 0) (info y).rs (HH info y)) res)[SL info j] = x
        have hx' : (resH (maskH (ms.getD y 0) (info y).rs (HH info y)) res)[SL info j]? = some x := by rw [List.getElem?_eq_getElem hltr, hx]
        by_cases hlive : x.live = true
        · exfalso
          obtain ⟨pl, hpl, _⟩ := (H'.objs _ x hx').place hlive
          rcases ev.ids _ _ hpl with g | g
          · by_cases hs : S j = true
            · have hob := I.g3 j hj hmk hs (by omega)
              -- the real object has that block
              have hlb : (obOf kind j).live = true := by
                obtain ⟨v, ob, hkj⟩ := hmk
                have hstj := tr_step t hj
                rw [hkj] at hstj
                obtain ⟨_, _, hmj, _⟩ := hstj
                simp only [obOf, hkj]
                exact makeA_live hmj
              have hown : Own (resH (maskH (ms.getD y 0) (info y).rs (HH info y)) res) μ' pl.blk := ⟨_, x, pl, hx', hlive, hpl, rfl⟩
              rcases ev.own _ hown with ⟨id, o, q, e1, e2, e3, e4⟩ | g2
              · rcases hmd id with e | e
                · have := I.wr.inj id (SL info j) o _ q pl (e ▸ e1) hob e2 hlb e3 g e4
                  subst this
                  rw [hmdead] at e1; cases e1; simp [AO.live] at e2
                · rw [e] at e1; cases e1; simp [AO.live] at e2
              · have := I.wr.lt _ _ g; omega
            · have := (I.g4 j hj hmk (by simpa using hs)).2
              rw [this] at g; cases g
          · rw [maskH_length] at g
            have := hslot j hj hmk
            omega
        · cases x <;> first | rfl | (simp [AO.live] at hlive)
      have hnb : ∀ id, (∀ j, j < ops.size → isMk kind j → SL info j ≠ id) → ¬ back id := by
        rintro id hid ⟨j, hj, hmk, e, _⟩; exact hid j hj hmk e
      have hnh : ∀ id, ¬ back id → hid (ms.getD y 0) (info y).rs id = false := by
        intro id hb
        cases hh : hid (ms.getD y 0) (info y).rs id with
        | false => rfl
        | true =>
          obtain ⟨j, hj, hmk, e, hbit⟩ := (tr_hid t hrs (by omega)).1 hh
          exact absurd ⟨j, by omega, hmk, e, hbit⟩ hb
      have hd : (info y').st.defers = resD res ++ (info y).st.defers := by rw [b2, hnext]
      refine ⟨σ', μ', h', y', n2, fun i hi hci => ?_, fun i hi hN hci => ?_, n4, hmono', fun i hi j hij hj hmk => ?_, Hr, by rw [hl', b1, l1], fun id hidn => ?_, fun j hj hmk hs hjy => ?_, fun j hj hmk hs hjy => ?_, fun j hj hmk hs => ?_, ?_, ?_, ?_⟩
      · rcases Nat.lt_trichotomy i y with g | g | g
        · exact addS_of (I.ylo i g hci)
        · subst g; exact addS_self _ _
        · exact absurd hci (n3 i (by omega) hi)
      · rw [addS_ne (by omega)]; exact I.yhi i (by omega) hN hci
      · rcases Nat.lt_or_ge i (y + 1) with g | g
        · exact I.unf i (by omega) j hij hj hmk
        · obtain ⟨c1, c2, c3, c4⟩ := between t (y + 1) i g (by omega) (fun i' h1 h2 => n3 i' h1 (by omega))
          rw [c3 _ (fun i' h1 h2 hmi e => by have := tr_slot_inj t (by omega) hj hmi hmk e; omega)]
          exact hunfk j (by omega) hj hmk
      · rw [hnback id (hnb id hidn), b3 id (fun j h1 h2 hmk => hidn j (by omega) hmk), l2 id (hnh id (hnb id hidn))]
      · have hjn : j ≠ y := fun e => hnm (e ▸ hmk)
        rw [addS_ne hjn] at hs
        cases hbit : (ms.getD y 0).testBit j with
        | true =>
          have hjy' := p.lt y j hbit
          have hb : ¬ back (SL info j) := by
            rintro ⟨i, hi, hmi, e, hbi⟩
            have := tr_slot_inj t hi hj hmi hmk e
            subst this
            rw [hbit] at hbi; cases hbi
          rw [hnback _ hb, b3 _ (fun i h1 h2 hmi e => by have := tr_slot_inj t (by omega) hj hmi hmk e; omega), l2 _ (hnh _ hb)]
        | false =>
          have hb : back (SL info j) := ⟨j, hj, hmk, rfl, hbit⟩
          rw [(hback _ hb).1]
          by_cases hjy' : j < y
          · rw [I.g2 j hj hmk hs hjy', b3 _ (fun i h1 h2 hmi e => by have := tr_slot_inj t (by omega) hj hmi hmk e; omega)]
            have hh : hid (ms.getD y 0) (info y).rs (SL info j) = true := (tr_hid t hrs (by omega)).2 ⟨j, hjy', hmk, rfl, hbit⟩
            have hsl := hslot j hj hmk
            rw [l3 _ hh (by rw [← l1]; omega), List.getElem?_eq_getElem hsl, List.getD_eq_getElem?_getD, List.getElem?_eq_getElem hsl]; rfl
          · rw [I.g3 j hj hmk hs (by omega), b4 j (by omega) hjy hmk (by have := hslot j hj hmk; omega)]
      · have hjn : j ≠ y := by omega
        rw [addS_ne hjn] at hs
        have hbit : (ms.getD y 0).testBit j = false := by
          cases hb : (ms.getD y 0).testBit j with
          | false => rfl
          | true => have := p.lt y j hb; omega
        rw [(hback _ ⟨j, hj, hmk, rfl, hbit⟩).1]
        exact I.g3 j hj hmk hs (by omega)
      · obtain ⟨hs1, hjn⟩ := addS_false hs
        have hbit : (ms.getD y 0).testBit j = false := by
          cases hb : (ms.getD y 0).testBit j with
          | false => rfl
          | true => have := hm j hb; rw [hs1] at this; cases this
        obtain ⟨e1, e2⟩ := I.g4 j hj hmk hs1
        refine ⟨by rw [(hback _ ⟨j, hj, hmk, rfl, hbit⟩).1]; exact e1, ?_⟩
        cases hμj : μ' (SL info j) with
        | none => rfl
        | some q =>
          rcases ev.ids _ _ hμj with g | g
          · rw [e2] at g; cases g
          · rw [maskH_length] at g; have := hslot j hj hmk; omega
      · exact htm (ds := ds) Er.sg Er.mu (u := u) (by rw [hkd]; exact hv)
      · rw [put_defers, hd]; exact DR.append hds (I.df.mono Er.sg Er.mu)
      · exact I.ev.trans Er
    · -- an operation that floats
      have hcf : f.isChain = false := by simpa using hc
      have hnc : ¬ isChain kind k := by
        rintro ⟨_, _, e, e2⟩
        rw [hkd] at e; cases e; exact hc e2
      obtain ⟨v, rfl, hqf⟩ := float_res hfp hcf
      -- what stays
      have fin : ∀ (σ' : Sg) (μ' : Mu) (u : Value) (w' : World) (ds : List Deferred), WR E B0 σ' μ' h w' → VR E B0 σ' μ' v u → Ev h σ μ w h σ' μ' w' → DR E B0 σ' μ' [] ds →
          ∃ σ' μ' h' y', Inv E B0 ops h0 I0.st.tmps info kind (addS S k) σ0 μ0 w0 σ' μ' h' y' (({ a with defers := ds ++ a.defers } : Act).put ops[k].dst u) w' := by
        intro σ' μ' u w' ds H' hv ev hds
        refine ⟨σ', μ', h, y, I.yle, (yy hnc).1, (yy hnc).2, I.yat, I.mono, I.unf, H', I.len, I.g1, fun j hj hmk hs hjy => ?_, fun j hj hmk hs hjy => ?_, fun j hj hmk hs => ?_, htm (ds := ds) ev.sg ev.mu (by rw [hkd]; exact hv), ?_, I.ev.trans ev⟩
        · rw [addS_ne (by rintro rfl; exact hnm hmk)] at hs; exact I.g2 j hj hmk hs hjy
        · rw [addS_ne (by rintro rfl; exact hnm hmk)] at hs; exact I.g3 j hj hmk hs hjy
        · obtain ⟨e1, e2⟩ := I.g4 j hj hmk (addS_false hs).1
          refine ⟨e1, ?_⟩
          cases hμj : μ' (SL info j) with
          | none => rfl
          | some q =>
            rcases ev.ids _ _ hμj with g | g
            · rw [e2] at g; cases g
            · have := (List.getElem?_eq_some_iff.1 e1).1; omega
        · have := DR_nil hds
          subst this
          rw [put_defers]; exact I.df.mono ev.sg ev.mu
      -- on the whole heap it answers the same
      have whole : opA E r ops[k] (info k).st.tmps h = some (.quiet v [] []) → ops[k].wpIn F 0 P a w (fun a' w' => ∃ σ' μ' h' y', Inv E B0 ops h0 I0.st.tmps info kind (addS S k) σ0 μ0 w0 σ' μ' h' y' a' w') Q := by
        intro ho
        exact opA_ok OK R I.wr (hops (Sg.le_refl _) (Mu.le_refl _)) hFμ hrd ho (fun u σ' μ' w' ds H' hv ev hds => fin σ' μ' u w' ds H' hv ev hds)
      -- .. or on what it may see
      have masked : f = .read → ops[k].wpIn F 0 P a w (fun a' w' => ∃ σ' μ' h' y', Inv E B0 ops h0 I0.st.tmps info kind (addS S k) σ0 μ0 w0 σ' μ' h' y' a' w') Q := by
        rintro rfl
        have hky : k ≤ y := by
          rcases Nat.lt_or_ge y k with g | g
          · have hyc := I.yat (by omega)
            have := hm y (ahead y g hyc (by simp) (by simp))
            rw [I.yhi y (Nat.le_refl _) (by omega) hyc] at this; cases this
          · exact g
        obtain ⟨hml, hmd⟩ := seen_heap p t hrs hfs I hky hm (fun i h1 h2 hci => by
          have hik : i ≠ k := by rintro rfl; exact hnc hci
          have hSi := I.ylo i h2 hci
          have hyN := I.yle
          have := hcl i (by omega) hSi k (behind i (by omega) (by omega) hci (by simp) (by simp))
          rw [hS] at this; cases this)
        refine opA_ok OK R (I.wr.forget hml hmd) (hops (Sg.le_refl _) (Mu.le_refl _)) hFμ hrd hop (fun u σ' μ' w' ds H' hv ev hds => ?_)
        obtain ⟨Hr, Er⟩ := I.wr.restore hml hmd H' ev (h' := h) hml.symm (fun id => by
          rcases hmd id with e | e
          · exact .inl e.symm
          · exact .inr ⟨e, rfl⟩)
        exact fin σ' μ' u w' ds Hr hv Er hds
      unfold quietFP at hqf
      split at hqf
      · rename_i hfree
        exact whole (free_opA hfree _ h v hop)
      · split at hqf
        · rename_i tt aa hopk
          replace hqf := bind_some hqf; obtain ⟨pp, hpp, hqf⟩ := hqf
          split at hqf
          · rename_i b o
            replace hqf := bind_some hqf; obtain ⟨n, hn, hqf⟩ := hqf
            simp only [Option.some.injEq] at hqf; subst hqf
            refine whole (load_opA hopk hpp hn (fun ds hrd => ?_) hop)
            -- the row is the same there
            have hrow : RowAt (maskH (ms.getD k 0) (info k).rs (HH info k)) b o n ds := by
              simp only [rd] at hrd
              split at hrd
              · rename_i e cs ex se hb
                exact ⟨e, cs, ex, se, hb, hrd⟩
              · cases hrd
            have hgoal : RowAt h b o n ds → rd E h (.ptr b o) n = some ds := by
              rintro ⟨e, cs, ex, se, hb, hsl⟩
              simp only [rd, hb]; exact hsl
            apply hgoal
            have hvis : hid (ms.getD k 0) (info k).rs b = false := by
              cases hh : hid (ms.getD k 0) (info k).rs b with
              | false => rfl
              | true =>
                obtain ⟨e, cs, ex, se, hb, _⟩ := hrow
                rw [maskH_get, hh] at hb
                simp only [if_true] at hb
                cases hg : (HH info k)[b]? <;> rw [hg] at hb <;> simp at hb
            have hrowk : RowAt (HH info k) b o n ds := (RowAt.congr (by rw [maskH_get, hvis]; rfl)).1 hrow
            -- the place lies within the heap
            have hbl : b < h.length := by
              have hv := hops (Sg.le_refl _) (Mu.le_refl _) aa (by simp [hopk, Op.operands]) _ hpp
              simp only [VR] at hv
              obtain ⟨pl, hpl, _⟩ := hv
              rcases Nat.lt_or_ge b h.length with g | g
              · exact g
              · rw [I.wr.fresh b g] at hpl; cases hpl
            have fitsBelow : ∀ i, y ≤ i → i < k → ∀ res' g, kind i = .op res' g → g.fits (.load b o n) = true := by
              intro i h1 h2 res' g hg
              by_cases hgc : g.isChain = true
              · have hSi := I.yhi i h1 (by omega) ⟨res', g, hg, hgc⟩
                have hbit : (ms.getD k 0).testBit i = false := by
                  cases hb : (ms.getD k 0).testBit i with
                  | false => rfl
                  | true => have := hm i hb; rw [hSi] at this; cases this
                rw [fits_comm]; exact fits_of t hfs h2 hk hg hkd hbit
              · cases g <;> first | rfl | (simp [FP.isChain] at hgc)
            have fitsAbove : ∀ i, k < i → i < y → ∀ res' g, kind i = .op res' g → g.fits (.load b o n) = true := by
              intro i h1 h2 res' g hg
              have hyN := I.yle
              by_cases hgc : g.isChain = true
              · have hSi := I.ylo i h2 ⟨res', g, hg, hgc⟩
                have hbit : (ms.getD i 0).testBit k = false := by
                  cases hb : (ms.getD i 0).testBit k with
                  | false => rfl
                  | true => have := hcl i (by omega) hSi k hb; rw [hS] at this; cases this
                exact fits_of t hfs h1 (by omega) hkd hg hbit
              · cases g <;> first | rfl | (simp [FP.isChain] at hgc)
            have hyN := I.yle
            by_cases hsl : ∃ j, j < ops.size ∧ isMk kind j ∧ SL info j = b
            · obtain ⟨j, hj, hmk, rfl⟩ := hsl
              have hjk : j < k := by
                rcases Nat.lt_or_ge j k with g | g
                · exact g
                · exfalso
                  rcases Nat.lt_or_ge y k with g2 | g2
                  · -- not filled at k in the text
                    have h1 := I.unf y (Nat.le_refl _) j (by omega) hj hmk
                    obtain ⟨_, c2⟩ := row_steps t hrs y k (by omega) (by omega) (b := SL info j) (o := o) (n := n) (fun i i1 i2 => ⟨fitsBelow i i1 i2, fun hmi e => by
                      have := tr_slot_inj t (by omega) hj hmi hmk e; omega⟩)
                    obtain ⟨e, cs, ex, se, hb, _⟩ := (c2 ds (List.getElem?_eq_some_iff.1 h1).1).2 hrowk
                    rw [h1] at hb; cases hb
                  · obtain ⟨e, cs, ex, se, hb, _⟩ := hrowk
                    rw [I.unf k g2 j g hj hmk] at hb; cases hb
              have hbit : (ms.getD k 0).testBit j = true := by
                cases hb : (ms.getD k 0).testBit j with
                | true => rfl
                | false =>
                  have := (tr_hid t hrs (by omega)).2 ⟨j, hjk, hmk, rfl, hb⟩
                  rw [hvis] at this; cases this
              have hSj := hm j hbit
              by_cases hjy : j < y
              · -- filled in the text before y
                have hh := I.g2 j hj hmk hSj hjy
                refine (RowAt.congr hh).1 ?_
                rcases Nat.lt_or_ge y k with g | g
                · obtain ⟨_, c2⟩ := row_steps t hrs y k (by omega) (by omega) (b := SL info j) (o := o) (n := n) (fun i i1 i2 => ⟨fitsBelow i i1 i2, fun hmi e => by
                    have := tr_slot_inj t (by omega) hj hmi hmk e; omega⟩)
                  exact (c2 ds (by rw [← I.len]; exact hbl)).2 hrowk
                · obtain ⟨_, c2⟩ := row_steps t hrs k y g hyN (b := SL info j) (o := o) (n := n) (fun i i1 i2 => ⟨fun res' g' hg => by
                    by_cases e : i = k
                    · subst e; rw [hkd] at hg; cases hg; rfl
                    · exact fitsAbove i (by omega) i2 res' g' hg, fun hmi e => by
                    have := tr_slot_inj t (by omega) hj hmi hmk e; omega⟩)
                  obtain ⟨e, cs, ex, se, hb, _⟩ := hrowk
                  exact (c2 ds (List.getElem?_eq_some_iff.1 hb).1).1 ⟨e, cs, ex, se, hb, by assumption⟩
              · -- filled behind y
                have hh := I.g3 j hj hmk hSj (by omega)
                have hstj := tr_step t hj
                have hmk' := hmk
                obtain ⟨v', ob, hkj⟩ := hmk'
                rw [hkj] at hstj
                obtain ⟨_, _, _, ej⟩ := hstj
                have hHj : HH info (j + 1) = (HH info j).set (SL info j) ob := by simp only [HH, SL, ej]
                obtain ⟨c0, _⟩ := row_steps t hrs y j (by omega) (by omega) (b := SL info j) (o := o) (n := n) (fun i i1 i2 => ⟨fitsBelow i i1 (by omega), fun hmi e => by
                  have := tr_slot_inj t (by omega) hj hmi hmk e; omega⟩)
                have hljj : SL info j < (HH info j).length := by rw [I.len] at hbl; omega
                have e1 : (HH info (j + 1))[SL info j]? = some (obOf kind j) := by rw [hHj, List.getElem?_set_self hljj]; simp [obOf, hkj]
                refine (RowAt.congr (hh.trans e1.symm)).1 ?_
                obtain ⟨_, c2⟩ := row_steps t hrs (j + 1) k (by omega) (by omega) (b := SL info j) (o := o) (n := n) (fun i i1 i2 => ⟨fitsBelow i (by omega) i2, fun hmi e => by
                  have := tr_slot_inj t (by omega) hj hmi hmk e; omega⟩)
                exact (c2 ds (List.getElem?_eq_some_iff.1 e1).1).2 hrowk
            · have hh := I.g1 b (fun j hj hmk e => hsl ⟨j, hj, hmk, e⟩)
              refine (RowAt.congr hh).1 ?_
              rcases Nat.lt_or_ge y k with g | g
              · obtain ⟨_, c2⟩ := row_steps t hrs y k (by omega) (by omega) (b := b) (o := o) (n := n) (fun i i1 i2 => ⟨fitsBelow i i1 i2, fun hmi e => hsl ⟨i, by omega, hmi, e⟩⟩)
                exact (c2 ds (by rw [← I.len]; exact hbl)).2 hrowk
              · obtain ⟨_, c2⟩ := row_steps t hrs k y g hyN (b := b) (o := o) (n := n) (fun i i1 i2 => ⟨fun res' g' hg => by
                  by_cases e : i = k
                  · subst e; rw [hkd] at hg; cases hg; rfl
                  · exact fitsAbove i (by omega) i2 res' g' hg, fun hmi e => hsl ⟨i, by omega, hmi, e⟩⟩)
                obtain ⟨e, cs, ex, se, hb, hs⟩ := hrowk
                exact (c2 ds (List.getElem?_eq_some_iff.1 hb).1).1 ⟨e, cs, ex, se, hb, hs⟩
          · -- cells that stand still
            simp only [Option.some.injEq] at hqf; subst hqf
            rename_i e n cs o
            have hn : ∃ n, sizeT E tt = some n := by
              simp only [opA, hopk, hpp, Option.bind_some] at hop
              obtain ⟨x, hx, _⟩ := val_res hop
              simp only [loadT] at hx
              obtain ⟨i, hi, _⟩ := bind_some hx
              exact ⟨_, by simp only [sizeT, hi]; rfl⟩
            obtain ⟨n', hn⟩ := hn
            exact whole (load_opA hopk hpp hn (fun ds hrd => by simp only [rd] at hrd ⊢; exact hrd) hop)
          · simp only [Option.some.injEq] at hqf; subst hqf
            have hn : ∃ n, sizeT E tt = some n := by
              simp only [opA, hopk, hpp, Option.bind_some] at hop
              obtain ⟨x, hx, _⟩ := val_res hop
              simp only [loadT] at hx
              obtain ⟨i, hi, _⟩ := bind_some hx
              exact ⟨_, by simp only [sizeT, hi]; rfl⟩
            obtain ⟨n', hn⟩ := hn
            exact whole (load_opA hopk hpp hn (fun ds hrd => by simp only [rd] at hrd ⊢; exact hrd) hop)
          · cases hqf
        · simp only [Option.some.injEq] at hqf; exact masked hqf.symm
        · simp only [Option.some.injEq] at hqf; exact masked hqf.symm
        · split at hqf
          · simp only [Option.some.injEq] at hqf; exact masked hqf.symm
          · simp only [Option.some.injEq] at hqf; subst hqf; simp [FP.isChain] at hcf
        · simp only [Option.some.injEq] at hqf; subst hqf; simp [FP.isChain] at hcf

/-- All have been done. -/
theorem inv_all (OK : EnvAll E P) (R : RecOk E B0 P r) (p : Plan ops ms) (t : Trace E r ops ms 0 I0 st' info kind) (hrs : I0.rs = []) (hfs : I0.fs = []) (hq : h0.length ≤ I0.q) {S : Nat → Bool} {σ : Sg} {μ : Mu} {h : List AO} {y : Nat} {a : Act} {w : World} (I : Inv E B0 ops h0 I0.st.tmps info kind S σ0 μ0 w0 σ μ h y a w) (hall : ∀ i, i < ops.size → S i = true) :
    SR E B0 σ μ st' a w ∧ Ev h0 σ0 μ0 w0 st'.heap σ μ w := by
  have hy : y = ops.size := by
    rcases Nat.lt_or_ge y ops.size with g | g
    · have := I.yhi y (Nat.le_refl _) g (I.yat g)
      rw [hall y g] at this; cases this
    · have := I.yle; omega
  subst hy
  have hst : (info ops.size).st = st' := t.stop
  have hh : h = st'.heap := by
    have e1 : HH info ops.size = st'.heap := by simp only [HH, hst]
    rw [← e1]
    refine List.ext_getElem? fun id => ?_
    by_cases hs : ∃ j, j < ops.size ∧ isMk kind j ∧ SL info j = id
    · obtain ⟨j, hj, hmk, rfl⟩ := hs
      exact I.g2 j hj hmk (hall j hj) hj
    · exact I.g1 id fun j hj hmk e => hs ⟨j, hj, hmk, e⟩
  subst hh
  refine ⟨⟨I.wr, ?_, by have := I.df; rw [hst] at this; exact this⟩, I.ev⟩
  have htm := tr_tmps t ops.size (Nat.le_refl _)
  rw [hst] at htm
  have e2 : tv I0.st.tmps (fun j => (kind j).val) (dstOf ops) S ops.size = st'.tmps := by
    rw [htm]
    refine List.ext_getElem? fun tt => tv_agree _ _ _ _ _ tt _ _ fun i => ?_
    constructor
    · rintro ⟨h1, _, h3⟩; exact ⟨h1, rfl, h3⟩
    · rintro ⟨h1, _, h3⟩; exact ⟨h1, hall i h1, h3⟩
  have := I.tm
  rw [e2] at this
  exact this

theorem getD_set' (listed : Array Bool) (i j : Nat) (d : Bool) : (listed.setIfInBounds i true).getD j d = if i = j ∧ i < listed.size then true else listed.getD j d := by
  by_cases hij : i = j
  · subst hij
    by_cases hl : i < listed.size
    · simp [Array.getD_eq_getD_getElem?, hl]
    · simp [Array.getD_eq_getD_getElem?, hl]
  · simp [Array.getD_eq_getD_getElem?, Array.getElem?_setIfInBounds_ne hij, hij]

/-- Whatever order is drawn. -/
theorem any_order (OK : EnvAll E P) (R : RecOk E B0 P r) (p : Plan ops ms) (t : Trace E r ops ms 0 I0 st' info kind) (hrs : I0.rs = []) (hfs : I0.fs = []) (hq : h0.length ≤ I0.q) {F : Fence} {Q : Exit → Act → World → Prop} (hF : FenceIs μ0 I0.st.round F) (hQ : ∀ a' w' σ' μ', SR E B0 σ' μ' st' a' w' → Ev h0 σ0 μ0 w0 st'.heap σ' μ' w' → Q .normal a' w') :
    ∀ (fuel : Nat) (listed : Array Bool) (σ : Sg) (μ : Mu) (h : List AO) (y : Nat) (a : Act) (w : World), listed.size = ops.size → ((List.range ops.size).filter fun i => !listed.getD i false).length ≤ fuel →
      Inv E B0 ops h0 I0.st.tmps info kind (fun i => listed.getD i false) σ0 μ0 w0 σ μ h y a w → Closed ops ms (fun i => listed.getD i false) → wpAnyIn F 0 P .any ops Q fuel listed a w := by
  -- nothing is ready: all are done
  have done : ∀ (listed : Array Bool) (σ : Sg) (μ : Mu) (h : List AO) (y : Nat) (a : Act) (w : World), listed.size = ops.size → Inv E B0 ops h0 I0.st.tmps info kind (fun i => listed.getD i false) σ0 μ0 w0 σ μ h y a w →
      Region.ready .any ops listed = [] → Q .normal a w := by
    intro listed σ μ h y a w hsz I hr
    have hall : ∀ i, i < ops.size → listed.getD i false = true := by
      intro i
      induction i using Nat.strongRecOn with
      | _ i ih =>
        intro hi
        cases hl : listed.getD i false with
        | true => rfl
        | false =>
          exfalso
          have hm : i ∈ Region.ready .any ops listed := by
            refine mem_ready.2 ⟨?_, ops[i], Array.getElem?_eq_getElem hi, fun e he hb => ih e.on ?_ ?_⟩
            · have hi' : i < listed.size := by omega
              simp only [Array.getD_eq_getD_getElem?, Array.getElem?_eq_getElem hi', Option.getD_some] at hl ⊢
              exact hl
            · exact p.edge i _ (Array.getElem?_eq_getElem hi) e (by simpa using he) hb
            · have := p.edge i _ (Array.getElem?_eq_getElem hi) e (by simpa using he) hb
              omega
          rw [hr] at hm
          cases hm
    obtain ⟨h1, h2⟩ := inv_all OK R p t hrs hfs hq I hall
    exact hQ a w σ μ h1 h2
  intro fuel
  induction fuel with
  | zero =>
    intro listed σ μ h y a w hsz hf I hcl
    have hr : Region.ready .any ops listed = [] := by
      rcases List.eq_nil_or_concat (Region.ready .any ops listed) with e | ⟨l, x, e⟩
      · exact e
      · exfalso
        have hx : x ∈ Region.ready .any ops listed := by rw [e]; simp
        obtain ⟨h1, o, ho, _⟩ := mem_ready.1 hx
        have hlt : x < ops.size := (Array.getElem?_eq_some_iff.1 ho).1
        have hlt' : x < listed.size := by omega
        have : x ∈ (List.range ops.size).filter fun i => !listed.getD i false := by
          rw [List.mem_filter, List.mem_range]
          refine ⟨hlt, ?_⟩
          simp only [Array.getD_eq_getD_getElem?, Array.getElem?_eq_getElem hlt', Option.getD_some] at h1 ⊢
          rw [h1]; rfl
        have := List.length_pos_of_mem this
        omega
    exact ⟨hr, done listed σ μ h y a w hsz I hr⟩
  | succ fuel ih =>
    intro listed σ μ h y a w hsz hf I hcl
    refine ⟨done listed σ μ h y a w hsz I, fun i hi => ?_⟩
    obtain ⟨h1, o, ho, hall⟩ := mem_ready.1 hi
    have hlt : i < ops.size := (Array.getElem?_eq_some_iff.1 ho).1
    have hlt' : i < listed.size := by omega
    have hSi : listed.getD i false = false := by
      simp only [Array.getD_eq_getD_getElem?, Array.getElem?_eq_getElem hlt', Option.getD_some] at h1 ⊢
      exact h1
    have hm : ∀ j, (ms.getD i 0).testBit j = true → listed.getD j false = true := by
      intro j hj
      obtain ⟨e, he, hb, hor⟩ := (p.bit i o ho j).1 hj
      have hl := hall e (by simpa using he) hb
      rcases hor with rfl | hor
      · exact hl
      · exact hcl e.on (by have := p.edge i o ho e he hb; omega) hl j hor
    have hadd : addS (fun i => listed.getD i false) i = fun j => (listed.setIfInBounds i true).getD j false := by
      funext j
      rw [getD_set']
      by_cases hij : j = i
      · subst hij; simp [addS, hlt']
      · rw [addS_ne hij, if_neg (by rintro ⟨e, _⟩; exact hij e.symm)]
    refine wpOpIn_mono (fun a' w' hI => ?_) (inv_step OK R p t hrs hfs hq (Q := Q) hF I hcl hlt hSi hm)
    obtain ⟨σ', μ', h', y', I'⟩ := hI
    rw [hadd] at I'
    refine ih (listed.setIfInBounds i true) σ' μ' h' y' a' w' (by simp [hsz]) ?_ I' ?_
    · -- one fewer
      have hlen : ((List.range ops.size).filter fun j => !(listed.setIfInBounds i true).getD j false).length < ((List.range ops.size).filter fun j => !listed.getD j false).length := by
        have hsub : ((List.range ops.size).filter fun j => !(listed.setIfInBounds i true).getD j false) = ((List.range ops.size).filter fun j => !listed.getD j false).filter (fun j => j != i) := by
          rw [List.filter_filter]
          congr 1
          funext j
          rw [getD_set']
          by_cases hij : i = j
          · subst hij; simp [hlt']
          · rw [if_neg (by rintro ⟨e, _⟩; exact hij e)]
            have : (j != i) = true := by simp; exact fun e => hij e.symm
            rw [this, Bool.true_and]
        rw [hsub]
        refine List.length_filter_lt_length_iff_exists.2 ⟨i, ?_, by simp⟩
        rw [List.mem_filter, List.mem_range]
        exact ⟨hlt, by rw [hSi]; rfl⟩
      omega
    · intro j hj hSj l hl
      have hSj' : addS (fun i => listed.getD i false) i j = true := by rw [hadd]; exact hSj
      have goal : addS (fun i => listed.getD i false) i l = true := by
        by_cases hji : j = i
        · subst hji; exact addS_of (hm l hl)
        · rw [addS_ne hji] at hSj'
          exact addS_of (hcl j hj hSj' l hl)
      rw [hadd] at goal
      exact goal

end
end

/-! ## The region -/

section
variable {E : Env} {P : Program} {B0 : Nat}

theorem deads_ok {σ : Sg} {μ : Mu} {h : List AO} {w : World} (H : WR E B0 σ μ h w) : ∀ n, WR E B0 σ μ (h ++ List.replicate n .dead) w ∧ Ev h σ μ w (h ++ List.replicate n .dead) σ μ w
  | 0 => by simpa using ⟨H, Ev.refl _ _ _ _⟩
  | n + 1 => by
    obtain ⟨h1, h2⟩ := deads_ok H n
    have e : h ++ List.replicate (n + 1) AO.dead = (h ++ List.replicate n AO.dead) ++ [AO.dead] := by
      rw [List.replicate_succ', List.append_assoc]
    rw [e]
    exact ⟨h1.dead, h2.trans (Ev.dead _ _ _ _)⟩

theorem drawR_ok {r : Rec} (OK : EnvAll E P) (R : RecOk E B0 P r) {ops : Array Oper} {st st' : St} {σ : Sg} {μ : Mu} {a : Act} {w : World} {F : Fence} {id : Nat} {Q : Exit → Act → World → Prop} (hd : drawR E r ops st = some st') (hs : SR E B0 σ μ st a w)
    (hF : FenceIs μ st.round F) (hQ : ∀ a' w' σ' μ', SR E B0 σ' μ' st' a' w' → Ev st.heap σ μ w st'.heap σ' μ' w' → Q .normal a' w') :
    st'.round = st.round ∧ (Code.region id ops true).wpIn F 0 P Q a w := by
  simp only [drawR] at hd
  obtain ⟨ms, hms, hd⟩ := bind_some hd
  have p := planOf_ok hms
  let I0 : Info := ⟨{ st with heap := joinH st.heap (List.replicate (makesIn ops.toList) .dead) }, st.heap.length, [], []⟩
  obtain ⟨info, kind, t⟩ := trace_of (E := E) (r := r) (st' := st') p.len ops.toList 0 I0 rfl (Nat.zero_le _) (by simpa [I0] using hd)
  have hro : st'.round = st.round := by
    have := tr_round t ops.size (Nat.le_refl _)
    rw [t.stop] at this
    exact this
  refine ⟨hro, wpIn_region_any OK.mixed ?_⟩
  have hw1 : WR E B0 σ μ st.heap { w with drawn := w.drawn + 1 } := hs.wr.of_heap rfl
  obtain ⟨k1, k2⟩ := deads_ok hw1 (makesIn ops.toList)
  have ev0 : Ev st.heap σ μ w st.heap σ μ { w with drawn := w.drawn + 1 } := Ev.of_heap _ _ _ _ _
  have hheap : I0.st.heap = st.heap ++ List.replicate (makesIn ops.toList) .dead := by simp only [I0, joinH_eq]
  obtain ⟨y, n1, n2, n3, n4⟩ := by
    classical exact next_chain (isChain kind) ops.size ops.size 0 (by omega)
  obtain ⟨b1, b2, b3, b4⟩ := between t 0 y n1 n2 n3
  have hH0 : HH info 0 = st.heap ++ List.replicate (makesIn ops.toList) .dead := by simp only [HH, t.start, hheap]
  have hslot : ∀ j, j < ops.size → isMk kind j → st.heap.length ≤ SL info j ∧ SL info j < st.heap.length + makesIn ops.toList := fun j hj hmk => tr_slot t hj hmk
  have hdead : ∀ j, j < ops.size → isMk kind j → (HH info 0)[SL info j]? = some .dead := by
    intro j hj hmk
    obtain ⟨h1, h2⟩ := hslot j hj hmk
    rw [hH0, List.getElem?_append_right h1, List.getElem?_replicate, if_pos (by omega)]
  have hgetD : ∀ i, (Array.replicate ops.size false).getD i false = false := by
    intro i
    simp only [Array.getD_eq_getD_getElem?, Array.getElem?_replicate]
    split <;> rfl
  refine any_order OK R p t rfl rfl (h0 := st.heap) (σ0 := σ) (μ0 := μ) (w0 := w) (Nat.le_refl _) hF hQ ops.size _ σ μ (HH info 0) y a _ (by simp) ?_ ?_ ?_
  · refine Nat.le_trans (List.length_filter_le _ _) (by simp)
  · refine ⟨n2, fun i hi hc => absurd hc (n3 i (Nat.zero_le _) hi), fun i _ _ _ => hgetD i, n4, fun i hi => ?_, fun i hi j hij hj hmk => ?_, by rw [hH0]; exact k1, b1.symm, fun id hid => (b3 id (fun j _ h2 hmk => hid j (by omega) hmk)).symm, fun j _ _ hs' => ?_, fun j _ _ hs' => ?_, fun j hj hmk _ => ⟨hdead j hj hmk, ?_⟩, ?_, ?_, ?_⟩
    · obtain ⟨c1, _⟩ := between t i (i + 1) (by omega) (by omega) (fun j h1 h2 => n3 j (Nat.zero_le _) (by omega))
      omega
    · obtain ⟨c1, c2, c3, c4⟩ := between t 0 i (Nat.zero_le _) (by omega) (fun j h1 h2 => n3 j (Nat.zero_le _) (by omega))
      rw [c3 _ (fun i' h1 h2 hmi e => by have := tr_slot_inj t (by omega) hj hmi hmk e; omega)]
      exact hdead j hj hmk
    · rw [hgetD] at hs'; cases hs'
    · rw [hgetD] at hs'; cases hs'
    · exact hs.wr.fresh _ (hslot j hj hmk).1
    · have e : tv I0.st.tmps (fun j => (kind j).val) (dstOf ops) (fun i => (Array.replicate ops.size false).getD i false) ops.size = st.tmps := by
        refine List.ext_getElem? fun tt => ?_
        rw [tv_none _ _ _ _ tt _ (fun i _ h => by rw [hgetD] at h; cases h.1)]
      rw [e]; exact hs.tm
    · rw [b2, t.start]; exact hs.df
    · rw [hH0]; exact ev0.trans k2
  · intro i hi h j hj
    have h2 : (Array.replicate ops.size false).getD i false = true := h
    rw [hgetD] at h2; cases h2

end
end Go.Te
