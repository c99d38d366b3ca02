/- TE: code, functions, all: where the evaluator answers, the machine does the same. -/
import Derived.Test.YtfcephkliamgfaaGreatDoorTeDraw4
import Derived.LoopNIn
import Derived.Scope
import Derived.Below
namespace Go.Te
open Go

section
variable {F : Fence} {n : Nat} {P : Program} {Q : Exit → Act → World → Prop} {a : Act} {w : World} {b : Frame} {k : List Item} {cs : List Frame}

theorem stepR_scope {c : Code} : step P (lone (b.atR a (.code (.scope c) :: k)) cs w) = .next (lone (b.atR a (.code c :: .inScope c :: k)) cs w) :=
  step_lone_go (by simp [stepG, stepG.exec, Frame.atR])
theorem stepR_inScope {c : Code} : step P (lone (b.atR a (.inScope c :: k)) cs w) = .next (lone (b.atR a k) cs w) :=
  step_lone_go (by simp [stepG, stepG.exec, Frame.atR])

/-- A scope through which the run goes without a goto. -/
theorem wpIn_scope {c : Code} (h : c.wpIn F n P (Exit.noGoto Q) a w) : (Code.scope c).wpIn F n P Q a w := by
  intro b k cs hro hb hr
  have h0 : (lone (b.atR a (.code (.scope c) :: k)) cs w).fenced P F := fenced_calm hb hr rfl
  obtain ⟨e, a₁, w₁, hq, harr⟩ := h b (.inScope c :: k) cs hro hb hr
  cases e with
  | normal => exact ⟨.normal, a₁, w₁, hq, .head h0 stepR_scope (StepsIn.trans harr (.one (fenced_calm hb hr rfl) stepR_inScope))⟩
  | exit id' =>
    have hx : exitTo id' (.inScope c :: k) = exitTo id' k := by simp [exitTo]
    exact ⟨.exit id', a₁, w₁, hq, fun k' hk => .head h0 stepR_scope (harr.1 k' (by rw [hx]; exact hk)),
      fun hr' hk => let ⟨k₁, h1, h2⟩ := harr.2 hr' (by rw [hx]; exact hk); ⟨k₁, h1, .head h0 stepR_scope h2⟩⟩
  | goto l => exact hq.elim
  | ret => exact ⟨_, a₁, w₁, hq, .of_steps (.one h0 stepR_scope) harr⟩
  | panic ch => exact ⟨_, a₁, w₁, hq, .of_steps (.one h0 stepR_scope) harr⟩
  | outgrown => exact ⟨_, a₁, w₁, hq, .of_steps (.one h0 stepR_scope) harr⟩
end

section
variable {E : Env} {P : Program} {B0 : Nat}

theorem ExPost.before {st st1 st' : St} {σ σ1 : Sg} {μ μ1 : Mu} {w w1 : World} {ex : Ex} (ev : Ev st.heap σ μ w st1.heap σ1 μ1 w1) {e : Exit} {a' : Act} {w' : World} (h : ExPost E B0 st1 σ1 μ1 w1 ex st' e a' w') : ExPost E B0 st σ μ w ex st' e a' w' := by
  obtain ⟨h1, σ', μ', h2, h3⟩ := h
  exact ⟨h1, σ', μ', h2, ev.trans h3⟩

/-- What is asked of the evaluator at one code. -/
def CodeOk (E : Env) (B0 : Nat) (P : Program) (f : St → Option (Ex × St)) (c : Code) : Prop :=
  ∀ st ex st', f st = some (ex, st') → st'.round = st.round ∧ ∀ σ μ a w F, SR E B0 σ μ st a w → FenceIs μ st.round F → c.wpIn F 0 P (ExPost E B0 st σ μ w ex st') a w

theorem ExR_normal {e : Exit} (h : ExR .normal e) : e = .normal := by cases e <;> first | rfl | exact h.elim
theorem ExR_ret {e : Exit} (h : ExR .ret e) : e = .ret := by cases e <;> first | rfl | exact h.elim
theorem ExR_exit {i : Nat} {e : Exit} (h : ExR (.exit i) e) : e = .exit i := by cases e <;> first | (cases h; rfl) | exact h.elim

theorem then_of {ex : Ex} {e : Exit} {a : Act} {w : World} {K : Act → World → Prop} {Q : Exit → Act → World → Prop} (hx : ExR ex e) (hn : ex ≠ .normal) (hq : Q e a w) : Exit.then K Q e a w := by
  cases ex with
  | normal => exact absurd rfl hn
  | ret => cases ExR_ret hx; exact hq
  | exit i => cases ExR_exit hx; exact hq

theorem rounds_mono {F : Fence} {c : Code} {Q Q' : Exit → Act → World → Prop} : ∀ {m : Nat} {a : Act} {w : World}, Code.roundsIn F 0 P c Q m a w → (∀ e a w, Q e a w → Q' e a w) → Code.roundsIn F 0 P c Q' m a w
  | 0, _, _, h, _ => h.elim
  | m + 1, a, w, h, hq => by
    rw [roundsIn_succ] at h ⊢
    refine wpIn_mono h fun e a' w' hh => ?_
    cases e with
    | normal => exact rounds_mono (m := m) hh hq
    | _ => exact hq _ _ _ hh

theorem loop_ok {f : St → Option (Ex × St)} {c : Code} (hc : CodeOk E B0 P f c) : ∀ (m : Nat) (st : St) (ex : Ex) (st' : St), loopN f m st = some (ex, st') → ex ≠ .normal ∧ st'.round = st.round ∧
    ∀ σ μ a w F, SR E B0 σ μ st a w → FenceIs μ st.round F → Code.roundsIn F 0 P c (ExPost E B0 st σ μ w ex st') m a w
  | 0, _, _, _, h => by cases h
  | m + 1, st, ex, st', h => by
    simp only [loopN] at h
    split at h
    · rename_i st1 h1
      obtain ⟨r1, k1⟩ := hc _ _ _ h1
      obtain ⟨n2, r2, k2⟩ := loop_ok hc m st1 ex st' h
      refine ⟨n2, r2.trans r1, fun σ μ a w F hs hF => ?_⟩
      rw [roundsIn_succ]
      refine wpIn_mono (k1 σ μ a w F hs hF) ?_
      rintro e a1 w1 ⟨hx, σ1, μ1, hs1, ev1⟩
      cases ExR_normal hx
      have := k2 σ1 μ1 a1 w1 F hs1 (by rw [r1]; exact hF.mono ev1.mu)
      refine rounds_mono this fun e a' w' hq => hq.before ev1
    · rename_i hnn
      obtain ⟨r1, k1⟩ := hc _ _ _ h
      have hne : ex ≠ .normal := by
        rintro rfl
        exact hnn _ h
      refine ⟨hne, r1, fun σ μ a w F hs hF => ?_⟩
      rw [roundsIn_succ]
      refine wpIn_mono (k1 σ μ a w F hs hF) fun e a' w' hq => then_of hq.1 hne hq
theorem loopIs_spec {h : List AO} {l : Nat} (hl : loopIs h (some l) = true) : ∃ s pend t ps a b, h[l]? = some (.loop s pend t ps a b) := by
  simp only [loopIs] at hl
  split at hl
  · rename_i s p t ps a b e; exact ⟨s, p, t, ps, a, b, e⟩
  · cases hl

/-- Entering a range over a function. -/
theorem enter_loop {st : St} {σ : Sg} {μ : Mu} {a : Act} {w : World} {F : Fence} {params : Array Tmp} {assign body : Code} (fn : FuncId) (hs : SR E B0 σ μ st a w) (hF : FenceIs μ st.round F) (hl : loopIs st.heap st.round = true) :
    ∃ l mark w1 μ1, (Instr.enterLoop fn a.tmps params assign body F.round).run P w = .ok (l, mark) w1 ∧
      WR E B0 σ μ1 ((if st.round.isNone then st.heap ++ [.deferred] else st.heap) ++ [.loop .ready none st.tmps params.toList assign body]) w1 ∧
      Ev st.heap σ μ w ((if st.round.isNone then st.heap ++ [.deferred] else st.heap) ++ [.loop .ready none st.tmps params.toList assign body]) σ μ1 w1 ∧
      (∃ p, μ1 (if st.round.isNone then st.heap ++ [.deferred] else st.heap).length = some p ∧ p.blk = l) ∧
      DR E B0 σ μ1 (if st.round.isNone then .mark st.heap.length :: st.defers else st.defers) (mark ++ a.defers) := by
  have hH := hs.wr
  cases hro : st.round with
  | none =>
    rw [hro] at hF
    cases hF
    simp only [Option.isNone_none, if_true]
    let p1 : Pl := ⟨w.heap.size, 0, 0⟩
    let w1 := w.alloc (.deferred (some []))
    have H1 : WR E B0 σ (Mu.put μ st.heap.length p1) (st.heap ++ [.deferred]) w1 :=
      hH.push rfl ⟨p1, Mu.put_self _ _ _, heap_alloc_new _ _, hH.base, hH.noSg (Nat.le_refl _)⟩
    have E1 : Ev st.heap σ μ w (st.heap ++ [.deferred]) σ (Mu.put μ st.heap.length p1) w1 := Ev.push _ _ hH rfl
    let L : Loop := { state := .ready, pending := none, fn, tmps := a.tmps, params, assign, body, defers := w.heap.size }
    let p2 : Pl := ⟨w1.heap.size, 0, 0⟩
    have tm1 := hs.tm.mono E1.sg E1.mu
    have H2 : WR E B0 σ (Mu.put (Mu.put μ st.heap.length p1) (st.heap ++ [AO.deferred]).length p2) ((st.heap ++ [.deferred]) ++ [.loop .ready none st.tmps params.toList assign body]) (w1.alloc (.loop L)) :=
      H1.push rfl ⟨p2, L, Mu.put_self _ _ _, heap_alloc_new _ _, rfl, rfl, rfl, rfl, rfl, tm1.1,
        VRl.mono (Sg.le_refl _) (Mu.le_put (H1.fresh _ (Nat.le_refl _))) _ _ _ tm1.2, H1.base, H1.noSg (Nat.le_refl _)⟩
    have E2 := Ev.push (.loop L) (.loop .ready none st.tmps params.toList assign body) H1 (p := p2) rfl
    refine ⟨w1.heap.size, [{ target := .collected w.heap.size, args := #[] }], w1.alloc (.loop L), _, ?_, H2, E1.trans E2, ⟨p2, Mu.put_self _ _ _, rfl⟩, ?_⟩
    · have e1 : (newObj (.deferred (some []))).run P w = .ok w.heap.size w1 := rfl
      have e2 : (newObj (.loop L)).run P w1 = .ok w1.heap.size (w1.alloc (.loop L)) := rfl
      simp only [Instr.enterLoop, Fence.wide, Sem.run_bind, e1, Result.andThen_ok, Sem.run_pure]
      erw [e2]; rfl
    · refine ⟨⟨p1, ?_, rfl⟩, hs.df.mono (E1.trans E2).sg (E1.trans E2).mu⟩
      rw [Mu.put_ne (by simp), Mu.put_self]
  | some l0 =>
    rw [hro] at hF hl
    obtain ⟨p0, hp0, rfl⟩ := hF
    obtain ⟨s, pend, t, ps, as, bd, ho⟩ := loopIs_spec hl
    obtain ⟨q, L0, g1, g2, _⟩ := hH.objs _ _ ho
    rw [hp0] at g1; cases g1
    simp only [Option.isNone_some, Bool.false_eq_true, if_false]
    let L : Loop := { state := .ready, pending := none, fn, tmps := a.tmps, params, assign, body, defers := L0.defers }
    let p2 : Pl := ⟨w.heap.size, 0, 0⟩
    have H2 : WR E B0 σ (Mu.put μ st.heap.length p2) (st.heap ++ [.loop .ready none st.tmps params.toList assign body]) (w.alloc (.loop L)) :=
      hH.push rfl ⟨p2, L, Mu.put_self _ _ _, heap_alloc_new _ _, rfl, rfl, rfl, rfl, rfl, hs.tm.1,
        VRl.mono (Sg.le_refl _) (Mu.le_put (hH.fresh _ (Nat.le_refl _))) _ _ _ hs.tm.2, hH.base, hH.noSg (Nat.le_refl _)⟩
    have E2 := Ev.push (.loop L) (.loop .ready none st.tmps params.toList assign body) hH (p := p2) rfl
    refine ⟨w.heap.size, [], w.alloc (.loop L), _, ?_, H2, E2, ⟨p2, Mu.put_self _ _ _, rfl⟩, ?_⟩
    · have e2 : (newObj (.loop L)).run P w = .ok w.heap.size (w.alloc (.loop L)) := rfl
      simp only [Instr.enterLoop, Fence.inRound, Sem.run_bind, run_getLoop g2, Result.andThen_ok, Sem.run_pure]
      erw [e2]; rfl
    · exact hs.df.mono E2.sg E2.mu

theorem opsA_round {r : Rec} {ops : Array Oper} : ∀ (os : List Oper) (st st' : St), opsA E r ops os st = some st' → st'.round = st.round
  | [], st, st', h => by simp only [opsA, Option.some.injEq] at h; subst h; rfl
  | o :: os, st, st', h => by
    rcases opsA_cons h with ⟨_, res, _, _, hr⟩ | ⟨_, hr⟩
    · exact opsA_round os (st.next o.dst res) _ hr
    · exact opsA_round os (st.skip o.dst) _ hr

theorem drawR_round {r : Rec} {ops : Array Oper} {st st' : St} (hd : drawR E r ops st = some st') : st'.round = st.round := by
  simp only [drawR] at hd
  obtain ⟨ms, hms, hd⟩ := bind_some hd
  have p := planOf_ok hms
  let I0 : Info := ⟨{ st with heap := joinH st.heap (List.replicate (makesIn ops.toList) .dead) }, st.heap.length, [], []⟩
  obtain ⟨info, kind, t⟩ := trace_of (E := E) (r := r) (st' := st') p.len ops.toList 0 I0 rfl (Nat.zero_le _) (by simpa [I0] using hd)
  have := tr_round t ops.size (Nat.le_refl _)
  rw [t.stop] at this
  exact this

theorem exec_ok {r : Rec} (OK : EnvAll E P) (R : RecOk E B0 P r) (fuel : Nat) : ∀ c : Code, CodeOk E B0 P (exec E r fuel c) c := by
  intro c
  induction c with
  | skip =>
    intro st ex st' h
    simp only [exec, Option.some.injEq, Prod.mk.injEq] at h
    obtain ⟨rfl, rfl⟩ := h
    exact ⟨rfl, fun σ μ a w F hs hF => wpIn_skip ⟨trivial, σ, μ, hs, Ev.refl _ _ _ _⟩⟩
  | label l =>
    intro st ex st' h
    simp only [exec, Option.some.injEq, Prod.mk.injEq] at h
    obtain ⟨rfl, rfl⟩ := h
    exact ⟨rfl, fun σ μ a w F hs hF => wpIn_label ⟨trivial, σ, μ, hs, Ev.refl _ _ _ _⟩⟩
  | region id ops draw =>
    intro st ex st' h
    cases draw with
    | false =>
      simp only [exec] at h
      replace h := bind_some h; obtain ⟨st1, h1, h⟩ := h
      simp only [Option.some.injEq, Prod.mk.injEq] at h
      obtain ⟨rfl, rfl⟩ := h
      refine ⟨opsA_round _ _ _ h1, fun σ μ a w F hs hF => wpIn_region ?_⟩
      rw [List.range_eq_range']
      have := (opsA_ok (Q := ExPost E B0 st σ μ w .normal st1) OK R ops.toList 0 st σ μ a w (by simp) h1 hs hF (fun a' w' σ' μ' k1 k2 => ⟨trivial, σ', μ', k1, k2⟩)).2
      simpa using this
    | true =>
      simp only [exec] at h
      replace h := bind_some h; obtain ⟨st1, h1, h⟩ := h
      simp only [Option.some.injEq, Prod.mk.injEq] at h
      obtain ⟨rfl, rfl⟩ := h
      refine ⟨drawR_round h1, fun σ μ a w F hs hF => ?_⟩
      exact (drawR_ok (Q := ExPost E B0 st σ μ w .normal st1) OK R h1 hs hF (fun a' w' σ' μ' k1 k2 => ⟨trivial, σ', μ', k1, k2⟩)).2
  | seq x y ihx ihy =>
    intro st ex st' h
    simp only [exec] at h
    split at h
    · rename_i st1 h1
      obtain ⟨r1, k1⟩ := ihx _ _ _ h1
      obtain ⟨r2, k2⟩ := ihy _ _ _ h
      refine ⟨r2.trans r1, fun σ μ a w F hs hF => wpIn_seq (wpIn_mono (k1 σ μ a w F hs hF) ?_)⟩
      rintro e a1 w1 ⟨hx, σ1, μ1, hs1, ev1⟩
      cases ExR_normal hx
      exact wpIn_mono (k2 σ1 μ1 a1 w1 F hs1 (by rw [r1]; exact hF.mono ev1.mu)) fun e a' w' hq => hq.before ev1
    · rename_i hnn
      obtain ⟨r1, k1⟩ := ihx _ _ _ h
      have hne : ex ≠ .normal := by rintro rfl; exact hnn _ h
      exact ⟨r1, fun σ μ a w F hs hF => wpIn_seq (wpIn_mono (k1 σ μ a w F hs hF) fun e a' w' hq => then_of hq.1 hne hq)⟩
  | cond c x y ihx ihy =>
    intro st ex st' h
    simp only [exec] at h
    split at h
    · rename_i hc
      obtain ⟨r1, k1⟩ := ihx _ _ _ h
      exact ⟨r1, fun σ μ a w F hs hF => wpIn_cond_true (VR_bool.1 (ev_sound hs.tm hc)) (k1 σ μ a w F hs hF)⟩
    · rename_i hc
      obtain ⟨r1, k1⟩ := ihy _ _ _ h
      exact ⟨r1, fun σ μ a w F hs hF => wpIn_cond_false (VR_bool.1 (ev_sound hs.tm hc)) (k1 σ μ a w F hs hF)⟩
    · cases h
  | block id c ih =>
    intro st ex st' h
    simp only [exec] at h
    split at h
    · rename_i j st1 h1
      obtain ⟨r1, k1⟩ := ih _ _ _ h1
      split at h
      · rename_i hj
        rw [Nat.beq_eq] at hj; subst hj
        simp only [Option.some.injEq, Prod.mk.injEq] at h
        obtain ⟨rfl, rfl⟩ := h
        refine ⟨r1, fun σ μ a w F hs hF => wpIn_block (wpIn_mono (k1 σ μ a w F hs hF) ?_)⟩
        rintro e a' w' ⟨hx, hq⟩
        cases ExR_exit hx
        simp only [Exit.inBlock, if_true]
        exact ⟨trivial, hq⟩
      · rename_i hj
        simp only [Option.some.injEq, Prod.mk.injEq] at h
        obtain ⟨rfl, rfl⟩ := h
        refine ⟨r1, fun σ μ a w F hs hF => wpIn_block (wpIn_mono (k1 σ μ a w F hs hF) ?_)⟩
        rintro e a' w' ⟨hx, hq⟩
        cases ExR_exit hx
        have : ¬ j = id := fun e => hj (by rw [Nat.beq_eq]; exact e)
        simp only [Exit.inBlock, if_neg this]
        exact ⟨rfl, hq⟩
    · rename_i hnn
      obtain ⟨r1, k1⟩ := ih _ _ _ h
      refine ⟨r1, fun σ μ a w F hs hF => wpIn_block (wpIn_mono (k1 σ μ a w F hs hF) ?_)⟩
      rintro e a' w' ⟨hx, hq⟩
      cases ex with
      | normal => cases ExR_normal hx; exact ⟨trivial, hq⟩
      | ret => cases ExR_ret hx; exact ⟨trivial, hq⟩
      | exit i => exact absurd h (hnn _ _)
  | loop c ih =>
    intro st ex st' h
    simp only [exec] at h
    obtain ⟨_, r1, k1⟩ := loop_ok ih fuel st ex st' h
    exact ⟨r1, fun σ μ a w F hs hF => wpIn_loop_rounds fuel (k1 σ μ a w F hs hF)⟩
  | rangeFunc f params assign body _ _ =>
    intro st ex st' h
    simp only [exec] at h
    split at h
    case h_2 => cases h
    rename_i g first caps hf hl
    replace h := bind_some h; obtain ⟨⟨v, h3⟩, hcall, h⟩ := h
    simp only at h
    split at h
    case h_2 => cases h
    rename_i fn0 s pend t ps as bd hfn hob
    have hcase : s ≠ .busy ∧ pend = jumpOf ex ∧ st' = { st with heap := h3.set (if st.round.isNone then st.heap ++ [AO.deferred] else st.heap).length (.loop .exhausted pend t ps as bd), defers := if st.round.isNone then .mark st.heap.length :: st.defers else st.defers } := by
      split at h
      · cases h
      · rename_i hnb
        refine ⟨hnb, ?_⟩
        split at h
        · simp only [Option.some.injEq, Prod.mk.injEq] at h; obtain ⟨rfl, rfl⟩ := h; exact ⟨rfl, rfl⟩
        · simp only [Option.some.injEq, Prod.mk.injEq] at h; obtain ⟨rfl, rfl⟩ := h; exact ⟨rfl, rfl⟩
        · simp only [Option.some.injEq, Prod.mk.injEq] at h; obtain ⟨rfl, rfl⟩ := h; exact ⟨rfl, rfl⟩
        · cases h
    obtain ⟨hnb, hpend, rfl⟩ := hcase
    refine ⟨rfl, fun σ μ a w F hs hF => wpIn_rangeFunc fun fn hfn' => ?_⟩
    obtain ⟨l, mark, w1, μ1, e1, H1, E1, ⟨p, hp, hpl⟩, D1⟩ := enter_loop (P := P) (params := params) (assign := assign) (body := body) fn hs hF hl
    have hfr := ev_sound hs.tm hf
    have hfr := VR.mono E1.sg E1.mu _ _ hfr
    simp only [VR] at hfr
    obtain ⟨g2, fa, fc, e, hg, g3, g4, g5, g6⟩ := hfr
    cases hg
    have hyv : VR E B0 σ μ1 (.fn (.yield (if st.round.isNone then st.heap ++ [AO.deferred] else st.heap).length) [] []) (.func (.yield l) #[] #[]) := by
      simp only [VR]
      exact ⟨.yield l, #[], #[], rfl, ⟨p, hp, by rw [hpl]⟩, rfl, by simp [VRl], rfl, by simp [VRl]⟩
    have hyA : VA E B0 σ μ1 [.fn (.yield (if st.round.isNone then st.heap ++ [AO.deferred] else st.heap).length) [] []] #[.func (.yield l) #[] #[]] :=
      VA.mk' rfl fun i x hi => by
        cases i with
        | zero => simp only [List.getElem?_cons_zero, Option.some.injEq] at hi; subst hi; exact ⟨_, rfl, hyv⟩
        | succ i => simp at hi
    have hargs := VA.append (VA.append ⟨g3, g4⟩ hyA) ⟨g5, g6⟩
    refine ⟨l, mark, w1, { target := .fn (.func g) fc, args := fa ++ #[.func (.yield l) #[] #[]] }, w1, g, fa ++ #[.func (.yield l) #[] #[]] ++ fc, w1, e1, ?_, fun f' _ => hF.all.1 f', ?_, by rw [hF.all.2]; simp, ?_⟩
    · simp only [resolve, rangeCall, e, Deferred.ofValue]
      simp [Act.eval]
    · simp only [invoke]
      exact run_callFunc OK.toEnvOk hfn _ w1
    · refine hF.calls ((R.call g _ _ v h3 hcall σ μ1 w1 _ H1 hargs).mono ?_)
      rintro en w3 ⟨y, σ3, μ3, rfl, H3, _, E3⟩
      have hp3 := E3.mu _ _ hp
      obtain ⟨q, L, m1, m2, m3, m4, m5, m6, m7, m8, m9, m10, m11⟩ := H3.objs _ _ hob
      rw [hp3] at m1; cases m1
      have hlt := H3.lt _ _ hp3
      have hend : (Instr.endLoop l).run P w3 = .ok pend (setObjW w3 p.blk (.loop { L with state := .exhausted })) := by
        rw [← hpl]
        refine Eq.trans ?_ (congrArg (fun x => Result.ok x (setObjW w3 p.blk (.loop { L with state := .exhausted }))) m4)
        simp only [Instr.endLoop, Sem.run_bind, run_getLoop m2, Result.andThen_ok]
        have : (L.state == LoopState.busy) = false := by
          rw [m3]; cases s <;> first | rfl | exact absurd rfl hnb
        simp only [this, Bool.false_eq_true, if_false, Sem.run_pure, Result.andThen_ok]
        simp only [Sem.run_bind, run_setObj (P := P) (o' := .loop { L with state := .exhausted }) m2 (by simp), Result.andThen_ok, Sem.run_pure]
      have H4 : WR E B0 σ3 μ3 (h3.set (if st.round.isNone then st.heap ++ [AO.deferred] else st.heap).length (.loop .exhausted pend t ps as bd)) (setObjW w3 p.blk (.loop { L with state := .exhausted })) :=
        H3.set hob rfl hp3 m11 (fun b hb => setObjW_other hb) setObjW_size ⟨p, _, hp3, setObjW_self hlt, rfl, m4, m5, m6, m7, m8, m9, m10, m11⟩
      have E4 := Ev.set (σ := σ3) (w := w3) (w' := setObjW w3 p.blk (.loop { L with state := .exhausted })) (o' := .loop .exhausted pend t ps as bd) hob rfl hp3 (fun b hb => setObjW_other hb) setObjW_size rfl rfl rfl
      have E14 := E1.trans (E3.trans E4)
      refine ⟨pend, _, hend, ?_⟩
      have post : ∀ e, ExR ex e → ExPost E B0 st σ μ w ex { st with heap := h3.set (if st.round.isNone then st.heap ++ [AO.deferred] else st.heap).length (.loop .exhausted pend t ps as bd), defers := if st.round.isNone then .mark st.heap.length :: st.defers else st.defers } e
          { a with defers := mark ++ a.defers } (setObjW w3 p.blk (.loop { L with state := .exhausted })) := by
        intro e hx
        exact ⟨hx, σ3, μ3, ⟨H4, hs.tm.mono E14.sg E14.mu, D1.mono (E3.trans E4).sg (E3.trans E4).mu⟩, E14⟩
      subst hpend
      cases ex with
      | normal => exact post .normal trivial
      | ret => exact wpIn_ret (post .ret trivial)
      | exit id => exact wpIn_exit (post (.exit id) rfl)
  | exit id =>
    intro st ex st' h
    simp only [exec, Option.some.injEq, Prod.mk.injEq] at h
    obtain ⟨rfl, rfl⟩ := h
    exact ⟨rfl, fun σ μ a w F hs hF => wpIn_exit ⟨rfl, σ, μ, hs, Ev.refl _ _ _ _⟩⟩
  | scope c ih =>
    intro st ex st' h
    simp only [exec] at h
    obtain ⟨r1, k1⟩ := ih _ _ _ h
    refine ⟨r1, fun σ μ a w F hs hF => wpIn_scope (wpIn_mono (k1 σ μ a w F hs hF) ?_)⟩
    rintro e a' w' ⟨hx, hq⟩
    cases ex with
    | normal => cases ExR_normal hx; exact ⟨trivial, hq⟩
    | ret => cases ExR_ret hx; exact ⟨trivial, hq⟩
    | exit i => cases ExR_exit hx; exact ⟨rfl, hq⟩
  | ret =>
    intro st ex st' h
    simp only [exec, Option.some.injEq, Prod.mk.injEq] at h
    obtain ⟨rfl, rfl⟩ := h
    exact ⟨rfl, fun σ μ a w F hs hF => wpIn_ret ⟨trivial, σ, μ, hs, Ev.refl _ _ _ _⟩⟩
  | goto l => intro st ex st' h; simp [exec] at h
  | refuse y => intro st ex st' h; simp [exec] at h

theorem VA.replicate {σ : Sg} {μ : Mu} (n : Nat) : VA E B0 σ μ (List.replicate n (.tup [])) (Array.replicate n undef) :=
  VA.mk' (by simp) fun i x hi => by
    rw [List.getElem?_replicate] at hi
    split at hi
    · rename_i hlt
      cases hi
      exact ⟨undef, by rw [Array.getElem?_replicate, if_pos hlt], VR_undef⟩
    · cases hi

theorem entered {σ : Sg} {μ : Mu} {args : List AV} {vs : Array Value} {h : List AO} {w : World} (n : Nat) (H : WR E B0 σ μ h w) (hv : VA E B0 σ μ args vs) :
    SR E B0 σ μ { tmps := args ++ List.replicate (n - args.length) (.tup []), heap := h, defers := [], round := none } { tmps := vs ++ Array.replicate (n - vs.size) undef, defers := [] } w :=
  ⟨H, by rw [hv.1]; exact VA.append hv (VA.replicate _), trivial⟩

theorem resultsA_ok (OK : EnvAll E P) {σ : Sg} {μ : Mu} {h : List AO} {w : World} {tmps : List AV} {arr : Array Value} (H : WR E B0 σ μ h w) (ht : VA E B0 σ μ tmps arr) : ∀ (rs : List ResultVar) (vs : List AV), resultsA E h tmps rs = some vs →
    ∃ us : List Value, (rs.mapM (m := Sem) fun | .tmp t => pure (arr.getD t undef) | .cell a t => do loadVar t (← asAddr (arr.getD a undef))).run P w = .ok us w ∧ us.length = vs.length ∧ ∀ (i : Nat) x, vs[i]? = some x → ∃ u, us[i]? = some u ∧ VR E B0 σ μ x u
  | [], vs, h => by
    simp only [resultsA, Option.some.injEq] at h; subst h
    exact ⟨[], by simp, rfl, by simp⟩
  | .tmp t :: rs, vs, h => by
    simp only [resultsA] at h
    replace h := bind_some h; obtain ⟨vs', hvs, h⟩ := h
    simp only [Option.some.injEq] at h; subst h
    obtain ⟨us, k1, k2, k3⟩ := resultsA_ok OK H ht rs vs' hvs
    have hx := ev_sound (a := { tmps := arr, defers := [] }) (x := .tmp t) (v := tmps.getD t (.tup [])) ht rfl
    refine ⟨arr.getD t undef :: us, ?_, by simp [k2], fun i x hi => ?_⟩
    · simp only [List.mapM_cons, Sem.run_bind, Sem.run_pure, Result.andThen_ok, k1]
    · cases i with
      | zero => simp only [List.getElem?_cons_zero, Option.some.injEq] at hi; subst hi; exact ⟨_, rfl, hx⟩
      | succ i => simpa using k3 i x (by simpa using hi)
  | .cell c t :: rs, vs, h => by
    simp only [resultsA] at h
    replace h := bind_some h; obtain ⟨v, hv, h⟩ := h
    replace h := bind_some h; obtain ⟨vs', hvs, h⟩ := h
    simp only [Option.some.injEq] at h; subst h
    obtain ⟨us, k1, k2, k3⟩ := resultsA_ok OK H ht rs vs' hvs
    have hx := ev_sound (a := { tmps := arr, defers := [] }) (x := .tmp c) (v := tmps.getD c (.tup [])) ht rfl
    obtain ⟨y, _, g2, ad, g3, g4⟩ := run_loadT OK.toEnvOk H hx hv
    simp only [Act.eval] at g3
    have g5 : (asAddr (.pointer (some ad))).run P w = .ok ad w := by simp [asAddr]
    refine ⟨y :: us, ?_, by simp [k2], fun i x hi => ?_⟩
    · simp only [List.mapM_cons, Sem.run_bind, g3, g5, g4, Sem.run_pure, Result.andThen_ok, k1]
    · cases i with
      | zero => simp only [List.getElem?_cons_zero, Option.some.injEq] at hi; subst hi; exact ⟨_, rfl, g2⟩
      | succ i => simpa using k3 i x (by simpa using hi)

theorem results_ok (OK : EnvAll E P) {σ : Sg} {μ : Mu} {h : List AO} {w : World} {fn : Func} {tmps : List AV} {arr : Array Value} {vs : List AV} (H : WR E B0 σ μ h w) (ht : VA E B0 σ μ tmps arr) (hr : resultsA E h tmps fn.results.toList = some vs) :
    ∃ y, (results fn arr).run P w = .ok y w ∧ VR E B0 σ μ (packA vs) y := by
  obtain ⟨us, k1, k2, k3⟩ := resultsA_ok OK H ht _ vs hr
  have hm : (results fn arr).run P w = .ok (if h : us.toArray.size = 1 then us.toArray[0] else .tuple us.toArray) w := by
    unfold results
    rw [Array.mapM_eq_mapM_toList]
    rw [map_eq_pure_bind]
    simp only [Sem.run_bind]
    erw [k1]
    rfl
  refine ⟨_, hm, ?_⟩
  cases vs with
  | nil =>
    have : us = [] := by simpa using k2
    subst this
    exact VR_tup.2 ⟨#[], rfl, VA.nil⟩
  | cons x vs =>
    cases vs with
    | nil =>
      obtain ⟨u, rfl⟩ : ∃ u, us = [u] := by
        cases us with
        | nil => simp at k2
        | cons u us => cases us with
          | nil => exact ⟨u, rfl⟩
          | cons _ _ => simp at k2
      obtain ⟨u', hu, hr'⟩ := k3 0 x rfl
      simp at hu; subst hu
      simpa [packA] using hr'
    | cons x2 vs =>
      have hne : ¬ us.toArray.size = 1 := by simp [k2]
      rw [dif_neg hne]
      exact VR_tup.2 ⟨us.toArray, rfl, VA.mk' (by simp [k2]) fun i x hi => by simpa using k3 i x hi⟩

theorem run_take {b : Nat} {w : World} (h : w.heap[b]? = some (.deferred (some []))) : (Instr.takeDeferred b).run P w = .ok [] (setObjW w b (.deferred none)) := by
  simp only [Instr.takeDeferred, Sem.run_bind, run_getObj (P := P) h (by simp), Result.andThen_ok, run_setObj (P := P) (o' := .deferred none) h (by simp), Sem.run_pure]

theorem defers_ok {r : Rec} (OK : EnvAll E P) (R : RecOk E B0 P r) {fn : Func} {arr : Array Value} {Q : Ending → World → Prop} : ∀ (xs : List ADef) (ds : List Deferred) (h h' : List AO) (σ : Sg) (μ : Mu) (w : World), defersA E r xs h = some h' →
    WR E B0 σ μ h w → DR E B0 σ μ xs ds → (∀ σ' μ' w', WR E B0 σ' μ' h' w' → Ev h σ μ w h' σ' μ' w' → ∃ v, (results fn arr).run P w' = .ok v w' ∧ Q (.returned v) w') → LeavesInM Fence.wide 0 P fn arr Q ds .returning w
  | [], [], h, h', σ, μ, w, hd, H, _, hQ => by
    simp only [defersA, Option.some.injEq] at hd; subst hd
    exact hQ σ μ w H (Ev.refl _ _ _ _)
  | .mark b :: xs, d :: ds, h, h', σ, μ, w, hd, H, hD, hQ => by
    simp only [defersA] at hd
    split at hd
    case h_2 => cases hd
    rename_i ho
    obtain ⟨⟨p, hp, rfl⟩, hD⟩ := hD
    obtain ⟨q, g1, g2, g3, g4⟩ := H.objs _ _ ho
    rw [hp] at g1; cases g1
    have H1 : WR E B0 σ μ (h.set b .dead) (setObjW w p.blk (.deferred none)) := H.set ho rfl hp g4 (fun b hb => setObjW_other hb) setObjW_size trivial
    have E1 : Ev h σ μ w (h.set b .dead) σ μ (setObjW w p.blk (.deferred none)) := Ev.set ho rfl hp (fun b hb => setObjW_other hb) setObjW_size rfl rfl rfl
    refine ⟨by simp, .inl ⟨p.blk, _, rfl, run_take g2, ?_⟩⟩
    exact defers_ok OK R xs ds _ h' σ μ _ hd H1 hD fun σ' μ' w' k1 k2 => hQ σ' μ' w' k1 (E1.trans k2)
  | .call f args :: xs, d :: ds, h, h', σ, μ, w, hd, H, hD, hQ => by
    simp only [defersA] at hd
    split at hd
    case h_1 => cases hd
    rename_i f0 hf
    replace hd := bind_some hd; obtain ⟨h1, hc, hd⟩ := hd
    obtain ⟨⟨caps, ht, hv⟩, hD⟩ := hD
    refine ⟨by simp, .inr ⟨by simp [Fence.wide], .func f, caps, f, d.args ++ caps, ht, ?_, fun _ _ => trivial, ?_⟩⟩
    · rw [ht]
      simp only [invoke]
      exact run_callFunc OK.toEnvOk hf _ w
    · refine (R.calld f args h h1 hc σ μ w _ .returning H hv).mono ?_
      rintro e u' w' ⟨rfl, y, σ1, μ1, rfl, H1, E1⟩
      exact defers_ok OK R xs ds h1 h' σ1 μ1 w' hd H1 (hD.mono E1.sg E1.mu) fun σ' μ' w' k1 k2 => hQ σ' μ' w' k1 (E1.trans k2)
  | [], _ :: _, _, _, _, _, _, _, _, hD, _ => hD.elim
  | _ :: _, [], _, _, _, _, _, _, _, hD, _ => hD.elim

theorem enterFn_ok {r : Rec} (OK : EnvAll E P) (R : RecOk E B0 P r) (fuel : Nat) {f : FuncId} {args : List AV} {h h' : List AO} {v : AV} (he : enterFn E r fuel f args h = some (v, h')) {σ : Sg} {μ : Mu} {w : World} {vs : Array Value} (H : WR E B0 σ μ h w) (hv : VA E B0 σ μ args vs) :
    CallsIn Fence.wide 0 P f vs w (CallPost E B0 h σ μ w v h') := by
  simp only [enterFn] at he
  replace he := bind_some he; obtain ⟨fn, hf, he⟩ := he
  replace he := bind_some he; obtain ⟨body, hb, he⟩ := he
  replace he := bind_some he; obtain ⟨⟨ex, st⟩, hx, he⟩ := he
  obtain ⟨g1, g2, g3⟩ := OK.fn f fn hf
  obtain ⟨r1, k1⟩ := exec_ok OK R fuel body _ _ _ hx
  have hne : ∀ i, ex ≠ .exit i := by rintro i rfl; simp at he
  have he2 : ((defersA E r st.defers st.heap).bind fun h => (resultsA E h st.tmps fn.results.toList).bind fun vs => some (packA vs, h)) = some (v, h') := by
    cases ex with
    | exit i => exact absurd rfl (hne i)
    | normal => exact he
    | ret => exact he
  replace he2 := bind_some he2; obtain ⟨h2, hd, he2⟩ := he2
  replace he2 := bind_some he2; obtain ⟨ys, hr, he2⟩ := he2
  simp only [Option.some.injEq, Prod.mk.injEq] at he2
  obtain ⟨rfl, rfl⟩ := he2
  refine callsIn_of_wp_marks g1 hb trivial (wpIn_mono (k1 σ μ _ w Fence.wide (entered fn.ntmps H hv) rfl) ?_)
  rintro e a1 w1 ⟨hex, σ1, μ1, hs1, ev1⟩
  have fin : LeavesInM Fence.wide 0 P fn a1.tmps (CallPost E B0 h σ μ w (packA ys) h2) a1.defers .returning w1 :=
    defers_ok OK R st.defers a1.defers st.heap h2 σ1 μ1 w1 hd hs1.wr hs1.df fun σ2 μ2 w2 H2 E2 => by
      obtain ⟨y, j1, j2⟩ := results_ok OK H2 (hs1.tm.mono E2.sg E2.mu) hr
      exact ⟨y, j1, y, σ2, μ2, rfl, H2, j2, ev1.trans E2⟩
  cases ex with
  | exit i => exact absurd rfl (hne i)
  | normal => cases ExR_normal hex; exact fin
  | ret => cases ExR_ret hex; exact fin

theorem enterD_ok {r : Rec} (OK : EnvAll E P) (R : RecOk E B0 P r) (fuel : Nat) {f : FuncId} {args : List AV} {h h' : List AO} (he : enterD E r fuel f args h = some h') {σ : Sg} {μ : Mu} {w : World} {vs : Array Value} {u : FrameMode} (H : WR E B0 σ μ h w) (hv : VA E B0 σ μ args vs) :
    CallsDIn Fence.wide 0 P f vs u w (fun e u' w' => u' = u ∧ ∃ y σ' μ', e = .returned y ∧ WR E B0 σ' μ' h' w' ∧ Ev h σ μ w h' σ' μ' w') := by
  simp only [enterD] at he
  replace he := bind_some he; obtain ⟨fn, hf, he⟩ := he
  replace he := bind_some he; obtain ⟨body, hb, he⟩ := he
  replace he := bind_some he; obtain ⟨⟨ex, st⟩, hx, he⟩ := he
  obtain ⟨g1, g2, g3⟩ := OK.fn f fn hf
  obtain ⟨r1, k1⟩ := exec_ok OK R fuel body _ _ _ hx
  have hne : ∀ i, ex ≠ .exit i := by rintro i rfl; simp at he
  have hds : st.defers = [] := by
    cases hd : st.defers with
    | nil => rfl
    | cons x xs => rw [hd] at he; cases ex <;> simp at he
  have he2 : ((resultsA E st.heap st.tmps fn.results.toList).bind fun _ => some st.heap) = some h' := by
    rw [hds] at he
    cases ex with
    | exit i => exact absurd rfl (hne i)
    | normal => exact he
    | ret => exact he
  replace he2 := bind_some he2; obtain ⟨ys, hr, he2⟩ := he2
  simp only [Option.some.injEq] at he2
  subst he2
  refine callsDIn_of_wp g1 hb trivial (wpIn_mono (k1 σ μ _ w Fence.wide (entered fn.ntmps H hv) rfl) ?_)
  rintro e a1 w1 ⟨hex, σ1, μ1, hs1, ev1⟩
  have hd1 : a1.defers = [] := DR_nil (by have := hs1.df; rw [hds] at this; exact this)
  obtain ⟨y, j1, j2⟩ := results_ok OK hs1.wr hs1.tm hr
  have fin : a1.defers = [] ∧ ∃ v, (results fn a1.tmps).run P w1 = .ok v w1 ∧ ∃ y σ' μ', Ending.returned v = .returned y ∧ WR E B0 σ' μ' st.heap w1 ∧ Ev h σ μ w st.heap σ' μ' w1 :=
    ⟨hd1, y, j1, y, σ1, μ1, rfl, hs1.wr, ev1⟩
  cases ex with
  | exit i => exact absurd rfl (hne i)
  | normal => cases ExR_normal hex; exact fin
  | ret => cases ExR_ret hex; exact fin

/-- Where the evaluator answers, the machine does the same. -/
theorem te_ok (OK : EnvAll E P) (B0 : Nat) : ∀ n, RecOk E B0 P (te E n)
  | 0 => { code := fun _ _ _ _ h => (nomatch h), call := fun _ _ _ _ _ e => (nomatch e), calld := fun _ _ _ _ e => (nomatch e) }
  | n + 1 => { code := fun c st ex st' h => exec_ok OK (te_ok OK B0 n) n c st ex st' h, call := fun f args h v h' he σ μ w vs H hv => enterFn_ok OK (te_ok OK B0 n) n he H hv,
               calld := fun f args h h' he σ μ w vs u H hv => enterD_ok OK (te_ok OK B0 n) n he H hv }

/-- One closed call. -/
theorem te_calls (OK : EnvAll E P) {n : Nat} {f : FuncId} {args : List AV} {v : AV} {h' : List AO} (he : (te E n).call f args [] = some (v, h')) {σ : Sg} {w : World} {vs : Array Value} (H : WR E B0 σ NoMu [] w) (hv : VA E B0 σ NoMu args vs) :
    Calls P f vs w fun e w' => ∃ y σ' μ', e = .returned y ∧ VR E B0 σ' μ' v y ∧ Go.RowKit.Below w.heap.size w w' := by
  refine (callsIn_wide.1 ((te_ok OK B0 n).call f args [] v h' he σ NoMu w vs H hv)).mono ?_
  rintro e w' ⟨y, σ', μ', rfl, H', hy, ev⟩
  refine ⟨y, σ', μ', rfl, hy, ev.os, ev.tape, ev.output, ev.size, fun k hk => ev.keep k hk ?_⟩
  rintro ⟨id, o, p, h1, _⟩
  simp at h1

end
end Go.Te
