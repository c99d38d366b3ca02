/- TE: operations in the text's order. -/
import Derived.Test.YtfcephkliamgfaaGreatDoorTeOp
namespace Go.Te
open Go

section
variable {E : Env} {P : Program} {B0 : Nat} {σ : Sg} {μ : Mu}

theorem yielded_sound {ops : Array Oper} {tmps : List AV} {a : Array Value} (h : VA E B0 σ μ tmps a) (j : Nat) : yieldedA ops tmps j = yielded ops a j := by
  unfold yieldedA yielded
  cases hd : (ops[j]?).bind (·.dst) with
  | none => simp
  | some d =>
    simp only [Option.bind_some]
    by_cases hlt : d < tmps.length
    · obtain ⟨u, hu, hr⟩ := h.get (List.getElem?_eq_getElem hlt)
      rw [List.getElem?_eq_getElem hlt, hu]
      generalize tmps[d] = x at hr
      cases x with
      | bool b => rw [VR_bool.1 hr]
      | _ =>
        cases u with
        | bool b => have := VR_to_bool hr; cases this
        | _ => rfl
    · rw [List.getElem?_eq_none (Nat.le_of_not_lt hlt), Array.getElem?_eq_none (by rw [h.1]; exact Nat.le_of_not_lt hlt)]

theorem put_sound {tmps : List AV} {a : Act} {v : AV} {y : Value} (h : VA E B0 σ μ tmps a.tmps) (hv : VR E B0 σ μ v y) (d : Option Tmp) : VA E B0 σ μ (put tmps d v) (a.put d y).tmps := by
  cases d with
  | none => exact h
  | some p =>
    simp only [put, Act.put]
    refine VA.mk' (by simp [h.1]) fun i x hi => ?_
    by_cases hip : i = p
    · subst hip
      have hlt : i < tmps.length := by have := (List.getElem?_eq_some_iff.1 hi).1; simpa using this
      rw [List.getElem?_set_self hlt] at hi
      cases hi
      exact ⟨y, by rw [Array.getElem?_setIfInBounds_self_of_lt (by rw [h.1]; exact hlt)], hv⟩
    · rw [List.getElem?_set_ne (Ne.symm hip)] at hi
      obtain ⟨z, hz, hr'⟩ := h.get hi
      exact ⟨z, by rw [Array.getElem?_setIfInBounds_ne (Ne.symm hip)]; exact hz, hr'⟩

theorem put_defers {a : Act} {d : Option Tmp} {y : Value} : (a.put d y).defers = a.defers := by cases d <;> rfl

def St.next (st : St) (d : Option Tmp) (res : OpRes) : St := { tmps := put st.tmps d (resV res), heap := resH st.heap res, defers := resD res ++ st.defers, round := st.round }
def St.skip (st : St) (d : Option Tmp) : St := { tmps := put st.tmps d (.tup []), heap := st.heap, defers := st.defers, round := st.round }

/-- Behind an operation the state and the activation are alike again. -/
theorem after_op {st : St} {a : Act} {w w' : World} {o : Oper} {res : OpRes} {y : Value} {σ' : Sg} {μ' : Mu} {ds : List Deferred} (hs : SR E B0 σ μ st a w) (H : WR E B0 σ' μ' (resH st.heap res) w') (hv : VR E B0 σ' μ' (resV res) y)
    (ev : Ev st.heap σ μ w (resH st.heap res) σ' μ' w') (hd : DR E B0 σ' μ' (resD res) ds) :
    SR E B0 σ' μ' (st.next o.dst res) ({ a with defers := ds ++ a.defers }.put o.dst y) w' where
  wr := H
  tm := put_sound (a := { a with defers := ds ++ a.defers }) (hs.tm.mono ev.sg ev.mu) hv o.dst
  df := by rw [put_defers]; exact DR.append hd (hs.df.mono ev.sg ev.mu)

/-- What one step in the text's order makes of a state. -/
theorem opsA_cons {r : Rec} {ops : Array Oper} {o : Oper} {os : List Oper} {st st' : St} (h : opsA E r ops (o :: os) st = some st') :
    (Region.wanted o (yieldedA ops st.tmps) = true ∧ ∃ res, opA E r o st.tmps st.heap = some res ∧ (st.round.isNone = true ∨ resD res = []) ∧
      opsA E r ops os (st.next o.dst res) = some st') ∨
    (Region.wanted o (yieldedA ops st.tmps) = false ∧ opsA E r ops os (st.skip o.dst) = some st') := by
  simp only [opsA] at h
  split at h
  · rename_i hw
    left
    refine ⟨hw, ?_⟩
    split at h
    · rename_i v new seals ho
      exact ⟨_, ho, .inr rfl, h⟩
    · rename_i v h' ds ho
      split at h
      · rename_i hc
        refine ⟨_, ho, ?_, h⟩
        simp only [Bool.or_eq_true, List.isEmpty_iff] at hc
        exact hc
      · cases h
    · cases h
  · rename_i hw
    right
    exact ⟨by simpa using hw, h⟩

theorem opsA_ok {r : Rec} (OK : EnvAll E P) (R : RecOk E B0 P r) {ops : Array Oper} {Q : Exit → Act → World → Prop} {F : Fence} {st' : St} : ∀ (os : List Oper) (i : Nat) (st : St) (σ : Sg) (μ : Mu) (a : Act) (w : World), os = ops.toList.drop i → opsA E r ops os st = some st' →
    SR E B0 σ μ st a w → FenceIs μ st.round F → (∀ a' w' σ' μ', SR E B0 σ' μ' st' a' w' → Ev st.heap σ μ w st'.heap σ' μ' w' → Q .normal a' w') → st'.round = st.round ∧ wpOpsIn F 0 P ops Q (List.range' i os.length) a w
  | [], i, st, σ, μ, a, w, _, h, hs, hF, hQ => by
    simp only [opsA, Option.some.injEq] at h
    subst h
    exact ⟨rfl, hQ a w σ μ hs (Ev.refl _ _ _ _)⟩
  | o :: os, i, st, σ, μ, a, w, hos, h, hs, hF, hQ => by
    have hoi : ops[i]? = some o := by
      have : (ops.toList.drop i)[0]? = some o := by rw [← hos]; rfl
      rw [List.getElem?_drop] at this
      simpa using this
    have hos' : os = ops.toList.drop (i + 1) := by
      rw [← List.tail_drop, ← hos]; rfl
    have hy : yieldedA ops st.tmps = yielded ops a.tmps := funext fun j => yielded_sound hs.tm j
    simp only [List.length_cons, List.range'_succ, wpOpsIn, hoi]
    rcases opsA_cons h with ⟨hw, res, hres, hro, hrest⟩ | ⟨hw, hrest⟩
    · have hgo : ∀ (σ' : Sg) (μ' : Mu) (a' : Act) (w' : World), SR E B0 σ' μ' (st.next o.dst res) a' w' → Ev st.heap σ μ w (resH st.heap res) σ' μ' w' →
          st'.round = st.round ∧ wpOpsIn F 0 P ops Q (List.range' (i + 1) os.length) a' w' := by
        intro σ' μ' a' w' hs' hev
        exact opsA_ok OK R os (i + 1) (st.next o.dst res) σ' μ' a' w' hos' hrest hs' (hF.mono hev.mu) (fun a'' w'' σ'' μ'' h1 h2 => hQ a'' w'' σ'' μ'' h1 (hev.trans h2))
      have hround : st'.round = st.round := by
        clear hgo hQ hs hy
        -- the rest keeps the round
        have gen : ∀ (os : List Oper) (st st' : St), opsA E r ops os st = some st' → st'.round = st.round := by
          intro os
          induction os with
          | nil => intro st st' h; simp only [opsA, Option.some.injEq] at h; subst h; rfl
          | cons o os ih =>
            intro st st' h
            rcases opsA_cons h with ⟨_, res, _, _, hr⟩ | ⟨_, hr⟩
            · exact ih (st.next o.dst res) _ hr
            · exact ih (st.skip o.dst) _ hr
        exact gen os (st.next o.dst res) _ hrest
      refine ⟨hround, ?_⟩
      rw [hy] at hw
      rw [if_pos hw]
      exact opA_ok OK R hs.wr (hs.tm.opsR _) hF hro hres (fun y σ' μ' w' ds H' hv ev hd => (hgo σ' μ' _ w' (after_op hs H' hv ev hd) ev).2)
    · rw [hy] at hw
      rw [if_neg (by rw [hw]; simp)]
      have hs' : SR E B0 σ μ (st.skip o.dst) (a.put o.dst undef) w := ⟨hs.wr, put_sound hs.tm VR_undef o.dst, by rw [put_defers]; exact hs.df⟩
      obtain ⟨h1, h2⟩ := opsA_ok OK R os (i + 1) (st.skip o.dst) σ μ (a.put o.dst undef) w hos' hrest hs' hF hQ
      exact ⟨h1, fun f _ => hF.all.1 f, h2⟩

end
end Go.Te
