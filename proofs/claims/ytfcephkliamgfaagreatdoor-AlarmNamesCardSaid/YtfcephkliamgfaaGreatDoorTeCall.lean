/- TE: calls of functions with a body. -/
import Derived.Test.YtfcephkliamgfaaGreatDoorTeBack
import Derived.RangeFuncLeaves
namespace Go.Te
open Go

section
variable {E : Env} {P : Program} {B0 : Nat}

def DR1 (E : Env) (B0 : Nat) (σ : Sg) (μ : Mu) : ADef → Deferred → Prop
  | .mark b, d => ∃ p, μ b = some p ∧ d = { target := .collected p.blk, args := #[] }
  | .call f args, d => ∃ caps, d.target = .fn (.func f) caps ∧ VA E B0 σ μ args (d.args ++ caps)
def DR (E : Env) (B0 : Nat) (σ : Sg) (μ : Mu) : List ADef → List Deferred → Prop
  | [], [] => True
  | x :: xs, d :: ds => DR1 E B0 σ μ x d ∧ DR E B0 σ μ xs ds
  | _, _ => False

theorem DR1.mono {σ σ' : Sg} {μ μ' : Mu} (hσ : Sg.le σ σ') (hμ : Mu.le μ μ') {x : ADef} {d : Deferred} (h : DR1 E B0 σ μ x d) : DR1 E B0 σ' μ' x d := by
  cases x with
  | mark b => obtain ⟨p, h1, h2⟩ := h; exact ⟨p, hμ _ _ h1, h2⟩
  | call f args => obtain ⟨caps, h1, h2⟩ := h; exact ⟨caps, h1, h2.mono hσ hμ⟩
theorem DR.mono {σ σ' : Sg} {μ μ' : Mu} (hσ : Sg.le σ σ') (hμ : Mu.le μ μ') : ∀ {xs : List ADef} {ds : List Deferred}, DR E B0 σ μ xs ds → DR E B0 σ' μ' xs ds
  | [], [], _ => trivial
  | _ :: _, _ :: _, h => ⟨h.1.mono hσ hμ, DR.mono hσ hμ h.2⟩
  | [], _ :: _, h => h.elim
  | _ :: _, [], h => h.elim
theorem DR.append {σ : Sg} {μ : Mu} : ∀ {xs ys : List ADef} {ds es : List Deferred}, DR E B0 σ μ xs ds → DR E B0 σ μ ys es → DR E B0 σ μ (xs ++ ys) (ds ++ es)
  | [], _, [], _, _, k => k
  | _ :: _, _, _ :: _, _, h, k => ⟨h.1, DR.append h.2 k⟩
  | [], _, _ :: _, _, h, _ => h.elim
  | _ :: _, _, [], _, h, _ => h.elim

/-- A state, and an activation in its world. -/
structure SR (E : Env) (B0 : Nat) (σ : Sg) (μ : Mu) (st : St) (a : Act) (w : World) : Prop where
  wr : WR E B0 σ μ st.heap w
  tm : VA E B0 σ μ st.tmps a.tmps
  df : DR E B0 σ μ st.defers a.defers

def FenceIs (μ : Mu) (round : Option Nat) (F : Fence) : Prop :=
  match round with
  | none => F = Fence.wide
  | some l => ∃ p, μ l = some p ∧ F = Fence.wide.inRound p.blk

theorem FenceIs.mono {μ μ' : Mu} (hμ : Mu.le μ μ') {ro : Option Nat} {F : Fence} (h : FenceIs μ ro F) : FenceIs μ' ro F := by
  cases ro with
  | none => exact h
  | some l => obtain ⟨p, h1, h2⟩ := h; exact ⟨p, hμ _ _ h1, h2⟩

theorem FenceIs.all {μ : Mu} {ro : Option Nat} {F : Fence} (h : FenceIs μ ro F) : (∀ f, F.fn f) ∧ F.depth = none := by
  cases ro with
  | none => cases h; exact ⟨fun _ => trivial, rfl⟩
  | some l => obtain ⟨p, _, rfl⟩ := h; exact ⟨fun _ => trivial, rfl⟩

/-- Under either fence a call is the same. -/
theorem FenceIs.calls {μ : Mu} {ro : Option Nat} {F : Fence} (h : FenceIs μ ro F) {n : Nat} {f : FuncId} {args : Array Value} {w : World} {R : Ending → World → Prop} (hc : CallsIn Fence.wide n P f args w R) : CallsIn F n P f args w R := by
  cases ro with
  | none => cases h; exact hc
  | some l => obtain ⟨p, _, rfl⟩ := h; exact hc

def ExR : Ex → Exit → Prop
  | .normal, .normal => True
  | .ret, .ret => True
  | .exit i, .exit j => i = j
  | _, _ => False

def ExPost (E : Env) (B0 : Nat) (st : St) (σ : Sg) (μ : Mu) (w : World) (ex : Ex) (st' : St) : Exit → Act → World → Prop :=
  fun e a' w' => ExR ex e ∧ ∃ σ' μ', SR E B0 σ' μ' st' a' w' ∧ Ev st.heap σ μ w st'.heap σ' μ' w'

structure RecOk (E : Env) (B0 : Nat) (P : Program) (r : Rec) : Prop where
  code : ∀ c st ex st', r.code c st = some (ex, st') → st'.round = st.round ∧ ∀ σ μ a w F, SR E B0 σ μ st a w → FenceIs μ st.round F → c.wpIn F 0 P (ExPost E B0 st σ μ w ex st') a w
  call : ∀ f args h v h', r.call f args h = some (v, h') → ∀ σ μ w vs, WR E B0 σ μ h w → VA E B0 σ μ args vs → CallsIn Fence.wide 0 P f vs w (CallPost E B0 h σ μ w v h')
  calld : ∀ f args h h', r.calld f args h = some h' → ∀ σ μ w vs u, WR E B0 σ μ h w → VA E B0 σ μ args vs →
    CallsDIn Fence.wide 0 P f vs u w (fun e u' w' => u' = u ∧ ∃ y σ' μ', e = .returned y ∧ WR E B0 σ' μ' h' w' ∧ Ev h σ μ w h' σ' μ' w')

/-- What the evaluator's table of answers says, is so. -/
def MemoOk (E : Env) (P : Program) : Prop := ∀ g args v h', E.memo g args = some (v, h') → ∀ B0 σ w vs, WR E B0 σ NoMu [] w → VA E B0 σ NoMu args vs → CallsIn Fence.wide 0 P g vs w (CallPost E B0 [] σ NoMu w v h')

/-- What is said of calls that the evaluator does not go into (contracts that are proved apart), is so. -/
def ExtOk (E : Env) (P : Program) : Prop := ∀ g args h v h', E.ext g args h = some (v, h') → ∀ B0 σ μ w vs, WR E B0 σ μ h w → VA E B0 σ μ args vs → CallsIn Fence.wide 0 P g vs w (CallPost E B0 h σ μ w v h')

structure EnvAll (E : Env) (P : Program) : Prop extends EnvOk2 E P where
  memo : MemoOk E P
  ext : ExtOk E P

theorem NoMu_of_fresh {h : List AO} {σ : Sg} {μ : Mu} {w : World} (H : WR E B0 σ μ h w) (h0 : h = []) : μ = NoMu := by
  funext id
  exact H.fresh id (by rw [h0]; exact Nat.zero_le _)

mutual
theorem ren_closed {σ : Sg} (f : Nat → Option Nat) : ∀ (x : AV) (v : Value), VR E B0 σ NoMu x v → ren f x = some x
  | .bool _, _, _ => by simp only [ren]
  | .int _ _, _, _ => by simp only [ren]
  | .str _, _, _ => by simp only [ren]
  | .nilp, _, _ => by simp only [ren]
  | .tptr _ _ _ _, _, _ => by simp only [ren]
  | .glob _ _, _, _ => by simp only [ren]
  | .snil, _, _ => by simp only [ren]
  | .slnil, _, _ => by simp only [ren]
  | .tree _ _ _, _, _ => by simp only [ren]
  | .mapnil, _, _ => by simp only [ren]
  | .nilfn, _, _ => by simp only [ren]
  | .ptr _ _, _, h => by simp only [VR] at h; obtain ⟨p, h, _⟩ := h; cases h
  | .sl _ _ _ _, _, h => by simp only [VR] at h; obtain ⟨p, _, _, _, h, _⟩ := h; cases h
  | .map _, _, h => by simp only [VR] at h; obtain ⟨p, h, _⟩ := h; cases h
  | .fn g xs ys, _, h => by
    simp only [VR] at h
    obtain ⟨g2, a, c, h1, h2, h3, h4, h5, h6⟩ := h
    simp only [ren, renL_closed f xs _ _ h4, renL_closed f ys _ _ h6]
    cases g with
    | yield l => obtain ⟨p, e, _⟩ := h2; cases e
    | _ => rfl
  | .agg xs, _, h => by
    simp only [VR] at h
    obtain ⟨a, h1, h2, h3⟩ := h
    simp only [ren, renL_closed f xs _ _ h3]; rfl
  | .tup xs, _, h => by
    simp only [VR] at h
    obtain ⟨a, h1, h2, h3⟩ := h
    simp only [ren, renL_closed f xs _ _ h3]; rfl
theorem renL_closed {σ : Sg} (f : Nat → Option Nat) : ∀ (xs : List AV) (g : Nat → Option Value) (p : Nat), VRl E B0 σ NoMu xs g p → renL f xs = some xs
  | [], _, _, _ => by simp only [renL]
  | x :: xs, g, p, h => by
    simp only [VRl] at h
    obtain ⟨⟨v, h1, h2⟩, h3⟩ := h
    simp only [renL, ren_closed f x v h2, renL_closed f xs g (p + 1) h3]; rfl
end

/-- The arguments' snapshots. -/
theorem snapArgs {σ : Sg} {μ : Mu} {h : List AO} {w : World} {args args' : List AV} {vs : Array Value} {seen : List Nat} (H : WR E B0 σ μ h w) (hv : VA E B0 σ μ args vs) (ha : mapO (snap E h deep) args = some args')
    (hs : flatO (seenBy E h deep) args = some seen) : VA E B0 (Sg.with σ μ h w (· ∈ seen)) NoMu args' vs := by
  obtain ⟨l, k⟩ := mapO_spec _ _ ha
  refine ⟨by rw [hv.1, l], VRl_iff.2 fun i y hi => ?_⟩
  obtain ⟨x, hx, hsx⟩ := k i y hi
  obtain ⟨u, hu, hr⟩ := VRl_iff.1 hv.2 i x hx
  obtain ⟨m, g1, g2⟩ := flatO_spec _ _ hs x (List.mem_of_getElem? hx)
  exact ⟨u, hu, snap_sound H deep x y u hsx (.inr ⟨m, g1, g2⟩) hr⟩

/-- A snapshot comes back. -/
theorem backSnap {σ : Sg} {μ : Mu} {h : List AO} {w w' : World} {v : AV} {y : Value} {σ' : Sg} {seen : List Nat} (H : WR E B0 σ μ h w) (H' : WR E B0 σ' NoMu [] w') (hv : VR E B0 σ' NoMu v y)
    (ev : Ev [] (Sg.with σ μ h w (· ∈ seen)) NoMu w [] σ' NoMu w') :
    ∃ σ2 μ2, WR E B0 σ2 μ2 (resH h (.quiet v [] (sealsOf h seen (trees v)))) w' ∧ VR E B0 σ2 μ2 v y ∧ Ev h σ μ w (resH h (.quiet v [] (sealsOf h seen (trees v)))) σ2 μ2 w' := by
  have hm : moveFrom h seen v [] [] = some (.quiet v [] (sealsOf h seen (trees v))) := by
    have e0 : treesH [] = [] := rfl
    simp only [moveFrom, ren_closed _ v y hv, renH, Option.bind_some, e0, List.append_nil]
  obtain ⟨σ2, μ2, h1, h2, h3, _⟩ := moveFrom_ok H (by simp) H' hv ev hm
  exact ⟨σ2, μ2, h1, h2, h3⟩

/-- Behind a call over snapshots. -/
theorem backFrom_ok {g : FuncId} {h h' : List AO} {seen : List Nat} {v : AV} {res : OpRes} {σ : Sg} {μ : Mu} {w : World} {vs : Array Value} (H : WR E B0 σ μ h w) (hc : backFrom E g h seen v h' = some res)
    (base : CallsIn Fence.wide 0 P g vs w (CallPost E B0 [] (Sg.with σ μ h w (· ∈ seen)) NoMu w v h')) : resD res = [] ∧ CallsIn Fence.wide 0 P g vs w (CallPost E B0 h σ μ w (resV res) (resH h res)) := by
  simp only [backFrom] at hc
  split at hc
  · rename_i v2 hsn
    have hsn : snap E h' deep v = some v2 := by
      split at hsn
      · cases hsn
      · exact hsn
    simp only [Option.some.injEq] at hc; subst hc
    refine ⟨rfl, base.mono ?_⟩
    rintro e w' ⟨y, σ', μ', rfl, k1, k2, k3⟩
    obtain ⟨σ3, j1, j2, j3⟩ := asSnap k1 k2 k3 hsn
    obtain ⟨σ2, μ2, g1, g2, g3⟩ := backSnap H j1 j2 j3
    exact ⟨y, σ2, μ2, rfl, g1, g2, g3⟩
  · have hres : resD res = [] := by
      simp only [moveFrom] at hc
      replace hc := bind_some hc; obtain ⟨v2, _, hc⟩ := hc
      replace hc := bind_some hc; obtain ⟨new, _, hc⟩ := hc
      simp only [Option.some.injEq] at hc; subst hc; rfl
    refine ⟨hres, base.mono ?_⟩
    rintro e w' ⟨y, σ', μ', rfl, k1, k2, k3⟩
    obtain ⟨σ2, μ2, g1, g2, g3, _⟩ := moveFrom_ok H (reach_nodup _ _ _ _ (by simp)) k1 k2 k3 hc
    exact ⟨y, σ2, μ2, rfl, g1, g2, g3⟩

theorem with_none {σ : Sg} {μ : Mu} {w : World} {S : Nat → Prop} : Sg.with σ μ [] w S = σ := by
  funext b
  unfold Sg.with
  split
  · rename_i hx
    obtain ⟨id, e, cs, ex, se, p, _, h2, _⟩ := hx
    simp at h2
  · rfl

theorem callBy_ok {r : Rec} (OK : EnvAll E P) (R : RecOk E B0 P r) {g : FuncId} {args : List AV} {h : List AO} {res : OpRes} {σ : Sg} {μ : Mu} {w : World} {vs : Array Value} (H : WR E B0 σ μ h w) (hv : VA E B0 σ μ args vs)
    (hc : callBy E r g args h = some res) : (∃ f, E.fn g = some f) ∧ resD res = [] ∧ CallsIn Fence.wide 0 P g vs w (CallPost E B0 h σ μ w (resV res) (resH h res)) := by
  simp only [callBy] at hc
  split at hc
  · cases hc
  rename_i f hf
  refine ⟨⟨f, hf⟩, ?_⟩
  have shared : ((r.call g args h).bind fun x => some (OpRes.loud x.1 x.2 [])) = some res → resD res = [] ∧ CallsIn Fence.wide 0 P g vs w (CallPost E B0 h σ μ w (resV res) (resH h res)) := by
    intro hc
    replace hc := bind_some hc; obtain ⟨⟨v, h'⟩, hr, hc⟩ := hc
    simp only [Option.some.injEq] at hc; subst hc
    exact ⟨rfl, R.call g args h v h' hr σ μ w vs H hv⟩
  split at hc
  · rename_i v h' hext
    simp only [Option.some.injEq] at hc; subst hc
    exact ⟨rfl, OK.ext g args h v h' hext B0 σ μ w vs H hv⟩
  split at hc
  · exact shared hc
  · split at hc
    · exact shared hc
    · rename_i args' hargs
      replace hc := bind_some hc; obtain ⟨seen, hseen, hc⟩ := hc
      have Hb := H.bare (· ∈ seen)
      have hv' := snapArgs H hv hargs hseen
      replace hc := bind_some hc; obtain ⟨⟨v, h'⟩, hr, hc⟩ := hc
      have base : CallsIn Fence.wide 0 P g vs w (CallPost E B0 [] (Sg.with σ μ h w (· ∈ seen)) NoMu w v h') := by
        split at hr
        · rename_i x hmemo
          simp only [Option.some.injEq] at hr; subst hr
          exact OK.memo g args' v h' hmemo B0 _ w vs Hb hv'
        · exact R.call g args' [] v h' hr _ _ w vs Hb hv'
      exact backFrom_ok H hc base

theorem run_callFunc (OK : EnvOk E P) {g : FuncId} {f : Func} (hf : E.fn g = some f) (args : Array Value) (w : World) : (callFunc g args).run P w = .ok (.enter g args) w := by
  obtain ⟨h1, h2, h3⟩ := OK.fn g f hf
  have hb : f.body ≠ none := by intro e; rw [e] at h2; simp at h2
  simp [callFunc, h1, h3, hb]

end
end Go.Te
