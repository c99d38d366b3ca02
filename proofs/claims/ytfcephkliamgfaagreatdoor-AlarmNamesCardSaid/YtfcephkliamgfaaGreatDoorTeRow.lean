/- TE: from what a row lists of the package's variables to the evaluator's first state. -/
import Derived.Test.YtfcephkliamgfaaGreatDoorTeLaid
namespace Go.Te
open Go

section
variable {E : Env} {P : Program}

def funcOf : List (List UInt8 × FuncId) → List UInt8 → Option FuncId
  | [], _ => none
  | (n, f) :: r, x => bif beqBytes n x then some f else funcOf r x

theorem funcOf_mem : ∀ {tbl : List (List UInt8 × FuncId)} {x : List UInt8} {f : FuncId}, funcOf tbl x = some f → (x, f) ∈ tbl
  | [], _, _, h => by cases h
  | (n, g) :: r, x, f, h => by
    simp only [funcOf] at h
    cases hb : beqBytes n x with
    | true =>
      rw [hb] at h
      simp only [cond_true, Option.some.injEq] at h
      rw [beqBytes_eq hb, h]
      exact List.mem_cons_self
    | false =>
      rw [hb] at h
      exact List.mem_cons_of_mem _ (funcOf_mem h)

/-- Each name of the table is one function's. -/
def tblOk (P : Program) (tbl : List (List UInt8 × FuncId)) : Bool :=
  tbl.all fun x => !x.1.isEmpty && beqNs ((List.range P.funcs.size).filter fun f => (P.funcs[f]?).any fun fn => beqBytes fn.name.toUTF8.data.toList x.1) [x.2]

theorem funcOf_ok {tbl : List (List UInt8 × FuncId)} (h : tblOk P tbl = true) (t : TypeId) (v : Value) (f : FuncId) (hf : funcOf tbl (funcToken P (t, v)) = some f) : v = .func (.func f) #[] #[] := by
  have hm := funcOf_mem hf
  have := List.all_eq_true.1 h _ hm
  simp only [Bool.and_eq_true, Bool.not_eq_true', List.isEmpty_eq_false_iff] at this
  obtain ⟨hne, hu⟩ := this
  have hu := beqNs_eq hu
  cases hk : funcToken P (t, v) with
  | nil => exact absurd hk hne
  | cons b r =>
    obtain ⟨g, fn, rfl, hg, _, hb⟩ := funcToken_tells hk
    have hin : g ∈ (List.range P.funcs.size).filter fun f => (P.funcs[f]?).any fun fn => beqBytes fn.name.toUTF8.data.toList (funcToken P (t, .func (.func g) #[] #[])) := by
      refine List.mem_filter.2 ⟨List.mem_range.2 (Array.getElem?_eq_some_iff.1 hg).1, ?_⟩
      rw [hg, hk, ← hb]
      simp only [Option.any_some]
      have : ∀ l : List UInt8, beqBytes l l = true := by
        intro l
        induction l with
        | nil => rfl
        | cons x l ih => simp only [beqBytes, ih, Bool.and_true, Nat.beq_eq]
      exact this _
    rw [hu] at hin
    rw [List.mem_singleton.1 hin]

theorem WR.init {W : World} (hg : ∀ g cs, E.gv g = some cs → ∃ c e fr, W.heap[g]? = some (.cells c e fr) ∧ VRl E W.heap.size (sgAll W) NoMu cs (fun j => c[j]?) 0) : WR E W.heap.size (sgAll W) NoMu [] W where
  stable := fun b e c hb => by
    unfold sgAll at hb
    split at hb
    · rename_i c' e' fr h
      simp only [Option.some.injEq, Prod.mk.injEq] at hb
      obtain ⟨rfl, rfl⟩ := hb
      exact ⟨fr, h⟩
    · cases hb
  objs := fun id o h => by simp at h
  fresh := fun _ _ => rfl
  glob := fun g cs h => by
    obtain ⟨c, e, fr, h1, h2⟩ := hg g cs h
    exact ⟨e, c, sgAll_of h1, h2⟩
  inj := fun i j a b p q h => by simp at h
  lt := fun _ _ h => by cases h
  base := Nat.le_refl _

theorem laidVars_mem {W : World} : ∀ {laid : List (String × DataW Unit)} {ps : List MemPlace}, DataW.LaidVars P W laid ps → ∀ n d, (n, d) ∈ laid → ∃ g t cs fuel p, P.globalNamed n = some g ∧ (P.globals[g]?).map (·.type) = some t ∧ W.var? P n = some cs ∧
    DataW.trod (fun _ => ()) P W 0 (fun _ => true) false fuel t cs.toList = some (d, p)
  | [], _, _, _, _, h => by cases h
  | (m, e) :: r, ps, h, n, d, hm => by
    obtain ⟨g, t, cs, fuel, p, q, h1, h2, h3, h4, h5, _⟩ := h
    rcases List.mem_cons.1 hm with e | hm
    · cases e; exact ⟨g, t, cs, fuel, p, h1, h2, h3, h4⟩
    · exact laidVars_mem h5 n d hm

theorem laidMetH_data {W : World} {laid : List (String × DataW Unit)} (h : laidMetH P laid W) {n : String} {d : DataW Unit} (hm : (n, d) ∈ laid) (hn : d.handleName? = none) : ∃ g t cs fuel p, P.globalNamed n = some g ∧ (P.globals[g]?).map (·.type) = some t ∧ W.var? P n = some cs ∧
    DataW.trod (fun _ => ()) P W 0 (fun _ => true) false fuel t cs.toList = some (d, p) := by
  unfold laidMetH at h
  split at h
  · obtain ⟨ps, h1, _⟩ := h; exact laidVars_mem h1 n d hm
  · obtain ⟨⟨ps, h1, _⟩, _⟩ := h
    exact laidVars_mem h1 n d (List.mem_filter.2 ⟨hm, by simp [hn]⟩)

/-- What one global holds, by the row's list. -/
def gvOk (E : Env) (P : Program) (tbl : List (List UInt8 × FuncId)) (laid : List (String × DataW Unit)) (g : Nat) (cs : List AV) : Prop :=
  ∃ n t, P.globalNamed n = some g ∧ (P.globals[g]?).map (·.type) = some t ∧
    ((∃ d, (n, d) ∈ laid ∧ d.handleName? = none ∧ dAV E (fun _ : Unit => none) 12 t d = some cs) ∨ (∃ d : DataW Unit, (n, .iface "func table" d) ∈ laid ∧ dAV E (funcOf tbl) 12 t d.funcsOut = some cs))

theorem var_block {W : World} {n : String} {g : Nat} {cs : Array Value} (hg : P.globalNamed n = some g) (h : W.var? P n = some cs) : ∃ e fr, W.heap[g]? = some (.cells cs e fr) := by
  simp only [World.var?, hg, Option.bind_some] at h
  split at h
  · rename_i c e fr hb
    simp only [Option.some.injEq] at h; subst h
    exact ⟨e, fr, hb⟩
  · cases h

theorem init_of_laid (OK : EnvOk E P) {W : World} {tbl : List (List UInt8 × FuncId)} {laid : List (String × DataW Unit)} (ht : tblOk P tbl = true) (hl : laidMetH P laid W) (hg : ∀ g cs, E.gv g = some cs → gvOk E P tbl laid g cs) :
    WR E W.heap.size (sgAll W) NoMu [] W := by
  refine WR.init fun g cs h => ?_
  obtain ⟨n, t, h1, h2, h3⟩ := hg g cs h
  rcases h3 with ⟨d, hm, hn, hd⟩ | ⟨d, hm, hd⟩
  · obtain ⟨g', t', vs, fuel, p, k1, k2, k3, k4⟩ := laidMetH_data hl hm hn
    rw [h1] at k1; cases k1
    rw [h2] at k2; cases k2
    obtain ⟨e, fr, hb⟩ := var_block h1 k3
    obtain ⟨_, q⟩ := dAV_ok OK (Nat.le_refl _) (fun _ _ _ hh => by cases hh) 12 t d cs fuel vs.toList p hd k4
    exact ⟨vs, e, fr, hb, VRl_iff.2 fun i x hi => by obtain ⟨v, hv, hr⟩ := q i x hi; exact ⟨v, by simpa using hv, hr⟩⟩
  · obtain ⟨g', t', vs, fuel, p, k1, k2, k3, k4⟩ := laidMetH.funcs hl hm
    rw [h1] at k1; cases k1
    rw [h2] at k2; cases k2
    obtain ⟨e, fr, hb⟩ := var_block h1 k3
    obtain ⟨_, q⟩ := dAV_ok OK (Nat.le_refl _) (funcOf_ok ht) 12 t _ cs fuel vs.toList p hd k4
    exact ⟨vs, e, fr, hb, VRl_iff.2 fun i x hi => by obtain ⟨v, hv, hr⟩ := q i x hi; exact ⟨v, by simpa using hv, hr⟩⟩

end
end Go.Te
