/- TE: a table of calls that are proved, each by those ahead of it. -/
import Derived.Test.YtfcephkliamgfaaGreatDoorTeTab
namespace Go.Te
open Go

/-- A call that is proved: its place in the table's order, the arguments, the answer and the heap that it leaves. -/
structure Ent where
  idx : Nat
  args : List AV
  val : AV
  heap : List AO

def lookE : List Ent → Nat → List AV → Option (AV × List AO)
  | [], _, _ => none
  | e :: es, k, args => bif Nat.ble (e.idx + 1) k && beqAVs e.args args then some (e.val, e.heap) else lookE es k args

theorem lookE_spec : ∀ {es : List Ent} {k : Nat} {args : List AV} {v : AV} {h : List AO}, lookE es k args = some (v, h) → ∃ e ∈ es, e.idx < k ∧ e.args = args ∧ e.val = v ∧ e.heap = h
  | [], _, _, _, _, h => by cases h
  | e :: es, k, args, v, hp, h => by
    simp only [lookE] at h
    cases hc : (Nat.ble (e.idx + 1) k && beqAVs e.args args) with
    | true =>
      rw [hc] at h
      simp only [cond_true, Option.some.injEq, Prod.mk.injEq] at h
      simp only [Bool.and_eq_true, Nat.ble_eq] at hc
      exact ⟨e, List.mem_cons_self, hc.1, beqAVs_eq hc.2, h.1, h.2⟩
    | false =>
      rw [hc] at h
      obtain ⟨e', h1, h2⟩ := lookE_spec h
      exact ⟨e', List.mem_cons_of_mem _ h1, h2⟩

/-- The evaluator's tables with the proved calls ahead of place k. -/
def Env.upTo (E : Env) (T : Tr (List Ent)) (k : Nat) : Env where
  ti := E.ti
  fn := E.fn
  gv := E.gv
  mode := E.mode
  memo := fun g args => (T.get g).bind fun es => lookE es k args
  ext := E.ext
  eqShape := E.eqShape

/-- The call is made with the calls ahead of it in the table; what it leaves is brought into the table's form. -/
def Ent.check (E : Env) (T : Tr (List Ent)) (n : Nat) (g : FuncId) (e : Ent) : Bool :=
  match (te (E.upTo T e.idx) n).call g e.args [] with
  | some (v, h) => match backFrom (E.upTo T e.idx) g [] [] v h with
    | some (.quiet v new []) => beqAV v e.val && beqH new e.heap
    | _ => false
  | none => false

theorem Ent.check_ok {E : Env} {T : Tr (List Ent)} {n : Nat} {g : FuncId} {e : Ent} (h : e.check E T n g = true) :
    ∃ v h', (te (E.upTo T e.idx) n).call g e.args [] = some (v, h') ∧ backFrom (E.upTo T e.idx) g [] [] v h' = some (.quiet e.val e.heap []) := by
  unfold Ent.check at h
  split at h
  · rename_i v hp hc
    split at h
    · rename_i v2 new hb
      simp only [Bool.and_eq_true] at h
      exact ⟨v, hp, hc, by rw [hb, beqAV_eq h.1, beqH_eq h.2]⟩
    · cases h
  · cases h

section
variable {E E' : Env} {B0 : Nat}

theorem esz_env (h : E'.ti = E.ti) (e : TypeId) : esz E' e = esz E e := by simp [esz, h]

mutual
theorem VR.env (h : E'.ti = E.ti) {σ : Sg} {μ : Mu} : ∀ (x : AV) (v : Value), VR E B0 σ μ x v → VR E' B0 σ μ x v
  | .bool _, _, k => by simpa only [VR] using k
  | .int _ _, _, k => by simpa only [VR] using k
  | .str _, _, k => by simpa only [VR] using k
  | .nilp, _, k => by simpa only [VR] using k
  | .ptr _ _, _, k => by simpa only [VR] using k
  | .tptr _ _ cs _, _, k => by
    simp only [VR] at k ⊢
    obtain ⟨blk, off, e', c, h1, h2, h3, h4⟩ := k
    exact ⟨blk, off, e', c, h1, h2, VRl.env h cs _ _ h3, h4⟩
  | .glob _ _, _, k => by simpa only [VR] using k
  | .snil, _, k => by simpa only [VR] using k
  | .slnil, _, k => by simpa only [VR] using k
  | .sl _ _ _ _, _, k => by simpa only [VR, esz_env h] using k
  | .tree _ _ cs, _, k => by
    simp only [VR, esz_env h] at k ⊢
    obtain ⟨a, cap, s, h1, h2, h3, h4, h5, h6⟩ := k
    refine ⟨a, cap, s, h1, h2, h3, h4, h5, ?_⟩
    rcases h6 with h6 | ⟨blk, off, e', c, g1, g2, g3, g4⟩
    · exact .inl h6
    · exact .inr ⟨blk, off, e', c, g1, g2, g3, VRl.env h cs _ _ g4⟩
  | .mapnil, _, k => by simpa only [VR] using k
  | .map _, _, k => by simpa only [VR] using k
  | .fn f xs ys, _, k => by
    simp only [VR] at k ⊢
    obtain ⟨g, a, c, h1, h2, h3, h4, h5, h6⟩ := k
    exact ⟨g, a, c, h1, h2, h3, VRl.env h xs _ _ h4, h5, VRl.env h ys _ _ h6⟩
  | .nilfn, _, k => by simpa only [VR] using k
  | .agg xs, _, k => by
    simp only [VR] at k ⊢
    obtain ⟨a, h1, h2, h3⟩ := k
    exact ⟨a, h1, h2, VRl.env h xs _ _ h3⟩
  | .tup xs, _, k => by
    simp only [VR] at k ⊢
    obtain ⟨a, h1, h2, h3⟩ := k
    exact ⟨a, h1, h2, VRl.env h xs _ _ h3⟩
theorem VRl.env (h : E'.ti = E.ti) {σ : Sg} {μ : Mu} : ∀ (xs : List AV) (f : Nat → Option Value) (p : Nat), VRl E B0 σ μ xs f p → VRl E' B0 σ μ xs f p
  | [], _, _, _ => by simp only [VRl]
  | x :: xs, f, p, k => by
    simp only [VRl] at k ⊢
    obtain ⟨⟨v, h1, h2⟩, h3⟩ := k
    exact ⟨⟨v, h1, VR.env h x v h2⟩, VRl.env h xs f (p + 1) h3⟩
end

theorem VA.env (h : E'.ti = E.ti) {σ : Sg} {μ : Mu} {xs : List AV} {a : Array Value} (k : VA E B0 σ μ xs a) : VA E' B0 σ μ xs a := ⟨k.1, VRl.env h _ _ _ k.2⟩

theorem ObjR.env (h : E'.ti = E.ti) {σ : Sg} {μ : Mu} {w : World} {id : Nat} {o : AO} (k : ObjR E B0 σ μ w id o) : ObjR E' B0 σ μ w id o := by
  cases o with
  | row e cs ex sealed =>
    obtain ⟨p, c, fr, h1, h2, h3, h4, h5, h6, h7⟩ := k
    exact ⟨p, c, fr, h1, h2, h3, h4, h5, VRl.env h _ _ _ h6, h7⟩
  | map es clock =>
    obtain ⟨p, es', h1, h2, h3, h4, h5⟩ := k
    refine ⟨p, es', h1, h2, h3, fun i k v n hi => ?_, h5⟩
    obtain ⟨m, g1, g2, g3, g4⟩ := h4 i k v n hi
    exact ⟨m, g1, VR.env h _ _ g2, VR.env h _ _ g3, g4⟩
  | iter m since seen last => exact k
  | loop s pend t ps a b =>
    obtain ⟨p, L, h1, h2, h3, h4, h5, h6, h7, h8, h9, h10⟩ := k
    exact ⟨p, L, h1, h2, h3, h4, h5, h6, h7, h8, VRl.env h _ _ _ h9, h10⟩
  | deferred => exact k
  | dead => trivial

theorem WR.env (h : E'.ti = E.ti) (hg : E'.gv = E.gv) {σ : Sg} {μ : Mu} {hp : List AO} {w : World} (H : WR E B0 σ μ hp w) : WR E' B0 σ μ hp w where
  stable := H.stable
  objs := fun id o ho => (H.objs id o ho).env h
  fresh := H.fresh
  glob := fun g cs hc => by
    obtain ⟨e, c, k1, k2⟩ := H.glob g cs (by rw [← hg]; exact hc)
    exact ⟨e, c, k1, VRl.env h _ _ _ k2⟩
  inj := H.inj
  lt := H.lt
  base := H.base
end

def Tr.All {α : Type} (p : Nat → α → Prop) : Tr α → Prop
  | .leaf => True
  | .node k v l r => p k v ∧ l.All p ∧ r.All p
def AllL {α : Type} (p : α → Prop) : List α → Prop
  | [] => True
  | x :: xs => p x ∧ AllL p xs
theorem AllL.of_mem {α : Type} {p : α → Prop} : ∀ {l : List α}, AllL p l → ∀ x ∈ l, p x
  | [], _, _, h => by cases h
  | y :: l, ⟨h1, h2⟩, x, h => by
    rcases List.mem_cons.1 h with rfl | h
    · exact h1
    · exact AllL.of_mem h2 x h
theorem Tr.All.of_get {α : Type} {p : Nat → α → Prop} : ∀ {T : Tr α}, T.All p → ∀ x v, T.get x = some v → p x v := by
  intro T h x v hv
  have hm := Tr.get_mem T x v hv
  clear hv
  induction T with
  | leaf => cases hm
  | node k u l r ihl ihr =>
    obtain ⟨h1, h2, h3⟩ := h
    simp only [Tr.list, List.mem_cons, List.mem_append, Prod.mk.injEq] at hm
    rcases hm with ⟨rfl, rfl⟩ | hm | hm
    · exact h1
    · exact ihl h2 hm
    · exact ihr h3 hm

theorem ExtOk.upTo {E : Env} {P : Program} (hx : ExtOk E P) (T : Tr (List Ent)) (k : Nat) : ExtOk (E.upTo T k) P := by
  intro g args h v h' he B0 σ μ w vs H hv
  refine (hx g args h v h' he B0 σ μ w vs (WR.env (E := E.upTo T k) (E' := E) rfl rfl H) (VA.env (E := E.upTo T k) (E' := E) rfl hv)).mono ?_
  rintro en w' ⟨y, σ', μ', rfl, k1, k2, k3⟩
  exact ⟨y, σ', μ', rfl, WR.env (E := E) (E' := E.upTo T k) rfl rfl k1, VR.env (E := E) (E' := E.upTo T k) rfl _ _ k2, k3⟩

theorem ext_none {E : Env} {P : Program} (h : ∀ g args hp, E.ext g args hp = none) : ExtOk E P := by
  intro g args hp v h' he
  rw [h] at he; cases he

/-- All calls of the table stand. -/
theorem upTo_ok {E : Env} {P : Program} {T : Tr (List Ent)} {n : Nat} (OK : EnvOk2 E P) (hx : ExtOk E P) (h : T.All fun g es => AllL (fun e => e.check E T n g = true) es) : ∀ k, EnvAll (E.upTo T k) P := by
  intro k
  induction k using Nat.strongRecOn with
  | ind k ih =>
    refine { ti := OK.ti, fn := OK.fn, mixed := OK.mixed, eqs := OK.eqs, memo := ?_, ext := hx.upTo T k }
    intro g args v h' hm B0 σ w vs H hv
    simp only [Env.upTo] at hm
    replace hm := bind_some hm; obtain ⟨es, he, hm⟩ := hm
    obtain ⟨e, hin, hlt, rfl, rfl, rfl⟩ := lookE_spec hm
    obtain ⟨v0, h0, hc, hb⟩ := Ent.check_ok ((h.of_get g es he).of_mem e hin)
    have H' : WR (E.upTo T e.idx) B0 σ NoMu [] w := WR.env (E := E.upTo T k) (E' := E.upTo T e.idx) rfl rfl H
    have base := (te_ok (ih e.idx hlt) B0 n).call g e.args [] v0 h0 hc σ NoMu w vs H' (VA.env (E := E.upTo T k) (E' := E.upTo T e.idx) rfl hv)
    obtain ⟨_, base2⟩ := backFrom_ok H' hb (by rw [with_none]; exact base)
    refine base2.mono ?_
    rintro en w' ⟨y, σ', μ', rfl, k1, k2, k3⟩
    simp only [resV, resH, sealAll, joinH_eq, List.nil_append] at k1 k2 k3
    exact ⟨y, σ', μ', rfl, WR.env (E := E.upTo T e.idx) (E' := E.upTo T k) rfl rfl k1, VR.env (E := E.upTo T e.idx) (E' := E.upTo T k) rfl _ _ k2, k3⟩

end Go.Te
