/- TE: a table of calls that are proved, each by those ahead of it. -/
import Derived.Test.YtphpoeekchcmkaaGreatDoorTeTab
namespace Go.Te
open Go

def beqInt : Int → Int → Bool
  | .ofNat a, .ofNat b => Nat.beq a b
  | .negSucc a, .negSucc b => Nat.beq a b
  | _, _ => false
theorem beqInt_eq {a b : Int} (h : beqInt a b = true) : a = b := by
  cases a <;> cases b <;> simp only [beqInt, Nat.beq_eq, Bool.false_eq_true] at h
  · rw [h]
  · rw [h]

def beqBytes : List UInt8 → List UInt8 → Bool
  | [], [] => true
  | x :: xs, y :: ys => Nat.beq x.toNat y.toNat && beqBytes xs ys
  | _, _ => false
theorem beqBytes_eq : ∀ {xs ys : List UInt8}, beqBytes xs ys = true → xs = ys
  | [], [], _ => rfl
  | [], _ :: _, h => by cases h
  | _ :: _, [], h => by cases h
  | x :: xs, y :: ys, h => by
    simp only [beqBytes, Bool.and_eq_true, Nat.beq_eq] at h
    rw [UInt8.toNat_inj.1 h.1, beqBytes_eq h.2]

def beqStr (a b : ByteArray) : Bool := beqBytes a.data.toList b.data.toList
theorem beqStr_eq {a b : ByteArray} (h : beqStr a b = true) : a = b := by
  have := beqBytes_eq h
  cases a with
  | mk a => cases b with
    | mk b => exact congrArg ByteArray.mk (Array.toList_inj.1 this)

def beqFn : Fn → Fn → Bool
  | .func f, .func g => Nat.beq f g
  | _, _ => false
theorem beqFn_eq {f g : Fn} (h : beqFn f g = true) : f = g := by
  cases f <;> cases g <;> simp only [beqFn, Bool.false_eq_true, Nat.beq_eq] at h
  rw [h]

def beqON : Option Nat → Option Nat → Bool
  | none, none => true
  | some a, some b => Nat.beq a b
  | _, _ => false
theorem beqON_eq {a b : Option Nat} (h : beqON a b = true) : a = b := by
  cases a <;> cases b <;> simp only [beqON, Bool.false_eq_true, Nat.beq_eq] at h
  · rfl
  · rw [h]

mutual
def beqAV : AV → AV → Bool
  | .bool a, .bool b => a == b
  | .int k a, .int l b => decide (k = l) && beqInt a b
  | .str a, .str b => beqStr a b
  | .nilp, .nilp => true
  | .ptr a o, .ptr b p => Nat.beq a b && Nat.beq o p
  | .tptr e n cs o, .tptr f m ds p => Nat.beq e f && Nat.beq n m && Nat.beq o p && beqAVs cs ds
  | .glob a o, .glob b p => Nat.beq a b && Nat.beq o p
  | .snil, .snil => true
  | .slnil, .slnil => true
  | .sl a o n c, .sl b p m d => Nat.beq a b && Nat.beq o p && Nat.beq n m && beqON c d
  | .tree e n cs, .tree f m ds => Nat.beq e f && Nat.beq n m && beqAVs cs ds
  | .mapnil, .mapnil => true
  | .map a, .map b => Nat.beq a b
  | .fn f xs ys, .fn g us vs => beqFn f g && beqAVs xs us && beqAVs ys vs
  | .nilfn, .nilfn => true
  | .agg xs, .agg ys => beqAVs xs ys
  | .tup xs, .tup ys => beqAVs xs ys
  | _, _ => false
def beqAVs : List AV → List AV → Bool
  | [], [] => true
  | x :: xs, y :: ys => beqAV x y && beqAVs xs ys
  | _, _ => false
end

mutual
theorem beqAV_eq : ∀ {x y : AV}, beqAV x y = true → x = y := by
  intro x y h
  cases x with
  | bool a => cases y <;> simp only [beqAV, Bool.false_eq_true, beq_iff_eq] at h; rw [h]
  | int k a =>
    cases y <;> simp only [beqAV, Bool.false_eq_true, Bool.and_eq_true, decide_eq_true_eq] at h
    rw [h.1, beqInt_eq h.2]
  | str a => cases y <;> simp only [beqAV, Bool.false_eq_true] at h; rw [beqStr_eq h]
  | nilp => cases y <;> simp only [beqAV, Bool.false_eq_true] at h; rfl
  | ptr a o => cases y <;> simp only [beqAV, Bool.false_eq_true, Bool.and_eq_true, Nat.beq_eq] at h; rw [h.1, h.2]
  | tptr e n cs o =>
    cases y <;> simp only [beqAV, Bool.false_eq_true, Bool.and_eq_true, Nat.beq_eq] at h
    rw [h.1.1.1, h.1.1.2, h.1.2, beqAVs_eq h.2]
  | glob a o => cases y <;> simp only [beqAV, Bool.false_eq_true, Bool.and_eq_true, Nat.beq_eq] at h; rw [h.1, h.2]
  | snil => cases y <;> simp only [beqAV, Bool.false_eq_true] at h; rfl
  | slnil => cases y <;> simp only [beqAV, Bool.false_eq_true] at h; rfl
  | sl a o n c =>
    cases y <;> simp only [beqAV, Bool.false_eq_true, Bool.and_eq_true, Nat.beq_eq] at h
    rw [h.1.1.1, h.1.1.2, h.1.2, beqON_eq h.2]
  | tree e n cs =>
    cases y <;> simp only [beqAV, Bool.false_eq_true, Bool.and_eq_true, Nat.beq_eq] at h
    rw [h.1.1, h.1.2, beqAVs_eq h.2]
  | mapnil => cases y <;> simp only [beqAV, Bool.false_eq_true] at h; rfl
  | map a => cases y <;> simp only [beqAV, Bool.false_eq_true, Nat.beq_eq] at h; rw [h]
  | fn f xs ys =>
    cases y <;> simp only [beqAV, Bool.false_eq_true, Bool.and_eq_true] at h
    rw [beqFn_eq h.1.1, beqAVs_eq h.1.2, beqAVs_eq h.2]
  | nilfn => cases y <;> simp only [beqAV, Bool.false_eq_true] at h; rfl
  | agg xs => cases y <;> simp only [beqAV, Bool.false_eq_true] at h; rw [beqAVs_eq h]
  | tup xs => cases y <;> simp only [beqAV, Bool.false_eq_true] at h; rw [beqAVs_eq h]
theorem beqAVs_eq : ∀ {xs ys : List AV}, beqAVs xs ys = true → xs = ys := by
  intro xs ys h
  cases xs with
  | nil => cases ys with
    | nil => rfl
    | cons _ _ => simp [beqAVs] at h
  | cons x xs => cases ys with
    | nil => simp [beqAVs] at h
    | cons y ys =>
      simp only [beqAVs, Bool.and_eq_true] at h
      rw [beqAV_eq h.1, beqAVs_eq h.2]
end

def beqEs : List (AV × AV × Nat) → List (AV × AV × Nat) → Bool
  | [], [] => true
  | (k, v, n) :: xs, (l, u, m) :: ys => beqAV k l && beqAV v u && Nat.beq n m && beqEs xs ys
  | _, _ => false
theorem beqEs_eq : ∀ {xs ys : List (AV × AV × Nat)}, beqEs xs ys = true → xs = ys
  | [], [], _ => rfl
  | [], _ :: _, h => by cases h
  | _ :: _, [], h => by simp [beqEs] at h
  | (k, v, n) :: xs, (l, u, m) :: ys, h => by
    simp only [beqEs, Bool.and_eq_true, Nat.beq_eq] at h
    rw [beqAV_eq h.1.1.1, beqAV_eq h.1.1.2, h.1.2, beqEs_eq h.2]

def beqNs : List Nat → List Nat → Bool
  | [], [] => true
  | x :: xs, y :: ys => Nat.beq x y && beqNs xs ys
  | _, _ => false
theorem beqNs_eq : ∀ {xs ys : List Nat}, beqNs xs ys = true → xs = ys
  | [], [], _ => rfl
  | [], _ :: _, h => by cases h
  | _ :: _, [], h => by cases h
  | x :: xs, y :: ys, h => by
    simp only [beqNs, Bool.and_eq_true, Nat.beq_eq] at h
    rw [h.1, beqNs_eq h.2]

def beqAO : AO → AO → Bool
  | .row e cs x s, .row f ds y t => Nat.beq e f && (x == y) && (s == t) && beqAVs cs ds
  | .map es n, .map fs m => Nat.beq n m && beqEs es fs
  | .iter a n xs m, .iter b k ys l => beqON a b && Nat.beq n k && beqNs xs ys && Nat.beq m l
  | .deferred, .deferred => true
  | .dead, .dead => true
  | _, _ => false
theorem beqAO_eq {x y : AO} (h : beqAO x y = true) : x = y := by
  cases x with
  | row e cs a s =>
    cases y <;> simp only [beqAO, Bool.false_eq_true, Bool.and_eq_true, Nat.beq_eq, beq_iff_eq] at h
    rw [h.1.1.1, h.1.1.2, h.1.2, beqAVs_eq h.2]
  | map es n =>
    cases y <;> simp only [beqAO, Bool.false_eq_true, Bool.and_eq_true, Nat.beq_eq] at h
    rw [h.1, beqEs_eq h.2]
  | iter a n xs m =>
    cases y <;> simp only [beqAO, Bool.false_eq_true, Bool.and_eq_true, Nat.beq_eq] at h
    rw [beqON_eq h.1.1.1, h.1.1.2, beqNs_eq h.1.2, h.2]
  | loop a b c d e f => cases y <;> simp [beqAO] at h
  | deferred => cases y <;> simp only [beqAO, Bool.false_eq_true] at h; rfl
  | dead => cases y <;> simp only [beqAO, Bool.false_eq_true] at h; rfl

def beqH : List AO → List AO → Bool
  | [], [] => true
  | x :: xs, y :: ys => beqAO x y && beqH xs ys
  | _, _ => false
theorem beqH_eq : ∀ {xs ys : List AO}, beqH xs ys = true → xs = ys
  | [], [], _ => rfl
  | [], _ :: _, h => by cases h
  | _ :: _, [], h => by simp [beqH] at h
  | x :: xs, y :: ys, h => by
    simp only [beqH, Bool.and_eq_true] at h
    rw [beqAO_eq h.1, beqH_eq h.2]

/-- A call that is proved: its place in the table's order, the arguments, the answer and the heap that it leaves. -/
structure Ent where
  idx : Nat
  args : List AV
  val : AV
  heap : List AO

def lookE : List Ent → Nat → List AV → Option (AV × List AO)
  | [], _, _ => none
  | e :: es, k, args => bif Nat.ble (e.idx + 1) k && beqAVs e.args args then some (e.val, e.heap) else lookE es k args

theorem lookE_spec : ∀ {es : List Ent} {k : Nat} {args : List AV} {v : AV} {h : List AO}, lookE es k args = some (v, h) → ∃ e ∈ es, e.idx < k ∧ e.args = args ∧ e.val = v ∧ e.heap = h
  | [], _, _, _, _, h => by cases h
  | e :: es, k, args, v, hp, h => by
    simp only [lookE] at h
    cases hc : (Nat.ble (e.idx + 1) k && beqAVs e.args args) with
    | true =>
      rw [hc] at h
      simp only [cond_true, Option.some.injEq, Prod.mk.injEq] at h
      simp only [Bool.and_eq_true, Nat.ble_eq] at hc
      exact ⟨e, List.mem_cons_self, hc.1, beqAVs_eq hc.2, h.1, h.2⟩
    | false =>
      rw [hc] at h
      obtain ⟨e', h1, h2⟩ := lookE_spec h
      exact ⟨e', List.mem_cons_of_mem _ h1, h2⟩

/-- The evaluator's tables with the proved calls ahead of place k. -/
def Env.upTo (E : Env) (T : Tr (List Ent)) (k : Nat) : Env where
  ti := E.ti
  fn := E.fn
  gv := E.gv
  mode := E.mode
  memo := fun g args => (T.get g).bind fun es => lookE es k args
  eqShape := E.eqShape

/-- The call is made with the calls ahead of it in the table; what it leaves is brought into the table's form. -/
def Ent.check (E : Env) (T : Tr (List Ent)) (n : Nat) (g : FuncId) (e : Ent) : Bool :=
  match (te (E.upTo T e.idx) n).call g e.args [] with
  | some (v, h) => match backFrom (E.upTo T e.idx) g [] [] v h with
    | some (.quiet v new []) => beqAV v e.val && beqH new e.heap
    | _ => false
  | none => false

theorem Ent.check_ok {E : Env} {T : Tr (List Ent)} {n : Nat} {g : FuncId} {e : Ent} (h : e.check E T n g = true) :
    ∃ v h', (te (E.upTo T e.idx) n).call g e.args [] = some (v, h') ∧ backFrom (E.upTo T e.idx) g [] [] v h' = some (.quiet e.val e.heap []) := by
  unfold Ent.check at h
  split at h
  · rename_i v hp hc
    split at h
    · rename_i v2 new hb
      simp only [Bool.and_eq_true] at h
      exact ⟨v, hp, hc, by rw [hb, beqAV_eq h.1, beqH_eq h.2]⟩
    · cases h
  · cases h

section
variable {E E' : Env} {B0 : Nat}

theorem esz_env (h : E'.ti = E.ti) (e : TypeId) : esz E' e = esz E e := by simp [esz, h]

mutual
theorem VR.env (h : E'.ti = E.ti) {σ : Sg} {μ : Mu} : ∀ (x : AV) (v : Value), VR E B0 σ μ x v → VR E' B0 σ μ x v
  | .bool _, _, k => by simpa only [VR] using k
  | .int _ _, _, k => by simpa only [VR] using k
  | .str _, _, k => by simpa only [VR] using k
  | .nilp, _, k => by simpa only [VR] using k
  | .ptr _ _, _, k => by simpa only [VR] using k
  | .tptr _ _ cs _, _, k => by
    simp only [VR] at k ⊢
    obtain ⟨blk, off, e', c, h1, h2, h3, h4⟩ := k
    exact ⟨blk, off, e', c, h1, h2, VRl.env h cs _ _ h3, h4⟩
  | .glob _ _, _, k => by simpa only [VR] using k
  | .snil, _, k => by simpa only [VR] using k
  | .slnil, _, k => by simpa only [VR] using k
  | .sl _ _ _ _, _, k => by simpa only [VR, esz_env h] using k
  | .tree _ _ cs, _, k => by
    simp only [VR, esz_env h] at k ⊢
    obtain ⟨a, cap, s, h1, h2, h3, h4, h5, h6⟩ := k
    refine ⟨a, cap, s, h1, h2, h3, h4, h5, ?_⟩
    rcases h6 with h6 | ⟨blk, off, e', c, g1, g2, g3, g4⟩
    · exact .inl h6
    · exact .inr ⟨blk, off, e', c, g1, g2, g3, VRl.env h cs _ _ g4⟩
  | .mapnil, _, k => by simpa only [VR] using k
  | .map _, _, k => by simpa only [VR] using k
  | .fn f xs ys, _, k => by
    simp only [VR] at k ⊢
    obtain ⟨g, a, c, h1, h2, h3, h4, h5, h6⟩ := k
    exact ⟨g, a, c, h1, h2, h3, VRl.env h xs _ _ h4, h5, VRl.env h ys _ _ h6⟩
  | .nilfn, _, k => by simpa only [VR] using k
  | .agg xs, _, k => by
    simp only [VR] at k ⊢
    obtain ⟨a, h1, h2, h3⟩ := k
    exact ⟨a, h1, h2, VRl.env h xs _ _ h3⟩
  | .tup xs, _, k => by
    simp only [VR] at k ⊢
    obtain ⟨a, h1, h2, h3⟩ := k
    exact ⟨a, h1, h2, VRl.env h xs _ _ h3⟩
theorem VRl.env (h : E'.ti = E.ti) {σ : Sg} {μ : Mu} : ∀ (xs : List AV) (f : Nat → Option Value) (p : Nat), VRl E B0 σ μ xs f p → VRl E' B0 σ μ xs f p
  | [], _, _, _ => by simp only [VRl]
  | x :: xs, f, p, k => by
    simp only [VRl] at k ⊢
    obtain ⟨⟨v, h1, h2⟩, h3⟩ := k
    exact ⟨⟨v, h1, VR.env h x v h2⟩, VRl.env h xs f (p + 1) h3⟩
end

theorem VA.env (h : E'.ti = E.ti) {σ : Sg} {μ : Mu} {xs : List AV} {a : Array Value} (k : VA E B0 σ μ xs a) : VA E' B0 σ μ xs a := ⟨k.1, VRl.env h _ _ _ k.2⟩

theorem ObjR.env (h : E'.ti = E.ti) {σ : Sg} {μ : Mu} {w : World} {id : Nat} {o : AO} (k : ObjR E B0 σ μ w id o) : ObjR E' B0 σ μ w id o := by
  cases o with
  | row e cs ex sealed =>
    obtain ⟨p, c, fr, h1, h2, h3, h4, h5, h6, h7⟩ := k
    exact ⟨p, c, fr, h1, h2, h3, h4, h5, VRl.env h _ _ _ h6, h7⟩
  | map es clock =>
    obtain ⟨p, es', h1, h2, h3, h4, h5⟩ := k
    refine ⟨p, es', h1, h2, h3, fun i k v n hi => ?_, h5⟩
    obtain ⟨m, g1, g2, g3, g4⟩ := h4 i k v n hi
    exact ⟨m, g1, VR.env h _ _ g2, VR.env h _ _ g3, g4⟩
  | iter m since seen last => exact k
  | loop s pend t ps a b =>
    obtain ⟨p, L, h1, h2, h3, h4, h5, h6, h7, h8, h9, h10⟩ := k
    exact ⟨p, L, h1, h2, h3, h4, h5, h6, h7, h8, VRl.env h _ _ _ h9, h10⟩
  | deferred => exact k
  | dead => trivial

theorem WR.env (h : E'.ti = E.ti) (hg : E'.gv = E.gv) {σ : Sg} {μ : Mu} {hp : List AO} {w : World} (H : WR E B0 σ μ hp w) : WR E' B0 σ μ hp w where
  stable := H.stable
  objs := fun id o ho => (H.objs id o ho).env h
  fresh := H.fresh
  glob := fun g cs hc => by
    obtain ⟨e, c, k1, k2⟩ := H.glob g cs (by rw [← hg]; exact hc)
    exact ⟨e, c, k1, VRl.env h _ _ _ k2⟩
  inj := H.inj
  lt := H.lt
  base := H.base
end

def Tr.All {α : Type} (p : Nat → α → Prop) : Tr α → Prop
  | .leaf => True
  | .node k v l r => p k v ∧ l.All p ∧ r.All p
def AllL {α : Type} (p : α → Prop) : List α → Prop
  | [] => True
  | x :: xs => p x ∧ AllL p xs
theorem AllL.of_mem {α : Type} {p : α → Prop} : ∀ {l : List α}, AllL p l → ∀ x ∈ l, p x
  | [], _, _, h => by cases h
  | y :: l, ⟨h1, h2⟩, x, h => by
    rcases List.mem_cons.1 h with rfl | h
    · exact h1
    · exact AllL.of_mem h2 x h
theorem Tr.All.of_get {α : Type} {p : Nat → α → Prop} : ∀ {T : Tr α}, T.All p → ∀ x v, T.get x = some v → p x v := by
  intro T h x v hv
  have hm := Tr.get_mem T x v hv
  clear hv
  induction T with
  | leaf => cases hm
  | node k u l r ihl ihr =>
    obtain ⟨h1, h2, h3⟩ := h
    simp only [Tr.list, List.mem_cons, List.mem_append, Prod.mk.injEq] at hm
    rcases hm with ⟨rfl, rfl⟩ | hm | hm
    · exact h1
    · exact ihl h2 hm
    · exact ihr h3 hm

/-- All calls of the table stand. -/
theorem upTo_ok {E : Env} {P : Program} {T : Tr (List Ent)} {n : Nat} (OK : EnvOk2 E P) (h : T.All fun g es => AllL (fun e => e.check E T n g = true) es) : ∀ k, EnvAll (E.upTo T k) P := by
  intro k
  induction k using Nat.strongRecOn with
  | ind k ih =>
    refine { ti := OK.ti, fn := OK.fn, mixed := OK.mixed, eqs := OK.eqs, memo := ?_ }
    intro g args v h' hm B0 σ w vs H hv
    simp only [Env.upTo] at hm
    replace hm := bind_some hm; obtain ⟨es, he, hm⟩ := hm
    obtain ⟨e, hin, hlt, rfl, rfl, rfl⟩ := lookE_spec hm
    obtain ⟨v0, h0, hc, hb⟩ := Ent.check_ok ((h.of_get g es he).of_mem e hin)
    have H' : WR (E.upTo T e.idx) B0 σ NoMu [] w := WR.env (E := E.upTo T k) (E' := E.upTo T e.idx) rfl rfl H
    have base := (te_ok (ih e.idx hlt) B0 n).call g e.args [] v0 h0 hc σ NoMu w vs H' (VA.env (E := E.upTo T k) (E' := E.upTo T e.idx) rfl hv)
    obtain ⟨_, base2⟩ := backFrom_ok H' hb (by rw [with_none]; exact base)
    refine base2.mono ?_
    rintro en w' ⟨y, σ', μ', rfl, k1, k2, k3⟩
    simp only [resV, resH, sealAll, joinH_eq, List.nil_append] at k1 k2 k3
    exact ⟨y, σ', μ', rfl, WR.env (E := E.upTo T e.idx) (E' := E.upTo T k) rfl rfl k1, VR.env (E := E.upTo T e.idx) (E' := E.upTo T k) rfl _ _ k2, k3⟩

end Go.Te
