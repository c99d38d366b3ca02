/- TE: a deterministic evaluator of the model's own Code over abstract values. This text holds the definitions only. -/
import Derived.OrdersIn
import Derived.RangeFuncIn
import Derived.DefersIn
import Derived.LoopNIn
namespace Go.Te
open Go

/-- Abstract values. 'tree': a slice whose cells nobody writes any more: how many elements of which type, and their cells; 'tptr': a place in such cells; 'snil': the nil slice; 'slnil': a slice of capacity 0, nil or not; 'sl', 'ptr', 'map': into an object of the own heap. -/
inductive AV where
  | bool (b : Bool)
  | int (k : IntKind) (n : Int)
  | str (s : ByteArray)
  | nilp
  | ptr (b o : Nat)
  | tptr (e : TypeId) (n : Nat) (cs : List AV) (o : Nat)
  | glob (g o : Nat)
  | snil
  | slnil
  | sl (b o n : Nat) (c : Option Nat)
  | tree (e : TypeId) (n : Nat) (cs : List AV)
  | mapnil
  | map (b : Nat)
  | fn (f : Fn) (first caps : List AV)
  | nilfn
  | agg (xs : List AV)
  | tup (xs : List AV)
instance : Inhabited AV := ⟨.nilp⟩

def AV.cells : AV → List AV
  | .agg xs => xs
  | v => [v]

def AV.oneCell : AV → Bool
  | .agg _ | .tup _ => false
  | _ => true

/-- A deferred thing: the mark of a range over a function, or a call of a function value. -/
inductive ADef where
  | mark (b : Nat)
  | call (f : FuncId) (args : List AV)
instance : Inhabited ADef := ⟨.mark 0⟩

inductive AO where
  | row (e : TypeId) (cs : List AV) (exact sealed : Bool)
  | map (es : List (AV × AV × Nat)) (clock : Nat)
  | iter (m : Option Nat) (since : Nat) (seen : List Nat) (last : Nat)
  | loop (state : LoopState) (pending : Option Code) (tmps : List AV) (params : List Tmp) (assign body : Code)
  | deferred
  | dead
instance : Inhabited AO := ⟨.dead⟩

def beqInt : Int → Int → Bool
  | .ofNat a, .ofNat b => Nat.beq a b
  | .negSucc a, .negSucc b => Nat.beq a b
  | _, _ => false
theorem beqInt_eq {a b : Int} (h : beqInt a b = true) : a = b := by
  cases a <;> cases b <;> simp only [beqInt, Nat.beq_eq, Bool.false_eq_true] at h
  · rw [h]
  · rw [h]

def beqBytes : List UInt8 → List UInt8 → Bool
  | [], [] => true
  | x :: xs, y :: ys => Nat.beq x.toNat y.toNat && beqBytes xs ys
  | _, _ => false
theorem beqBytes_eq : ∀ {xs ys : List UInt8}, beqBytes xs ys = true → xs = ys
  | [], [], _ => rfl
  | [], _ :: _, h => by cases h
  | _ :: _, [], h => by cases h
  | x :: xs, y :: ys, h => by
    simp only [beqBytes, Bool.and_eq_true, Nat.beq_eq] at h
    rw [UInt8.toNat_inj.1 h.1, beqBytes_eq h.2]

def beqStr (a b : ByteArray) : Bool := beqBytes a.data.toList b.data.toList
theorem beqStr_eq {a b : ByteArray} (h : beqStr a b = true) : a = b := by
  have := beqBytes_eq h
  cases a with
  | mk a => cases b with
    | mk b => exact congrArg ByteArray.mk (Array.toList_inj.1 this)

def beqFn : Fn → Fn → Bool
  | .func f, .func g => Nat.beq f g
  | _, _ => false
theorem beqFn_eq {f g : Fn} (h : beqFn f g = true) : f = g := by
  cases f <;> cases g <;> simp only [beqFn, Bool.false_eq_true, Nat.beq_eq] at h
  rw [h]

def beqON : Option Nat → Option Nat → Bool
  | none, none => true
  | some a, some b => Nat.beq a b
  | _, _ => false
theorem beqON_eq {a b : Option Nat} (h : beqON a b = true) : a = b := by
  cases a <;> cases b <;> simp only [beqON, Bool.false_eq_true, Nat.beq_eq] at h
  · rfl
  · rw [h]

mutual
def beqAV : AV → AV → Bool
  | .bool a, .bool b => a == b
  | .int k a, .int l b => decide (k = l) && beqInt a b
  | .str a, .str b => beqStr a b
  | .nilp, .nilp => true
  | .ptr a o, .ptr b p => Nat.beq a b && Nat.beq o p
  | .tptr e n cs o, .tptr f m ds p => Nat.beq e f && Nat.beq n m && Nat.beq o p && beqAVs cs ds
  | .glob a o, .glob b p => Nat.beq a b && Nat.beq o p
  | .snil, .snil => true
  | .slnil, .slnil => true
  | .sl a o n c, .sl b p m d => Nat.beq a b && Nat.beq o p && Nat.beq n m && beqON c d
  | .tree e n cs, .tree f m ds => Nat.beq e f && Nat.beq n m && beqAVs cs ds
  | .mapnil, .mapnil => true
  | .map a, .map b => Nat.beq a b
  | .fn f xs ys, .fn g us vs => beqFn f g && beqAVs xs us && beqAVs ys vs
  | .nilfn, .nilfn => true
  | .agg xs, .agg ys => beqAVs xs ys
  | .tup xs, .tup ys => beqAVs xs ys
  | _, _ => false
def beqAVs : List AV → List AV → Bool
  | [], [] => true
  | x :: xs, y :: ys => beqAV x y && beqAVs xs ys
  | _, _ => false
end

mutual
theorem beqAV_eq : ∀ {x y : AV}, beqAV x y = true → x = y := by
  intro x y h
  cases x with
  | bool a => cases y <;> simp only [beqAV, Bool.false_eq_true, beq_iff_eq] at h; rw [h]
  | int k a =>
    cases y <;> simp only [beqAV, Bool.false_eq_true, Bool.and_eq_true, decide_eq_true_eq] at h
    rw [h.1, beqInt_eq h.2]
  | str a => cases y <;> simp only [beqAV, Bool.false_eq_true] at h; rw [beqStr_eq h]
  | nilp => cases y <;> simp only [beqAV, Bool.false_eq_true] at h; rfl
  | ptr a o => cases y <;> simp only [beqAV, Bool.false_eq_true, Bool.and_eq_true, Nat.beq_eq] at h; rw [h.1, h.2]
  | tptr e n cs o =>
    cases y <;> simp only [beqAV, Bool.false_eq_true, Bool.and_eq_true, Nat.beq_eq] at h
    rw [h.1.1.1, h.1.1.2, h.1.2, beqAVs_eq h.2]
  | glob a o => cases y <;> simp only [beqAV, Bool.false_eq_true, Bool.and_eq_true, Nat.beq_eq] at h; rw [h.1, h.2]
  | snil => cases y <;> simp only [beqAV, Bool.false_eq_true] at h; rfl
  | slnil => cases y <;> simp only [beqAV, Bool.false_eq_true] at h; rfl
  | sl a o n c =>
    cases y <;> simp only [beqAV, Bool.false_eq_true, Bool.and_eq_true, Nat.beq_eq] at h
    rw [h.1.1.1, h.1.1.2, h.1.2, beqON_eq h.2]
  | tree e n cs =>
    cases y <;> simp only [beqAV, Bool.false_eq_true, Bool.and_eq_true, Nat.beq_eq] at h
    rw [h.1.1, h.1.2, beqAVs_eq h.2]
  | mapnil => cases y <;> simp only [beqAV, Bool.false_eq_true] at h; rfl
  | map a => cases y <;> simp only [beqAV, Bool.false_eq_true, Nat.beq_eq] at h; rw [h]
  | fn f xs ys =>
    cases y <;> simp only [beqAV, Bool.false_eq_true, Bool.and_eq_true] at h
    rw [beqFn_eq h.1.1, beqAVs_eq h.1.2, beqAVs_eq h.2]
  | nilfn => cases y <;> simp only [beqAV, Bool.false_eq_true] at h; rfl
  | agg xs => cases y <;> simp only [beqAV, Bool.false_eq_true] at h; rw [beqAVs_eq h]
  | tup xs => cases y <;> simp only [beqAV, Bool.false_eq_true] at h; rw [beqAVs_eq h]
theorem beqAVs_eq : ∀ {xs ys : List AV}, beqAVs xs ys = true → xs = ys := by
  intro xs ys h
  cases xs with
  | nil => cases ys with
    | nil => rfl
    | cons _ _ => simp [beqAVs] at h
  | cons x xs => cases ys with
    | nil => simp [beqAVs] at h
    | cons y ys =>
      simp only [beqAVs, Bool.and_eq_true] at h
      rw [beqAV_eq h.1, beqAVs_eq h.2]
end

def beqEs : List (AV × AV × Nat) → List (AV × AV × Nat) → Bool
  | [], [] => true
  | (k, v, n) :: xs, (l, u, m) :: ys => beqAV k l && beqAV v u && Nat.beq n m && beqEs xs ys
  | _, _ => false
theorem beqEs_eq : ∀ {xs ys : List (AV × AV × Nat)}, beqEs xs ys = true → xs = ys
  | [], [], _ => rfl
  | [], _ :: _, h => by cases h
  | _ :: _, [], h => by simp [beqEs] at h
  | (k, v, n) :: xs, (l, u, m) :: ys, h => by
    simp only [beqEs, Bool.and_eq_true, Nat.beq_eq] at h
    rw [beqAV_eq h.1.1.1, beqAV_eq h.1.1.2, h.1.2, beqEs_eq h.2]

def beqNs : List Nat → List Nat → Bool
  | [], [] => true
  | x :: xs, y :: ys => Nat.beq x y && beqNs xs ys
  | _, _ => false
theorem beqNs_eq : ∀ {xs ys : List Nat}, beqNs xs ys = true → xs = ys
  | [], [], _ => rfl
  | [], _ :: _, h => by cases h
  | _ :: _, [], h => by cases h
  | x :: xs, y :: ys, h => by
    simp only [beqNs, Bool.and_eq_true, Nat.beq_eq] at h
    rw [h.1, beqNs_eq h.2]

def beqAO : AO → AO → Bool
  | .row e cs x s, .row f ds y t => Nat.beq e f && (x == y) && (s == t) && beqAVs cs ds
  | .map es n, .map fs m => Nat.beq n m && beqEs es fs
  | .iter a n xs m, .iter b k ys l => beqON a b && Nat.beq n k && beqNs xs ys && Nat.beq m l
  | .deferred, .deferred => true
  | .dead, .dead => true
  | _, _ => false
theorem beqAO_eq {x y : AO} (h : beqAO x y = true) : x = y := by
  cases x with
  | row e cs a s =>
    cases y <;> simp only [beqAO, Bool.false_eq_true, Bool.and_eq_true, Nat.beq_eq, beq_iff_eq] at h
    rw [h.1.1.1, h.1.1.2, h.1.2, beqAVs_eq h.2]
  | map es n =>
    cases y <;> simp only [beqAO, Bool.false_eq_true, Bool.and_eq_true, Nat.beq_eq] at h
    rw [h.1, beqEs_eq h.2]
  | iter a n xs m =>
    cases y <;> simp only [beqAO, Bool.false_eq_true, Bool.and_eq_true, Nat.beq_eq] at h
    rw [beqON_eq h.1.1.1, h.1.1.2, beqNs_eq h.1.2, h.2]
  | loop a b c d e f => cases y <;> simp [beqAO] at h
  | deferred => cases y <;> simp only [beqAO, Bool.false_eq_true] at h; rfl
  | dead => cases y <;> simp only [beqAO, Bool.false_eq_true] at h; rfl

def beqH : List AO → List AO → Bool
  | [], [] => true
  | x :: xs, y :: ys => beqAO x y && beqH xs ys
  | _, _ => false
theorem beqH_eq : ∀ {xs ys : List AO}, beqH xs ys = true → xs = ys
  | [], [], _ => rfl
  | [], _ :: _, h => by cases h
  | _ :: _, [], h => by simp [beqH] at h
  | x :: xs, y :: ys, h => by
    simp only [beqH, Bool.and_eq_true] at h
    rw [beqAO_eq h.1, beqH_eq h.2]

/-- Which objects of a heap are others in the later one. -/
def changedA : Nat → List AO → List AO → Option (List Nat)
  | _, [], _ => some []
  | _, _ :: _, [] => none
  | i, a :: h, b :: h' => (changedA (i + 1) h h').bind fun l => some (bif beqAO a b then l else i :: l)

def memN (i : Nat) : List Nat → Bool
  | [] => false
  | j :: l => Nat.beq i j || memN i l

theorem changedA_spec : ∀ {i : Nat} {h h' : List AO} {l : List Nat}, changedA i h h' = some l → h.length ≤ h'.length ∧ ∀ k, k < h.length → memN (i + k) l = false → h'[k]? = h[k]?
  | _, [], _, _, _ => ⟨by simp, fun k hk => by simp at hk⟩
  | _, _ :: _, [], _, h => by cases h
  | i, a :: h, b :: h', l, e => by
    simp only [changedA] at e
    cases hc : changedA (i + 1) h h' with
    | none => rw [hc] at e; cases e
    | some l' =>
      rw [hc] at e
      simp only [Option.bind_some, Option.some.injEq] at e
      obtain ⟨k1, k2⟩ := changedA_spec hc
      refine ⟨by simp [k1], fun k hk hm => ?_⟩
      cases hb : beqAO a b with
      | true =>
        rw [hb] at e
        simp only [cond_true] at e
        subst e
        cases k with
        | zero => rw [beqAO_eq hb]; rfl
        | succ k =>
          have := k2 k (by simpa using hk) (by rw [show i + 1 + k = i + (k + 1) by omega]; exact hm)
          simpa using this
      | false =>
        rw [hb] at e
        simp only [cond_false] at e
        subst e
        simp only [memN, Bool.or_eq_false_iff] at hm
        cases k with
        | zero =>
          have : Nat.beq (i + 0) i = true := by rw [Nat.beq_eq]; rfl
          rw [this] at hm; cases hm.1
        | succ k =>
          have := k2 k (by simpa using hk) (by rw [show i + 1 + k = i + (k + 1) by omega]; exact hm.2)
          simpa using this

structure St where
  tmps : List AV
  heap : List AO
  defers : List ADef
  round : Option Nat

inductive Ex where
  | normal
  | exit (id : Nat)
  | ret

/-- What is known of a type. -/
structure TI where
  desc : TypeDesc
  size : Nat
  bytes : Nat
  zero : Option AV

inductive CallMode where
  | pure | move | shared

def CallMode.isMove : CallMode → Bool
  | .move => true
  | _ => false

/-- The kinds of cells that are compared by themselves. -/
inductive SK where
  | int | bool | str

/-- The tables that the evaluator leans on; each row is held against the program in the proof of soundness. -/
structure Env where
  ti : TypeId → Option TI
  fn : FuncId → Option Func
  gv : Nat → Option (List AV)
  mode : FuncId → CallMode
  memo : FuncId → List AV → Option (AV × List AO)
  ext : FuncId → List AV → List AO → Option (AV × List AO)
  eqShape : TypeId → Option (List SK)

structure Rec where
  code : Code → St → Option (Ex × St)
  call : FuncId → List AV → List AO → Option (AV × List AO)
  calld : FuncId → List AV → List AO → Option (List AO)

/-- What an operation brings: 'quiet': a value, new objects, own rows that are sealed; 'loud': a value, the whole heap, what is deferred. -/
inductive OpRes where
  | quiet (v : AV) (new : List AO) (seals : List Nat)
  | loud (v : AV) (h : List AO) (ds : List ADef)

/-- A constant of the code. -/
def scalOf : Value → Option AV
  | .bool b => some (.bool b)
  | .int k n => some (.int k n)
  | .string s => some (.str s)
  | .pointer none => some .nilp
  | .slice none 0 0 => some .snil
  | .map none => some .mapnil
  | .nilFunc => some .nilfn
  | _ => none

def scalsOf : List Value → Option (List AV)
  | [] => some []
  | x :: xs => (scalOf x).bind fun v => (scalsOf xs).bind fun vs => some (v :: vs)

def ofValue : Value → Option AV
  | .agg cs => (scalsOf cs.toList).bind fun xs => some (.agg xs)
  | .tuple vs => match vs.toList with
    | [] => some (.tup [])
    | _ => none
  | v => scalOf v

section
variable (E : Env)

def ev (tmps : List AV) : Operand → Option AV
  | .tmp t => some (tmps.getD t (.tup []))
  | .const v => ofValue v
  | .global g => some (.glob g 0)
  | .func f => some (.fn (.func f) [] [])

def evs (tmps : List AV) : List Operand → Option (List AV)
  | [] => some []
  | x :: xs => (ev tmps x).bind fun v => (evs tmps xs).bind fun vs => some (v :: vs)

def put (tmps : List AV) (d : Option Tmp) (v : AV) : List AV :=
  match d with
  | some d => tmps.set d v
  | none => tmps

def slice? (cs : List AV) (o n : Nat) : Option (List AV) :=
  if (o + n).ble cs.length then some ((cs.drop o).take n) else none

/-- n cells from a place on. -/
def rd (h : List AO) (p : AV) (n : Nat) : Option (List AV) :=
  match p with
  | .ptr b o => match h[b]? with
    | some (.row _ cs _ _) => slice? cs o n
    | _ => none
  | .tptr _ _ cs o => slice? cs o n
  | .glob g o => (E.gv g).bind fun cs => slice? cs o n
  | _ => none

def setMany (cs : List AV) (o : Nat) : List AV → List AV
  | [] => cs
  | v :: vs => setMany (cs.set o v) (o + 1) vs

def wr (h : List AO) (p : AV) (vs : List AV) : Option (List AO) :=
  match p with
  | .ptr b o => match h[b]? with
    | some (.row e cs ex false) =>
      if (o + vs.length).ble cs.length && vs.all AV.oneCell then some (h.set b (.row e (setMany cs o vs) ex false)) else none
    | _ => none
  | _ => none

def isAggD : TypeDesc → Bool
  | .struct _ | .array _ _ => true
  | _ => false

def loadT (h : List AO) (t : TypeId) (p : AV) : Option AV :=
  (E.ti t).bind fun i =>
  if isAggD i.desc then (rd E h p i.size).bind fun cs => some (.agg cs)
  else (rd E h p 1).bind fun cs => cs.head?

def storeT (h : List AO) (t : TypeId) (p v : AV) : Option (List AO) :=
  (E.ti t).bind fun i => if v.cells.length.beq i.size then wr h p v.cells else none

def addP (p : AV) (n : Nat) : Option AV :=
  match p with
  | .ptr b o => some (.ptr b (o + n))
  | .tptr e k cs o => some (.tptr e k cs (o + n))
  | .glob g o => some (.glob g (o + n))
  | _ => none

def intArith (op : BinOp) (k : IntKind) (a b : Int) : Option AV :=
  match op with
  | .add => some (.int k (k.wrap (a + b)))
  | .sub => some (.int k (k.wrap (a - b)))
  | .mul => some (.int k (k.wrap (a * b)))
  | .quo => if b = 0 then none else some (.int k (k.wrap (a.tdiv b)))
  | .rem => if b = 0 then none else some (.int k (a.tmod b))
  | .and => some (.int k (k.wrap (BitVec.ofInt k.bits a &&& BitVec.ofInt k.bits b).toNat))
  | .or => some (.int k (k.wrap (BitVec.ofInt k.bits a ||| BitVec.ofInt k.bits b).toNat))
  | .xor => some (.int k (k.wrap (BitVec.ofInt k.bits a ^^^ BitVec.ofInt k.bits b).toNat))
  | .andNot => some (.int k (k.wrap (BitVec.ofInt k.bits a &&& ~~~(BitVec.ofInt k.bits b)).toNat))
  | .eql => some (.bool (a == b))
  | .neq => some (.bool (a != b))
  | .lss => some (.bool (a < b))
  | .leq => some (.bool (a ≤ b))
  | .gtr => some (.bool (a > b))
  | .geq => some (.bool (a ≥ b))
  | _ => none

def shiftOp (op : BinOp) (k : IntKind) (x y : Int) : Option AV :=
  if y < 0 then none else
  match op with
  | .shl => some (.int k (k.wrap (x * 2 ^ (min y.toNat k.bits))))
  | .shr => some (.int k (x.fdiv (2 ^ (min y.toNat k.bits))))
  | _ => none

/-- Are cells without places the same? -/
def scalEq : SK → AV → AV → Option Bool
  | .int, .int k a, .int k' b => if k = k' then some (a == b) else none
  | .bool, .bool a, .bool b => some (a == b)
  | .str, .str a, .str b => some (a.toList == b.toList)
  | _, _, _ => none

def scalEqs : List SK → List AV → List AV → Option Bool
  | [], [], [] => some true
  | s :: ss, x :: xs, y :: ys => (scalEq s x y).bind fun b => (scalEqs ss xs ys).bind fun c => some (b && c)
  | _, _, _ => none

def eqAV (t : TypeId) (x y : AV) : Option Bool :=
  match x, y with
  | .agg xs, .agg ys => (E.eqShape t).bind fun ss => scalEqs ss xs ys
  | .bool a, .bool b => (E.ti t).bind fun i => match i.desc with
    | .bool => some (a == b)
    | _ => none
  | .fn _ _ _, .nilfn => (E.ti t).bind fun i => match i.desc with
    | .func _ _ _ => some false
    | _ => none
  | .nilfn, .nilfn => (E.ti t).bind fun i => match i.desc with
    | .func _ _ _ => some true
    | _ => none
  | .snil, .snil => (E.ti t).bind fun i => match i.desc with
    | .slice _ => some true
    | _ => none
  | .sl _ _ _ _, .snil => (E.ti t).bind fun i => match i.desc with
    | .slice _ => some false
    | _ => none
  | .tree _ _ _, .snil => (E.ti t).bind fun i => match i.desc with
    | .slice _ => some false
    | _ => none
  | _, _ => none

def binop (op : BinOp) (t : TypeId) (x y : AV) : Option AV :=
  match x, y with
  | .int k a, .int k' b =>
    match op with
    | .shl | .shr => shiftOp op k a b
    | _ => if k = k' then intArith op k a b else none
  | .str a, .str b =>
    match op with
    | .eql => some (.bool (a.toList == b.toList))
    | .neq => some (.bool !(a.toList == b.toList))
    | _ => none
  | x, y =>
    match op with
    | .eql => (eqAV E t x y).bind fun b => some (.bool b)
    | .neq => (eqAV E t x y).bind fun b => some (.bool !b)
    | _ => none

def unop (op : UnOp) (x : AV) : Option AV :=
  match op, x with
  | .neg, .int k n => intArith .sub k 0 n
  | .xor, .int k n => intArith .xor k (if k.signed then -1 else k.max) n
  | .not, .bool b => some (.bool !b)
  | _, _ => none

def conv (src dst : TypeId) (x : AV) : Option AV :=
  (E.ti src).bind fun _ => (E.ti dst).bind fun d =>
  match d.desc, x with
  | .int k, .int _ n => some (.int k (k.wrap n))
  | .string, .str s => some (.str s)
  | _, _ => none

def fillA (place : Nat → Option (Nat × Nat)) (cells : List AV) : List (Nat × AV) → Option (List AV)
  | [] => some cells
  | (i, v) :: rest =>
    match place i with
    | none => none
    | some (off, size) =>
      if v.cells.length.beq size && (off + v.cells.length).ble cells.length then fillA place (setMany cells off v.cells) rest
      else none

def placesOf : List Field → Option (List (Nat × Nat))
  | [] => some []
  | f :: fs => (E.ti f.type).bind fun i => (placesOf fs).bind fun r => some ((f.offset, i.size) :: r)

def zeroOf (t : TypeId) : Option AV := (E.ti t).bind fun i => i.zero

def buildA (t : TypeId) (parts : List (Nat × AV)) : Option AV :=
  (E.ti t).bind fun i => i.zero.bind fun z =>
  match i.desc with
  | .struct fields => (placesOf E fields.toList).bind fun ps => (fillA (fun k => ps[k]?) z.cells parts).bind fun cs => some (.agg cs)
  | .array _ elem => (E.ti elem).bind fun j => (fillA (fun k => some (k * j.size, j.size)) z.cells parts).bind fun cs => some (.agg cs)
  | _ => none

def repeatA (z : List AV) : Nat → List AV
  | 0 => []
  | n + 1 => z ++ repeatA z n

def elemOfSlice (t : TypeId) : Option TypeId :=
  (E.ti t).bind fun i => match i.desc with
  | .slice e => some e
  | _ => none

/-- A new row's slice, and the row. -/
def buildSliceA (k : Nat) (t : TypeId) (len : Nat) (parts : List (Nat × AV)) : Option (AV × AO) :=
  (elemOfSlice E t).bind fun e => (E.ti e).bind fun i => i.zero.bind fun z =>
  if Nat.ble 1 i.size && (len * i.size).ble (2 ^ 20) && z.cells.length.beq i.size then
    (fillA (fun k => some (k * i.size, i.size)) (repeatA z.cells len) parts).bind fun cs => some (.sl k 0 len none, .row e cs true false)
  else none

def intOf? : AV → Option Int
  | .int _ n => some n
  | _ => none

def boolOf? : AV → Option Bool
  | .bool b => some b
  | _ => none

def most : Nat := 2 ^ 36

def makeSliceA (k : Nat) (t : TypeId) (l c : AV) : Option (AV × AO) :=
  (elemOfSlice E t).bind fun e => (E.ti e).bind fun i => i.zero.bind fun z => (intOf? l).bind fun l => (intOf? c).bind fun c =>
  if 0 ≤ l ∧ l ≤ c then
    if (c.toNat * i.bytes).ble most && (c.toNat * i.size).ble (2 ^ 20) && Nat.ble 1 i.size && z.cells.length.beq i.size then
      some (.sl k 0 l.toNat none, .row e (repeatA z.cells c.toNat) true false)
    else none
  else none

/-- How many elements an own slice may hold, where that is known. -/
def knownCap (h : List AO) (b o : Nat) (c : Option Nat) (size : Nat) : Option Nat :=
  match c with
  | some k => some k
  | none => match h[b]? with
    | some (.row _ cs true _) => some ((cs.length - o) / size)
    | _ => none

def natOf? (v : AV) : Option Nat :=
  match v with
  | .int _ (.ofNat n) => some n
  | _ => none

def optNat (o : Option AV) (d : Nat) : Option Nat :=
  match o with
  | none => some d
  | some v => natOf? v

def rowType (h : List AO) (b : Nat) : Option TypeId :=
  match h[b]? with
  | some (.row e _ _ _) => some e
  | _ => none

def leCap (m : Nat) : Option Nat → Bool
  | some k => m.ble k
  | none => false

def rowIs (h : List AO) (b : Nat) (e : TypeId) : Bool :=
  match rowType h b with
  | some e' => e'.beq e
  | none => false

def sliceA (h : List AO) (t : TypeId) (x : AV) (lo hi mx : Option AV) : Option AV :=
  (elemOfSlice E t).bind fun e => (E.ti e).bind fun i => (optNat lo 0).bind fun l =>
  match x with
  | .snil => (optNat hi 0).bind fun r => (optNat mx 0).bind fun m =>
    if l.beq 0 && r.beq 0 && m.beq 0 then some .snil else none
  | .slnil => (optNat hi 0).bind fun r => (optNat mx 0).bind fun m =>
    if l.beq 0 && r.beq 0 && m.beq 0 then some .slnil else none
  | .tree e' n cs => (optNat hi n).bind fun r => (optNat mx n).bind fun m =>
    if e'.beq e && l.ble r && r.ble m && m.ble n && Nat.ble 1 i.size then
      if mx.isSome && m.beq l then some .slnil else some (.tree e (r - l) ((cs.drop (l * i.size)).take ((r - l) * i.size)))
    else none
  | .sl b o n c => (optNat hi n).bind fun r =>
    if l.ble r && r.ble n && Nat.ble 1 i.size && rowIs h b e then
      match mx with
      | none => some (.sl b (o + l * i.size) (r - l) (c.map (· - l)))
      | some m => (natOf? m).bind fun m =>
        if r.ble m && (m.ble n || leCap m (knownCap h b o c i.size)) then some (.sl b (o + l * i.size) (r - l) (some (m - l))) else none
    else none
  | _ => none

def fieldOf (t : TypeId) (f : Nat) : Option Field :=
  (E.ti t).bind fun i => match i.desc with
  | .struct fs => fs[f]?
  | _ => none

def fieldAddrA (s : TypeId) (x : AV) (f : Nat) : Option AV :=
  (fieldOf E s f).bind fun fd => (E.ti fd.type).bind fun i => if Nat.ble 1 i.size then addP x fd.offset else none

def partA (t : TypeId) (cs : List AV) (off : Nat) : Option AV :=
  (E.ti t).bind fun i => if isAggD i.desc then (slice? cs off i.size).bind fun cs => some (.agg cs) else cs[off]?

def fieldA (t : TypeId) (x : AV) (f : Nat) : Option AV :=
  (fieldOf E t f).bind fun fd =>
  match x with
  | .agg cs => partA E fd.type cs fd.offset
  | _ => none

def indexAddrA (t : TypeId) (x ix : AV) : Option AV :=
  (natOf? ix).bind fun i => (E.ti t).bind fun ty =>
  match ty.desc with
  | .array len elem => (E.ti elem).bind fun j => if (i + 1).ble len then addP x (i * j.size) else none
  | .slice elem => (E.ti elem).bind fun j =>
    match x with
    | .sl b o n _ => if (i + 1).ble n && Nat.ble 1 j.size then some (.ptr b (o + i * j.size)) else none
    | .tree e n cs => if (i + 1).ble n && e.beq elem && Nat.ble 1 j.size then some (.tptr e n cs (i * j.size)) else none
    | _ => none
  | _ => none

def indexA (t : TypeId) (x ix : AV) : Option AV :=
  (natOf? ix).bind fun i => (E.ti t).bind fun ty =>
  match ty.desc, x with
  | .array len elem, .agg cs => (E.ti elem).bind fun j => if (i + 1).ble len then partA E elem cs (i * j.size) else none
  | .string, .str s => (s[i]?).bind fun b => some (.int .u8 b.toNat)
  | _, _ => none

/-! ## Maps -/

/-- Keys: whole numbers, strings, structs of such. -/
def keyEq (kt : TypeId) (k x : AV) : Option Bool :=
  match k, x with
  | .int a n, .int b m => (E.ti kt).bind fun i => match i.desc with
    | .int _ => if a = b then some (n == m) else none
    | _ => none
  | .agg xs, .agg ys => (E.eqShape kt).bind fun ss => scalEqs ss xs ys
  | _, _ => none

def findA (kt : TypeId) (k : AV) : List (AV × AV × Nat) → Option (Option AV)
  | [] => some none
  | (x, v, _) :: es => (keyEq E kt k x).bind fun b => if b then some (some v) else findA kt k es

def updA (kt : TypeId) (k v : AV) (clock : Nat) : List (AV × AV × Nat) → Option (List (AV × AV × Nat) × Nat)
  | [] => some ([(k, v, clock)], clock + 1)
  | (x, u, n) :: es => (keyEq E kt k x).bind fun b => if b then some ((k, v, n) :: es, clock) else (updA kt k v clock es).bind fun (r, c) => some ((x, u, n) :: r, c)

def mapOf (t : TypeId) : Option (TypeId × TypeId) :=
  (E.ti t).bind fun i => match i.desc with
  | .map k e => some (k, e)
  | _ => none

def lookupA (h : List AO) (t : TypeId) (x k : AV) (ok : Bool) : Option AV :=
  (mapOf E t).bind fun (kt, et) => (zeroOf E et).bind fun z => (keyEq E kt k k).bind fun _ =>
  (match x with
    | .mapnil => some none
    | .map b => match h[b]? with
      | some (.map es _) => findA E kt k es
      | _ => none
    | _ => none).bind fun r =>
  match r with
  | some v => some (if ok then .tup [v, .bool true] else v)
  | none => some (if ok then .tup [z, .bool false] else z)

def mapUpdateA (h : List AO) (t : TypeId) (m k v : AV) : Option (List AO) :=
  (mapOf E t).bind fun (kt, _) => (keyEq E kt k k).bind fun _ =>
  match m with
  | .map b => match h[b]? with
    | some (.map es c) => (updA E kt k v c es).bind fun (es, c) => some (h.set b (.map es c))
    | _ => none
  | _ => none

/-- A range over a map begins. -/
def rangeA (h : List AO) (t : TypeId) (x : AV) : Option AO :=
  (mapOf E t).bind fun _ =>
  match x with
  | .mapnil => some (.iter none 0 [] 0)
  | .map b => match h[b]? with
    | some (.map _ c) => some (.iter (some b) c [] c)
    | _ => none
  | _ => none

/-- A step of it, where there is but one that may come. -/
def nextA (h : List AO) (x : AV) : Option (AV × List AO) :=
  match x with
  | .ptr b 0 => match h[b]? with
    | some (.iter none _ _ _) => some (.tup [.bool false], h)
    | some (.iter (some m) since seen last) => match h[m]? with
      | some (.map es clock) =>
        if !seen.isEmpty && !es.isEmpty && es.all (fun e => last.ble e.2.2) then none else
        match es.filter (fun e => !seen.contains e.2.2) with
        | [] => some (.tup [.bool false], h)
        | [(k, v, n)] => if (n + 1).ble since then some (.tup [.bool true, k, v], h.set b (.iter (some m) since (seen ++ [n]) clock)) else none
        | _ => none
      | _ => none
    | _ => none
  | _ => none

def findStamp (n : Nat) : List (AV × AV × Nat) → Option (AV × AV)
  | [] => none
  | (k, v, m) :: es => if Nat.beq m n then some (k, v) else findStamp n es

/-- The entry at which an iterator over a map stands. -/
def entryA (h : List AO) (x : AV) : Option AV :=
  match x with
  | .ptr b 0 => match h[b]? with
    | some (.iter (some m) _ seen last) => seen.getLast?.bind fun n => match h[m]? with
      | some (.map es clock) => if Nat.beq clock last then (findStamp n es).bind fun kv => some (.tup [kv.1, kv.2]) else none
      | _ => none
    | _ => none
  | _ => none

/-! ## Rows of cells -/

/-- The cells of a slice's elements. -/
def rowCells (h : List AO) (size : Nat) : AV → Option (Nat × List AV)
  | .snil | .slnil => some (0, [])
  | .tree _ n cs => if cs.length.beq (n * size) then some (n, cs) else none
  | .sl b o n _ => match h[b]? with
    | some (.row _ cs _ _) => (slice? cs o (n * size)).bind fun l => some (n, l)
    | _ => none
  | _ => none

def appendA (h : List AO) (t : TypeId) (s x : AV) : Option (AV × List AO) :=
  (elemOfSlice E t).bind fun e => (E.ti e).bind fun i => i.zero.bind fun z =>
  if Nat.ble 1 i.size && z.cells.length.beq i.size then (rowCells h i.size x).bind fun (m, new) =>
  if m.beq 0 then
    match s with
    | .snil | .slnil | .sl _ _ _ _ | .tree _ _ _ => some (s, h)
    | _ => none
  else
  if new.all AV.oneCell then
  match s with
  | .snil | .slnil =>
    if (m * i.bytes).ble most && m.ble most then some (.sl h.length 0 m none, h ++ [.row e new false false])
    else none
  | .sl b o n c => match h[b]? with
    | some (.row e' cs ex false) =>
      if e'.beq e && o.beq 0 then (slice? cs 0 (n * i.size)).bind fun old =>
      match knownCap h b 0 c i.size with
      | some k =>
        if (n + m).ble k then
          (if (n * i.size + new.length).ble cs.length then some (.sl b 0 (n + m) c, h.set b (.row e (setMany cs (n * i.size) new) ex false)) else none)
        else if ((n + m) * i.bytes).ble most && (n + m).ble most then some (.sl h.length 0 (n + m) none, h ++ [.row e (old ++ new) false false])
        else none
      | none =>
        if (n * i.size + new.length).ble cs.length then some (.sl b 0 (n + m) c, h.set b (.row e (setMany cs (n * i.size) new) ex false))
        else if (n * i.size).beq cs.length && ((n + m) * i.bytes).ble most && (n + m).ble most then
          some (.sl h.length 0 (n + m) none, h.set b .dead ++ [.row e (old ++ new) false false])
        else none
      else none
    | _ => none
  | _ => none
  else none
  else none

def copyA (h : List AO) (t : TypeId) (d x : AV) : Option (AV × List AO) :=
  (elemOfSlice E t).bind fun e => (E.ti e).bind fun i =>
  if Nat.ble 1 i.size then (rowCells h i.size x).bind fun (m, new) =>
  match d with
  | .snil | .slnil => some (.int .i64 0, h)
  | .sl b o n _ =>
    if (Nat.min m n).beq 0 then some (.int .i64 0, h) else
    (wr h (.ptr b o) (new.take (Nat.min m n * i.size))).bind fun h' => some (.int .i64 (Nat.min m n), h')
  | _ => none
  else none

def lenA (h : List AO) (t : TypeId) (x : AV) : Option AV :=
  (E.ti t).bind fun i =>
  match i.desc, x with
  | .string, .str s => some (.int .i64 s.size)
  | .array n _, _ => some (.int .i64 n)
  | .slice _, .snil | .slice _, .slnil => some (.int .i64 0)
  | .slice _, .tree _ n _ => some (.int .i64 n)
  | .slice _, .sl _ _ n _ => some (.int .i64 n)
  | .map _ _, .mapnil => some (.int .i64 0)
  | .map _ _, .map b => match h[b]? with
    | some (.map es _) => some (.int .i64 es.length)
    | _ => none
  | _, _ => none

def capA (h : List AO) (t : TypeId) (x : AV) : Option AV :=
  (E.ti t).bind fun ty =>
  match ty.desc, x with
  | .slice _, .snil | .slice _, .slnil => some (.int .i64 0)
  | .slice e, .sl b o _ c => (E.ti e).bind fun i =>
    if Nat.ble 1 i.size && rowIs h b e then (knownCap h b o c i.size).bind fun k => some (.int .i64 k) else none
  | _, _ => none

def max2A : AV → AV → Option AV
  | .int k x, .int k' y => if k = k' then some (.int k (if y > x then y else x)) else none
  | _, _ => none
def min2A : AV → AV → Option AV
  | .int k x, .int k' y => if k = k' then some (.int k (if y < x then y else x)) else none
  | _, _ => none
def foldA (f : AV → AV → Option AV) : AV → List AV → Option AV
  | x, [] => some x
  | x, y :: ys => (f x y).bind fun z => foldA f z ys

/-! ## Snapshots -/

def mapO (f : AV → Option AV) : List AV → Option (List AV)
  | [] => some []
  | x :: xs => (f x).bind fun v => (mapO f xs).bind fun vs => some (v :: vs)

def noYield : Fn → Bool
  | .yield _ => false
  | _ => true

/-- A value without places into the own heap: what it reads as now. -/
def snap (h : List AO) : Nat → AV → Option AV
  | 0, _ => none
  | d + 1, v => match v with
    | .bool _ | .int _ _ | .str _ | .nilp | .snil | .slnil | .mapnil | .nilfn | .tree _ _ _ | .glob _ _ | .tptr _ _ _ _ => some v
    | .fn f first caps => if noYield f then (mapO (snap h d) first).bind fun a => (mapO (snap h d) caps).bind fun b => some (.fn f a b) else none
    | .agg xs => (mapO (snap h d) xs).bind fun ys => some (.agg ys)
    | .tup xs => (mapO (snap h d) xs).bind fun ys => some (.tup ys)
    | .sl b o n _ => match h[b]? with
      | some (.row e cs _ _) => (E.ti e).bind fun i =>
        if Nat.ble 1 i.size then (slice? cs o (n * i.size)).bind fun cs => (mapO (snap h d) cs).bind fun cs => some (.tree e n cs) else none
      | _ => none
    | _ => none

def deep : Nat := 100

/-- The unsealed rows that a snapshot reads. -/
def flatO (f : AV → Option (List Nat)) : List AV → Option (List Nat)
  | [] => some []
  | x :: xs => (f x).bind fun v => (flatO f xs).bind fun vs => some (v ++ vs)
def seenBy (h : List AO) : Nat → AV → Option (List Nat)
  | 0, _ => none
  | d + 1, v => match v with
    | .fn _ first caps => (flatO (seenBy h d) first).bind fun a => (flatO (seenBy h d) caps).bind fun b => some (a ++ b)
    | .agg xs | .tup xs => flatO (seenBy h d) xs
    | .sl b o n _ => match h[b]? with
      | some (.row e cs _ sealed) => (E.ti e).bind fun i => (slice? cs o (n * i.size)).bind fun cs => (flatO (seenBy h d) cs).bind fun l => some (if sealed then l else b :: l)
      | _ => none
    | _ => some []

-- The element types of the sealed slices in a value.
mutual
def trees : AV → List TypeId
  | .tree e _ cs => e :: treesL cs
  | .tptr e _ cs _ => e :: treesL cs
  | .fn _ first caps => treesL first ++ treesL caps
  | .agg xs => treesL xs
  | .tup xs => treesL xs
  | _ => []
def treesL : List AV → List TypeId
  | [] => []
  | x :: xs => trees x ++ treesL xs
end

def treesM : List (AV × AV × Nat) → List TypeId
  | [] => []
  | (k, v, _) :: es => trees k ++ trees v ++ treesM es

def treesH : List AO → List TypeId
  | [] => []
  | o :: os => (match o with
    | .row _ cs _ _ => treesL cs
    | .map es _ => treesM es
    | .loop _ _ t _ _ _ => treesL t
    | _ => []) ++ treesH os

def sealAll (h : List AO) : List Nat → List AO
  | [] => h
  | b :: bs => match h[b]? with
    | some (.row e cs ex _) => sealAll (h.set b (.row e cs ex true)) bs
    | _ => sealAll h bs

/-- The seen rows to which something of these types may lead. -/
def toSeal (h : List AO) (ts : List TypeId) : List Nat → List Nat
  | [] => []
  | b :: bs => match rowType h b with
    | some e => if ts.contains e then b :: toSeal h ts bs else toSeal h ts bs
    | none => toSeal h ts bs

/-! ### Renaming: objects of a call's own heap move behind those of its caller -/

def posIn (b : Nat) : List Nat → Nat → Option Nat
  | [], _ => none
  | c :: cs, k => if b.beq c then some k else posIn b cs (k + 1)

def renF (f : Nat → Option Nat) : Fn → Option Fn
  | .yield l => (f l).bind fun l => some (.yield l)
  | g => some g
mutual
def ren (f : Nat → Option Nat) : AV → Option AV
  | .ptr b o => (f b).bind fun b => some (.ptr b o)
  | .sl b o n c => (f b).bind fun b => some (.sl b o n c)
  | .map b => (f b).bind fun b => some (.map b)
  | .fn g first caps => (renF f g).bind fun g => (renL f first).bind fun first => (renL f caps).bind fun caps => some (.fn g first caps)
  | .agg xs => (renL f xs).bind fun xs => some (.agg xs)
  | .tup xs => (renL f xs).bind fun xs => some (.tup xs)
  | v => some v
def renL (f : Nat → Option Nat) : List AV → Option (List AV)
  | [] => some []
  | x :: xs => (ren f x).bind fun x => (renL f xs).bind fun xs => some (x :: xs)
end
def renM (f : Nat → Option Nat) : List (AV × AV × Nat) → Option (List (AV × AV × Nat))
  | [] => some []
  | (x, y, n) :: es => (ren f x).bind fun x => (ren f y).bind fun y => (renM f es).bind fun es => some ((x, y, n) :: es)
def renO (f : Nat → Option Nat) : AO → Option AO
  | .row e cs ex sealed => (renL f cs).bind fun cs => some (.row e cs ex sealed)
  | .map es c => (renM f es).bind fun es => some (.map es c)
  | .dead => some .dead
  | _ => none
/-- The objects that stay, renamed. -/
def renH (f : Nat → Option Nat) (h : List AO) : List Nat → Option (List AO)
  | [] => some []
  | b :: bs => match h[b]? with
    | some o => (renO f o).bind fun o => (renH f h bs).bind fun os => some (o :: os)
    | none => none

mutual
def idsOf : AV → List Nat
  | .ptr b _ => [b]
  | .sl b _ _ _ => [b]
  | .map b => [b]
  | .fn (.yield l) first caps => l :: (idsL first ++ idsL caps)
  | .fn _ first caps => idsL first ++ idsL caps
  | .agg xs => idsL xs
  | .tup xs => idsL xs
  | _ => []
def idsL : List AV → List Nat
  | [] => []
  | x :: xs => idsOf x ++ idsL xs
end
def idsM : List (AV × AV × Nat) → List Nat
  | [] => []
  | (k, v, _) :: es => idsOf k ++ idsOf v ++ idsM es
def idsO (h : List AO) (b : Nat) : List Nat :=
  match h[b]? with
  | some (.row _ cs _ _) => idsL cs
  | some (.map es _) => idsM es
  | _ => []
/-- What can be reached. -/
def reach (h : List AO) : Nat → List Nat → List Nat → List Nat
  | 0, _, acc => acc
  | _, [], acc => acc
  | n + 1, b :: bs, acc => if acc.contains b then reach h n bs acc else reach h n (idsO h b ++ bs) (acc ++ [b])

/-! ## Running -/

def yieldedA (ops : Array Oper) (tmps : List AV) (j : Nat) : Option Bool :=
  match ((ops[j]?).bind (·.dst)).bind (tmps[·]?) with
  | some (.bool b) => some b
  | _ => none

def resultsA (h : List AO) (tmps : List AV) : List ResultVar → Option (List AV)
  | [] => some []
  | .tmp t :: rs => (resultsA h tmps rs).bind fun vs => some (tmps.getD t (.tup []) :: vs)
  | .cell a t :: rs => (loadT E h t (tmps.getD a (.tup []))).bind fun v => (resultsA h tmps rs).bind fun vs => some (v :: vs)

def packA : List AV → AV
  | [v] => v
  | vs => .tup vs

def bindParams (tmps : List AV) : List Tmp → List AV → Option (List AV)
  | [], [] => some tmps
  | p :: ps, v :: vs => bindParams (tmps.set p v) ps vs
  | _, _ => none

def sealsOf (h : List AO) (seen : List Nat) (ts : List TypeId) : List Nat :=
  match seen with
  | [] => []
  | _ => toSeal h ts seen

/-- The result moves behind the own objects, with those objects that stay. -/
def moveFrom (h : List AO) (seen : List Nat) (v : AV) (h' : List AO) (keep : List Nat) : Option OpRes :=
  (ren (fun b => posIn b keep h.length) v).bind fun v => (renH (fun b => posIn b keep h.length) h' keep).bind fun new => some (.quiet v new (sealsOf h seen (trees v ++ treesH new)))

/-- Behind a call with snapshots: its result as one, or moved behind the own objects. -/
def backFrom (g : FuncId) (h : List AO) (seen : List Nat) (v : AV) (h' : List AO) : Option OpRes :=
  match (if (E.mode g).isMove then none else snap E h' deep v) with
  | some v => some (.quiet v [] (sealsOf h seen (trees v)))
  | none => moveFrom h seen v h' (reach h' ((idsOf v).length + h'.length * 20 + 100) (idsOf v) [])

/-- A call of a function with a body, in its mode. -/
def callBy (r : Rec) (g : FuncId) (args : List AV) (h : List AO) : Option OpRes :=
  match E.fn g with
  | none => none
  | some _ => match E.ext g args h with
   | some (v, h') => some (.loud v h' [])
   | none => match E.mode g with
    | .shared => (r.call g args h).bind fun (v, h') => some (.loud v h' [])
    | _ => match mapO (snap E h deep) args with
      | none => (r.call g args h).bind fun (v, h') => some (.loud v h' [])
      | some args' => (flatO (seenBy E h deep) args).bind fun seen =>
        (match E.memo g args' with
        | some x => some x
        | none => r.call g args' []).bind fun (v, h') => backFrom E g h seen v h'

def jumpOf : Ex → Option Code
  | .normal => none
  | .ret => some .ret
  | .exit id => some (.exit id)

def roundBy (r : Rec) (l : Nat) (args : List AV) (h : List AO) : Option OpRes :=
  match h[l]? with
  | some (.loop _ _ tmps params assign body) =>
    (bindParams tmps params args).bind fun tmps =>
    match r.code assign { tmps, heap := h, defers := [], round := some l } with
    | some (.normal, st) =>
      match st.heap[l]? with
      | some (.loop .ready pend t0 params assign body0) =>
        (r.code body { st with heap := st.heap.set l (.loop .busy pend t0 params assign body0) }).bind fun (ex, st) =>
        match st.heap[l]? with
        | some (.loop _ _ t0 params assign body0) =>
          some (.loud (.bool (jumpOf ex).isNone) (st.heap.set l (.loop (if (jumpOf ex).isNone then .ready else .done) (jumpOf ex) t0 params assign body0)) [])
        | _ => none
      | _ => none
    | _ => none
  | _ => none

def invokeBy (r : Rec) (f : Fn) (caps args : List AV) (h : List AO) : Option OpRes :=
  match f with
  | .func g => callBy E r g (args ++ caps) h
  | .yield l => roundBy r l args h
  | _ => none

def builtinA (h : List AO) (b : Builtin) (argTypes : List TypeId) (args : List AV) : Option OpRes :=
  match b, argTypes, args with
  | .len, [t], [x] => (lenA E h t x).bind fun v => some (.quiet v [] [])
  | .cap, [t], [x] => (capA E h t x).bind fun v => some (.quiet v [] [])
  | .append, [t, u], [s, x] => if t.beq u then (appendA E h t s x).bind fun (v, h) => some (.loud v h []) else none
  | .copy, [t, _], [d, x] => (copyA E h t d x).bind fun (v, h) => some (.loud v h [])
  | .max, _, x :: xs => (foldA max2A x xs).bind fun v => some (.quiet v [] [])
  | .min, _, x :: xs => (foldA min2A x xs).bind fun v => some (.quiet v [] [])
  | _, _, _ => none

def pairsA (tmps : List AV) : List (Nat × Operand) → Option (List (Nat × AV))
  | [] => some []
  | (i, x) :: xs => (ev tmps x).bind fun v => (pairsA tmps xs).bind fun vs => some ((i, v) :: vs)

def optA (tmps : List AV) : Option Operand → Option (Option AV)
  | none => some none
  | some x => (ev tmps x).bind fun v => some (some v)

def val (v : Option AV) : Option OpRes := v.bind fun v => some (.quiet v [] [])
def unit (h : Option (List AO)) : Option OpRes := h.bind fun h => some (.loud (.tup []) h [])

def isPlace : AV → Bool
  | .ptr _ _ | .tptr _ _ _ _ | .glob _ _ => true
  | .fn (.func _) _ _ | .fn (.yield _) _ _ => true
  | _ => false

def isMake : Op → Bool
  | .alloc _ | .box _ _ | .buildSlice _ _ _ | .makeMap _ none | .makeSlice _ _ _ => true
  | _ => false

/-- An operation that makes one new object, the k-th, and reads none. -/
def makeA (k : Nat) (tmps : List AV) : Op → Option (AV × AO)
  | .alloc e => (zeroOf E e).bind fun z => some (.ptr k 0, .row e z.cells true false)
  | .box e x => (ev tmps x).bind fun v => some (.ptr k 0, .row e v.cells true false)
  | .buildSlice t n parts => (pairsA tmps parts.toList).bind fun ps => buildSliceA E k t n ps
  | .makeMap _ none => some (.map k, .map [] 0)
  | .makeSlice t l c => (ev tmps l).bind fun l => (ev tmps c).bind fun c => makeSliceA E k t l c
  | _ => none

/-- One operation: its value (of one that has none: .tup []), and what it brings. -/
def opA (r : Rec) (o : Oper) (tmps : List AV) (h : List AO) : Option OpRes :=
  match o.op with
  | .move x | .assign x => val (ev tmps x)
  | .pick c a b => val ((ev tmps c).bind fun c => (boolOf? c).bind fun c => (ev tmps a).bind fun a => (ev tmps b).bind fun b => some (if c then a else b))
  | .alloc e => (makeA E h.length tmps (.alloc e)).bind fun (v, o) => some (.quiet v [o] [])
  | .box e x => (makeA E h.length tmps (.box e x)).bind fun (v, o) => some (.quiet v [o] [])
  | .build t parts => val ((pairsA tmps parts.toList).bind fun ps => buildA E t ps)
  | .buildSlice t n parts => (makeA E h.length tmps (.buildSlice t n parts)).bind fun (v, o) => some (.quiet v [o] [])
  | .load t a => val ((ev tmps a).bind fun a => loadT E h t a)
  | .store t a x => unit ((ev tmps a).bind fun a => (ev tmps x).bind fun x => storeT E h t a x)
  | .nilCheck x => val ((ev tmps x).bind fun v => if isPlace v then some v else none)
  | .binOp op t x y _ => val ((ev tmps x).bind fun x => (ev tmps y).bind fun y => binop E op t x y)
  | .unOp op _ x => val ((ev tmps x).bind fun x => unop op x)
  | .convert s d x => val ((ev tmps x).bind fun x => conv E s d x)
  | .makeFunc f first caps => val ((evs tmps first.toList).bind fun a => (evs tmps caps.toList).bind fun b => if noYield f then some (.fn f a b) else none)
  | .makeMap t none => (makeA E h.length tmps (.makeMap t none)).bind fun (v, o) => some (.quiet v [o] [])
  | .makeSlice t l c => (makeA E h.length tmps (.makeSlice t l c)).bind fun (v, o) => some (.quiet v [o] [])
  | .slice t x lo hi mx => if hi.isNone && mx.isSome then none else
      val ((ev tmps x).bind fun x => (optA tmps lo).bind fun lo => (optA tmps hi).bind fun hi => (optA tmps mx).bind fun mx => sliceA E h t x lo hi mx)
  | .fieldAddr s x f => val ((ev tmps x).bind fun x => fieldAddrA E s x f)
  | .field t x f => val ((ev tmps x).bind fun x => fieldA E t x f)
  | .indexAddr t x i => val ((ev tmps x).bind fun x => (ev tmps i).bind fun i => indexAddrA E t x i)
  | .index t x i => val ((ev tmps x).bind fun x => (ev tmps i).bind fun i => indexA E t x i)
  | .lookup t x k ok => val ((ev tmps x).bind fun x => (ev tmps k).bind fun k => lookupA E h t x k ok)
  | .mapUpdate t m k v | .insert t m k v => unit ((ev tmps m).bind fun m => (ev tmps k).bind fun k => (ev tmps v).bind fun v => mapUpdateA E h t m k v)
  | .range t x => (ev tmps x).bind fun x => (rangeA E h t x).bind fun o => some (.quiet (.ptr h.length 0) [o] [])
  | .entry it => val ((ev tmps it).bind fun x => entryA h x)
  | .next it false => (ev tmps it).bind fun x => (nextA h x).bind fun (v, h) => some (.loud v h [])
  | .extract t i => val ((ev tmps t).bind fun t => match t with | .tup vs => vs[i]? | _ => none)
  | .call c => (evs tmps c.args.toList).bind fun args =>
      match c.callee with
      | .value f => (ev tmps f).bind fun f => match f with
        | .fn f first caps => invokeBy E r f caps (first ++ args) h
        | _ => none
      | .builtin b => builtinA E h b c.argTypes.toList args
      | _ => none
  | .defer c => (evs tmps c.args.toList).bind fun args =>
      match c.callee with
      | .value f => (ev tmps f).bind fun f => match f with
        | .fn (.func g) first caps => some (.loud (.tup []) h [.call g (first ++ args ++ caps)])
        | _ => none
      | _ => none
  | _ => none

def joinH (h : List AO) : List AO → List AO
  | [] => h
  | new => h ++ new

/-- Operations in the text's order. -/
def opsA (r : Rec) (ops : Array Oper) : List Oper → St → Option St
  | [], st => some st
  | o :: os, st =>
    if Region.wanted o (yieldedA ops st.tmps) then
      match opA E r o st.tmps st.heap with
      | some (.quiet v new seals) => opsA r ops os { st with tmps := put st.tmps o.dst v, heap := joinH (sealAll st.heap seals) new }
      | some (.loud v h ds) => if st.round.isNone || ds.isEmpty then opsA r ops os { st with tmps := put st.tmps o.dst v, heap := h, defers := ds ++ st.defers } else none
      | none => none
    else opsA r ops os { st with tmps := put st.tmps o.dst (.tup []) }

/-! ### A region that draws its order -/

/-- The operations behind which one stands (bits), out of those of the ones ahead; none: an edge leads forward. -/
def maskOf (ms : List Nat) (i : Nat) : List Edge → Nat → Option Nat
  | [], m => some m
  | e :: es, m => if Region.binds .any e then (if (e.on + 1).ble i then maskOf ms i es (m ||| 2 ^ e.on ||| ms.getD e.on 0) else none) else maskOf ms i es m

def tmpOf : Operand → List Tmp
  | .tmp t => [t]
  | _ => []
def tmpsOf : List Operand → List Tmp
  | [] => []
  | x :: xs => tmpOf x ++ tmpsOf xs
/-- The temporaries at which an operation looks. -/
def looksA (ops : Array Oper) (o : Oper) : List Tmp :=
  tmpsOf o.op.operands.toList ++ (match o.guard with
    | none => []
    | some (j, _) => match (ops[j]?).bind (·.dst) with
      | some d => [d]
      | none => [])
def clashA (ops : Array Oper) (a b : Oper) : Bool :=
  (match a.dst with
    | some d => (looksA ops b).contains d || (match b.dst with | some c => c.beq d | none => false)
    | none => false) || (match b.dst with | some d => (looksA ops a).contains d | none => false)

/-- No operation, from the j-th on, that stands not ahead of o touches temporaries that o touches. -/
def freeOf (ops : Array Oper) (m : Nat) (o : Oper) : Nat → List Oper → Bool
  | _, [] => true
  | j, p :: ps => (m.testBit j || !clashA ops o p) && freeOf ops m o (j + 1) ps

/-- The masks of a region's operations, where they are free so. -/
def planGo (ops : Array Oper) : List Oper → Nat → List Oper → List Nat → Option (List Nat)
  | [], _, _, ms => some ms
  | o :: os, i, dn, ms => (maskOf ms i o.after.toList 0).bind fun m =>
    if freeOf ops m o 0 dn then planGo ops os (i + 1) (dn ++ [o]) (ms ++ [m]) else none
def planOf (ops : Array Oper) : Option (List Nat) := planGo ops ops.toList 0 [] []

/-- Where an operation reads or writes own objects: 'app': all of one row, or a map; 'read': reads anywhere; 'call': makes new ones; 'loud': writes anywhere. -/
inductive FP where
  | none
  | load (b o n : Nat)
  | read
  | store (b o n : Nat)
  | app (b : Nat)
  | call
  | loud (ch : List Nat)

def apartC (b o n b' o' n' : Nat) : Bool := !b.beq b' || (o + n).ble o' || (o' + n').ble o

def FP.fits : FP → FP → Bool
  | .none, _ | _, .none => true
  | .load _ _ _, .load _ _ _ | .load _ _ _, .read | .read, .load _ _ _ | .read, .read => true
  | .load _ _ _, .call | .call, .load _ _ _ => true
  | .load b o n, .store b' o' n' | .store b' o' n', .load b o n => apartC b o n b' o' n'
  | .load b _ _, .app b' | .app b', .load b _ _ => !b.beq b'
  | .load b _ _, .loud ch | .loud ch, .load b _ _ => !memN b ch
  | _, _ => false

def fitsAll (m : Nat) (f : FP) : List (Nat × FP) → Bool
  | [] => true
  | (j, g) :: rs => (m.testBit j || f.fits g) && fitsAll m f rs

def sizeT (t : TypeId) : Option Nat := (E.ti t).bind fun i => some (if isAggD i.desc then i.size else 1)

def isFree : Op → Bool
  | .move _ | .assign _ | .pick _ _ _ | .build _ _ | .nilCheck _ | .binOp _ _ _ _ _ | .unOp _ _ _ | .convert _ _ _ | .makeFunc _ _ _ | .fieldAddr _ _ _ | .field _ _ _ | .indexAddr _ _ _
  | .index _ _ _ | .extract _ _ => true
  | _ => false

def isMapAV : AV → Bool
  | .map _ => true
  | _ => false

/-- An operation that reads no own object. -/
def isFreeAt (tmps : List AV) (op : Op) : Bool :=
  isFree op || match op with
  | .call c => match c.callee with
    | .builtin .len => match evs tmps c.args.toList with
      | some [x] => !isMapAV x
      | _ => false
    | .builtin .max | .builtin .min => true
    | _ => false
  | _ => false

/-- Of an operation that brings a value alone. -/
def quietFP (tmps : List AV) (op : Op) : Option FP :=
  if isFreeAt tmps op then some .none else
  match op with
  | .load t a => (ev tmps a).bind fun p => match p with
    | .ptr b o => (sizeT E t).bind fun n => some (.load b o n)
    | .tptr _ _ _ _ | .glob _ _ => some .none
    | _ => none
  | .slice _ _ _ _ _ | .lookup _ _ _ _ => some .read
  | .call c => match c.callee with
    | .builtin _ => some .read
    | _ => some .call
  | _ => some .call

def resV : OpRes → AV
  | .quiet v _ _ => v
  | .loud v _ _ => v
def resH (h : List AO) : OpRes → List AO
  | .quiet _ new seals => joinH (sealAll h seals) new
  | .loud _ h' _ => h'
def resD : OpRes → List ADef
  | .quiet _ _ _ => []
  | .loud _ _ ds => ds

/-- Of an operation of whatever kind: what it turned. -/
def loudA (hm h' : List AO) : Option FP := (changedA 0 hm h').bind fun ch => some (.loud ch)

/-- Of a loud one. -/
def loudFP (tmps : List AV) (hm h' : List AO) : Op → Option FP
  | .store t a _ => (ev tmps a).bind fun p => match p with
    | .ptr b o => (E.ti t).bind fun i => some (.store b o i.size)
    | _ => none
  | .mapUpdate _ m _ _ | .insert _ m _ _ => (ev tmps m).bind fun m => match m with
    | .map b => some (.app b)
    | _ => none
  | .call c => match c.callee with
    | .builtin .append => match c.args.toList with
      | s :: _ => (ev tmps s).bind fun s => match s with
        | .sl b _ _ _ => some (.app b)
        | _ => some (.app hm.length)
      | _ => loudA hm h'
    | _ => loudA hm h'
  | _ => loudA hm h'

def fpOf (tmps : List AV) (hm : List AO) (op : Op) : OpRes → Option FP
  | .quiet _ [] [] => quietFP E tmps op
  | .quiet _ _ [] => some .call
  | .quiet v new seals => loudA hm (resH hm (.quiet v new seals))
  | .loud _ h' _ => loudFP E tmps hm h' op

def noteFP (i : Nat) (f : FP) (fs : List (Nat × FP)) : List (Nat × FP) :=
  match f with
  | .none => fs
  | f => (i, f) :: fs

/-- The heap without the new objects of operations behind which one does not stand. -/
def maskH (m : Nat) : List (Nat × Nat) → List AO → List AO
  | [], h => h
  | (j, q) :: rs, h => if m.testBit j then maskH m rs h else maskH m rs (h.set q .dead)
/-- .. and with them again. -/
def backH (m : Nat) (old : List AO) : List (Nat × Nat) → List AO → List AO
  | [], h => h
  | (j, q) :: rs, h => if m.testBit j then backH m old rs h else backH m old rs (h.set q (old.getD q .dead))

/-- i: the next operation; q: the next place for a new object; rs: where new objects lie; fs: where the operations so far read and write. -/
def drawA (r : Rec) (ops : Array Oper) : List Oper → List Nat → Nat → Nat → List (Nat × Nat) → List (Nat × FP) → St → Option St
  | [], _, _, _, _, _, st => some st
  | o :: os, m :: ms, i, q, rs, fs, st =>
    if Region.wanted o (yieldedA ops st.tmps) then
      if isMake o.op then (makeA E q st.tmps o.op).bind fun (v, ob) =>
        drawA r ops os ms (i + 1) (q + 1) ((i, q) :: rs) fs { st with tmps := put st.tmps o.dst v, heap := st.heap.set q ob }
      else
      match opA E r o st.tmps (maskH m rs st.heap) with
      | some res => (fpOf E st.tmps (maskH m rs st.heap) o.op res).bind fun f =>
        if fitsAll m f fs && (st.round.isNone || (resD res).isEmpty) then
          drawA r ops os ms (i + 1) q rs (noteFP i f fs) { tmps := put st.tmps o.dst (resV res), heap := backH m st.heap rs (resH (maskH m rs st.heap) res), defers := resD res ++ st.defers, round := st.round }
        else none
      | none => none
    else drawA r ops os ms (i + 1) q rs fs { st with tmps := put st.tmps o.dst (.tup []) }
  | _ :: _, [], _, _, _, _, _ => none

def makesIn : List Oper → Nat
  | [] => 0
  | o :: os => if isMake o.op then makesIn os + 1 else makesIn os

def drawR (r : Rec) (ops : Array Oper) (st : St) : Option St :=
  (planOf ops).bind fun ms => drawA E r ops ops.toList ms 0 st.heap.length [] [] { st with heap := joinH st.heap (List.replicate (makesIn ops.toList) .dead) }

def loopN (f : St → Option (Ex × St)) : Nat → St → Option (Ex × St)
  | 0, _ => none
  | n + 1, st => match f st with
    | some (.normal, st) => loopN f n st
    | x => x

def loopIs (h : List AO) : Option Nat → Bool
  | none => true
  | some l => match h[l]? with
    | some (.loop _ _ _ _ _ _) => true
    | _ => false

def exec (r : Rec) (fuel : Nat) : Code → St → Option (Ex × St)
  | .skip, st | .label _, st => some (.normal, st)
  | .region _ ops false, st => (opsA E r ops ops.toList st).bind fun st => some (.normal, st)
  | .region _ ops true, st => (drawR E r ops st).bind fun st => some (.normal, st)
  | .seq a b, st => match exec r fuel a st with
    | some (.normal, st) => exec r fuel b st
    | e => e
  | .cond c a b, st => match ev st.tmps c with
    | some (.bool true) => exec r fuel a st
    | some (.bool false) => exec r fuel b st
    | _ => none
  | .block id c, st => match exec r fuel c st with
    | some (.exit j, st) => if j.beq id then some (.normal, st) else some (.exit j, st)
    | e => e
  | .loop c, st => loopN (exec r fuel c) fuel st
  | .rangeFunc f params assign body, st =>
    match ev st.tmps f, loopIs st.heap st.round with
    | some (.fn (.func g) first caps), true =>
      let h1 := if st.round.isNone then st.heap ++ [.deferred] else st.heap
      let ds := if st.round.isNone then .mark st.heap.length :: st.defers else st.defers
      let l := h1.length
      (r.call g (first ++ [.fn (.yield l) [] []] ++ caps) (h1 ++ [.loop .ready none st.tmps params.toList assign body])).bind fun (_, h3) =>
      match E.fn g, h3[l]? with
      | some _, some (.loop s pend t p a b) =>
        match s with
        | .busy => none
        | _ =>
          match pend with
          | none => some (.normal, { st with heap := h3.set l (.loop .exhausted pend t p a b), defers := ds })
          | some .ret => some (.ret, { st with heap := h3.set l (.loop .exhausted pend t p a b), defers := ds })
          | some (.exit id) => some (.exit id, { st with heap := h3.set l (.loop .exhausted pend t p a b), defers := ds })
          | _ => none
      | _, _ => none
    | _, _ => none
  | .exit id, st => some (.exit id, st)
  | .scope c, st => exec r fuel c st
  | .ret, st => some (.ret, st)
  | .goto _, _ | .refuse _, _ => none

def defersA (r : Rec) : List ADef → List AO → Option (List AO)
  | [], h => some h
  | .mark b :: ds, h => match h[b]? with
    | some .deferred => defersA r ds (h.set b .dead)
    | _ => none
  | .call f args :: ds, h => match E.fn f with
    | none => none
    | some _ => (r.calld f args h).bind fun h => defersA r ds h

def enterFn (r : Rec) (fuel : Nat) (f : FuncId) (args : List AV) (h : List AO) : Option (AV × List AO) :=
  (E.fn f).bind fun fn => fn.body.bind fun body =>
  (exec E r fuel body { tmps := args ++ List.replicate (fn.ntmps - args.length) (.tup []), heap := h, defers := [], round := none }).bind fun (ex, st) =>
  match ex with
  | .exit _ => none
  | _ => (defersA E r st.defers st.heap).bind fun h => (resultsA E h st.tmps fn.results.toList).bind fun vs => some (packA vs, h)

/-- A deferred call: no deferred calls of its own. -/
def enterD (r : Rec) (fuel : Nat) (f : FuncId) (args : List AV) (h : List AO) : Option (List AO) :=
  (E.fn f).bind fun fn => fn.body.bind fun body =>
  (exec E r fuel body { tmps := args ++ List.replicate (fn.ntmps - args.length) (.tup []), heap := h, defers := [], round := none }).bind fun (ex, st) =>
  match ex, st.defers with
  | .exit _, _ => none
  | _, [] => (resultsA E st.heap st.tmps fn.results.toList).bind fun _ => some st.heap
  | _, _ => none

def te : Nat → Rec
  | 0 => ⟨fun _ _ => none, fun _ _ _ => none, fun _ _ _ => none⟩
  | n + 1 => ⟨exec E (te n) n, enterFn E (te n) n, enterD E (te n) n⟩

end
end Go.Te
