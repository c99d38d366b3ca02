/- TE: a region that draws its order: the plan, the trace in the text's order. -/
import Derived.Test.YtfcephkliamgfaaGreatDoorTeSeq
import Derived.OrdersIn
namespace Go.Te
open Go

/-! ## The plan -/

theorem maskOf_spec (ms : List Nat) (i : Nat) : ∀ (es : List Edge) (m0 m : Nat), maskOf ms i es m0 = some m →
    (∀ e ∈ es, Region.binds .any e = true → e.on < i) ∧ ∀ j, m.testBit j = true ↔ (m0.testBit j = true ∨ ∃ e ∈ es, Region.binds .any e = true ∧ (e.on = j ∨ (ms.getD e.on 0).testBit j = true))
  | [], m0, m, h => by
    simp only [maskOf, Option.some.injEq] at h
    subst h
    simp
  | e :: es, m0, m, h => by
    simp only [maskOf] at h
    split at h
    · rename_i hb
      split at h
      · rename_i hlt
        rw [Nat.ble_eq] at hlt
        obtain ⟨h1, h2⟩ := maskOf_spec ms i es _ m h
        refine ⟨fun e' he hb' => ?_, fun j => ?_⟩
        · rcases List.mem_cons.1 he with rfl | he
          · omega
          · exact h1 e' he hb'
        · rw [h2 j]
          simp only [Nat.testBit_or, Nat.testBit_two_pow, Bool.or_eq_true, decide_eq_true_eq, List.mem_cons, exists_eq_or_imp, hb, true_and]
          constructor
          · rintro (((h | h) | h) | h)
            · exact .inl h
            · exact .inr (.inl (.inl h))
            · exact .inr (.inl (.inr h))
            · exact .inr (.inr h)
          · rintro (h | (h | h) | h)
            · exact .inl (.inl (.inl h))
            · exact .inl (.inl (.inr h))
            · exact .inl (.inr h)
            · exact .inr h
      · cases h
    · rename_i hb
      obtain ⟨h1, h2⟩ := maskOf_spec ms i es _ m h
      refine ⟨fun e' he hb' => ?_, fun j => ?_⟩
      · rcases List.mem_cons.1 he with rfl | he
        · exact absurd hb' hb
        · exact h1 e' he hb'
      · rw [h2 j]
        simp only [List.mem_cons, exists_eq_or_imp, hb]
        simp

structure Plan (ops : Array Oper) (ms : List Nat) : Prop where
  len : ms.length = ops.size
  edge : ∀ (i : Nat) o, ops[i]? = some o → ∀ e ∈ o.after.toList, Region.binds .any e = true → e.on < i
  bit : ∀ (i : Nat) o, ops[i]? = some o → ∀ j, (ms.getD i 0).testBit j = true ↔ ∃ e ∈ o.after.toList, Region.binds .any e = true ∧ (e.on = j ∨ (ms.getD e.on 0).testBit j = true)
  free : ∀ (i j : Nat) oi oj, ops[i]? = some oi → ops[j]? = some oj → j < i → (ms.getD i 0).testBit j = false → clashA ops oi oj = false

theorem freeOf_spec {ops : Array Oper} {m : Nat} {o : Oper} : ∀ (ps : List Oper) (j0 : Nat), freeOf ops m o j0 ps = true → ∀ (j : Nat) p, ps[j]? = some p → m.testBit (j0 + j) = true ∨ clashA ops o p = false
  | [], _, _, j, p, h => by simp at h
  | q :: ps, j0, hf, j, p, h => by
    simp only [freeOf, Bool.and_eq_true, Bool.or_eq_true, Bool.not_eq_true'] at hf
    cases j with
    | zero => simp at h; subst h; simpa using hf.1
    | succ j =>
      have := freeOf_spec ps (j0 + 1) hf.2 j p (by simpa using h)
      rwa [show j0 + 1 + j = j0 + (j + 1) by omega] at this

theorem planGo_spec {ops : Array Oper} : ∀ (os : List Oper) (i : Nat) (dn : List Oper) (ms ms' : List Nat), os = ops.toList.drop i → dn = ops.toList.take i → ms.length = i → i ≤ ops.size → planGo ops os i dn ms = some ms' →
    ms'.length = ops.size ∧ (∀ k, k < i → ms'.getD k 0 = ms.getD k 0) ∧
    ∀ (k : Nat) o, i ≤ k → ops[k]? = some o → (∀ e ∈ o.after.toList, Region.binds .any e = true → e.on < k) ∧
      (∀ j, (ms'.getD k 0).testBit j = true ↔ ∃ e ∈ o.after.toList, Region.binds .any e = true ∧ (e.on = j ∨ (ms'.getD e.on 0).testBit j = true)) ∧
      ∀ (j : Nat) oj, ops[j]? = some oj → j < k → (ms'.getD k 0).testBit j = false → clashA ops o oj = false
  | [], i, dn, ms, ms', hos, _, hl, hi, h => by
    simp only [planGo, Option.some.injEq] at h
    subst h
    have hge : ops.size ≤ i := by
      have : (ops.toList.drop i).length = 0 := by rw [← hos]; rfl
      simp at this; omega
    refine ⟨by omega, fun _ _ => rfl, fun k o hk ho => ?_⟩
    have := (Array.getElem?_eq_some_iff.1 ho).1
    omega
  | o :: os, i, dn, ms, ms', hos, hdn, hl, hi, h => by
    have hoi : ops[i]? = some o := by
      have : (ops.toList.drop i)[0]? = some o := by rw [← hos]; rfl
      rw [List.getElem?_drop] at this
      simpa using this
    have hlt : i < ops.size := (Array.getElem?_eq_some_iff.1 hoi).1
    have hos' : os = ops.toList.drop (i + 1) := by rw [← List.tail_drop, ← hos]; rfl
    simp only [planGo] at h
    obtain ⟨m, hm, h⟩ := bind_some h
    split at h
    · rename_i hf
      have hdn' : dn ++ [o] = ops.toList.take (i + 1) := by
        rw [List.take_add_one, ← hdn]
        congr 1
        have : ops.toList[i]? = some o := by simpa using hoi
        rw [this]; rfl
      obtain ⟨k1, k2, k3⟩ := planGo_spec os (i + 1) (dn ++ [o]) (ms ++ [m]) ms' hos' hdn' (by simp [hl]) (by omega) h
      have hmi : ms'.getD i 0 = m := by
        rw [k2 i (by omega)]
        simp [List.getD, hl]
      have hlow : ∀ k, k < i → ms'.getD k 0 = ms.getD k 0 := fun k hk => by
        rw [k2 k (by omega)]
        simp [List.getD, List.getElem?_append_left (show k < ms.length by omega)]
      obtain ⟨s1, s2⟩ := maskOf_spec ms i _ 0 m hm
      refine ⟨k1, hlow, fun k ok hk ho => ?_⟩
      rcases Nat.lt_or_ge i k with hik | hik
      · exact k3 k ok (by omega) ho
      · have : k = i := by omega
        subst this
        rw [hoi] at ho
        cases ho
        refine ⟨s1, fun j => ?_, fun j oj hoj hjk hbit => ?_⟩
        · rw [hmi, s2 j]
          simp only [Nat.zero_testBit, Bool.false_eq_true, false_or]
          constructor
          · rintro ⟨e, he, hb, h⟩
            exact ⟨e, he, hb, by rw [hlow _ (s1 e he hb)]; exact h⟩
          · rintro ⟨e, he, hb, h⟩
            exact ⟨e, he, hb, by rw [← hlow _ (s1 e he hb)]; exact h⟩
        · rw [hmi] at hbit
          have hd : dn[j]? = some oj := by
            rw [hdn, List.getElem?_take_of_lt hjk]
            simpa using hoj
          rcases freeOf_spec dn 0 hf j oj hd with g | g
          · rw [Nat.zero_add, hbit] at g; cases g
          · exact g
    · cases h

theorem planOf_ok {ops : Array Oper} {ms : List Nat} (h : planOf ops = some ms) : Plan ops ms := by
  obtain ⟨h1, _, h3⟩ := planGo_spec ops.toList 0 [] [] ms rfl rfl rfl (Nat.zero_le _) h
  exact ⟨h1, fun i o ho => (h3 i o (Nat.zero_le _) ho).1, fun i o ho => (h3 i o (Nat.zero_le _) ho).2.1, fun i j oi oj hi hj hlt hb => (h3 i oi (Nat.zero_le _) hi).2.2 j oj hj hlt hb⟩

theorem Plan.none {ops : Array Oper} {ms : List Nat} (p : Plan ops ms) {i : Nat} (h : ops.size ≤ i) : ms.getD i 0 = 0 := by
  simp [List.getD, List.getElem?_eq_none (show ms.length ≤ i by rw [p.len]; exact h)]

theorem Plan.lt {ops : Array Oper} {ms : List Nat} (p : Plan ops ms) : ∀ (i j : Nat), (ms.getD i 0).testBit j = true → j < i := by
  intro i
  induction i using Nat.strongRecOn with
  | _ i ih =>
    intro j hj
    cases ho : ops[i]? with
    | none =>
      rw [p.none (by simpa using ho)] at hj
      simp at hj
    | some o =>
      obtain ⟨e, he, hb, h⟩ := (p.bit i o ho j).1 hj
      have := p.edge i o ho e he hb
      rcases h with h | h
      · omega
      · have := ih e.on this j h; omega

/-- What stands ahead of what stands ahead. -/
theorem Plan.trans {ops : Array Oper} {ms : List Nat} (p : Plan ops ms) : ∀ (i j k : Nat), (ms.getD i 0).testBit j = true → (ms.getD j 0).testBit k = true → (ms.getD i 0).testBit k = true := by
  intro i
  induction i using Nat.strongRecOn with
  | _ i ih =>
    intro j k hj hk
    cases ho : ops[i]? with
    | none =>
      rw [p.none (by simpa using ho)] at hj
      simp at hj
    | some o =>
      obtain ⟨e, he, hb, h⟩ := (p.bit i o ho j).1 hj
      have hlt := p.edge i o ho e he hb
      refine (p.bit i o ho k).2 ⟨e, he, hb, .inr ?_⟩
      rcases h with h | h
      · rw [h]; exact hk
      · exact ih e.on hlt j k h hk

/-! ## Masks of a heap -/

def hid (m : Nat) (rs : List (Nat × Nat)) (id : Nat) : Bool := rs.any fun x => !m.testBit x.1 && x.2.beq id

theorem maskH_get {m : Nat} {id : Nat} : ∀ (rs : List (Nat × Nat)) (h : List AO), (maskH m rs h)[id]? = if hid m rs id then (h[id]?).map (fun _ => AO.dead) else h[id]?
  | [], h => by simp [maskH, hid]
  | (j, q) :: rs, h => by
    simp only [maskH]
    split
    · rename_i hb
      have hh : hid m ((j, q) :: rs) id = hid m rs id := by simp only [hid, List.any_cons, hb, Bool.not_true, Bool.false_and, Bool.false_or]
      rw [maskH_get rs h, hh]
    · rename_i hb
      rw [maskH_get rs (h.set q .dead)]
      have hb' : m.testBit j = false := by simpa using hb
      by_cases hq : q = id
      · subst hq
        have hh : hid m ((j, q) :: rs) q = true := by simp [hid, hb']
        rw [hh]
        simp only [if_true]
        by_cases hl : q < h.length
        · rw [List.getElem?_set_self hl, List.getElem?_eq_getElem hl]; split <;> rfl
        · rw [List.getElem?_eq_none (by simp; omega), List.getElem?_eq_none (by omega)]; split <;> rfl
      · rw [List.getElem?_set_ne hq]
        have : hid m ((j, q) :: rs) id = hid m rs id := by
          have hb2 : Nat.beq q id = false := by cases hh : Nat.beq q id with
            | false => rfl
            | true => rw [Nat.beq_eq] at hh; exact absurd hh hq
          simp [hid, hb2]
        rw [this]

theorem maskH_length {m : Nat} : ∀ (rs : List (Nat × Nat)) (h : List AO), (maskH m rs h).length = h.length
  | [], h => rfl
  | (j, q) :: rs, h => by
    simp only [maskH]
    split
    · exact maskH_length rs h
    · rw [maskH_length rs]; simp

theorem backH_get {m : Nat} {old : List AO} {id : Nat} : ∀ (rs : List (Nat × Nat)) (h : List AO), (backH m old rs h)[id]? = if hid m rs id then (h[id]?).map (fun _ => old.getD id .dead) else h[id]?
  | [], h => by simp [backH, hid]
  | (j, q) :: rs, h => by
    simp only [backH]
    split
    · rename_i hb
      have hh : hid m ((j, q) :: rs) id = hid m rs id := by simp only [hid, List.any_cons, hb, Bool.not_true, Bool.false_and, Bool.false_or]
      rw [backH_get rs h, hh]
    · rename_i hb
      rw [backH_get rs (h.set q (old.getD q .dead))]
      have hb' : m.testBit j = false := by simpa using hb
      by_cases hq : q = id
      · subst hq
        have hh : hid m ((j, q) :: rs) q = true := by simp [hid, hb']
        rw [hh]
        simp only [if_true]
        by_cases hl : q < h.length
        · rw [List.getElem?_set_self hl, List.getElem?_eq_getElem hl]; split <;> rfl
        · rw [List.getElem?_eq_none (by simp; omega), List.getElem?_eq_none (by omega)]; split <;> rfl
      · rw [List.getElem?_set_ne hq]
        have : hid m ((j, q) :: rs) id = hid m rs id := by
          have hb2 : Nat.beq q id = false := by cases hh : Nat.beq q id with
            | false => rfl
            | true => rw [Nat.beq_eq] at hh; exact absurd hh hq
          simp [hid, hb2]
        rw [this]

theorem backH_length {m : Nat} {old : List AO} : ∀ (rs : List (Nat × Nat)) (h : List AO), (backH m old rs h).length = h.length
  | [], h => rfl
  | (j, q) :: rs, h => by
    simp only [backH]
    split
    · exact backH_length rs h
    · rw [backH_length rs]; simp

theorem backH_maskH (m : Nat) (rs : List (Nat × Nat)) (h : List AO) : backH m h rs (maskH m rs h) = h := by
  refine List.ext_getElem? fun id => ?_
  rw [backH_get, maskH_get]
  split
  · rw [Option.map_map]
    by_cases hl : id < h.length
    · rw [List.getElem?_eq_getElem hl]; simp [List.getD, List.getElem?_eq_getElem hl]
    · rw [List.getElem?_eq_none (by omega)]; rfl
  · rfl

/-! ## The trace -/

structure Info where
  st : St
  q : Nat
  rs : List (Nat × Nat)
  fs : List (Nat × FP)

inductive Kind where
  | skip
  | make (v : AV) (ob : AO)
  | op (res : OpRes) (f : FP)

def Kind.val : Kind → AV
  | .skip => .tup []
  | .make v _ => v
  | .op res _ => resV res

section
variable (E : Env)

def StepOk (r : Rec) (ops : Array Oper) (i : Nat) (o : Oper) (m : Nat) (k : Kind) (I I' : Info) : Prop :=
  match k with
  | .skip => Region.wanted o (yieldedA ops I.st.tmps) = false ∧ I' = ⟨I.st.skip o.dst, I.q, I.rs, I.fs⟩
  | .make v ob => Region.wanted o (yieldedA ops I.st.tmps) = true ∧ isMake o.op = true ∧ makeA E I.q I.st.tmps o.op = some (v, ob) ∧
      I' = ⟨{ I.st with tmps := put I.st.tmps o.dst v, heap := I.st.heap.set I.q ob }, I.q + 1, (i, I.q) :: I.rs, I.fs⟩
  | .op res f => Region.wanted o (yieldedA ops I.st.tmps) = true ∧ opA E r o I.st.tmps (maskH m I.rs I.st.heap) = some res ∧ fpOf E I.st.tmps (maskH m I.rs I.st.heap) o.op res = some f ∧ fitsAll m f I.fs = true ∧
      (I.st.round.isNone = true ∨ resD res = []) ∧
      I' = ⟨{ tmps := put I.st.tmps o.dst (resV res), heap := backH m I.st.heap I.rs (resH (maskH m I.rs I.st.heap) res), defers := resD res ++ I.st.defers, round := I.st.round }, I.q, I.rs, noteFP i f I.fs⟩

structure Trace (r : Rec) (ops : Array Oper) (ms : List Nat) (i0 : Nat) (I0 : Info) (st' : St) (info : Nat → Info) (kind : Nat → Kind) : Prop where
  start : info i0 = I0
  step : ∀ (i : Nat) o, i0 ≤ i → ops[i]? = some o → StepOk E r ops i o (ms.getD i 0) (kind i) (info i) (info (i + 1))
  stop : (info ops.size).st = st'

variable {E}

theorem drawA_cons {r : Rec} {ops : Array Oper} {o : Oper} {os : List Oper} {m : Nat} {ms : List Nat} {i q : Nat} {rs : List (Nat × Nat)} {fs : List (Nat × FP)} {st st' : St} (h : drawA E r ops (o :: os) (m :: ms) i q rs fs st = some st') :
    ∃ k I', StepOk E r ops i o m k ⟨st, q, rs, fs⟩ I' ∧ drawA E r ops os ms (i + 1) I'.q I'.rs I'.fs I'.st = some st' := by
  simp only [drawA] at h
  split at h
  · rename_i hw
    split at h
    · rename_i hmk
      obtain ⟨⟨v, ob⟩, hm, h⟩ := bind_some h
      exact ⟨.make v ob, _, ⟨hw, hmk, hm, rfl⟩, h⟩
    · split at h
      · rename_i res hres
        obtain ⟨f, hf, h⟩ := bind_some h
        split at h
        · rename_i hc
          simp only [Bool.and_eq_true, Bool.or_eq_true, List.isEmpty_iff] at hc
          exact ⟨.op res f, _, ⟨hw, hres, hf, hc.1, hc.2, rfl⟩, h⟩
        · cases h
      · cases h
  · rename_i hw
    exact ⟨.skip, _, ⟨by simpa using hw, rfl⟩, h⟩

theorem trace_of {r : Rec} {ops : Array Oper} {ms : List Nat} {st' : St} (hms : ms.length = ops.size) : ∀ (os : List Oper) (i : Nat) (I : Info), os = ops.toList.drop i → i ≤ ops.size → drawA E r ops os (ms.drop i) i I.q I.rs I.fs I.st = some st' →
    ∃ info kind, Trace E r ops ms i I st' info kind
  | [], i, I, hos, hi, h => by
    simp only [drawA, Option.some.injEq] at h
    have hge : ops.size ≤ i := by
      have : (ops.toList.drop i).length = 0 := by rw [← hos]; rfl
      simp at this; omega
    have : i = ops.size := by omega
    refine ⟨fun _ => I, fun _ => .skip, rfl, fun k o hk ho => ?_, h⟩
    have := (Array.getElem?_eq_some_iff.1 ho).1
    omega
  | o :: os, i, I, hos, hi, h => by
    have hoi : ops[i]? = some o := by
      have : (ops.toList.drop i)[0]? = some o := by rw [← hos]; rfl
      rw [List.getElem?_drop] at this
      simpa using this
    have hlt : i < ops.size := (Array.getElem?_eq_some_iff.1 hoi).1
    have hos' : os = ops.toList.drop (i + 1) := by rw [← List.tail_drop, ← hos]; rfl
    have hmd : ms.drop i = ms.getD i 0 :: ms.drop (i + 1) := by
      rw [List.drop_eq_getElem_cons (by omega)]
      simp [List.getD, List.getElem?_eq_getElem (show i < ms.length by omega)]
    rw [hmd] at h
    obtain ⟨k, I', hs, h⟩ := drawA_cons h
    obtain ⟨info, kind, t⟩ := trace_of hms os (i + 1) I' hos' hlt h
    refine ⟨fun n => if n = i then I else info n, fun n => if n = i then k else kind n, by simp, fun n on hn hon => ?_, ?_⟩
    · by_cases hni : n = i
      · subst hni
        rw [hoi] at hon; cases hon
        simp only [if_true, show ¬ n + 1 = n by omega, if_false, t.start]
        exact hs
      · simp only [hni, show ¬ n + 1 = i by omega, if_false]
        exact t.step n on (by omega) hon
    · have : ops.size ≠ i := by omega
      simp only [this, if_false]
      exact t.stop

end

/-! ## Temporaries -/

section
variable (T0 : List AV) (vals : Nat → AV) (dst : Nat → Option Tmp)

/-- The temporaries when the operations of S, of the first n, have been done. -/
def tv (S : Nat → Bool) : Nat → List AV
  | 0 => T0
  | n + 1 => if S n then put (tv S n) (dst n) (vals n) else tv S n

theorem put_length (T : List AV) (d : Option Tmp) (v : AV) : (put T d v).length = T.length := by cases d <;> simp [put]
theorem tv_length (S : Nat → Bool) : ∀ n, (tv T0 vals dst S n).length = T0.length
  | 0 => rfl
  | n + 1 => by
    simp only [tv]
    split
    · rw [put_length, tv_length S n]
    · exact tv_length S n

theorem put_get (T : List AV) (d : Option Tmp) (v : AV) (t : Nat) : (put T d v)[t]? = if d = some t then (if t < T.length then some v else none) else T[t]? := by
  cases d with
  | none => simp [put]
  | some p =>
    simp only [put]
    by_cases hp : p = t
    · subst hp
      simp only [if_true]
      split
      · rename_i hl; rw [List.getElem?_set_self hl]
      · rename_i hl; rw [List.getElem?_eq_none (by simp; omega)]
    · rw [List.getElem?_set_ne hp]
      simp [hp]

theorem tv_last (S : Nat → Bool) (t j : Nat) (hS : S j = true) (hd : dst j = some t) : ∀ n, j < n → (∀ i, j < i → i < n → ¬ (S i = true ∧ dst i = some t)) → (tv T0 vals dst S n)[t]? = if t < T0.length then some (vals j) else none := by
  intro n
  induction n with
  | zero => intro h; omega
  | succ n ih =>
    intro hj hno
    simp only [tv]
    by_cases hjn : j = n
    · subst hjn
      rw [if_pos hS, put_get, if_pos hd, tv_length]
    · have h1 := ih (by omega) (fun i h1 h2 => hno i h1 (by omega))
      split
      · rename_i hs
        rw [put_get, if_neg (fun e => hno n (by omega) (by omega) ⟨hs, e⟩)]
        exact h1
      · exact h1

theorem tv_none (S : Nat → Bool) (t : Nat) : ∀ n, (∀ i, i < n → ¬ (S i = true ∧ dst i = some t)) → (tv T0 vals dst S n)[t]? = T0[t]?
  | 0, _ => rfl
  | n + 1, hno => by
    simp only [tv]
    have h1 := tv_none S t n (fun i hi => hno i (by omega))
    split
    · rename_i hs
      rw [put_get, if_neg (fun e => hno n (by omega) ⟨hs, e⟩)]
      exact h1
    · exact h1

theorem last_or (p : Nat → Prop) [DecidablePred p] : ∀ n, (∀ i, i < n → ¬ p i) ∨ ∃ j, j < n ∧ p j ∧ ∀ i, j < i → i < n → ¬ p i
  | 0 => .inl (by omega)
  | n + 1 => by
    by_cases hp : p n
    · exact .inr ⟨n, by omega, hp, by omega⟩
    · rcases last_or p n with h | ⟨j, h1, h2, h3⟩
      · exact .inl fun i hi => by
          by_cases hin : i = n
          · subst hin; exact hp
          · exact h i (by omega)
      · exact .inr ⟨j, by omega, h2, fun i h4 h5 => by
          by_cases hin : i = n
          · subst hin; exact hp
          · exact h3 i h4 (by omega)⟩

theorem tv_agree (S1 S2 : Nat → Bool) (t n1 n2 : Nat) (h : ∀ i, (i < n1 ∧ S1 i = true ∧ dst i = some t) ↔ (i < n2 ∧ S2 i = true ∧ dst i = some t)) : (tv T0 vals dst S1 n1)[t]? = (tv T0 vals dst S2 n2)[t]? := by
  rcases last_or (fun i => S1 i = true ∧ dst i = some t) n1 with h1 | ⟨j, j1, j2, j3⟩
  · rw [tv_none T0 vals dst S1 t n1 h1, tv_none T0 vals dst S2 t n2 fun i hi hs => ?_]
    exact h1 i ((h i).2 ⟨hi, hs⟩).1 ((h i).2 ⟨hi, hs⟩).2
  · have hj := (h j).1 ⟨j1, j2⟩
    rw [tv_last T0 vals dst S1 t j j2.1 j2.2 n1 j1 j3, tv_last T0 vals dst S2 t j hj.2.1 hj.2.2 n2 hj.1 fun i h4 h5 hs => ?_]
    have hi := (h i).2 ⟨h5, hs⟩
    exact j3 i h4 hi.1 hi.2

/-- One more. -/
theorem tv_put (S S' : Nat → Bool) (k n : Nat) (hk : k < n) (hS' : ∀ i, S' i = (S i || i == k)) (hno : ∀ t, dst k = some t → ∀ i, k < i → i < n → ¬ (S i = true ∧ dst i = some t)) :
    tv T0 vals dst S' n = put (tv T0 vals dst S n) (dst k) (vals k) := by
  refine List.ext_getElem? fun t => ?_
  rw [put_get, tv_length]
  split
  · rename_i hd
    refine tv_last T0 vals dst S' t k (by rw [hS']; simp) hd n hk fun i h1 h2 hs => ?_
    rw [hS'] at hs
    have : (i == k) = false := by simp; omega
    rw [this, Bool.or_false] at hs
    exact hno t hd i h1 h2 hs
  · rename_i hd
    refine tv_agree T0 vals dst S' S t n n fun i => ?_
    rw [hS']
    constructor
    · rintro ⟨h1, h2, h3⟩
      refine ⟨h1, ?_, h3⟩
      simp only [Bool.or_eq_true, beq_iff_eq] at h2
      rcases h2 with h2 | h2
      · exact h2
      · subst h2; exact absurd h3 hd
    · rintro ⟨h1, h2, h3⟩
      exact ⟨h1, by simp [h2], h3⟩
end
end Go.Te
