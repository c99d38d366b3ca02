/- TE: tables, as trees of search. -/
import Derived.Test.YtfcephkliamgfaaGreatDoorTeExec
namespace Go.Te
open Go

inductive Tr (α : Type) where
  | leaf
  | node (k : Nat) (v : α) (l r : Tr α)
def Tr.get {α : Type} : Tr α → Nat → Option α
  | .leaf, _ => none
  | .node k v l r, x => bif Nat.beq x k then some v else bif Nat.ble x k then l.get x else r.get x
def Tr.list {α : Type} : Tr α → List (Nat × α)
  | .leaf => []
  | .node k v l r => (k, v) :: (l.list ++ r.list)

theorem Tr.get_mem {α : Type} : ∀ (T : Tr α) (x : Nat) (v : α), T.get x = some v → (x, v) ∈ T.list
  | .leaf, _, _, h => by cases h
  | .node k v l r, x, u, h => by
    simp only [Tr.get] at h
    simp only [Tr.list, List.mem_cons, List.mem_append]
    cases hk : Nat.beq x k with
    | true =>
      rw [hk] at h
      simp only [cond_true, Option.some.injEq] at h
      rw [Nat.beq_eq] at hk
      exact .inl (by rw [hk, h])
    | false =>
      rw [hk] at h
      simp only [cond_false] at h
      cases hb : Nat.ble x k with
      | true => rw [hb] at h; exact .inr (.inl (Tr.get_mem l x u h))
      | false => rw [hb] at h; exact .inr (.inr (Tr.get_mem r x u h))

/-- What a program says of a type, as the table has it. -/
def tiOf (P : Program) (t : TypeId) : Option TI :=
  match P.info? t, P.underlying t with
  | some i, some d => some { desc := d, size := i.size, bytes := i.bytes, zero := i.zero.bind ofValue }
  | _, _ => none

theorem tiOf_ok {P : Program} {t : TypeId} {i : TI} (h : tiOf P t = some i) : ∃ info, P.info? t = some info ∧ P.underlying t = some i.desc ∧ info.size = i.size ∧ info.bytes = i.bytes ∧
    ∀ z, i.zero = some z → ∃ zv, info.zero = some zv ∧ ofValue zv = some z := by
  unfold tiOf at h
  split at h
  · rename_i info d h1 h2
    simp only [Option.some.injEq] at h
    subst h
    exact ⟨info, h1, h2, rfl, rfl, fun z hz => bind_some hz⟩
  · cases h

/-- All rows of a table say what the program says. -/
theorem rows_ok {α β : Type} {T : Tr α} {f : Nat → β} {g : α → β} (h : T.list.map (fun x => f x.1) = T.list.map (fun x => g x.2)) {x : Nat} {v : α} (hv : T.get x = some v) : f x = g v := by
  have hm := Tr.get_mem T x v hv
  generalize T.list = l at h hm
  induction l with
  | nil => cases hm
  | cons a l ih =>
    simp only [List.map_cons, List.cons.injEq] at h
    rcases List.mem_cons.1 hm with rfl | hm
    · exact h.1
    · exact ih h.2 hm

end Go.Te
