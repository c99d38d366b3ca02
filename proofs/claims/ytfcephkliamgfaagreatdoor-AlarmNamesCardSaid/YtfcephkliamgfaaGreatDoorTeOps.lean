/- TE: what each operation of the evaluator says of the model's own. -/
import Derived.Test.YtfcephkliamgfaaGreatDoorTeBase
import GoSem.Instr.Lookup
import Derived.Laws.Small
import Derived.Laws.StructEq
namespace Go.Te
open Go

section
variable {E : Env} {P : Program} {B0 : Nat} {σ : Sg} {μ : Mu}

/-! ## Numbers -/

theorem intArith_sound {op : BinOp} {k : IntKind} {a b : Int} {v : AV} {t : TypeId} {w : World} (hs : op ≠ .shl ∧ op ≠ .shr) (h : intArith op k a b = some v) :
    ∃ z, (binOp op t (.int k a) (.int k b)).run P w = .ok z w ∧ VR E B0 σ μ v z := by
  obtain ⟨h1, h2⟩ := hs
  cases op <;> simp [intArith] at h h1 h2
  all_goals first
    | (subst h; exact ⟨_, by simp [binOp, Op.intArith, Op.intBits, Op.intCmp], VR_int.2 rfl⟩)
    | (subst h; exact ⟨_, by simp [binOp, Op.intArith, Op.intBits, Op.intCmp], VR_bool.2 rfl⟩)
    | (obtain ⟨hb, rfl⟩ := h; exact ⟨_, by simp [binOp, Op.intDiv, hb], VR_int.2 rfl⟩)

theorem shiftOp_sound {op : BinOp} {k k' : IntKind} {a b : Int} {v : AV} {t : TypeId} {w : World} (hs : op = .shl ∨ op = .shr) (h : shiftOp op k a b = some v) :
    ∃ z, (binOp op t (.int k a) (.int k' b)).run P w = .ok z w ∧ VR E B0 σ μ v z := by
  unfold shiftOp at h
  split at h
  · cases h
  · rename_i hb
    rcases hs with rfl | rfl <;> simp at h <;> subst h <;> exact ⟨_, by simp [binOp, Op.shift, hb], VR_int.2 rfl⟩

def scalEqV : SK → Value → Value → Option Bool
  | .int, .int k a, .int k' b => if k = k' then some (a == b) else none
  | .bool, .bool a, .bool b => some (a == b)
  | .str, .string a, .string b => some (a.toList == b.toList)
  | _, _, _ => none
def scalEqVs : List SK → List Value → List Value → Option Bool
  | [], [], [] => some true
  | s :: ss, x :: xs, y :: ys => (scalEqV s x y).bind fun b => (scalEqVs ss xs ys).bind fun c => some (b && c)
  | _, _, _ => none

theorem scalEq_sound {s : SK} {x y : AV} {u v : Value} {b : Bool} (h : scalEq s x y = some b) (hx : VR E B0 σ μ x u) (hy : VR E B0 σ μ y v) : scalEqV s u v = some b := by
  unfold scalEq at h
  split at h
  · rw [VR_int.1 hx, VR_int.1 hy]; exact h
  · rw [VR_bool.1 hx, VR_bool.1 hy]; exact h
  · rw [VR_str.1 hx, VR_str.1 hy]; exact h
  · cases h

theorem scalEqs_sound : ∀ (ss : List SK) (xs ys : List AV) (us vs : List Value) (b : Bool), scalEqs ss xs ys = some b → us.length = xs.length → vs.length = ys.length →
    (∀ (i : Nat) x, xs[i]? = some x → ∃ u, us[i]? = some u ∧ VR E B0 σ μ x u) → (∀ (i : Nat) y, ys[i]? = some y → ∃ v, vs[i]? = some v ∧ VR E B0 σ μ y v) → scalEqVs ss us vs = some b
  | [], [], [], us, vs, b, h, h1, h2, _, _ => by
    cases us with
    | nil => cases vs with
      | nil => exact h
      | cons _ _ => simp at h2
    | cons _ _ => simp at h1
  | [], [], _ :: _, _, _, _, h, _, _, _, _ => by simp [scalEqs] at h
  | [], _ :: _, _, _, _, _, h, _, _, _, _ => by simp [scalEqs] at h
  | _ :: _, [], _, _, _, _, h, _, _, _, _ => by simp [scalEqs] at h
  | _ :: _, _ :: _, [], _, _, _, h, _, _, _, _ => by simp [scalEqs] at h
  | s :: ss, x :: xs, y :: ys, us, vs, b, h, h1, h2, h3, h4 => by
    cases us with
    | nil => simp at h1
    | cons u us => cases vs with
      | nil => simp at h2
      | cons v vs =>
        simp only [scalEqs] at h
        replace h := bind_some h; obtain ⟨b1, hb, h⟩ := h
        replace h := bind_some h; obtain ⟨b2, hc, h⟩ := h
        simp only [Option.some.injEq] at h
        subst h
        obtain ⟨u', hu', ru⟩ := h3 0 x (by simp)
        obtain ⟨v', hv', rv⟩ := h4 0 y (by simp)
        simp at hu' hv'
        subst hu' hv'
        have e1 := scalEq_sound hb ru rv
        have e2 := scalEqs_sound ss xs ys us vs b2 hc (by simpa using h1) (by simpa using h2) (fun i z hz => by simpa using h3 (i + 1) z (by simpa using hz)) (fun i z hz => by simpa using h4 (i + 1) z (by simpa using hz))
        simp [scalEqVs, e1, e2]

/-- Values of this type are compared cell by cell; and may be keys. -/
def EqFlat (P : Program) (t : TypeId) (ss : List SK) : Prop :=
  P.eqGuardType P.depth t = false ∧ (∀ (xs ys : Array Value) (b : Bool) (w : World), scalEqVs ss xs.toList ys.toList = some b → (Op.equalIn 10000 t (.agg xs) (.agg ys)).run P w = .ok b w) ∧
  (∀ (xs ys : Array Value) (b e : Bool) (w : World), scalEqVs ss xs.toList ys.toList = some b → (Instr.checkKey e 10000 t (.agg xs)).run P w = .ok () w) ∧ ∃ d, P.underlying t = some d ∧ isAggD d = true

structure EnvOk2 (E : Env) (P : Program) : Prop extends EnvOk E P where
  eqs : ∀ t ss, E.eqShape t = some ss → EqFlat P t ss

/-- A value that is no number, text or place. -/
def NoScal (u : Value) : Prop := (∀ k n, u ≠ .int k n) ∧ (∀ s, u ≠ .string s) ∧ (∀ s, u ≠ .pointer s) ∧ (∀ k n, u ≠ .float k n) ∧ (∀ k n m, u ≠ .complex k n m)

theorem scalEqs_VA {ss : List SK} {xs ys : List AV} {a c : Array Value} {b : Bool} (h : scalEqs ss xs ys = some b) (ha : VA E B0 σ μ xs a) (hc : VA E B0 σ μ ys c) : scalEqVs ss a.toList c.toList = some b :=
  scalEqs_sound ss xs ys _ _ b h (by simpa using ha.1) (by simpa using hc.1)
    (fun i z hz => by obtain ⟨u, hu, hr⟩ := VRl_iff.1 ha.2 i z hz; exact ⟨u, by simpa using hu, hr⟩)
    (fun i z hz => by obtain ⟨u, hu, hr⟩ := VRl_iff.1 hc.2 i z hz; exact ⟨u, by simpa using hu, hr⟩)

theorem desc_of (OK : EnvOk E P) {t : TypeId} {i : TI} (hi : E.ti t = some i) : P.underlying t = some i.desc := by
  obtain ⟨info, _, g2, _⟩ := OK.ti t i hi; exact g2

theorem run_eqIn_func_nil (d : Nat) {t : TypeId} {w : World} {a b c} (h : P.underlying t = some (.func a b c)) (g : Fn) (x y : Array Value) : (Op.equalIn (d + 1) t (.func g x y) .nilFunc).run P w = .ok false w := by
  simp [Op.equalIn, run_underlying h]
theorem run_eqIn_nil_nil (d : Nat) {t : TypeId} {w : World} {a b c} (h : P.underlying t = some (.func a b c)) : (Op.equalIn (d + 1) t .nilFunc .nilFunc).run P w = .ok true w := by
  simp [Op.equalIn, run_underlying h]
theorem run_eqIn_slice_nil (d : Nat) {t : TypeId} {w : World} {e} (h : P.underlying t = some (.slice e)) (a : Option Addr) (n c : Nat) : (Op.equalIn (d + 1) t (.slice a n c) (.slice none 0 0)).run P w = .ok a.isNone w := by
  cases a <;> simp [Op.equalIn, run_underlying h]

theorem eqAV_sound (OK : EnvOk2 E P) {t : TypeId} {x y : AV} {u v : Value} {b : Bool} {w : World} {X Y : Operand} {op : BinOp} (h : eqAV E t x y = some b) (hx : VR E B0 σ μ x u) (hy : VR E B0 σ μ y v) :
    (eqGuard op t X Y u v).run P w = .ok () w ∧ (Op.equal t u v).run P w = .ok b w ∧ NoScal u := by
  unfold eqAV at h
  split at h
  · rename_i xs ys
    replace h := bind_some h; obtain ⟨ss, hsh, h⟩ := h
    obtain ⟨a, rfl, ha⟩ := VR_agg.1 hx
    obtain ⟨c, rfl, hc⟩ := VR_agg.1 hy
    obtain ⟨g1, g2, _⟩ := OK.eqs t ss hsh
    exact ⟨run_eqGuard_agg w op t X Y a c g1, g2 a c b w (scalEqs_VA h ha hc), by simp [NoScal]⟩
  · rename_i p q
    rw [VR_bool.1 hx, VR_bool.1 hy]
    replace h := bind_some h; obtain ⟨i, hi, h⟩ := h
    have g2 := desc_of OK.toEnvOk hi
    split at h
    · rename_i hd
      simp only [Option.some.injEq] at h
      subst h
      rw [hd] at g2
      refine ⟨?_, ?_, by simp [NoScal]⟩
      · cases op <;> simp [eqGuard]
      · exact run_equal_bool w t p q g2
    · cases h
  · replace h := bind_some h; obtain ⟨i, hi, h⟩ := h
    have g2 := desc_of OK.toEnvOk hi
    split at h
    · rename_i hd
      simp only [Option.some.injEq] at h
      subst h
      rw [hd] at g2
      simp only [VR] at hx hy
      obtain ⟨g, a, c, rfl, _⟩ := hx
      subst hy
      refine ⟨?_, ?_, by simp [NoScal]⟩
      · cases op <;> simp [eqGuard]
      · exact run_eqIn_func_nil 9999 g2 _ _ _
    · cases h
  · replace h := bind_some h; obtain ⟨i, hi, h⟩ := h
    have g2 := desc_of OK.toEnvOk hi
    split at h
    · rename_i hd
      simp only [Option.some.injEq] at h
      subst h
      rw [hd] at g2
      simp only [VR] at hx hy
      subst hx hy
      refine ⟨?_, ?_, by simp [NoScal]⟩
      · cases op <;> simp [eqGuard]
      · exact run_eqIn_nil_nil 9999 g2
    · cases h
  · replace h := bind_some h; obtain ⟨i, hi, h⟩ := h
    have g2 := desc_of OK.toEnvOk hi
    split at h
    · rename_i hd
      simp only [Option.some.injEq] at h
      subst h
      rw [hd] at g2
      simp only [VR] at hx hy
      subst hx hy
      refine ⟨?_, ?_, by simp [NoScal]⟩
      · cases op <;> simp [eqGuard]
      · exact run_eqIn_slice_nil 9999 g2 _ _ _
    · cases h
  · replace h := bind_some h; obtain ⟨i, hi, h⟩ := h
    have g2 := desc_of OK.toEnvOk hi
    split at h
    · rename_i hd
      simp only [Option.some.injEq] at h
      subst h
      rw [hd] at g2
      simp only [VR] at hx hy
      obtain ⟨p, a, cap, s, _, rfl, _⟩ := hx
      subst hy
      refine ⟨?_, ?_, by simp [NoScal]⟩
      · cases op <;> simp [eqGuard]
      · exact run_eqIn_slice_nil 9999 g2 _ _ _
    · cases h
  · replace h := bind_some h; obtain ⟨i, hi, h⟩ := h
    have g2 := desc_of OK.toEnvOk hi
    split at h
    · rename_i hd
      simp only [Option.some.injEq] at h
      subst h
      rw [hd] at g2
      simp only [VR] at hx hy
      obtain ⟨a, cap, s, rfl, _, _, _, _, h6⟩ := hx
      subst hy
      obtain ⟨ad, rfl⟩ : ∃ ad, a = some ad := by
        rcases h6 with h6 | ⟨blk, off, e', c, rfl, _⟩
        · exact Option.isSome_iff_exists.1 h6.2
        · exact ⟨_, rfl⟩
      refine ⟨?_, ?_, by simp [NoScal]⟩
      · cases op <;> simp [eqGuard]
      · exact run_eqIn_slice_nil 9999 g2 _ _ _
    · cases h
  · cases h

theorem binop_sound (OK : EnvOk2 E P) {op : BinOp} {t : TypeId} {x y v : AV} {u u' : Value} {w : World} {X Y : Operand} (h : binop E op t x y = some v) (hx : VR E B0 σ μ x u) (hy : VR E B0 σ μ y u') :
    ∃ z, (do eqGuard op t X Y u u'; binOp op t u u' : Sem Value).run P w = .ok z w ∧ VR E B0 σ μ v z := by
  unfold binop at h
  split at h
  · rename_i k a k' b
    rw [VR_int.1 hx, VR_int.1 hy]
    have hg : (eqGuard op t X Y (.int k a) (.int k' b)).run P w = .ok () w := by cases op <;> simp [eqGuard]
    split at h
    · obtain ⟨z, h1, h2⟩ := shiftOp_sound (t := t) (k' := k') (w := w) (P := P) (E := E) (B0 := B0) (σ := σ) (μ := μ) (.inl rfl) h
      exact ⟨z, by simp [hg, h1], h2⟩
    · obtain ⟨z, h1, h2⟩ := shiftOp_sound (t := t) (k' := k') (w := w) (P := P) (E := E) (B0 := B0) (σ := σ) (μ := μ) (.inr rfl) h
      exact ⟨z, by simp [hg, h1], h2⟩
    · rename_i n1 n2
      split at h
      · rename_i hk
        subst hk
        obtain ⟨z, h1, h2⟩ := intArith_sound (t := t) (w := w) (P := P) (E := E) (B0 := B0) (σ := σ) (μ := μ) ⟨fun e => n1 e, fun e => n2 e⟩ h
        exact ⟨z, by simp [hg, h1], h2⟩
      · cases h
  · rename_i a b
    rw [VR_str.1 hx, VR_str.1 hy]
    split at h
    · simp at h; subst h; exact ⟨_, by simp [eqGuard, binOp, Op.stringOp], VR_bool.2 rfl⟩
    · simp at h; subst h; exact ⟨_, by simp [eqGuard, binOp, Op.stringOp], VR_bool.2 rfl⟩
    · cases h
  · split at h
    · replace h := bind_some h; obtain ⟨b, hb, h⟩ := h
      simp only [Option.some.injEq] at h
      subst h
      obtain ⟨g1, g2, n1, n2, n3, n4, n5⟩ := eqAV_sound (X := X) (Y := Y) (op := .eql) (w := w) OK hb hx hy
      refine ⟨.bool b, ?_, VR_bool.2 rfl⟩
      cases u <;> first | exact absurd rfl (n1 _ _) | exact absurd rfl (n2 _) | exact absurd rfl (n3 _) | exact absurd rfl (n4 _ _) | exact absurd rfl (n5 _ _ _) | (simp [g1, binOp, g2])
    · replace h := bind_some h; obtain ⟨b, hb, h⟩ := h
      simp only [Option.some.injEq] at h
      subst h
      obtain ⟨g1, g2, n1, n2, n3, n4, n5⟩ := eqAV_sound (X := X) (Y := Y) (op := .neq) (w := w) OK hb hx hy
      refine ⟨.bool !b, ?_, VR_bool.2 rfl⟩
      cases u <;> first | exact absurd rfl (n1 _ _) | exact absurd rfl (n2 _) | exact absurd rfl (n3 _) | exact absurd rfl (n4 _ _) | exact absurd rfl (n5 _ _ _) | (simp [g1, binOp, g2])
    · cases h

theorem unop_sound {op : UnOp} {x v : AV} {u : Value} {w : World} (h : unop op x = some v) (hx : VR E B0 σ μ x u) :
    ∃ z, (Op.unary op u).run P w = .ok z w ∧ VR E B0 σ μ v z := by
  unfold unop at h
  split at h
  · rw [VR_int.1 hx]; simp [intArith] at h; subst h; exact ⟨_, by simp [Op.unary, Op.intArith], VR_int.2 rfl⟩
  · rw [VR_int.1 hx]; simp [intArith] at h; subst h; exact ⟨_, by simp [Op.unary, Op.intBits], VR_int.2 rfl⟩
  · rw [VR_bool.1 hx]; simp at h; subst h; exact ⟨_, by simp [Op.unary], VR_bool.2 rfl⟩
  · cases h

theorem conv_sound (OK : EnvOk E P) {s d : TypeId} {x v : AV} {u : Value} {w : World} (h : conv E s d x = some v) (hx : VR E B0 σ μ x u) :
    ∃ z, (convert s d u).run P w = .ok z w ∧ VR E B0 σ μ v z := by
  simp only [conv] at h
  replace h := bind_some h; obtain ⟨i, hs, h⟩ := h
  replace h := bind_some h; obtain ⟨j, hd, h⟩ := h
  have g2 := desc_of OK hs
  have k2 := desc_of OK hd
  split at h
  · rename_i k n hdd
    rw [VR_int.1 hx]
    simp only [Option.some.injEq] at h
    subst h
    rw [hdd] at k2
    exact ⟨_, by simp [convert, run_underlying g2, run_underlying k2, Conv.intToInt], VR_int.2 rfl⟩
  · rename_i n hdd
    rw [VR_str.1 hx]
    simp only [Option.some.injEq] at h
    subst h
    rw [hdd] at k2
    exact ⟨_, by simp [convert, run_underlying g2, run_underlying k2], VR_str.2 rfl⟩
  · cases h

end
end Go.Te
