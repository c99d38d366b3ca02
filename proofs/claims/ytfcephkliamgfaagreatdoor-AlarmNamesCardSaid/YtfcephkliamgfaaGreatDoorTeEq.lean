/- TE: types whose values are compared cell by cell. -/
import Derived.Test.YtfcephkliamgfaaGreatDoorTeMemo
namespace Go.Te
open Go

section
variable {P : Program}

def fieldsS (f : TypeId → Option (List SK)) (sz : TypeId → Nat) : Nat → List Field → Option (List SK)
  | _, [] => some []
  | off, fd :: fs => (f fd.type).bind fun s => if !(fd.name == "_") && Nat.beq fd.offset off && Nat.beq s.length (sz fd.type) then (fieldsS f sz (off + sz fd.type) fs).bind fun r => some (s ++ r) else none

def repeatS (s : List SK) : Nat → List SK
  | 0 => []
  | n + 1 => s ++ repeatS s n

/-- The cells of a type, where all are compared. -/
def shapeP (P : Program) : Nat → TypeId → Option (List SK)
  | 0, _ => none
  | n + 1, t => match P.underlying t with
    | some (.int _) => some [.int]
    | some .bool => some [.bool]
    | some .string => some [.str]
    | some (.struct fs) => if !P.stoodInHeld t then fieldsS (shapeP P n) P.cellsOf 0 fs.toList else none
    | some (.array m e) => (shapeP P n e).bind fun s => if Nat.beq s.length (P.cellsOf e) then some (repeatS s m) else none
    | _ => none

/-- A value of a type out of its cells. -/
def valAt (P : Program) (t : TypeId) (cs : List Value) : Option Value :=
  match P.underlying t, cs with
  | some (.struct _), cs => some (.agg cs.toArray)
  | some (.array _ _), cs => some (.agg cs.toArray)
  | _, [v] => some v
  | _, _ => none

theorem scalEqVs_len : ∀ {ss : List SK} {xs ys : List Value} {b : Bool}, scalEqVs ss xs ys = some b → xs.length = ss.length ∧ ys.length = ss.length
  | [], [], [], _, _ => ⟨rfl, rfl⟩
  | [], [], _ :: _, _, h => by simp [scalEqVs] at h
  | [], _ :: _, _, _, h => by simp [scalEqVs] at h
  | _ :: _, [], _, _, h => by simp [scalEqVs] at h
  | _ :: _, _ :: _, [], _, h => by simp [scalEqVs] at h
  | s :: ss, x :: xs, y :: ys, b, h => by
    simp only [scalEqVs] at h
    replace h := bind_some h; obtain ⟨b1, _, h⟩ := h
    replace h := bind_some h; obtain ⟨b2, h2, _⟩ := h
    have := scalEqVs_len h2
    simp [this.1, this.2]

theorem scalEqVs_append : ∀ {s1 s2 : List SK} {xs ys : List Value} {b : Bool}, scalEqVs (s1 ++ s2) xs ys = some b →
    ∃ b1 b2, scalEqVs s1 (xs.take s1.length) (ys.take s1.length) = some b1 ∧ scalEqVs s2 (xs.drop s1.length) (ys.drop s1.length) = some b2 ∧ b = (b1 && b2)
  | [], s2, xs, ys, b, h => ⟨true, b, by simp [scalEqVs], by simpa using h, by simp⟩
  | s :: s1, s2, [], ys, b, h => by simp [scalEqVs] at h
  | s :: s1, s2, _ :: _, [], b, h => by simp [scalEqVs] at h
  | s :: s1, s2, x :: xs, y :: ys, b, h => by
    simp only [List.cons_append, scalEqVs] at h
    replace h := bind_some h; obtain ⟨c1, h1, h⟩ := h
    replace h := bind_some h; obtain ⟨c2, h2, h⟩ := h
    simp only [Option.some.injEq] at h; subst h
    obtain ⟨b1, b2, k1, k2, rfl⟩ := scalEqVs_append h2
    exact ⟨c1 && b1, b2, by simp [scalEqVs, h1, k1], by simpa using k2, by cases c1 <;> rfl⟩

theorem run_part_val {t : TypeId} {cs : Array Value} {off : Nat} {n : Nat} {w : World} {s : List SK} {v : Value} (hn : shapeP P n t = some s) (hs : s.length = P.cellsOf t) (hv : valAt P t ((cs.toList.drop off).take s.length) = some v) :
    (part t cs off).run P w = .ok v w := by
  cases n with
  | zero => cases hn
  | succ n =>
    simp only [shapeP] at hn
    have scal : ∀ d, P.underlying t = some d → isAggD d = false → s.length = 1 → (part t cs off).run P w = .ok v w := by
      intro d hd ha h1
      have hv' : ∃ u, (cs.toList.drop off).take s.length = [u] ∧ v = u := by
        unfold valAt at hv
        rw [hd] at hv
        split at hv
        · rename_i e; cases e; simp [isAggD] at ha
        · rename_i e; cases e; simp [isAggD] at ha
        · rename_i u e2 _ _; simp only [Option.some.injEq] at hv; exact ⟨_, e2, hv.symm⟩
        · cases hv
      obtain ⟨u, hu, rfl⟩ := hv'
      have hc : cs[off]? = some v := by
        have : ((cs.toList.drop off).take s.length)[0]? = some v := by rw [hu]; rfl
        rw [h1] at this
        simpa using this
      unfold part
      rw [Sem.run_bind, run_isAgg hd, ha]
      simp [hc]
    have agg : ∀ d, P.underlying t = some d → isAggD d = true → (∃ info, P.info? t = some info) → (part t cs off).run P w = .ok v w := by
      intro d hd ha ⟨info, hi⟩
      have hv' : v = .agg ((cs.toList.drop off).take s.length).toArray := by
        unfold valAt at hv
        rw [hd] at hv
        cases d <;> simp [isAggD] at ha
        · simpa using hv.symm
        · simpa using hv.symm
      have hsz : info.size = s.length := by rw [hs]; simp [Program.cellsOf, hi]
      unfold part
      rw [Sem.run_bind, run_isAgg hd, ha]
      simp only [Result.andThen_ok, if_true, Sem.run_bind, run_sizeOf hi, Sem.run_pure]
      rw [hv', hsz]
      congr 2
      apply Array.toList_inj.1
      simp [Array.toList_extract, List.extract_eq_take_drop]
    have info : ∀ d, P.underlying t = some d → ∃ info, P.info? t = some info := by
      intro d hd
      cases hi : P.info? t with
      | some i => exact ⟨i, rfl⟩
      | none => simp [Program.underlying, hi] at hd
    split at hn
    · rename_i d; simp only [Option.some.injEq] at hn; subst hn; exact scal _ d rfl rfl
    · rename_i d; simp only [Option.some.injEq] at hn; subst hn; exact scal _ d rfl rfl
    · rename_i d; simp only [Option.some.injEq] at hn; subst hn; exact scal _ d rfl rfl
    · rename_i d; exact agg _ d rfl (info _ d)
    · rename_i d; exact agg _ d rfl (info _ d)
    · cases hn


theorem scal_eqV {k : SK} {u v : Value} {b : Bool} (h : scalEqV k u v = some b) :
    (k = .int ∧ ∃ kk x y, u = .int kk x ∧ v = .int kk y ∧ b = (x == y)) ∨ (k = .bool ∧ ∃ x y, u = .bool x ∧ v = .bool y ∧ b = (x == y)) ∨ (k = .str ∧ ∃ x y, u = .string x ∧ v = .string y ∧ b = (x.toList == y.toList)) := by
  unfold scalEqV at h
  split at h
  · split at h
    · rename_i e; subst e; simp only [Option.some.injEq] at h; exact .inl ⟨rfl, _, _, _, rfl, rfl, h.symm⟩
    · cases h
  · simp only [Option.some.injEq] at h; exact .inr (.inl ⟨rfl, _, _, rfl, rfl, h.symm⟩)
  · simp only [Option.some.injEq] at h; exact .inr (.inr ⟨rfl, _, _, rfl, rfl, h.symm⟩)
  · cases h

theorem scalOne {k : SK} {us vs : List Value} {b : Bool} (h : scalEqVs [k] us vs = some b) : ∃ u v, us = [u] ∧ vs = [v] ∧ scalEqV k u v = some b := by
  obtain ⟨l1, l2⟩ := scalEqVs_len h
  obtain ⟨u, rfl⟩ := List.length_eq_one_iff.1 l1
  obtain ⟨v, rfl⟩ := List.length_eq_one_iff.1 l2
  refine ⟨u, v, rfl, rfl, ?_⟩
  simp only [scalEqVs] at h
  replace h := bind_some h; obtain ⟨b1, h1, h⟩ := h
  simp only [Option.bind_some, Option.some.injEq, Bool.and_true] at h
  rw [h1, h]

theorem repeatS_length (s : List SK) : ∀ m, (repeatS s m).length = m * s.length
  | 0 => by simp [repeatS]
  | m + 1 => by simp [repeatS, repeatS_length s m, Nat.succ_mul, Nat.add_comm]

/-- Comparing the fields. -/
theorem eqFields_ok {d n : Nat} {xs ys : Array Value} (ih : ∀ t s, shapeP P n t = some s → ∀ (us vs : List Value) (b : Bool) (w : World), scalEqVs s us vs = some b → ∃ u v, valAt P t us = some u ∧ valAt P t vs = some v ∧ (Op.equalIn d t u v).run P w = .ok b w) :
    ∀ (fs : List Field) (off : Nat) (ss : List SK) (b : Bool) (w : World), fieldsS (shapeP P n) P.cellsOf off fs = some ss → scalEqVs ss (xs.toList.drop off) (ys.toList.drop off) = some b → (Op.eqFields d xs ys fs).run P w = .ok b w
  | [], off, ss, b, w, h, hb => by
    simp only [fieldsS, Option.some.injEq] at h; subst h
    have : b = true := by
      obtain ⟨l1, l2⟩ := scalEqVs_len hb
      rw [List.length_eq_zero_iff.1 l1, List.length_eq_zero_iff.1 l2] at hb
      simpa [scalEqVs] using hb
    subst this
    simp [Op.eqFields]
  | f :: fs, off, ss, b, w, h, hb => by
    simp only [fieldsS] at h
    replace h := bind_some h; obtain ⟨s, hs, h⟩ := h
    split at h
    · rename_i hc
      simp only [Bool.and_eq_true, Bool.not_eq_true', beq_eq_false_iff_ne, Nat.beq_eq] at hc
      obtain ⟨⟨hn, ho⟩, hl⟩ := hc
      replace h := bind_some h; obtain ⟨r, hr, h⟩ := h
      simp only [Option.some.injEq] at h; subst h
      obtain ⟨b1, b2, k1, k2, rfl⟩ := scalEqVs_append hb
      obtain ⟨u, v, g1, g2, g3⟩ := ih f.type s hs _ _ b1 w k1
      have p1 := run_part_val (w := w) (cs := xs) (off := off) hs hl g1
      have p2 := run_part_val (w := w) (cs := ys) (off := off) hs hl g2
      rw [List.drop_drop, List.drop_drop] at k2
      have rest := eqFields_ok ih fs (off + P.cellsOf f.type) r b2 w hr (by rw [← hl]; exact k2)
      simp only [Op.eqFields, if_pos hn, Sem.run_bind, ho, p1, p2, g3, Result.andThen_ok]
      cases b1
      · simp
      · simp [rest]
    · cases h

theorem equalIn_ok : ∀ (n : Nat) (t : TypeId) (s : List SK), shapeP P n t = some s → ∀ (d : Nat) (us vs : List Value) (b : Bool) (w : World), n ≤ d → scalEqVs s us vs = some b → ∃ u v, valAt P t us = some u ∧ valAt P t vs = some v ∧ (Op.equalIn d t u v).run P w = .ok b w
  | 0, _, _, h => by cases h
  | n + 1, t, s, h => by
    intro d us vs b w hd hb
    obtain ⟨d, rfl⟩ : ∃ d', d = d' + 1 := ⟨d - 1, by omega⟩
    simp only [shapeP] at h
    split at h
    · rename_i k hu
      simp only [Option.some.injEq] at h; subst h
      obtain ⟨u, v, rfl, rfl, hk⟩ := scalOne hb
      rcases scal_eqV hk with ⟨_, kk, x, y, rfl, rfl, rfl⟩ | ⟨e, _⟩ | ⟨e, _⟩ <;> try cases e
      exact ⟨_, _, by simp [valAt, hu], by simp [valAt, hu], run_equalIn_int w d t kk k x y hu⟩
    · rename_i hu
      simp only [Option.some.injEq] at h; subst h
      obtain ⟨u, v, rfl, rfl, hk⟩ := scalOne hb
      rcases scal_eqV hk with ⟨e, _⟩ | ⟨_, x, y, rfl, rfl, rfl⟩ | ⟨e, _⟩ <;> try cases e
      exact ⟨_, _, by simp [valAt, hu], by simp [valAt, hu], run_equalIn_bool' w d t x y hu⟩
    · rename_i hu
      simp only [Option.some.injEq] at h; subst h
      obtain ⟨u, v, rfl, rfl, hk⟩ := scalOne hb
      rcases scal_eqV hk with ⟨e, _⟩ | ⟨e, _⟩ | ⟨_, x, y, rfl, rfl, rfl⟩ <;> try cases e
      exact ⟨_, _, by simp [valAt, hu], by simp [valAt, hu], run_equalIn_string w d t x y hu⟩
    · rename_i fs hu
      split at h
      · rename_i hp
        simp only [Bool.not_eq_true'] at hp
        have hf : P.fieldsOf t = fs := by simp [Program.fieldsOf, hu]
        refine ⟨.agg us.toArray, .agg vs.toArray, by simp [valAt, hu], by simp [valAt, hu], ?_⟩
        rw [run_equalIn_agg w d t _ _ (by rw [hf]; exact hu) hp, hf]
        exact eqFields_ok (d := d) (n := n) (fun t s hs us vs b w hb => equalIn_ok n t s hs d us vs b w (by omega) hb) fs.toList 0 s b w h (by simpa using hb)
      · cases h
    · rename_i m e hu
      replace h := bind_some h; obtain ⟨s1, hs1, h⟩ := h
      split at h
      · rename_i hl
        rw [Nat.beq_eq] at hl
        simp only [Option.some.injEq] at h; subst h
        refine ⟨.agg us.toArray, .agg vs.toArray, by simp [valAt, hu], by simp [valAt, hu], ?_⟩
        obtain ⟨info, hi⟩ : ∃ info, P.info? e = some info := by
          cases hi : P.info? e with
          | some i => exact ⟨i, rfl⟩
          | none =>
            cases n with
            | zero => cases hs1
            | succ n => simp [shapeP, Program.underlying, hi] at hs1
        have hsz : info.size = s1.length := by rw [hl]; simp [Program.cellsOf, hi]
        have loop : ∀ (m i : Nat) (b : Bool), scalEqVs (repeatS s1 m) (us.drop (i * s1.length)) (vs.drop (i * s1.length)) = some b →
            (forIn (List.range' i m) ((none, ()) : Option Bool × PUnit) fun i r => do
              if !(← Op.equalIn d e (← part e us.toArray (i * info.size)) (← part e vs.toArray (i * info.size))) then pure (ForInStep.done (some false, ())) else pure (ForInStep.yield (none, ())) : Sem (Option Bool × PUnit)).run P w =
              .ok (if b then (none, ()) else (some false, ())) w := by
          intro m
          induction m with
          | zero =>
            intro i b hb
            have : b = true := by
              obtain ⟨l1, l2⟩ := scalEqVs_len hb
              simp only [repeatS, List.length_nil] at l1 l2
              rw [List.length_eq_zero_iff.1 l1, List.length_eq_zero_iff.1 l2] at hb
              simpa [repeatS, scalEqVs] using hb
            subst this
            simp
          | succ m ihm =>
            intro i b hb
            simp only [repeatS] at hb
            obtain ⟨b1, b2, k1, k2, rfl⟩ := scalEqVs_append hb
            obtain ⟨u, v, g1, g2, g3⟩ := equalIn_ok n e s1 hs1 d _ _ b1 w (by omega) k1
            have p1 := run_part_val (w := w) (cs := us.toArray) (off := i * s1.length) hs1 hl (by simpa using g1)
            have p2 := run_part_val (w := w) (cs := vs.toArray) (off := i * s1.length) hs1 hl (by simpa using g2)
            rw [List.drop_drop, List.drop_drop] at k2
            have rest := ihm (i + 1) b2 (by rw [Nat.succ_mul]; exact k2)
            simp only [List.range'_succ, List.forIn_cons, Sem.run_bind, hsz, p1, p2, g3, Result.andThen_ok]
            cases b1
            · simp
            · simp only [Bool.not_true, Bool.false_eq_true, if_false, Sem.run_pure, Result.andThen_ok, Bool.true_and]
              rw [hsz] at rest
              exact rest
        simp only [Op.equalIn, Sem.run_bind, run_underlying hu, Result.andThen_ok, run_sizeOf hi]
        rw [Std.Legacy.Range.forIn_eq_forIn_range']
        have hr : List.range' [:m].start [:m].size [:m].step = List.range' 0 m := by simp [Std.Legacy.Range.size]
        have hl0 := loop m 0 b (by simpa using hb)
        rw [hr, hl0]
        cases b <;> simp
      · cases h
    · cases h

/-- No guard stands before such a comparison. -/
theorem eqGuard_ok : ∀ (n : Nat) (t : TypeId) (s : List SK), shapeP P n t = some s → ∀ d, n ≤ d → P.eqGuardType d t = false
  | 0, _, _, h => by cases h
  | n + 1, t, s, h => by
    intro d hd
    obtain ⟨d, rfl⟩ : ∃ d', d = d' + 1 := ⟨d - 1, by omega⟩
    simp only [shapeP] at h
    simp only [Program.eqGuardType]
    split at h
    · rename_i k hu; rw [hu]
    · rename_i hu; rw [hu]
    · rename_i hu; rw [hu]
    · rename_i fs hu
      rw [hu]
      split at h
      · have gen : ∀ (fs : List Field) (off : Nat) (ss : List SK), fieldsS (shapeP P n) P.cellsOf off fs = some ss → (fs.any fun f => f.name != "_" && P.eqGuardType d f.type) = false := by
          intro fs
          induction fs with
          | nil => intros; rfl
          | cons f fs ihf =>
            intro off ss h
            simp only [fieldsS] at h
            replace h := bind_some h; obtain ⟨s1, hs, h⟩ := h
            split at h
            · replace h := bind_some h; obtain ⟨r, hr, h⟩ := h
              simp only [List.any_cons, eqGuard_ok n f.type s1 hs d (by omega), Bool.and_false, Bool.false_or]
              exact ihf _ _ hr
            · cases h
        have := gen fs.toList 0 s h
        simpa using this
      · cases h
    · rename_i m e hu
      rw [hu]
      replace h := bind_some h; obtain ⟨s1, hs1, h⟩ := h
      exact eqGuard_ok n e s1 hs1 d (by omega)
    · cases h

/-- Such a value may be a key. -/
theorem checkFields_ok {d n : Nat} {em : Bool} {xs : Array Value} (ih : ∀ t s, shapeP P n t = some s → ∀ (us : List Value) (w : World), us.length = s.length → ∃ u, valAt P t us = some u ∧ (Instr.checkKey em d t u).run P w = .ok () w) :
    ∀ (fs : List Field) (off : Nat) (ss : List SK) (w : World), fieldsS (shapeP P n) P.cellsOf off fs = some ss → (xs.toList.drop off).length = ss.length →
    (forIn fs PUnit.unit fun f _ => do
      if f.name ≠ "_" then
        Instr.checkKey em d f.type (← part f.type xs f.offset)
        pure (ForInStep.yield PUnit.unit)
      else pure (ForInStep.yield PUnit.unit) : Sem PUnit).run P w = .ok PUnit.unit w
  | [], off, ss, w, h, hl => by simp
  | f :: fs, off, ss, w, h, hlen => by
    simp only [fieldsS] at h
    replace h := bind_some h; obtain ⟨s, hs, h⟩ := h
    split at h
    · rename_i hc
      simp only [Bool.and_eq_true, Bool.not_eq_true', beq_eq_false_iff_ne, Nat.beq_eq] at hc
      obtain ⟨⟨hn, ho⟩, hl⟩ := hc
      replace h := bind_some h; obtain ⟨r, hr, h⟩ := h
      simp only [Option.some.injEq] at h; subst h
      have hlt : ((xs.toList.drop off).take s.length).length = s.length := by
        rw [List.length_take, hlen, List.length_append]; omega
      rw [List.length_append] at hlen
      obtain ⟨u, g1, g3⟩ := ih f.type s hs _ w hlt
      have p1 := run_part_val (w := w) (cs := xs) (off := off) hs hl g1
      have rest := checkFields_ok (xs := xs) ih fs (off + P.cellsOf f.type) r w hr (by
        simp only [List.length_drop] at hlen ⊢
        omega)
      simp only [List.forIn_cons, if_pos hn, Sem.run_bind, ho, p1, g3, Result.andThen_ok, Sem.run_pure]
      exact rest
    · cases h

theorem checkKey_ok : ∀ (n : Nat) (t : TypeId) (s : List SK), shapeP P n t = some s → ∀ (em : Bool) (d : Nat) (us : List Value) (w : World), n ≤ d → us.length = s.length → ∃ u, valAt P t us = some u ∧ (Instr.checkKey em d t u).run P w = .ok () w
  | 0, _, _, h => by cases h
  | n + 1, t, s, h => by
    intro em d us w hd hl
    obtain ⟨d, rfl⟩ : ∃ d', d = d' + 1 := ⟨d - 1, by omega⟩
    simp only [shapeP] at h
    split at h
    · rename_i k hu
      simp only [Option.some.injEq] at h; subst h
      obtain ⟨u, rfl⟩ := List.length_eq_one_iff.1 hl
      exact ⟨u, by simp [valAt, hu], by simp [Instr.checkKey, run_underlying hu]⟩
    · rename_i hu
      simp only [Option.some.injEq] at h; subst h
      obtain ⟨u, rfl⟩ := List.length_eq_one_iff.1 hl
      exact ⟨u, by simp [valAt, hu], by simp [Instr.checkKey, run_underlying hu]⟩
    · rename_i hu
      simp only [Option.some.injEq] at h; subst h
      obtain ⟨u, rfl⟩ := List.length_eq_one_iff.1 hl
      exact ⟨u, by simp [valAt, hu], by simp [Instr.checkKey, run_underlying hu]⟩
    · rename_i fs hu
      split at h
      · refine ⟨.agg us.toArray, by simp [valAt, hu], ?_⟩
        simp only [Instr.checkKey, Sem.run_bind, run_underlying hu, Result.andThen_ok]
        rw [← Array.forIn_toList]
        rw [checkFields_ok (xs := us.toArray) (d := d) (n := n) (fun t s hs us w hl => checkKey_ok n t s hs em d us w (by omega) hl) fs.toList 0 s w h (by simp only [List.drop_zero]; exact hl)]
        rfl
      · cases h
    · rename_i m e hu
      replace h := bind_some h; obtain ⟨s1, hs1, h⟩ := h
      split at h
      · rename_i hls
        rw [Nat.beq_eq] at hls
        simp only [Option.some.injEq] at h; subst h
        refine ⟨.agg us.toArray, by simp [valAt, hu], ?_⟩
        obtain ⟨info, hi⟩ : ∃ info, P.info? e = some info := by
          cases hi : P.info? e with
          | some i => exact ⟨i, rfl⟩
          | none =>
            cases n with
            | zero => cases hs1
            | succ n => simp [shapeP, Program.underlying, hi] at hs1
        have hsz : info.size = s1.length := by rw [hls]; simp [Program.cellsOf, hi]
        have loop : ∀ (m i : Nat), (us.drop (i * s1.length)).length = m * s1.length →
            (forIn (List.range' i m) PUnit.unit fun i _ => do
              Instr.checkKey em d e (← part e us.toArray (i * (← sizeOf e)))
              pure (ForInStep.yield PUnit.unit) : Sem PUnit).run P w = .ok PUnit.unit w := by
          intro m
          induction m with
          | zero => intro i _; simp
          | succ m ihm =>
            intro i hlen
            have hlt : ((us.drop (i * s1.length)).take s1.length).length = s1.length := by
              rw [List.length_take, hlen, Nat.succ_mul]; omega
            obtain ⟨u, g1, g3⟩ := checkKey_ok n e s1 hs1 em d _ w (by omega) hlt
            have p1 := run_part_val (w := w) (cs := us.toArray) (off := i * s1.length) hs1 hls (by simpa using g1)
            have rest := ihm (i + 1) (by
              rw [List.length_drop] at hlen ⊢
              rw [Nat.succ_mul] at hlen ⊢
              omega)
            simp only [List.range'_succ, List.forIn_cons, Sem.run_bind, run_sizeOf hi, hsz, p1, g3, Result.andThen_ok, Sem.run_pure]
            exact rest
        simp only [Instr.checkKey, Sem.run_bind, run_underlying hu, Result.andThen_ok]
        rw [Std.Legacy.Range.forIn_eq_forIn_range']
        have hr : List.range' [:m].start [:m].size [:m].step = List.range' 0 m := by simp [Std.Legacy.Range.size]
        rw [hr, loop m 0 (by rw [repeatS_length] at hl; simpa using hl)]
        rfl
      · cases h
    · cases h

theorem eqFlat_of {n : Nat} {t : TypeId} {s : List SK} (h : shapeP P n t = some s) (hn : n ≤ P.depth) (hm : n ≤ 10000) (ha : ∃ d, P.underlying t = some d ∧ isAggD d = true) : EqFlat P t s := by
  have hv : ∀ cs, valAt P t cs = some (.agg cs.toArray) := by
    obtain ⟨d, hu, had⟩ := ha
    intro cs
    cases d <;> simp [isAggD] at had <;> simp [valAt, hu]
  refine ⟨eqGuard_ok n t s h _ hn, fun xs ys b w hb => ?_, fun xs ys b em w hb => ?_, ha⟩
  · obtain ⟨u, v, h1, h2, h3⟩ := equalIn_ok n t s h 10000 xs.toList ys.toList b w hm hb
    rw [hv] at h1 h2
    simp only [Option.some.injEq] at h1 h2
    subst h1; subst h2
    simpa using h3
  · obtain ⟨u, h1, h3⟩ := checkKey_ok n t s h em 10000 xs.toList w hm (scalEqVs_len hb).1
    rw [hv] at h1
    simp only [Option.some.injEq] at h1
    subst h1
    simpa using h3

def aggP (P : Program) (t : TypeId) : Bool := match P.underlying t with
  | some d => isAggD d
  | none => false

/-- The table of shapes. -/
theorem eqs_ok {T : Tr (List SK)} {n : Nat} (h : T.list.map (fun x => shapeP P n x.1) = T.list.map (fun x => some x.2)) (ha : (T.list.all fun x => aggP P x.1) = true) (hn : Nat.ble n P.depth = true) (hm : Nat.ble n 10000 = true) : ∀ t ss, T.get t = some ss → EqFlat P t ss := by
  intro t ss ht
  refine eqFlat_of (rows_ok (f := fun x => shapeP P n x) (g := fun x => some x) h ht) (by rwa [Nat.ble_eq] at hn) (by rwa [Nat.ble_eq] at hm) ?_
  have := List.all_eq_true.1 ha _ (Tr.get_mem T t ss ht)
  unfold aggP at this
  split at this
  · rename_i d hd; exact ⟨d, hd, this⟩
  · cases this

end
end Go.Te
