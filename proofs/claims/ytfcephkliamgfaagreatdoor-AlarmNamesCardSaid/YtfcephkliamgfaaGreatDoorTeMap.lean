/- TE: copy, len, cap, max, min, maps. -/
import Derived.Test.YtfcephkliamgfaaGreatDoorTeApp
namespace Go.Te
open Go

section
variable {E : Env} {P : Program} {B0 : Nat} {σ : Sg} {μ : Mu}

/-! ## copy, len, cap, max, min -/

theorem run_loadCells_zero {a : Addr} {w : World} : (loadCells a 0).run P w = .ok #[] w := by
  have := run_loadCells_list (P := P) w a [] (fun j v h => by simp at h)
  simpa using this

theorem run_firstCells {size n : Nat} {a : Option Addr} {m c : Nat} {vs : List Value} {w : World} (hl : vs.length = n * size)
    (h : 0 < n → ∃ a', a = some a' ∧ ∀ (j : Nat) u, vs[j]? = some u → w.cell? (a'.add j) = some u) : (Builtin.firstCells size n (.slice a m c)).run P w = .ok vs.toArray w := by
  by_cases hn : n = 0
  · subst hn
    have : vs = [] := by simpa using hl
    subst this
    cases a <;> simp [Builtin.firstCells, run_loadCells_zero]
  · obtain ⟨a', rfl, h1⟩ := h (by omega)
    simp only [Builtin.firstCells]
    rw [← hl]
    exact run_loadCells_list _ _ _ h1

theorem run_storeCells_nil {a : Addr} {w : World} : (storeCells a []).run P w = .ok () w := by simp [storeCells]

theorem copy_ok (OK : EnvOk E P) {h h' : List AO} {w : World} {t t2 ty : TypeId} {d x v : AV} {dv xv : Value} (H : WR E B0 σ μ h w) (hd : VR E B0 σ μ d dv) (hx : VR E B0 σ μ x xv)
    (hc : copyA E h t d x = some (v, h')) : ∃ y w', (Builtin.copy_ #[t, t2] ty #[dv, xv]).run P w = .ok y w' ∧ VR E B0 σ μ v y ∧ WR E B0 σ μ h' w' ∧ Ev h σ μ w h' σ μ w' := by
  simp only [copyA] at hc
  replace hc := bind_some hc; obtain ⟨e, he, hc⟩ := hc
  replace hc := bind_some hc; obtain ⟨i, hi, hc⟩ := hc
  have ht := elemOfSlice_sound OK he
  obtain ⟨info, g1, _, g3, _⟩ := OK.ti _ i hi
  split at hc
  case isFalse => cases hc
  rename_i hpos
  rw [Nat.ble_eq] at hpos
  replace hc := bind_some hc; obtain ⟨⟨m, new⟩, hrow, hc⟩ := hc
  obtain ⟨a, c, vs, rfl, r1, r2, r3, r4⟩ := rowCells_sound H hrow hx
  simp only at hc
  have nothing : ∀ b n cc, dv = .slice b n cc → Nat.min m n = 0 → (Builtin.copy_ #[t, t2] ty #[dv, .slice a m c]).run P w = .ok (.int .i64 0) w := by
    rintro b n cc rfl hmin
    have hf := run_firstCells (P := P) (size := info.size) (n := 0) (a := a) (m := m) (c := c) (vs := []) (w := w) (by simp) (by omega)
    cases b with
    | none => simp [Builtin.copy_, run_underlying ht, Builtin.lenOf, run_sizeOf g1, hmin, hf, goInt]
    | some b => simp [Builtin.copy_, run_underlying ht, Builtin.lenOf, run_sizeOf g1, hmin, hf, goInt, run_storeCells_nil]
  split at hc
  · simp only [Option.some.injEq, Prod.mk.injEq] at hc
    obtain ⟨rfl, rfl⟩ := hc
    simp only [VR] at hd
    subst hd
    exact ⟨_, w, nothing _ _ _ rfl (Nat.min_zero _), VR_int.2 rfl, H, Ev.refl _ _ _ _⟩
  · simp only [Option.some.injEq, Prod.mk.injEq] at hc
    obtain ⟨rfl, rfl⟩ := hc
    simp only [VR] at hd
    obtain ⟨b, rfl⟩ := hd
    exact ⟨_, w, nothing _ _ _ rfl (Nat.min_zero _), VR_int.2 rfl, H, Ev.refl _ _ _ _⟩
  · rename_i b o n cc
    have hd' := hd
    simp only [VR] at hd
    obtain ⟨p, ba, cap, s, q1, rfl, q3, q4, q5, q6, q7, q8, q9⟩ := hd
    split at hc
    · rename_i hz
      rw [Nat.beq_eq] at hz
      simp only [Option.some.injEq, Prod.mk.injEq] at hc
      obtain ⟨rfl, rfl⟩ := hc
      exact ⟨_, w, nothing _ _ _ rfl hz, VR_int.2 rfl, H, Ev.refl _ _ _ _⟩
    · rename_i hz
      rw [Nat.beq_eq] at hz
      replace hc := bind_some hc; obtain ⟨h1, hw, hc⟩ := hc
      simp only [Option.some.injEq, Prod.mk.injEq] at hc
      obtain ⟨rfl, rfl⟩ := hc
      have hk : Nat.min m n ≤ m := Nat.min_le_left _ _
      have hn : Nat.min m n ≤ n := Nat.min_le_right _ _
      have := q4 (by omega)
      subst this
      have hkl : Nat.min m n * i.size ≤ new.length := by rw [r2]; exact Nat.mul_le_mul_right _ hk
      obtain ⟨a', rfl, r5⟩ := r4 (by omega)
      have hf := run_firstCells (P := P) (size := info.size) (n := Nat.min m n) (a := some a') (m := m) (c := c) (vs := vs.take (Nat.min m n * i.size)) (w := w) (by rw [g3]; simp [r1]; omega)
        (fun _ => ⟨a', rfl, fun j u hj => by
          have : j < Nat.min m n * i.size := by have := (List.getElem?_eq_some_iff.1 hj).1; simp at this; omega
          rw [List.getElem?_take_of_lt this] at hj
          exact r5 j u hj⟩)
      obtain ⟨a2, w', e1, k1, k2, k3⟩ := run_wr (P := P) (v := .pointer (some ⟨p.blk, o, none⟩)) (us := vs.take (Nat.min m n * i.size)) H (by simp only [VR]; exact ⟨p, q1, rfl⟩) hw (by simp [r1]) (fun j y hj => by
        have : j < Nat.min m n * i.size := by have := (List.getElem?_eq_some_iff.1 hj).1; simp at this; omega
        rw [List.getElem?_take_of_lt this] at hj ⊢
        exact r3 j y hj)
      cases e1
      refine ⟨_, w', ?_, VR_int.2 rfl, k2, k3⟩
      simp [Builtin.copy_, run_underlying ht, Builtin.lenOf, run_sizeOf g1, hf, goInt, k1]
  · cases hc

theorem run_getObj {r : Nat} {o : Obj} {w : World} (h : w.heap[r]? = some o) (hn : ∀ c e f, o ≠ .cells c e f) : (getObj r).run P w = .ok o w := by
  simp only [getObj, Sem.run, h]

theorem len_ok (OK : EnvOk E P) {h : List AO} {w : World} {t ty : TypeId} {x v : AV} {xv : Value} (H : WR E B0 σ μ h w) (hx : VR E B0 σ μ x xv) (hl : lenA E h t x = some v) :
    ∃ y, (Builtin.len_ #[t] ty #[xv]).run P w = .ok y w ∧ VR E B0 σ μ v y := by
  simp only [lenA] at hl
  replace hl := bind_some hl; obtain ⟨i, hi, hl⟩ := hl
  have g2 := desc_of OK hi
  split at hl
  · rename_i s hd
    simp only [Option.some.injEq] at hl; subst hl
    rw [hd] at g2; rw [VR_str.1 hx]
    exact ⟨_, by simp [Builtin.len_, run_underlying g2, goInt], VR_int.2 rfl⟩
  · rename_i n e hd
    simp only [Option.some.injEq] at hl; subst hl
    rw [hd] at g2
    exact ⟨_, by simp [Builtin.len_, run_underlying g2, goInt], VR_int.2 rfl⟩
  · rename_i e hd
    simp only [Option.some.injEq] at hl; subst hl
    rw [hd] at g2; simp only [VR] at hx; subst hx
    exact ⟨_, by simp [Builtin.len_, run_underlying g2, goInt], VR_int.2 rfl⟩
  · rename_i e hd
    simp only [Option.some.injEq] at hl; subst hl
    rw [hd] at g2; simp only [VR] at hx; obtain ⟨a, rfl⟩ := hx
    exact ⟨_, by simp [Builtin.len_, run_underlying g2, goInt], VR_int.2 rfl⟩
  · rename_i e e' n cs hd
    simp only [Option.some.injEq] at hl; subst hl
    rw [hd] at g2; simp only [VR] at hx; obtain ⟨a, cap, s, rfl, _⟩ := hx
    exact ⟨_, by simp [Builtin.len_, run_underlying g2, goInt], VR_int.2 rfl⟩
  · rename_i e b o n c hd
    simp only [Option.some.injEq] at hl; subst hl
    rw [hd] at g2; simp only [VR] at hx; obtain ⟨p, a, cap, s, _, rfl, _⟩ := hx
    exact ⟨_, by simp [Builtin.len_, run_underlying g2, goInt], VR_int.2 rfl⟩
  · rename_i k e hd
    simp only [Option.some.injEq] at hl; subst hl
    rw [hd] at g2; simp only [VR] at hx; subst hx
    exact ⟨_, by simp [Builtin.len_, run_underlying g2, goInt], VR_int.2 rfl⟩
  · rename_i k e b hd
    split at hl
    · rename_i es clock ho
      simp only [Option.some.injEq] at hl; subst hl
      rw [hd] at g2; simp only [VR] at hx; obtain ⟨p, hp, rfl⟩ := hx
      obtain ⟨q, es', k1, k2, k3, _⟩ := H.objs _ _ ho
      rw [hp] at k1; cases k1
      exact ⟨_, by simp [Builtin.len_, run_underlying g2, run_getObj k2, goInt, k3], VR_int.2 rfl⟩
    · cases hl
  · cases hl

theorem cap_ok (OK : EnvOk E P) {h : List AO} {w : World} {t ty : TypeId} {x v : AV} {xv : Value} (H : WR E B0 σ μ h w) (hx : VR E B0 σ μ x xv) (hl : capA E h t x = some v) :
    ∃ y, (Builtin.cap_ #[t] ty #[xv]).run P w = .ok y w ∧ VR E B0 σ μ v y := by
  simp only [capA] at hl
  replace hl := bind_some hl; obtain ⟨i, hi, hl⟩ := hl
  have g2 := desc_of OK hi
  split at hl
  · rename_i e hd
    simp only [Option.some.injEq] at hl; subst hl
    rw [hd] at g2; simp only [VR] at hx; subst hx
    exact ⟨_, by simp [Builtin.cap_, run_underlying g2, goInt], VR_int.2 rfl⟩
  · rename_i e hd
    simp only [Option.some.injEq] at hl; subst hl
    rw [hd] at g2; simp only [VR] at hx; obtain ⟨a, rfl⟩ := hx
    exact ⟨_, by simp [Builtin.cap_, run_underlying g2, goInt], VR_int.2 rfl⟩
  · rename_i e b o n c hd
    replace hl := bind_some hl; obtain ⟨j, hj, hl⟩ := hl
    split at hl
    · rename_i hc
      simp only [Bool.and_eq_true, Nat.ble_eq] at hc
      replace hl := bind_some hl; obtain ⟨k, hk, hl⟩ := hl
      simp only [Option.some.injEq] at hl; subst hl
      rw [hd] at g2; simp only [VR] at hx; obtain ⟨p, a, cap, s, q1, rfl, q3, q4, q5, q6, q7, q8, q9⟩ := hx
      have hpe : p.e = e := rowIs_place H hc.2 q1
      have hs' : s = j.size := by rw [hpe] at q6; simp [esz, hj] at q6; exact q6.symm
      subst hs'
      have := knownCap_sound (n := n) H hk q1 hc.1 q5 q9
      subst this
      exact ⟨_, by simp [Builtin.cap_, run_underlying g2, goInt], VR_int.2 rfl⟩
    · cases hl
  · cases hl

theorem foldA_sound {f : AV → AV → Option AV} {g : Value → Value → Sem Value} {w : World}
    (hf : ∀ x y z u v, f x y = some z → VR E B0 σ μ x u → VR E B0 σ μ y v → ∃ t, (g u v).run P w = .ok t w ∧ VR E B0 σ μ z t) :
    ∀ (xs : List AV) (us : List Value) (x z : AV) (u : Value), foldA f x xs = some z → us.length = xs.length → (∀ (i : Nat) y, xs[i]? = some y → ∃ v, us[i]? = some v ∧ VR E B0 σ μ y v) → VR E B0 σ μ x u →
    ∃ t, (us.foldlM g u).run P w = .ok t w ∧ VR E B0 σ μ z t
  | [], us, x, z, u, h, hl, _, hx => by
    simp only [foldA, Option.some.injEq] at h
    subst h
    have : us = [] := by simpa using hl
    subst this
    exact ⟨u, by simp, hx⟩
  | y :: ys, us, x, z, u, h, hl, hy, hx => by
    cases us with
    | nil => simp at hl
    | cons v us =>
      simp only [foldA] at h
      replace h := bind_some h; obtain ⟨q, hq, h⟩ := h
      obtain ⟨v', hv', hr⟩ := hy 0 y (by simp)
      simp at hv'
      subst hv'
      obtain ⟨t, h1, h2⟩ := hf x y q u v hq hx hr
      obtain ⟨t', h3, h4⟩ := foldA_sound hf ys us q z t h (by simpa using hl) (fun i y hi => by simpa using hy (i + 1) y (by simpa using hi)) h2
      exact ⟨t', by simp [List.foldlM_cons, h1, h3], h4⟩

theorem max2_sound {x y z : AV} {u v : Value} {w : World} (h : max2A x y = some z) (hx : VR E B0 σ μ x u) (hy : VR E B0 σ μ y v) : ∃ t, (Builtin.max2 u v).run P w = .ok t w ∧ VR E B0 σ μ z t := by
  unfold max2A at h
  split at h
  · split at h
    · simp only [Option.some.injEq] at h
      subst h
      rw [VR_int.1 hx, VR_int.1 hy]
      exact ⟨_, by simp only [Builtin.max2]; rfl, VR_int.2 rfl⟩
    · cases h
  · cases h
theorem min2_sound {x y z : AV} {u v : Value} {w : World} (h : min2A x y = some z) (hx : VR E B0 σ μ x u) (hy : VR E B0 σ μ y v) : ∃ t, (Builtin.min2 u v).run P w = .ok t w ∧ VR E B0 σ μ z t := by
  unfold min2A at h
  split at h
  · split at h
    · simp only [Option.some.injEq] at h
      subst h
      rw [VR_int.1 hx, VR_int.1 hy]
      exact ⟨_, by simp only [Builtin.min2]; rfl, VR_int.2 rfl⟩
    · cases h
  · cases h

theorem VA.cons {x : AV} {xs : List AV} {a : Array Value} (h : VA E B0 σ μ (x :: xs) a) : ∃ u us, a.toList = u :: us ∧ us.length = xs.length ∧ VR E B0 σ μ x u ∧ ∀ (i : Nat) y, xs[i]? = some y → ∃ v, us[i]? = some v ∧ VR E B0 σ μ y v := by
  cases hl : a.toList with
  | nil => have := h.1; have : a.toList.length = xs.length + 1 := by simpa using this
           rw [hl] at this; simp at this
  | cons u us =>
    have hlen : a.toList.length = xs.length + 1 := by simpa using h.1
    rw [hl] at hlen
    refine ⟨u, us, rfl, by simpa using hlen, ?_, fun i y hi => ?_⟩
    · obtain ⟨v, hv, hr⟩ := h.get (i := 0) (x := x) (by simp)
      have : a.toList[0]? = some v := by simpa using hv
      rw [hl] at this; simp at this; subst this; exact hr
    · obtain ⟨v, hv, hr⟩ := h.get (i := i + 1) (x := y) (by simpa using hi)
      have : a.toList[i + 1]? = some v := by simpa using hv
      rw [hl] at this; exact ⟨v, by simpa using this, hr⟩

theorem max_ok {x v : AV} {xs : List AV} {a : Array Value} {w : World} {ts : Array TypeId} {ty : TypeId} (ha : VA E B0 σ μ (x :: xs) a) (h : foldA max2A x xs = some v) :
    ∃ y, (Builtin.max_ ts ty a).run P w = .ok y w ∧ VR E B0 σ μ v y := by
  obtain ⟨u, us, h1, h2, h3, h4⟩ := ha.cons
  obtain ⟨t, k1, k2⟩ := foldA_sound (P := P) (w := w) (g := Builtin.max2) (fun x y z u v hh hx hy => max2_sound hh hx hy) xs us x v u h h2 h4 h3
  exact ⟨t, by simp only [Builtin.max_, h1]; exact k1, k2⟩
theorem min_ok {x v : AV} {xs : List AV} {a : Array Value} {w : World} {ts : Array TypeId} {ty : TypeId} (ha : VA E B0 σ μ (x :: xs) a) (h : foldA min2A x xs = some v) :
    ∃ y, (Builtin.min_ ts ty a).run P w = .ok y w ∧ VR E B0 σ μ v y := by
  obtain ⟨u, us, h1, h2, h3, h4⟩ := ha.cons
  obtain ⟨t, k1, k2⟩ := foldA_sound (P := P) (w := w) (g := Builtin.min2) (fun x y z u v hh hx hy => min2_sound hh hx hy) xs us x v u h h2 h4 h3
  exact ⟨t, by simp only [Builtin.min_, h1]; exact k1, k2⟩

/-! ## Maps -/

theorem mapOf_sound (OK : EnvOk E P) {t k e : TypeId} (h : mapOf E t = some (k, e)) : P.underlying t = some (.map k e) := by
  simp only [mapOf] at h
  replace h := bind_some h; obtain ⟨i, hi, h⟩ := h
  have g2 := desc_of OK hi
  split at h
  · rename_i k' e' hd
    rw [hd] at g2
    simp only [Option.some.injEq, Prod.mk.injEq] at h
    obtain ⟨rfl, rfl⟩ := h
    exact g2
  · cases h

theorem run_checkKey_int (d : Nat) {kt : TypeId} {ik a : IntKind} {n : Int} {e : Bool} {w : World} (h : P.underlying kt = some (.int ik)) : (Instr.checkKey e (d + 1) kt (.int a n)).run P w = .ok () w := by
  simp [Instr.checkKey, run_underlying h]

/-- A key that may be looked up. -/
theorem checkKey_sound (OK : EnvOk2 E P) {kt : TypeId} {k : AV} {kv : Value} {b e : Bool} {w : World} (h : keyEq E kt k k = some b) (hk : VR E B0 σ μ k kv) : (Instr.checkKey e 10000 kt kv).run P w = .ok () w := by
  cases k with
  | int a n =>
    simp only [keyEq] at h
    replace h := bind_some h; obtain ⟨i, hi, h⟩ := h
    have g2 := desc_of OK.toEnvOk hi
    split at h
    · rename_i hd
      rw [hd] at g2
      rw [VR_int.1 hk]
      exact run_checkKey_int 9999 g2
    · cases h
  | agg xs =>
    simp only [keyEq] at h
    replace h := bind_some h; obtain ⟨ss, hs, h⟩ := h
    obtain ⟨a, rfl, ha⟩ := VR_agg.1 hk
    exact (OK.eqs _ _ hs).2.2.1 a a b e w (scalEqs_VA h ha ha)
  | _ => simp [keyEq] at h

theorem findNow_nil_agg {d : TypeDesc} (hd : isAggD d = true) {k : Value} : ∀ (es : List MapEntry) (i : Nat), es ≠ [] → Instr.findNow d k es i = none
  | [], _, h => absurd rfl h
  | e :: es, i, _ => by
    simp only [Instr.findNow]
    have : Instr.sameNow d k e.key = none := by cases d <;> simp [isAggD] at hd <;> simp [Instr.sameNow]
    rw [this]

/-- Entries of a map. -/
def EsR (E : Env) (B0 : Nat) (σ : Sg) (μ : Mu) (es : List (AV × AV × Nat)) (es' : List MapEntry) : Prop :=
  es'.length = es.length ∧ ∀ (i : Nat) (k v : AV) (n : Nat), es[i]? = some (k, v, n) → ∃ m, es'[i]? = some m ∧ VR E B0 σ μ k m.key ∧ VR E B0 σ μ v m.val ∧ m.born = n

theorem EsR.tail {x : AV × AV × Nat} {es : List (AV × AV × Nat)} {e : MapEntry} {es' : List MapEntry} (h : EsR E B0 σ μ (x :: es) (e :: es')) : EsR E B0 σ μ es es' :=
  ⟨by simpa using h.1, fun i k v n hi => by simpa using h.2 (i + 1) k v n (by simpa using hi)⟩

theorem keyEq_int (OK : EnvOk2 E P) {kt : TypeId} {a : IntKind} {n : Int} {x : AV} {b : Bool} {w : World} {kv xv : Value} {d : TypeDesc} (hd : P.underlying kt = some d) (h : keyEq E kt (.int a n) x = some b)
    (hk : VR E B0 σ μ (.int a n) kv) (hx : VR E B0 σ μ x xv) : Instr.sameNow d kv xv = some b := by
  unfold keyEq at h
  split at h
  · rename_i a' n' b' m e1
    cases e1
    replace h := bind_some h; obtain ⟨i, hi, h⟩ := h
    have g2 := desc_of OK.toEnvOk hi
    split at h
    · rename_i hdd
      rw [hdd, hd] at g2
      cases g2
      rw [VR_int.1 hk, VR_int.1 hx]
      simpa [Instr.sameNow] using h
    · cases h
  · rename_i e1; cases e1
  · cases h

/-- Where a key is found. -/
theorem find_sound (OK : EnvOk2 E P) {kt : TypeId} {k : AV} {kv : Value} {w : World} {d : TypeDesc} (hd : P.underlying kt = some d) (hk : VR E B0 σ μ k kv) {b0 : Bool} (hself : keyEq E kt k k = some b0) (es : List (AV × AV × Nat)) (es' : List MapEntry)
    (hes : EsR E B0 σ μ es es') (r : Option AV) (hf : findA E kt k es = some r) :
    (r = none ∧ (Instr.findKey kt kv es').run P w = .ok none w) ∨ ∃ v j u, r = some v ∧ (Instr.findKey kt kv es').run P w = .ok (some (j, u)) w ∧ VR E B0 σ μ v u := by
  -- the two ways in which the model looks
  have now : ∀ (a : IntKind) (n : Int), k = .int a n → ∀ (es : List (AV × AV × Nat)) (es' : List MapEntry) (i : Nat), EsR E B0 σ μ es es' → ∀ r, findA E kt k es = some r →
      (r = none ∧ Instr.findNow d kv es' i = some none) ∨ ∃ v j u, r = some v ∧ Instr.findNow d kv es' i = some (some (j, u)) ∧ VR E B0 σ μ v u := by
    rintro a n rfl es
    induction es with
    | nil =>
      intro es' i he r hr
      have : es' = [] := by simpa using he.1
      subst this
      simp only [findA, Option.some.injEq] at hr
      exact .inl ⟨hr.symm, rfl⟩
    | cons x es ih =>
      intro es' i he r hr
      cases es' with
      | nil => have := he.1; simp at this
      | cons e es' =>
        obtain ⟨x, v, n'⟩ := x
        simp only [findA] at hr
        replace hr := bind_some hr; obtain ⟨b, hb, hr⟩ := hr
        obtain ⟨m, hm, rk, rv, _⟩ := he.2 0 x v n' (by simp)
        simp at hm
        subst hm
        have hs := keyEq_int (w := w) OK hd hb hk rk
        cases b with
        | true =>
          simp only [if_true, Option.some.injEq] at hr
          exact .inr ⟨v, i, e.val, hr.symm, by simp [Instr.findNow, hs], rv⟩
        | false =>
          simp only [Bool.false_eq_true, if_false] at hr
          rcases ih es' (i + 1) he.tail r hr with ⟨h1, h2⟩ | ⟨v', j, u, h1, h2, h3⟩
          · exact .inl ⟨h1, by simp [Instr.findNow, hs, h2]⟩
          · exact .inr ⟨v', j, u, h1, by simp [Instr.findNow, hs, h2], h3⟩
  have asking : ∀ (xs : List AV) (ss : List SK), k = .agg xs → E.eqShape kt = some ss → ∀ (es : List (AV × AV × Nat)) (es' : List MapEntry) (i : Nat), EsR E B0 σ μ es es' → ∀ r, findA E kt k es = some r →
      (r = none ∧ (Instr.findAsking kt kv es' i).run P w = .ok none w) ∨ ∃ v j u, r = some v ∧ (Instr.findAsking kt kv es' i).run P w = .ok (some (j, u)) w ∧ VR E B0 σ μ v u := by
    rintro xs ss rfl hss es
    obtain ⟨_, g2, _, _⟩ := OK.eqs _ _ hss
    induction es with
    | nil =>
      intro es' i he r hr
      have : es' = [] := by simpa using he.1
      subst this
      simp only [findA, Option.some.injEq] at hr
      exact .inl ⟨hr.symm, by simp [Instr.findAsking]⟩
    | cons x es ih =>
      intro es' i he r hr
      cases es' with
      | nil => have := he.1; simp at this
      | cons e es' =>
        obtain ⟨x, v, n'⟩ := x
        simp only [findA] at hr
        replace hr := bind_some hr; obtain ⟨b, hb, hr⟩ := hr
        obtain ⟨m, hm, rk, rv, _⟩ := he.2 0 x v n' (by simp)
        simp at hm
        subst hm
        have heq : (Op.equal kt kv e.key).run P w = .ok b w := by
          unfold keyEq at hb
          split at hb
          · rename_i e1; cases e1
          · rename_i xs' ys e1
            cases e1
            rw [hss] at hb
            obtain ⟨a, rfl, ha⟩ := VR_agg.1 hk
            obtain ⟨c, hc', hc⟩ := VR_agg.1 rk
            rw [hc']
            exact g2 a c b w (scalEqs_VA hb ha hc)
          · cases hb
        cases b with
        | true =>
          simp only [if_true, Option.some.injEq] at hr
          exact .inr ⟨v, i, e.val, hr.symm, by simp [Instr.findAsking, heq], rv⟩
        | false =>
          simp only [Bool.false_eq_true, if_false] at hr
          rcases ih es' (i + 1) he.tail r hr with ⟨h1, h2⟩ | ⟨v', j, u, h1, h2, h3⟩
          · exact .inl ⟨h1, by simp [Instr.findAsking, heq, h2]⟩
          · exact .inr ⟨v', j, u, h1, by simp [Instr.findAsking, heq, h2], h3⟩
  cases k with
  | int a n =>
    rcases now a n rfl es es' 0 hes r hf with ⟨h1, h2⟩ | ⟨v, j, u, h1, h2, h3⟩
    · exact .inl ⟨h1, by simp [Instr.findKey, run_underlying hd, h2]⟩
    · exact .inr ⟨v, j, u, h1, by simp [Instr.findKey, run_underlying hd, h2], h3⟩
  | agg xs =>
    simp only [keyEq] at hself
    replace hself := bind_some hself; obtain ⟨ss, hss, hself⟩ := hself
    obtain ⟨_, _, _, d', hd', hagg⟩ := OK.eqs _ _ hss
    rw [hd] at hd'; cases hd'
    by_cases hnil : es' = []
    · subst hnil
      have : es = [] := by have := hes.1; simpa using this.symm
      subst this
      simp only [findA, Option.some.injEq] at hf
      exact .inl ⟨hf.symm, by simp [Instr.findKey, run_underlying hd, Instr.findNow]⟩
    · have hno := findNow_nil_agg hagg (k := kv) es' 0 hnil
      rcases asking xs ss rfl hss es es' 0 hes r hf with ⟨h1, h2⟩ | ⟨v, j, u, h1, h2, h3⟩
      · exact .inl ⟨h1, by simp [Instr.findKey, run_underlying hd, hno, h2]⟩
      · exact .inr ⟨v, j, u, h1, by simp [Instr.findKey, run_underlying hd, hno, h2], h3⟩
  | _ => simp [keyEq] at hself

theorem lookup_ok (OK : EnvOk2 E P) {h : List AO} {w : World} {t : TypeId} {x k v : AV} {xv kv : Value} {ok : Bool} (H : WR E B0 σ μ h w) (hx : VR E B0 σ μ x xv) (hk : VR E B0 σ μ k kv) (hl : lookupA E h t x k ok = some v) :
    ∃ y, (Instr.lookup t xv kv ok).run P w = .ok y w ∧ VR E B0 σ μ v y := by
  simp only [lookupA] at hl
  replace hl := bind_some hl; obtain ⟨⟨kt, et⟩, hm, hl⟩ := hl
  replace hl := bind_some hl; obtain ⟨z, hz, hl⟩ := hl
  replace hl := bind_some hl; obtain ⟨b0, hself, hl⟩ := hl
  replace hl := bind_some hl; obtain ⟨r, hr, hl⟩ := hl
  have ht := mapOf_sound OK.toEnvOk hm
  simp only [zeroOf] at hz
  replace hz := bind_some hz; obtain ⟨i, hi, hz⟩ := hz
  obtain ⟨info, zv, g1, g2, g3, g4, g5⟩ := ti_zero (B0 := B0) OK.toEnvOk hi hz
  have hzv := run_zeroValue (w := w) g1 g4
  -- the entries
  have key : ∃ es es', EsR E B0 σ μ es es' ∧ findA E kt k es = some r ∧ ((xv = .map none ∧ es' = []) ∨ ∃ rr clock arr, xv = .map (some rr) ∧ w.heap[rr]? = some (.map arr clock) ∧ arr.toList = es') := by
    split at hr
    · simp only [VR] at hx; subst hx
      exact ⟨[], [], ⟨rfl, by simp⟩, by simpa [findA] using hr, .inl ⟨rfl, rfl⟩⟩
    · rename_i b
      split at hr
      · rename_i es clock ho
        simp only [VR] at hx
        obtain ⟨p, hp, rfl⟩ := hx
        obtain ⟨q, es', k1, k2, k3, k4, _⟩ := H.objs _ _ ho
        rw [hp] at k1; cases k1
        exact ⟨es, es'.toList, ⟨by simpa using k3, fun i k v n hi => by simpa using k4 i k v n hi⟩, hr, .inr ⟨p.blk, clock, es', rfl, k2, rfl⟩⟩
      · cases hr
    · cases hr
  obtain ⟨es, es', hes, hfind, hrow⟩ := key
  have hkt : ∃ d, P.underlying kt = some d := by
    cases k with
    | int a n =>
      simp only [keyEq] at hself
      replace hself := bind_some hself; obtain ⟨j, hj, _⟩ := hself
      exact ⟨_, desc_of OK.toEnvOk hj⟩
    | agg xs =>
      simp only [keyEq] at hself
      replace hself := bind_some hself; obtain ⟨ss, hss, _⟩ := hself
      obtain ⟨_, _, _, d, hd, _⟩ := OK.eqs _ _ hss
      exact ⟨d, hd⟩
    | _ => simp [keyEq] at hself
  obtain ⟨d, hd⟩ := hkt
  have hchk : ∀ e, (Instr.checkKey e 10000 kt kv).run P w = .ok () w := fun e => checkKey_sound OK hself hk
  have hF := find_sound (w := w) OK hd hk hself es es' hes r hfind
  rcases hrow with ⟨rfl, rfl⟩ | ⟨rr, clock, arr, rfl, hw, rfl⟩
  · rcases hF with ⟨rfl, hf⟩ | ⟨v', j, u, rfl, hf, hv⟩
    · simp only [Option.some.injEq] at hl
      cases ok
      · simp only [Bool.false_eq_true, if_false] at hl; subst hl
        exact ⟨zv, by simp [Instr.lookup, run_underlying ht, hchk, hf, hzv], g5 _ _⟩
      · simp only [if_true] at hl; subst hl
        refine ⟨.tuple #[zv, .bool false], by simp [Instr.lookup, run_underlying ht, hchk, hf, hzv], VR_tup.2 ⟨_, rfl, rfl, ?_⟩⟩
        simp only [VRl]
        exact ⟨⟨zv, rfl, g5 _ _⟩, ⟨.bool false, rfl, VR_bool.2 rfl⟩, trivial⟩
    · simp only [Option.some.injEq] at hl
      cases ok
      · simp only [Bool.false_eq_true, if_false] at hl; subst hl
        exact ⟨u, by simp [Instr.lookup, run_underlying ht, hchk, hf], hv⟩
      · simp only [if_true] at hl; subst hl
        refine ⟨.tuple #[u, .bool true], by simp [Instr.lookup, run_underlying ht, hchk, hf], VR_tup.2 ⟨_, rfl, rfl, ?_⟩⟩
        simp only [VRl]
        exact ⟨⟨u, rfl, hv⟩, ⟨.bool true, rfl, VR_bool.2 rfl⟩, trivial⟩
  · have hg := run_getObj (P := P) hw (by simp)
    rcases hF with ⟨rfl, hf⟩ | ⟨v', j, u, rfl, hf, hv⟩
    · simp only [Option.some.injEq] at hl
      cases ok
      · simp only [Bool.false_eq_true, if_false] at hl; subst hl
        exact ⟨zv, by simp [Instr.lookup, run_underlying ht, hg, hchk, hf, hzv], g5 _ _⟩
      · simp only [if_true] at hl; subst hl
        refine ⟨.tuple #[zv, .bool false], by simp [Instr.lookup, run_underlying ht, hg, hchk, hf, hzv], VR_tup.2 ⟨_, rfl, rfl, ?_⟩⟩
        simp only [VRl]
        exact ⟨⟨zv, rfl, g5 _ _⟩, ⟨.bool false, rfl, VR_bool.2 rfl⟩, trivial⟩
    · simp only [Option.some.injEq] at hl
      cases ok
      · simp only [Bool.false_eq_true, if_false] at hl; subst hl
        exact ⟨u, by simp [Instr.lookup, run_underlying ht, hg, hchk, hf], hv⟩
      · simp only [if_true] at hl; subst hl
        refine ⟨.tuple #[u, .bool true], by simp [Instr.lookup, run_underlying ht, hg, hchk, hf], VR_tup.2 ⟨_, rfl, rfl, ?_⟩⟩
        simp only [VRl]
        exact ⟨⟨u, rfl, hv⟩, ⟨.bool true, rfl, VR_bool.2 rfl⟩, trivial⟩

end
end Go.Te
