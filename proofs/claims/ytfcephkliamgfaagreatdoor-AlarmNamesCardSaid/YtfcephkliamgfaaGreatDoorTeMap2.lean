/- TE: a map turns; a range over a map. -/
import Derived.Test.YtfcephkliamgfaaGreatDoorTeMap
import Derived.Laws.Strings
namespace Go.Te
open Go

section
variable {E : Env} {P : Program} {B0 : Nat} {σ : Sg} {μ : Mu}

theorem bytes_inj {a b : ByteArray} (h : a.toList = b.toList) : a = b := by
  rw [ByteArray.toList_eq, ByteArray.toList_eq] at h
  exact ByteArray.ext (Array.toList_inj.mp h)

/-- One cell of a key. -/
def Scal : Value → Prop
  | .int _ _ | .bool _ | .string _ => True
  | _ => False

theorem scalEqV_true {s : SK} {u v : Value} (h : scalEqV s u v = some true) : u = v ∧ Scal u := by
  unfold scalEqV at h
  split at h
  · split at h
    · rename_i hk
      simp only [Option.some.injEq, beq_iff_eq] at h
      subst hk h
      exact ⟨rfl, trivial⟩
    · cases h
  · simp only [Option.some.injEq, beq_iff_eq] at h
    subst h
    exact ⟨rfl, trivial⟩
  · simp only [Option.some.injEq, beq_iff_eq] at h
    rw [bytes_inj h]
    exact ⟨rfl, trivial⟩
  · cases h

theorem scalEqVs_true : ∀ (ss : List SK) (us vs : List Value), scalEqVs ss us vs = some true → us = vs ∧ ∀ u ∈ us, Scal u
  | [], [], [], _ => ⟨rfl, by simp⟩
  | [], [], _ :: _, h => by simp [scalEqVs] at h
  | [], _ :: _, _, h => by simp [scalEqVs] at h
  | _ :: _, [], _, h => by simp [scalEqVs] at h
  | _ :: _, _ :: _, [], h => by simp [scalEqVs] at h
  | s :: ss, u :: us, v :: vs, h => by
    simp only [scalEqVs] at h
    replace h := bind_some h; obtain ⟨b1, hb, h⟩ := h
    replace h := bind_some h; obtain ⟨b2, hc, h⟩ := h
    simp only [Option.some.injEq, Bool.and_eq_true] at h
    obtain ⟨rfl, rfl⟩ := h
    obtain ⟨e1, e2⟩ := scalEqV_true hb
    obtain ⟨e3, e4⟩ := scalEqVs_true ss us vs hc
    subst e1 e3
    exact ⟨rfl, by intro x hx; rcases List.mem_cons.1 hx with rfl | hx; exact e2; exact e4 x hx⟩

theorem sameBits_scal {u : Value} (h : Scal u) (n : Nat) : Instr.sameBits n u u = true := by
  cases u <;> simp [Scal] at h <;> cases n <;> simp [Instr.sameBits, beq_toListBytes]

theorem sameBits_agg (n : Nat) (a : Array Value) (h : ∀ u ∈ a.toList, Scal u) : Instr.sameBits (n + 1) (.agg a) (.agg a) = true := by
  simp only [Instr.sameBits, beq_self_eq_true, Bool.true_and, List.all_eq_true]
  intro x hx
  have : x.1 = x.2 := by
    have := List.of_mem_zip hx
    rw [List.zip_eq_zipWith] at hx
    obtain ⟨i, hi, e⟩ := List.mem_iff_getElem.1 hx
    simp at e
    rw [← e]
  obtain ⟨p, q⟩ := x
  simp only at this
  subst this
  exact sameBits_scal (h _ (List.of_mem_zip hx).1) n

/-- A key that is the same is the same. -/
theorem keyEq_same (OK : EnvOk2 E P) {kt : TypeId} {k x : AV} {kv xv : Value} (h : keyEq E kt k x = some true) (hk : VR E B0 σ μ k kv) (hx : VR E B0 σ μ x xv) : Instr.sameBits 10000 xv kv = true := by
  unfold keyEq at h
  split at h
  · rename_i a n b m
    replace h := bind_some h; obtain ⟨i, hi, h⟩ := h
    split at h
    · split at h
      · rename_i e
        simp only [Option.some.injEq, beq_iff_eq] at h
        subst e h
        rw [VR_int.1 hk, VR_int.1 hx]
        exact sameBits_scal (u := .int a n) trivial _
      · cases h
    · cases h
  · rename_i xs ys
    replace h := bind_some h; obtain ⟨ss, hs, h⟩ := h
    obtain ⟨a, rfl, ha⟩ := VR_agg.1 hk
    obtain ⟨c, rfl, hc⟩ := VR_agg.1 hx
    obtain ⟨e1, e2⟩ := scalEqVs_true _ _ _ (scalEqs_VA h ha hc)
    have : a = c := Array.toList_inj.1 e1
    subst this
    exact sameBits_agg 9999 a e2
  · cases h

/-- Where a key's entry lies: the first that is the same. -/
def At (E : Env) (kt : TypeId) (k : AV) (es : List (AV × AV × Nat)) (p : Nat) (x v : AV) (n : Nat) : Prop :=
  es[p]? = some (x, v, n) ∧ keyEq E kt k x = some true ∧ ∀ (q : Nat) y u m, q < p → es[q]? = some (y, u, m) → keyEq E kt k y = some false

/-- 'updA' turns the entry that the model finds, or adds one. -/
theorem upd_sound (OK : EnvOk2 E P) {kt : TypeId} {k val : AV} {kv : Value} {w : World} {d : TypeDesc} {clock c2 : Nat} (hd : P.underlying kt = some d) (hk : VR E B0 σ μ k kv) {b0 : Bool} (hself : keyEq E kt k k = some b0)
    (es es2 : List (AV × AV × Nat)) (es' : List MapEntry) (hes : EsR E B0 σ μ es es') (hf : updA E kt k val clock es = some (es2, c2)) :
    ((Instr.findKey kt kv es').run P w = .ok none w ∧ es2 = es ++ [(k, val, clock)] ∧ c2 = clock + 1) ∨
    ∃ p x v n u, (Instr.findKey kt kv es').run P w = .ok (some (p, u)) w ∧ es[p]? = some (x, v, n) ∧ keyEq E kt k x = some true ∧ es2 = es.set p (k, val, n) ∧ c2 = clock := by
  have now : ∀ (a : IntKind) (n : Int), k = .int a n → ∀ (es es2 : List (AV × AV × Nat)) (es' : List MapEntry) (i : Nat), EsR E B0 σ μ es es' → updA E kt k val clock es = some (es2, c2) →
      (Instr.findNow d kv es' i = some none ∧ es2 = es ++ [(k, val, clock)] ∧ c2 = clock + 1) ∨
      ∃ p x v n u, Instr.findNow d kv es' i = some (some (i + p, u)) ∧ es[p]? = some (x, v, n) ∧ keyEq E kt k x = some true ∧ es2 = es.set p (k, val, n) ∧ c2 = clock := by
    rintro a n rfl es
    induction es with
    | nil =>
      intro es2 es' i he hr
      have : es' = [] := by simpa using he.1
      subst this
      simp only [updA, Option.some.injEq, Prod.mk.injEq] at hr
      exact .inl ⟨rfl, hr.1.symm, hr.2.symm⟩
    | cons x es ih =>
      intro es2 es' i he hr
      cases es' with
      | nil => have := he.1; simp at this
      | cons e es' =>
        obtain ⟨x, v, n'⟩ := x
        simp only [updA] at hr
        replace hr := bind_some hr; obtain ⟨b, hb, hr⟩ := hr
        obtain ⟨m, hm, rk, rv, _⟩ := he.2 0 x v n' (by simp)
        simp at hm
        subst hm
        have hs := keyEq_int (w := w) OK hd hb hk rk
        cases b with
        | true =>
          simp only [if_true, Option.some.injEq, Prod.mk.injEq] at hr
          exact .inr ⟨0, x, v, n', e.val, by simp [Instr.findNow, hs], by simp, hb, by simpa using hr.1.symm, hr.2.symm⟩
        | false =>
          simp only [Bool.false_eq_true, if_false] at hr
          replace hr := bind_some hr; obtain ⟨⟨es3, c3⟩, hu, hr⟩ := hr
          simp only [Option.some.injEq, Prod.mk.injEq] at hr
          obtain ⟨rfl, rfl⟩ := hr
          rcases ih es3 es' (i + 1) he.tail hu with ⟨h1, h2, h3⟩ | ⟨p, x', v', n2, u, h1, h2, h3, h4, h5⟩
          · exact .inl ⟨by simp [Instr.findNow, hs, h1], by simp [h2], h3⟩
          · exact .inr ⟨p + 1, x', v', n2, u, by simp [Instr.findNow, hs, h1]; omega, by simpa using h2, h3, by simp [h4], h5⟩
  have asking : ∀ (xs : List AV) (ss : List SK), k = .agg xs → E.eqShape kt = some ss → ∀ (es es2 : List (AV × AV × Nat)) (es' : List MapEntry) (i : Nat), EsR E B0 σ μ es es' → updA E kt k val clock es = some (es2, c2) →
      ((Instr.findAsking kt kv es' i).run P w = .ok none w ∧ es2 = es ++ [(k, val, clock)] ∧ c2 = clock + 1) ∨
      ∃ p x v n u, (Instr.findAsking kt kv es' i).run P w = .ok (some (i + p, u)) w ∧ es[p]? = some (x, v, n) ∧ keyEq E kt k x = some true ∧ es2 = es.set p (k, val, n) ∧ c2 = clock := by
    rintro xs ss rfl hss es
    obtain ⟨_, g2, _, _⟩ := OK.eqs _ _ hss
    induction es with
    | nil =>
      intro es2 es' i he hr
      have : es' = [] := by simpa using he.1
      subst this
      simp only [updA, Option.some.injEq, Prod.mk.injEq] at hr
      exact .inl ⟨by simp [Instr.findAsking], hr.1.symm, hr.2.symm⟩
    | cons x es ih =>
      intro es2 es' i he hr
      cases es' with
      | nil => have := he.1; simp at this
      | cons e es' =>
        obtain ⟨x, v, n'⟩ := x
        simp only [updA] at hr
        replace hr := bind_some hr; obtain ⟨b, hb, hr⟩ := hr
        obtain ⟨m, hm, rk, rv, _⟩ := he.2 0 x v n' (by simp)
        simp at hm
        subst hm
        have heq : (Op.equal kt kv e.key).run P w = .ok b w := by
          have hb' := hb
          unfold keyEq at hb'
          split at hb'
          · rename_i e1; cases e1
          · rename_i xs' ys e1
            cases e1
            rw [hss] at hb'
            obtain ⟨a, rfl, ha⟩ := VR_agg.1 hk
            obtain ⟨c, hc', hc⟩ := VR_agg.1 rk
            rw [hc']
            exact g2 a c b w (scalEqs_VA hb' ha hc)
          · cases hb'
        cases b with
        | true =>
          simp only [if_true, Option.some.injEq, Prod.mk.injEq] at hr
          exact .inr ⟨0, x, v, n', e.val, by simp [Instr.findAsking, heq], by simp, hb, by simpa using hr.1.symm, hr.2.symm⟩
        | false =>
          simp only [Bool.false_eq_true, if_false] at hr
          replace hr := bind_some hr; obtain ⟨⟨es3, c3⟩, hu, hr⟩ := hr
          simp only [Option.some.injEq, Prod.mk.injEq] at hr
          obtain ⟨rfl, rfl⟩ := hr
          rcases ih es3 es' (i + 1) he.tail hu with ⟨h1, h2, h3⟩ | ⟨p, x', v', n2, u, h1, h2, h3, h4, h5⟩
          · exact .inl ⟨by simp [Instr.findAsking, heq, h1], by simp [h2], h3⟩
          · exact .inr ⟨p + 1, x', v', n2, u, by simp [Instr.findAsking, heq, h1]; omega, by simpa using h2, h3, by simp [h4], h5⟩
  cases k with
  | int a n =>
    rcases now a n rfl es es2 es' 0 hes hf with ⟨h1, h2, h3⟩ | ⟨p, x, v, n2, u, h1, h2, h3, h4, h5⟩
    · exact .inl ⟨by simp [Instr.findKey, run_underlying hd, h1], h2, h3⟩
    · exact .inr ⟨p, x, v, n2, u, by simp [Instr.findKey, run_underlying hd, h1], h2, h3, h4, h5⟩
  | agg xs =>
    simp only [keyEq] at hself
    replace hself := bind_some hself; obtain ⟨ss, hss, hself⟩ := hself
    obtain ⟨_, _, _, d', hd', hagg⟩ := OK.eqs _ _ hss
    rw [hd] at hd'; cases hd'
    by_cases hnil : es' = []
    · subst hnil
      have : es = [] := by have := hes.1; simpa using this.symm
      subst this
      simp only [updA, Option.some.injEq, Prod.mk.injEq] at hf
      exact .inl ⟨by simp [Instr.findKey, run_underlying hd, Instr.findNow], hf.1.symm, hf.2.symm⟩
    · have hno := findNow_nil_agg hagg (k := kv) es' 0 hnil
      rcases asking xs ss rfl hss es es2 es' 0 hes hf with ⟨h1, h2, h3⟩ | ⟨p, x, v, n2, u, h1, h2, h3, h4, h5⟩
      · exact .inl ⟨by simp [Instr.findKey, run_underlying hd, hno, h1], h2, h3⟩
      · exact .inr ⟨p, x, v, n2, u, by simp [Instr.findKey, run_underlying hd, hno, h1], h2, h3, h4, h5⟩
  | _ => simp [keyEq] at hself

/-- The world with one object in place of another. -/
def setObjW (w : World) (r : Nat) (o : Obj) : World := { w with heap := w.heap.setIfInBounds r o }
theorem run_setObj {r : Nat} {o o' : Obj} {w : World} (h : w.heap[r]? = some o) (hn : ∀ c e f, o ≠ .cells c e f) : (setObj r o').run P w = .ok () (setObjW w r o') := by
  simp only [setObj, Sem.run, h]
  rfl
theorem setObjW_self {w : World} {r : Nat} {o : Obj} (h : r < w.heap.size) : (setObjW w r o).heap[r]? = some o := by
  simp only [setObjW]; rw [Array.getElem?_setIfInBounds_self_of_lt h]
theorem setObjW_other {w : World} {r b : Nat} {o : Obj} (h : b ≠ r) : (setObjW w r o).heap[b]? = w.heap[b]? := by
  simp only [setObjW]; rw [Array.getElem?_setIfInBounds_ne (Ne.symm h)]
theorem setObjW_size {w : World} {r : Nat} {o : Obj} : (setObjW w r o).heap.size = w.heap.size := by simp [setObjW]

theorem mapUpdate_ok (OK : EnvOk2 E P) {h h' : List AO} {w : World} {t : TypeId} {x k v : AV} {xv kv vv : Value} (H : WR E B0 σ μ h w) (hx : VR E B0 σ μ x xv) (hk : VR E B0 σ μ k kv) (hv : VR E B0 σ μ v vv)
    (hl : mapUpdateA E h t x k v = some h') : ∃ w', (Instr.mapUpdate t xv kv vv).run P w = .ok () w' ∧ WR E B0 σ μ h' w' ∧ Ev h σ μ w h' σ μ w' := by
  simp only [mapUpdateA] at hl
  replace hl := bind_some hl; obtain ⟨⟨kt, et⟩, hm, hl⟩ := hl
  replace hl := bind_some hl; obtain ⟨b0, hself, hl⟩ := hl
  have ht := mapOf_sound OK.toEnvOk hm
  split at hl
  case h_2 => cases hl
  rename_i b
  split at hl
  case h_2 => cases hl
  rename_i es clock ho
  replace hl := bind_some hl; obtain ⟨⟨es2, c2⟩, hu, hl⟩ := hl
  simp only [Option.some.injEq] at hl
  subst hl
  simp only [VR] at hx
  obtain ⟨p, hp, rfl⟩ := hx
  obtain ⟨q, es', k1, k2, k3, k4, k5, k6⟩ := H.objs _ _ ho
  rw [hp] at k1; cases k1
  have hlt : p.blk < w.heap.size := H.lt _ _ hp
  have hes : EsR E B0 σ μ es es'.toList := ⟨by simpa using k3, fun i k v n hi => by simpa using k4 i k v n hi⟩
  have hkt : ∃ d, P.underlying kt = some d := by
    cases k with
    | int a n =>
      simp only [keyEq] at hself
      replace hself := bind_some hself; obtain ⟨j, hj, _⟩ := hself
      exact ⟨_, desc_of OK.toEnvOk hj⟩
    | agg xs =>
      simp only [keyEq] at hself
      replace hself := bind_some hself; obtain ⟨ss, hss, _⟩ := hself
      obtain ⟨_, _, _, d, hd, _⟩ := OK.eqs _ _ hss
      exact ⟨d, hd⟩
    | _ => simp [keyEq] at hself
  obtain ⟨d, hd⟩ := hkt
  have hchk : (Instr.checkKey false 10000 kt kv).run P w = .ok () w := checkKey_sound OK hself hk
  have hg := run_getObj (P := P) k2 (by simp)
  have fin : ∀ arr : Array MapEntry, EsR E B0 σ μ es2 arr.toList → WR E B0 σ μ (h.set b (.map es2 c2)) (setObjW w p.blk (.map arr c2)) ∧ Ev h σ μ w (h.set b (.map es2 c2)) σ μ (setObjW w p.blk (.map arr c2)) := by
    intro arr harr
    refine ⟨H.set ho rfl hp k6 (fun b hb => setObjW_other hb) setObjW_size ⟨p, arr, hp, setObjW_self hlt, by simpa using harr.1, fun i k v n hi => by simpa using harr.2 i k v n hi, k5, k6⟩,
      Ev.set ho rfl hp (fun b hb => setObjW_other hb) setObjW_size rfl rfl rfl⟩
  rcases upd_sound (w := w) OK hd hk hself es es2 es'.toList hes hu with ⟨h1, rfl, rfl⟩ | ⟨j, x, v', n, u, h1, h2, h3, rfl, rfl⟩
  · obtain ⟨f1, f2⟩ := fin (es'.push { key := kv, val := vv, born := clock }) ⟨by simp [k3], fun i k0 v0 n0 hi => by
      by_cases hil : i < es.length
      · rw [List.getElem?_append_left hil] at hi
        obtain ⟨m, hm, r⟩ := hes.2 i k0 v0 n0 hi
        refine ⟨m, ?_, r⟩
        have : i < es'.size := by omega
        rw [Array.toList_push, List.getElem?_append_left (by simpa using this)]; exact hm
      · have hi' := (List.getElem?_eq_some_iff.1 hi).1
        simp at hi'
        have : i = es.length := by omega
        subst this
        simp at hi
        obtain ⟨rfl, rfl, rfl⟩ := hi
        exact ⟨{ key := kv, val := vv, born := clock }, by rw [Array.toList_push, ← k3]; simp, hk, hv, rfl⟩⟩
    exact ⟨_, by simp [Instr.mapUpdate, run_underlying ht, hg, hchk, h1, run_setObj (P := P) (o' := .map (es'.push { key := kv, val := vv, born := clock }) (clock + 1)) k2 (by simp)], f1, f2⟩
  · obtain ⟨m, hm, rk, rv, rn⟩ := hes.2 j x v' n h2
    have hm' : es'[j]? = some m := by simpa using hm
    have hsame := keyEq_same OK h3 hk rk
    have hjl : j < es'.size := (Array.getElem?_eq_some_iff.1 hm').1
    obtain ⟨f1, f2⟩ := fin (es'.modify j fun e => { e with key := kv, val := vv }) ⟨by simp [k3], fun i k0 v0 n0 hi => by
      by_cases hij : i = j
      · subst hij
        rw [List.getElem?_set_self (by omega)] at hi
        cases hi
        refine ⟨{ m with key := kv, val := vv }, ?_, hk, hv, rn⟩
        have : (es'.modify i fun e => { e with key := kv, val := vv })[i]? = some { m with key := kv, val := vv } := by
          rw [Array.getElem?_modify, if_pos rfl, hm']; rfl
        rw [Array.getElem?_toList]; exact this
      · rw [List.getElem?_set_ne (Ne.symm hij)] at hi
        obtain ⟨m', hm', r⟩ := hes.2 i k0 v0 n0 hi
        refine ⟨m', ?_, r⟩
        have : (es'.modify j fun e => { e with key := kv, val := vv })[i]? = some m' := by
          rw [Array.getElem?_modify, if_neg (Ne.symm hij)]; simpa using hm'
        rw [Array.getElem?_toList]; exact this⟩
    refine ⟨_, ?_, f1, f2⟩
    have hkeep : (Instr.keyThatStays m.key kv).run P w = .ok kv w := by simp [Instr.keyThatStays, hsame]
    simp [Instr.mapUpdate, run_underlying ht, hg, hchk, h1, hm', hkeep]
    exact run_setObj k2 (by simp)

/-! ## A range over a map -/

theorem range_ok (OK : EnvOk2 E P) {h : List AO} {w : World} {t : TypeId} {x : AV} {xv : Value} {ob : AO} {k : Nat} (H : WR E B0 σ μ h w) (hμ : μ k = none) (hx : VR E B0 σ μ x xv) (hr : rangeA E h t x = some ob) :
    MadeOk E B0 P σ μ w k (Instr.range t xv) (.ptr k 0) ob := by
  simp only [rangeA] at hr
  replace hr := bind_some hr; obtain ⟨⟨kt, et⟩, hm, hr⟩ := hr
  have ht := mapOf_sound OK.toEnvOk hm
  have hle : Mu.le μ (Mu.put μ k ⟨w.heap.size, 0, t⟩) := Mu.le_put hμ
  split at hr
  · simp only [Option.some.injEq] at hr; subst hr
    simp only [VR] at hx; subst hx
    refine ⟨.pointer (some ⟨w.heap.size, 0, none⟩), .mapIter none 0 #[] 0, ⟨w.heap.size, 0, t⟩, by simp [Instr.range, run_underlying ht], rfl, ?_, ⟨⟨w.heap.size, 0, t⟩, none, Mu.put_self _ _ _, heap_alloc_new w _, .inl ⟨rfl, rfl⟩, H.base, H.noSg (Nat.le_refl _)⟩, rfl⟩
    simp only [VR]
    exact ⟨_, Mu.put_self _ _ _, rfl⟩
  · rename_i b
    split at hr
    · rename_i es c ho
      simp only [Option.some.injEq] at hr; subst hr
      simp only [VR] at hx
      obtain ⟨p, hp, rfl⟩ := hx
      obtain ⟨q, es', k1, k2, _⟩ := H.objs _ _ ho
      rw [hp] at k1; cases k1
      have hg := run_getObj (P := P) k2 (by simp)
      refine ⟨.pointer (some ⟨w.heap.size, 0, none⟩), .mapIter (some p.blk) c #[] c, ⟨w.heap.size, 0, t⟩, by simp [Instr.range, run_underlying ht, hg], rfl, ?_,
        ⟨⟨w.heap.size, 0, t⟩, some p.blk, Mu.put_self _ _ _, heap_alloc_new w _, .inr ⟨b, p, rfl, hle _ _ hp, rfl⟩, H.base, H.noSg (Nat.le_refl _)⟩, rfl⟩
      simp only [VR]
      exact ⟨_, Mu.put_self _ _ _, rfl⟩
    · cases hr
  · cases hr

theorem filter_EsR {es : List (AV × AV × Nat)} {es' : List MapEntry} (h : EsR E B0 σ μ es es') (f : Nat → Bool) : EsR E B0 σ μ (es.filter fun e => f e.2.2) (es'.filter fun e => f e.born) := by
  induction es generalizing es' with
  | nil =>
    have : es' = [] := by simpa using h.1
    subst this
    exact ⟨rfl, by simp⟩
  | cons x es ih =>
    cases es' with
    | nil => have := h.1; simp at this
    | cons e es' =>
      obtain ⟨x, v, n⟩ := x
      obtain ⟨m, hm, rk, rv, rn⟩ := h.2 0 x v n (by simp)
      simp at hm
      subst hm
      have ht := ih h.tail
      by_cases hf : f n = true
      · rw [List.filter_cons_of_pos (by simpa using hf), List.filter_cons_of_pos (by rw [rn]; exact hf)]
        refine ⟨by simp [ht.1], fun i k v' n' hi => ?_⟩
        cases i with
        | zero => simp at hi; obtain ⟨rfl, rfl, rfl⟩ := hi; exact ⟨e, by simp, rk, rv, rn⟩
        | succ i => simpa using ht.2 i k v' n' (by simpa using hi)
      · rw [List.filter_cons_of_neg (by simpa using hf), List.filter_cons_of_neg (by rw [rn]; exact hf)]
        exact ht

theorem all_EsR {es : List (AV × AV × Nat)} {es' : List MapEntry} (h : EsR E B0 σ μ es es') (f : Nat → Bool) : es'.all (fun e => f e.born) = es.all (fun e => f e.2.2) := by
  induction es generalizing es' with
  | nil =>
    have : es' = [] := by simpa using h.1
    subst this
    rfl
  | cons x es ih =>
    cases es' with
    | nil => have := h.1; simp at this
    | cons e es' =>
      obtain ⟨x, v, n⟩ := x
      obtain ⟨m, hm, rk, rv, rn⟩ := h.2 0 x v n (by simp)
      simp at hm
      subst hm
      simp [List.all_cons, ih h.tail, rn]

theorem next_ok {h h' : List AO} {w : World} {ty : TypeId} {x v : AV} {xv : Value} (H : WR E B0 σ μ h w) (hx : VR E B0 σ μ x xv) (hn : nextA h x = some (v, h')) :
    ∃ y w', (Instr.next xv false ty).run P w = .ok y w' ∧ VR E B0 σ μ v y ∧ WR E B0 σ μ h' w' ∧ Ev h σ μ w h' σ μ w' := by
  have over : VR E B0 σ μ (.tup [.bool false]) (.tuple #[.bool false]) := VR_tup.2 ⟨_, rfl, rfl, by simp [VRl, VR]⟩
  unfold nextA at hn
  split at hn
  case h_2 => cases hn
  rename_i b
  simp only [VR] at hx
  obtain ⟨p, hp, rfl⟩ := hx
  split at hn
  · rename_i since seen last ho
    simp only [Option.some.injEq, Prod.mk.injEq] at hn
    obtain ⟨rfl, rfl⟩ := hn
    obtain ⟨q, mb, k1, k2, k3, _⟩ := H.objs _ _ ho
    rw [hp] at k1; cases k1
    rcases k3 with ⟨_, rfl⟩ | ⟨_, _, e, _⟩
    · exact ⟨_, w, by simp [Instr.next, run_getObj k2], over, H, Ev.refl _ _ _ _⟩
    · cases e
  · rename_i m since seen last ho
    split at hn
    case h_2 => cases hn
    rename_i es clock hm
    obtain ⟨q, mb, k1, k2, k3, k4, k5⟩ := H.objs _ _ ho
    rw [hp] at k1; cases k1
    rcases k3 with ⟨e, _⟩ | ⟨b', q', e, hq', rfl⟩
    · cases e
    cases e
    obtain ⟨r, es', j1, j2, j3, j4, _⟩ := H.objs _ _ hm
    rw [hq'] at j1; cases j1
    have hes : EsR E B0 σ μ es es'.toList := ⟨by simpa using j3, fun i k v n hi => by simpa using j4 i k v n hi⟩
    have hg1 := run_getObj (P := P) k2 (by simp)
    have hg2 := run_getObj (P := P) j2 (by simp)
    split at hn
    case isTrue => cases hn
    rename_i hcond
    have hcond' : (!(seen.toArray).isEmpty && !es'.isEmpty && es'.all fun e => decide (e.born ≥ last)) = false := by
      have h1 := all_EsR hes (fun n => last.ble n)
      have h2 : es'.all (fun e => decide (e.born ≥ last)) = es'.toList.all (fun e => last.ble e.born) := by
        rw [← Array.all_toList]
        congr 1
        funext e
        rw [Bool.eq_iff_iff]; simp
      have h3 : es'.isEmpty = es.isEmpty := by
        cases es <;> simp [Array.isEmpty, j3]
      rw [h2, h1, h3]
      have h4 : (seen.toArray).isEmpty = seen.isEmpty := by cases seen <;> simp
      rw [h4]
      simpa using hcond
    have hleft := filter_EsR hes (fun n => !seen.contains n)
    have hleft' : (es'.filter fun e => !(seen.toArray).contains e.born).toList = es'.toList.filter fun e => !seen.contains e.born := by
      rw [Array.toList_filter]
      congr 1
      funext e
      simp
    split at hn
    · rename_i hf
      simp only [Option.some.injEq, Prod.mk.injEq] at hn
      obtain ⟨rfl, rfl⟩ := hn
      rw [hf] at hleft
      have hl0 : (es'.filter fun e => !(seen.toArray).contains e.born) = #[] := by
        rw [← Array.toList_inj, hleft']
        have := hleft.1
        simpa using this
      refine ⟨.tuple #[.bool false], w, ?_, over, H, Ev.refl _ _ _ _⟩
      simp only [Instr.next, Sem.run_bind, hg1, hg2, Result.andThen_ok, hcond', Bool.false_eq_true, if_false, hl0]
      simp [choose, Sem.run, Question.forced]
    · rename_i k0 v0 n0 hf
      split at hn
      case isFalse => cases hn
      rename_i hlt
      rw [Nat.ble_eq] at hlt
      simp only [Option.some.injEq, Prod.mk.injEq] at hn
      obtain ⟨rfl, rfl⟩ := hn
      rw [hf] at hleft
      obtain ⟨me, hme, rk, rv, rn⟩ := hleft.2 0 k0 v0 n0 (by simp)
      have hl1 : (es'.filter fun e => !(seen.toArray).contains e.born) = #[me] := by
        rw [← Array.toList_inj, hleft']
        have h1 := hleft.1
        generalize es'.toList.filter (fun e => !seen.contains e.born) = l at *
        cases l with
        | nil => simp at h1
        | cons y l =>
          simp at hme h1
          subst hme h1
          rfl
      have hold : (#[me].filter fun e => decide (e.born < since)) = #[me] := by
        have : decide (me.born < since) = true := by simp; omega
        simp [this]
      have hnew : (#[me].filter fun e => decide (e.born ≥ since)) = #[] := by
        have : decide (me.born ≥ since) = false := by simp; omega
        simp [this]
      have hset := run_setObj (P := P) (o' := .mapIter (some q'.blk) since ((seen.toArray).push me.born) clock) k2 (by simp)
      have hlt' := H.lt _ _ hp
      refine ⟨.tuple #[.bool true, me.key, me.val], setObjW w p.blk (.mapIter (some q'.blk) since ((seen.toArray).push me.born) clock), ?_, ?_, ?_, ?_⟩
      · simp only [Instr.next, Sem.run_bind, hg1, hg2, Result.andThen_ok, hcond', Bool.false_eq_true, if_false, hl1, hold, hnew]
        simp [choose, Sem.run, Question.forced]
        have hp2 : (seen ++ [me.born]).toArray = (seen.toArray).push me.born := by simp
        rw [hp2, hset]
        rfl
      · refine VR_tup.2 ⟨_, rfl, rfl, ?_⟩
        simp only [VRl]
        exact ⟨⟨_, rfl, VR_bool.2 rfl⟩, ⟨_, rfl, rk⟩, ⟨_, rfl, rv⟩, trivial⟩
      · refine H.set ho rfl hp k5 (fun b hb => setObjW_other hb) setObjW_size ⟨p, some q'.blk, hp, ?_, .inr ⟨m, q', rfl, hq', rfl⟩, k4, k5⟩
        rw [setObjW_self hlt', rn]; simp
      · exact Ev.set ho rfl hp (fun b hb => setObjW_other hb) setObjW_size rfl rfl rfl
    · cases hn
  · cases hn

theorem findStamp_ok {n : Nat} {k v : AV} : ∀ {es : List (AV × AV × Nat)} {es' : List MapEntry}, EsR E B0 σ μ es es' → findStamp n es = some (k, v) → ∃ m, es'.find? (·.born == n) = some m ∧ VR E B0 σ μ k m.key ∧ VR E B0 σ μ v m.val
  | [], _, _, h => by cases h
  | (a, b, c) :: es, [], hr, _ => by have := hr.1; simp at this
  | (a, b, c) :: es, e :: es', hr, h => by
    obtain ⟨m, hm, r1, r2, r3⟩ := hr.2 0 a b c rfl
    simp only [List.getElem?_cons_zero, Option.some.injEq] at hm
    subst hm
    simp only [findStamp] at h
    split at h
    · rename_i hc
      rw [Nat.beq_eq] at hc
      simp only [Option.some.injEq, Prod.mk.injEq] at h
      obtain ⟨rfl, rfl⟩ := h
      exact ⟨e, by simp [List.find?_cons, r3, hc], r1, r2⟩
    · rename_i hc
      have hne : (e.born == n) = false := by
        rw [r3]
        cases hb : (c == n) with
        | false => rfl
        | true => exact absurd (by rw [Nat.beq_eq]; exact beq_iff_eq.1 hb) hc
      obtain ⟨m, h1, h2, h3⟩ := findStamp_ok hr.tail h
      exact ⟨m, by simp [List.find?_cons, hne, h1], h2, h3⟩

theorem entry_ok {h : List AO} {w : World} {x v : AV} {u : Value} (H : WR E B0 σ μ h w) (hx : VR E B0 σ μ x u) (he : entryA h x = some v) : ∃ y, (Instr.entry u).run P w = .ok y w ∧ VR E B0 σ μ v y := by
  unfold entryA at he
  split at he
  case h_2 => cases he
  rename_i b
  split at he
  case h_2 => cases he
  rename_i m since seen last ho
  replace he := bind_some he; obtain ⟨n, hn, he⟩ := he
  split at he
  case h_2 => cases he
  rename_i es clock hm
  split at he
  case isFalse => cases he
  rename_i hcl
  rw [Nat.beq_eq] at hcl
  replace he := bind_some he; obtain ⟨⟨k, v2⟩, hf, he⟩ := he
  simp only [Option.some.injEq] at he; subst he
  simp only [VR] at hx
  obtain ⟨p, hp, rfl⟩ := hx
  obtain ⟨q, mb, g1, g2, g3, _, _⟩ := H.objs _ _ ho
  rw [hp] at g1; cases g1
  rcases g3 with ⟨e, _⟩ | ⟨b2, q2, e, g4, g5⟩
  · cases e
  cases e
  subst g5
  obtain ⟨q3, es', k1, k2, k3, k4, _, _⟩ := H.objs _ _ hm
  rw [g4] at k1; cases k1
  have hE : EsR E B0 σ μ es es'.toList := ⟨by simpa using k3, fun i k v n hi => by
    obtain ⟨m, h1, h2, h3, h4⟩ := k4 i k v n hi
    exact ⟨m, by simpa using h1, h2, h3, h4⟩⟩
  obtain ⟨me, f1, f2, f3⟩ := findStamp_ok hE hf
  have f1' : es'.find? (·.born == n) = some me := by rw [← Array.find?_toList]; exact f1
  refine ⟨.tuple #[me.key, me.val], ?_, VR_tup.2 ⟨_, rfl, rfl, ?_⟩⟩
  · have hb : seen.toArray.back? = some n := by rw [List.back?_toArray]; exact hn
    simp only [Instr.entry, Sem.run_bind, run_getObj (P := P) g2 (by simp), Result.andThen_ok, hb, Sem.run_pure, run_getObj (P := P) k2 (by simp)]
    simp [hcl, f1']
  · simp only [VRl]
    exact ⟨⟨_, rfl, f2⟩, ⟨_, rfl, f3⟩, trivial⟩

end
end Go.Te
