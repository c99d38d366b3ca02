/- TE: one operation: where the evaluator answers, the machine does the same. -/
import Derived.Test.YtfcephkliamgfaaGreatDoorTeCall
namespace Go.Te
open Go

section
variable {E : Env} {P : Program} {B0 : Nat} {σ : Sg} {μ : Mu}

/-- Operands read alike. -/
def OpsR (E : Env) (B0 : Nat) (σ : Sg) (μ : Mu) (tmps : List AV) (a : Act) (xs : List Operand) : Prop := ∀ x ∈ xs, ∀ v, ev tmps x = some v → VR E B0 σ μ v (a.eval x)

theorem ev_sound {tmps : List AV} {a : Act} (h : VA E B0 σ μ tmps a.tmps) {x : Operand} {v : AV} (hv : ev tmps x = some v) : VR E B0 σ μ v (a.eval x) := by
  cases x with
  | tmp t =>
    simp only [ev, Option.some.injEq] at hv
    subst hv
    simp only [Act.eval]
    by_cases ht : t < tmps.length
    · obtain ⟨u, hu, hr⟩ := h.get (List.getElem?_eq_getElem ht)
      have e1 : tmps.getD t (.tup []) = tmps[t] := by simp [List.getD, List.getElem?_eq_getElem ht]
      have e2 : a.tmps.getD t undef = u := by simp [Array.getD_eq_getD_getElem?, hu]
      rw [e1, e2]; exact hr
    · have e1 : tmps.getD t (.tup []) = .tup [] := by simp [List.getD, List.getElem?_eq_none (Nat.le_of_not_lt ht)]
      have hs : a.tmps.size ≤ t := by rw [h.1]; exact Nat.le_of_not_lt ht
      have e2 : a.tmps.getD t undef = undef := by simp [Array.getD_eq_getD_getElem?, Array.getElem?_eq_none hs]
      rw [e1, e2]; exact VR_undef
  | const c => simp only [ev] at hv; exact ofValue_sound hv
  | global g => simp only [ev, Option.some.injEq] at hv; subst hv; simp [VR, Act.eval]
  | func f =>
    simp only [ev, Option.some.injEq] at hv; subst hv
    simp only [VR, Act.eval]
    exact ⟨.func f, #[], #[], rfl, rfl, rfl, by simp [VRl], rfl, by simp [VRl]⟩

theorem VA.opsR {tmps : List AV} {a : Act} (h : VA E B0 σ μ tmps a.tmps) (xs : List Operand) : OpsR E B0 σ μ tmps a xs := fun _ _ _ hv => ev_sound h hv

theorem evs_sound {tmps : List AV} {a : Act} : ∀ {xs : List Operand} {vs : List AV}, evs tmps xs = some vs → OpsR E B0 σ μ tmps a xs → vs.length = xs.length ∧ ∀ (i : Nat) v, vs[i]? = some v → ∃ u, (xs.map a.eval)[i]? = some u ∧ VR E B0 σ μ v u
  | [], vs, h, _ => by simp only [evs, Option.some.injEq] at h; subst h; simp
  | x :: xs, vs, h, hr => by
    simp only [evs] at h
    replace h := bind_some h; obtain ⟨v, hv, h⟩ := h
    replace h := bind_some h; obtain ⟨vs', hvs, h⟩ := h
    simp only [Option.some.injEq] at h; subst h
    obtain ⟨k1, k2⟩ := evs_sound hvs (fun y hy => hr y (List.mem_cons_of_mem _ hy))
    refine ⟨by simp [k1], fun i u hi => ?_⟩
    cases i with
    | zero => simp at hi; subst hi; exact ⟨a.eval x, by simp, hr x (by simp) v hv⟩
    | succ i => simpa using k2 i u (by simpa using hi)

theorem evs_VA {tmps : List AV} {a : Act} {xs : Array Operand} {vs : List AV} (h : evs tmps xs.toList = some vs) (hr : OpsR E B0 σ μ tmps a xs.toList) : VA E B0 σ μ vs (xs.map a.eval) := by
  obtain ⟨k1, k2⟩ := evs_sound h hr
  refine VA.mk' (by simpa using k1.symm) fun i v hi => ?_
  obtain ⟨u, hu, hv⟩ := k2 i v hi
  exact ⟨u, by rw [← Array.getElem?_toList, Array.toList_map]; exact hu, hv⟩

theorem VA.append {xs ys : List AV} {a b : Array Value} (h : VA E B0 σ μ xs a) (k : VA E B0 σ μ ys b) : VA E B0 σ μ (xs ++ ys) (a ++ b) := by
  refine VA.mk' (by simp [h.1, k.1]) fun i x hi => ?_
  by_cases hlt : i < xs.length
  · rw [List.getElem?_append_left hlt] at hi
    obtain ⟨u, hu, hr⟩ := h.get hi
    exact ⟨u, by rw [Array.getElem?_append_left (by rw [h.1]; exact hlt)]; exact hu, hr⟩
  · rw [List.getElem?_append_right (by omega)] at hi
    obtain ⟨u, hu, hr⟩ := k.get hi
    exact ⟨u, by rw [Array.getElem?_append_right (by rw [h.1]; omega), h.1]; exact hu, hr⟩

theorem pairs_sound {tmps : List AV} {a : Act} : ∀ {xs : List (Nat × Operand)} {ps : List (Nat × AV)}, pairsA tmps xs = some ps → OpsR E B0 σ μ tmps a (xs.map (·.2)) → PartsR E B0 σ μ ps (xs.map fun x => (x.1, a.eval x.2))
  | [], ps, h, _ => by simp only [pairsA, Option.some.injEq] at h; subst h; exact ⟨rfl, by simp⟩
  | (i, x) :: xs, ps, h, hr => by
    simp only [pairsA] at h
    replace h := bind_some h; obtain ⟨v, hv, h⟩ := h
    replace h := bind_some h; obtain ⟨vs', hvs, h⟩ := h
    simp only [Option.some.injEq] at h; subst h
    obtain ⟨k1, k2⟩ := pairs_sound hvs (fun y hy => hr y (by simp at hy ⊢; exact .inr hy))
    refine ⟨by simp [k1], fun j i' u hj => ?_⟩
    cases j with
    | zero => simp at hj; obtain ⟨rfl, rfl⟩ := hj; exact ⟨a.eval x, by simp, hr x (by simp) v hv⟩
    | succ j => simpa using k2 j i' u (by simpa using hj)

/-- What is asked of whatever comes behind an operation. -/
def OpPost (E : Env) (B0 : Nat) (h : List AO) (σ : Sg) (μ : Mu) (w : World) (a : Act) (dst : Option Tmp) (res : OpRes) (K : Act → World → Prop) : Prop :=
  ∀ y σ' μ' w' ds, WR E B0 σ' μ' (resH h res) w' → VR E B0 σ' μ' (resV res) y → Ev h σ μ w (resH h res) σ' μ' w' → DR E B0 σ' μ' (resD res) ds → K ({ a with defers := ds ++ a.defers }.put dst y) w'

section
variable {h : List AO} {w : World} {o : Oper} {a : Act} {F : Fence} {K : Act → World → Prop} {Q : Exit → Act → World → Prop}

theorem wpIn_of_value {y : Value} {w' : World} (hF : ∀ f, F.fn f) (hs : (o.semAt F.round a.eval).run P w = .ok (.value y) w') (hk : K (a.put o.dst y) w') : o.wpIn F 0 P a w K Q := by
  refine ⟨fun f _ => hF f, ?_⟩
  rw [hs]; exact hk

theorem val_ok {v : AV} {s : Sem Value} (hF : ∀ f, F.fn f) (H : WR E B0 σ μ h w) (hd : ∀ c, o.op ≠ .defer c) (he : execOp a.eval o = (do pure (Next.value (← s)))) (hv : ∃ y, s.run P w = .ok y w ∧ VR E B0 σ μ v y)
    (hp : OpPost E B0 h σ μ w a o.dst (.quiet v [] []) K) : o.wpIn F 0 P a w K Q := by
  obtain ⟨y, h1, h2⟩ := hv
  refine wpIn_of_value (y := y) (w' := w) hF (by rw [Oper.semAt_eq _ _ _ hd, he]; simp [h1]) ?_
  have := hp y σ μ w [] H h2 (Ev.refl _ _ _ _) trivial
  simpa using this

theorem loud_ok {v : AV} {h' : List AO} {s : Sem Value} (hF : ∀ f, F.fn f) (hd : ∀ c, o.op ≠ .defer c) (he : execOp a.eval o = (do pure (Next.value (← s)))) (hv : ∃ y w' μ', s.run P w = .ok y w' ∧ VR E B0 σ μ' v y ∧ WR E B0 σ μ' h' w' ∧ Ev h σ μ w h' σ μ' w')
    (hp : OpPost E B0 h σ μ w a o.dst (.loud v h' []) K) : o.wpIn F 0 P a w K Q := by
  obtain ⟨y, w', μ', h1, h2, h3, h4⟩ := hv
  refine wpIn_of_value (y := y) (w' := w') hF (by rw [Oper.semAt_eq _ _ _ hd, he]; simp [h1]) ?_
  have := hp y σ μ' w' [] h3 h2 h4 trivial
  simpa using this

theorem unit_ok {h' : List AO} {s : Sem Unit} (hF : ∀ f, F.fn f) (hd : ∀ c, o.op ≠ .defer c) (he : execOp a.eval o = (do s; pure Next.skip)) (hv : ∃ w', s.run P w = .ok () w' ∧ WR E B0 σ μ h' w' ∧ Ev h σ μ w h' σ μ w')
    (hp : OpPost E B0 h σ μ w a o.dst (.loud (.tup []) h' []) K) : o.wpIn F 0 P a w K Q := by
  obtain ⟨w', h1, h3, h4⟩ := hv
  have := hp undef σ μ w' [] h3 VR_undef h4 trivial
  refine ⟨fun f _ => hF f, ?_⟩
  rw [Oper.semAt_eq _ _ _ hd, he]
  simp only [Sem.run_bind, h1, Result.andThen_ok, Sem.run_pure, Oper.uponIn_skip]
  simpa using this

theorem made_op {v : AV} {ob : AO} {s : Sem Value} (hF : ∀ f, F.fn f) (H : WR E B0 σ μ h w) (hd : ∀ c, o.op ≠ .defer c) (he : execOp a.eval o = (do pure (Next.value (← s)))) (hm : MadeOk E B0 P σ μ w h.length s v ob)
    (hp : OpPost E B0 h σ μ w a o.dst (.quiet v [ob] []) K) : o.wpIn F 0 P a w K Q := by
  obtain ⟨y, obj, p, h1, h2, h3, h4, h5⟩ := hm
  refine wpIn_of_value (y := y) (w' := w.alloc obj) hF (by rw [Oper.semAt_eq _ _ _ hd, he]; simp [h1]) ?_
  have := hp y σ (Mu.put μ h.length p) (w.alloc obj) [] (H.push h2 h4) h3 (Ev.push obj ob H h2) trivial
  simpa using this

theorem val_res {v : Option AV} {res : OpRes} (h : val v = some res) : ∃ x, v = some x ∧ res = .quiet x [] [] := by
  simp only [val] at h
  replace h := bind_some h; obtain ⟨x, h1, h2⟩ := h
  simp only [Option.some.injEq] at h2
  exact ⟨x, h1, h2.symm⟩
theorem unit_res {v : Option (List AO)} {res : OpRes} (h : Te.unit v = some res) : ∃ x, v = some x ∧ res = .loud (.tup []) x [] := by
  simp only [Te.unit] at h
  replace h := bind_some h; obtain ⟨x, h1, h2⟩ := h
  simp only [Option.some.injEq] at h2
  exact ⟨x, h1, h2.symm⟩

/-- An operation that makes one new object: in whatever place. -/
theorem makeA_ok (OK : EnvOk2 E P) {tmps : List AV} {k : Nat} {v : AV} {ob : AO} (H : WR E B0 σ μ h w) (hμ : μ k = none) (hr : OpsR E B0 σ μ tmps a o.op.operands.toList) (hm : makeA E k tmps o.op = some (v, ob)) :
    ∃ s, execOp a.eval o = (do pure (Next.value (← s))) ∧ MadeOk E B0 P σ μ w k s v ob ∧ ∀ c, o.op ≠ .defer c := by
  cases hop : o.op with
  | alloc e =>
    rw [hop] at hm; simp only [makeA] at hm
    replace hm := bind_some hm; obtain ⟨z, hz, hm⟩ := hm
    simp only [Option.some.injEq, Prod.mk.injEq] at hm; obtain ⟨rfl, rfl⟩ := hm
    exact ⟨_, by simp only [execOp, hop], alloc_ok OK.toEnvOk H hμ hz, by simp⟩
  | box e x =>
    rw [hop] at hm; simp only [makeA] at hm
    replace hm := bind_some hm; obtain ⟨z, hz, hm⟩ := hm
    simp only [Option.some.injEq, Prod.mk.injEq] at hm; obtain ⟨rfl, rfl⟩ := hm
    exact ⟨_, by simp only [execOp, hop], box_ok H hμ (hr x (by simp [hop, Op.operands]) z hz), by simp⟩
  | buildSlice t n parts =>
    rw [hop] at hm; simp only [makeA] at hm
    replace hm := bind_some hm; obtain ⟨ps, hps, hm⟩ := hm
    have hp := pairs_sound (a := a) hps (fun y hy => hr y (by simpa [hop, Op.operands] using hy))
    refine ⟨_, by simp only [execOp, hop], buildSlice_ok OK.toEnvOk H hμ (qs := parts.map fun x => (x.1, a.eval x.2)) (by simpa using hp) hm, by simp⟩
  | makeMap t rs =>
    cases rs with
    | none =>
      rw [hop] at hm; simp only [makeA, Option.some.injEq, Prod.mk.injEq] at hm; obtain ⟨rfl, rfl⟩ := hm
      exact ⟨_, by simp only [execOp, hop]; rfl, makeMap_ok H hμ, by simp⟩
    | some x => rw [hop] at hm; simp [makeA] at hm
  | makeSlice t l c =>
    rw [hop] at hm; simp only [makeA] at hm
    replace hm := bind_some hm; obtain ⟨lv, hl, hm⟩ := hm
    replace hm := bind_some hm; obtain ⟨cv, hc, hm⟩ := hm
    exact ⟨_, by simp only [execOp, hop], makeSlice_ok OK.toEnvOk H hμ (hr l (by simp [hop, Op.operands]) lv hl) (hr c (by simp [hop, Op.operands]) cv hc) hm, by simp⟩
  | _ => rw [hop] at hm; simp [makeA] at hm

theorem foldl_bind : ∀ (ps : List Tmp) (vs : List AV) (tmps tmps' : List AV) (us : List Value) (arr : Array Value), bindParams tmps ps vs = some tmps' → us.length = vs.length → (∀ (i : Nat) x, vs[i]? = some x → ∃ u, us[i]? = some u ∧ VR E B0 σ μ x u) →
    VA E B0 σ μ tmps arr → ps.length = vs.length ∧ VA E B0 σ μ tmps' ((ps.zip us).foldl (fun t x => t.setIfInBounds x.1 x.2) arr)
  | [], [], tmps, tmps', us, arr, h, hl, _, ht => by
    simp only [bindParams, Option.some.injEq] at h; subst h
    exact ⟨rfl, by simpa using ht⟩
  | [], _ :: _, _, _, _, _, h, _, _, _ => by simp [bindParams] at h
  | _ :: _, [], _, _, _, _, h, _, _, _ => by simp [bindParams] at h
  | p :: ps, v :: vs, tmps, tmps', us, arr, h, hl, hu, ht => by
    cases us with
    | nil => simp at hl
    | cons u us =>
      simp only [bindParams] at h
      obtain ⟨u', hu', hr⟩ := hu 0 v (by simp)
      simp at hu'; subst hu'
      have hset : VA E B0 σ μ (tmps.set p v) (arr.setIfInBounds p u) := by
        refine VA.mk' (by simp [ht.1]) fun i x hi => ?_
        by_cases hip : i = p
        · subst hip
          have hlt : i < tmps.length := by have := (List.getElem?_eq_some_iff.1 hi).1; simpa using this
          rw [List.getElem?_set_self hlt] at hi
          cases hi
          exact ⟨u, by rw [Array.getElem?_setIfInBounds_self_of_lt (by rw [ht.1]; exact hlt)], hr⟩
        · rw [List.getElem?_set_ne (Ne.symm hip)] at hi
          obtain ⟨z, hz, hr'⟩ := ht.get hi
          exact ⟨z, by rw [Array.getElem?_setIfInBounds_ne (Ne.symm hip)]; exact hz, hr'⟩
      obtain ⟨k1, k2⟩ := foldl_bind ps vs _ _ us _ h (by simpa using hl) (fun i x hi => by simpa using hu (i + 1) x (by simpa using hi)) hset
      exact ⟨by simp [k1], by simpa using k2⟩

theorem run_getLoop {l : Nat} {L : Loop} (hw : w.heap[l]? = some (.loop L)) : (Instr.getLoop l).run P w = .ok L w := by
  simp [Instr.getLoop, run_getObj (P := P) hw (by simp)]

theorem jumpOf_normal : jumpOf .normal = none := rfl

/-- A round of a range over a function. -/
theorem round_ok {r : Rec} (R : RecOk E B0 P r) {l : Nat} {args : List AV} {res : OpRes} {vs : Array Value} {p : Pl} (H : WR E B0 σ μ h w) (hv : VA E B0 σ μ args vs) (hp : μ l = some p) (hb : roundBy r l args h = some res) :
    resD res = [] ∧ ∃ f tmps assign body, (Instr.yield p.blk vs).run P w = .ok (.round p.blk f tmps assign body) w ∧ RoundIn Fence.wide 0 P p.blk f tmps assign body w (CallPost E B0 h σ μ w (resV res) (resH h res)) := by
  simp only [roundBy] at hb
  split at hb
  case h_2 => cases hb
  rename_i s0 pend0 tmps0 params assign body ho
  replace hb := bind_some hb; obtain ⟨tmps1, htm, hb⟩ := hb
  split at hb
  case h_2 => cases hb
  rename_i st hassign
  split at hb
  case h_2 => cases hb
  rename_i pend t0 params' assign' body0 ho1
  replace hb := bind_some hb; obtain ⟨⟨ex, st2⟩, hbody, hb⟩ := hb
  split at hb
  case h_2 => cases hb
  rename_i s2 pend2 t02 params2 assign2 body02 ho2
  simp only [Option.some.injEq] at hb; subst hb
  refine ⟨rfl, ?_⟩
  obtain ⟨q, L, l1, l2, l3, l4, l5, l6, l7, l8, l9, l10, l11⟩ := H.objs _ _ ho
  rw [hp] at l1; cases l1
  obtain ⟨k1, k2⟩ := foldl_bind params args tmps0 tmps1 vs.toList L.tmps htm (by simpa using hv.1) (fun i x hi => by
    obtain ⟨u, hu, hr⟩ := hv.get hi
    exact ⟨u, by rw [Array.getElem?_toList]; exact hu, hr⟩) ⟨l8, l9⟩
  have hsz : vs.size = L.params.size := by rw [hv.1, ← k1, ← l5, Array.length_toList]
  have hyield : (Instr.yield p.blk vs).run P w = .ok (.round p.blk L.fn ((L.params.zip vs).foldl (fun tmps x => tmps.setIfInBounds x.1 x.2) L.tmps) L.assign L.body) w := by
    simp [Instr.yield, run_getLoop l2, hsz]
  refine ⟨_, _, _, _, hyield, ?_⟩
  have hfold : (L.params.zip vs).foldl (fun tmps x => tmps.setIfInBounds x.1 x.2) L.tmps = (params.zip vs.toList).foldl (fun t x => t.setIfInBounds x.1 x.2) L.tmps := by
    rw [← Array.foldl_toList, Array.toList_zip, l5]
  rw [hfold, l6, l7]
  refine roundIn_of_wpIn trivial ?_
  obtain ⟨hro, hcode⟩ := R.code assign _ _ _ hassign
  have hf0 : FenceIs μ (some l) (Fence.wide.inRound p.blk) := ⟨p, hp, rfl⟩
  refine wpIn_mono (hcode σ μ { tmps := _, defers := [] } w (Fence.wide.inRound p.blk) ⟨H, k2, trivial⟩ hf0) ?_
  rintro e a1 w1 ⟨hex, σ1, μ1, hsr1, hev1⟩
  cases e <;> first | exact hex.elim | skip
  -- the body
  have hp1 : μ1 l = some p := hev1.mu _ _ hp
  obtain ⟨q, L1, m1, m2, m3, m4, m5, m6, m7, m8, m9, m10, m11⟩ := hsr1.wr.objs _ _ ho1
  rw [hp1] at m1; cases m1
  have hbegin : (Instr.beginRound p.blk).run P w1 = .ok () (setObjW w1 p.blk (.loop { L1 with state := .busy })) := by
    simp only [Instr.beginRound, Sem.run_bind, run_getLoop m2, Result.andThen_ok]
    rw [run_setObj (P := P) m2 (by simp)]
    simp only [Result.andThen_ok, m3]
    rfl
  have hlt1 := hsr1.wr.lt _ _ hp1
  have Hbusy : WR E B0 σ1 μ1 (st.heap.set l (.loop .busy pend t0 params' assign' body0)) (setObjW w1 p.blk (.loop { L1 with state := .busy })) :=
    hsr1.wr.set ho1 rfl hp1 m11 (fun b hb => setObjW_other hb) setObjW_size ⟨p, _, hp1, setObjW_self hlt1, rfl, m4, m5, m6, m7, m8, m9, m10, m11⟩
  have Ebusy : Ev st.heap σ1 μ1 w1 (st.heap.set l (.loop .busy pend t0 params' assign' body0)) σ1 μ1 (setObjW w1 p.blk (.loop { L1 with state := .busy })) :=
    Ev.set ho1 rfl hp1 (fun b hb => setObjW_other hb) setObjW_size rfl rfl rfl
  refine ⟨_, hbegin, ?_⟩
  obtain ⟨hro2, hcode2⟩ := R.code body _ _ _ hbody
  refine wpIn_mono (hcode2 σ1 μ1 a1 _ (Fence.wide.inRound p.blk) ⟨Hbusy, hsr1.tm, hsr1.df⟩ (by simp only at hro; rw [hro]; exact ⟨p, hp1, rfl⟩)) ?_
  rintro e a2 w2 ⟨hex2, σ2, μ2, hsr2, hev2⟩
  have hp2 : μ2 l = some p := hev2.mu _ _ hp1
  obtain ⟨q, L2, n1, n2, n3, n4, n5, n6, n7, n8, n9, n10, n11⟩ := hsr2.wr.objs _ _ ho2
  rw [hp2] at n1; cases n1
  have hlt2 := hsr2.wr.lt _ _ hp2
  have fin : ∀ j : Option Code, j = jumpOf ex → ∃ v w', (Instr.endRound p.blk j).run P w2 = .ok v w' ∧ CallPost E B0 h σ μ w (.bool (jumpOf ex).isNone) (st2.heap.set l (.loop (if (jumpOf ex).isNone then .ready else .done) (jumpOf ex) t02 params2 assign2 body02)) (.returned v) w' := by
    rintro j rfl
    refine ⟨.bool (jumpOf ex).isNone, setObjW w2 p.blk (.loop { L2 with state := if (jumpOf ex).isNone then .ready else .done, pending := jumpOf ex }), ?_, _, σ2, μ2, rfl, ?_, VR_bool.2 rfl, ?_⟩
    · simp only [Instr.endRound, Sem.run_bind, run_getLoop n2, Result.andThen_ok]
      rw [run_setObj (P := P) n2 (by simp)]
      rfl
    · exact hsr2.wr.set ho2 rfl hp2 n11 (fun b hb => setObjW_other hb) setObjW_size ⟨p, _, hp2, setObjW_self hlt2, rfl, rfl, n5, n6, n7, n8, n9, n10, n11⟩
    · exact hev1.trans (Ebusy.trans (hev2.trans (Ev.set ho2 rfl hp2 (fun b hb => setObjW_other hb) setObjW_size rfl rfl rfl)))
  cases ex with
  | normal => cases e <;> first | exact hex2.elim | exact fin none rfl
  | ret => cases e <;> first | exact hex2.elim | exact fin (some .ret) rfl
  | exit id => cases e <;> first | exact hex2.elim | (cases hex2; exact fin (some (.exit id)) rfl)

theorem isPlace_run {v : AV} {u : Value} (hp : isPlace v = true) (hv : VR E B0 σ μ v u) (hop : ∃ x, o.op = .nilCheck x ∧ a.eval x = u) : execOp a.eval o = pure (.value u) := by
  obtain ⟨x, hx, rfl⟩ := hop
  simp only [execOp, hx]
  cases v <;> simp [isPlace] at hp
  · simp only [VR] at hv; obtain ⟨p, _, e⟩ := hv; rw [e]
  · simp only [VR] at hv; obtain ⟨_, _, _, _, _, _, _, e⟩ := hv; rw [e]
  · simp only [VR] at hv; rw [hv]
  · rename_i f xs ys
    simp only [VR] at hv; obtain ⟨g, b, c, e, hg, _⟩ := hv; rw [e]
    cases f <;> simp at hp
    · cases hg; rfl
    · obtain ⟨q, _, e2⟩ := hg; rw [e2]

theorem DR_nil {ds : List Deferred} (h : DR E B0 σ μ [] ds) : ds = [] := by cases ds with
  | nil => rfl
  | cons d ds => exact h.elim

/-- Entering a function. -/
theorem enter_ok {res : OpRes} {g : FuncId} {vs : Array Value} {ro : Option Nat} (hF : FenceIs μ ro F) (hs : (o.semAt F.round a.eval).run P w = .ok (.enter g vs) w) (hd : resD res = [])
    (hc : CallsIn Fence.wide 0 P g vs w (CallPost E B0 h σ μ w (resV res) (resH h res))) (hp : OpPost E B0 h σ μ w a o.dst res K) : o.wpIn F 0 P a w K Q := by
  refine ⟨fun f _ => hF.all.1 f, ?_⟩
  rw [hs]
  simp only [Oper.uponIn]
  refine ⟨by rw [hF.all.2]; simp, hF.calls (hc.mono ?_)⟩
  rintro e w' ⟨y, σ', μ', rfl, h1, h2, h3⟩
  have := hp y σ' μ' w' [] h1 h2 h3 (by rw [hd]; trivial)
  simpa using this

theorem opA_ok {r : Rec} (OK : EnvAll E P) (R : RecOk E B0 P r) {tmps : List AV} {res : OpRes} {ro : Option Nat} (H : WR E B0 σ μ h w) (hr : OpsR E B0 σ μ tmps a o.op.operands.toList) (hF : FenceIs μ ro F) (hro : ro.isNone = true ∨ resD res = [])
    (ho : opA E r o tmps h = some res) (hp : OpPost E B0 h σ μ w a o.dst res K) : o.wpIn F 0 P a w K Q := by
  have hall := hF.all.1
  have make : ∀ {x : Option (AV × AO)}, x = makeA E h.length tmps o.op → (x.bind fun y => some (OpRes.quiet y.1 [y.2] [])) = some res → o.wpIn F 0 P a w K Q := by
    intro x hx hm
    replace hm := bind_some hm; obtain ⟨⟨v, ob⟩, hm, e⟩ := hm
    simp only [Option.some.injEq] at e; subst e
    rw [hx] at hm
    obtain ⟨s, h1, h2, h3⟩ := makeA_ok OK.toEnvOk2 H (H.fresh _ (Nat.le_refl _)) hr hm
    exact made_op hall H h3 h1 h2 hp
  cases hop : o.op with
  | move x =>
    rw [hop] at hr; simp only [opA, hop] at ho
    obtain ⟨v, hv, rfl⟩ := val_res ho
    exact val_ok (s := pure (a.eval x)) hall H (by simp [hop]) (by simp [execOp, hop]) ⟨_, by simp, hr x (by simp [Op.operands]) v hv⟩ hp
  | assign x =>
    rw [hop] at hr; simp only [opA, hop] at ho
    obtain ⟨v, hv, rfl⟩ := val_res ho
    exact val_ok (s := pure (a.eval x)) hall H (by simp [hop]) (by simp [execOp, hop]) ⟨_, by simp, hr x (by simp [Op.operands]) v hv⟩ hp
  | pick c x y =>
    rw [hop] at hr; simp only [opA, hop] at ho
    obtain ⟨v, hv, rfl⟩ := val_res ho
    replace hv := bind_some hv; obtain ⟨cv, hc, hv⟩ := hv
    replace hv := bind_some hv; obtain ⟨b, hb, hv⟩ := hv
    replace hv := bind_some hv; obtain ⟨xv, hx, hv⟩ := hv
    replace hv := bind_some hv; obtain ⟨yv, hy, hv⟩ := hv
    simp only [Option.some.injEq] at hv
    have hcb : a.eval c = .bool b := by
      cases cv <;> simp [boolOf?] at hb
      subst hb
      exact VR_bool.1 (hr c (by simp [Op.operands]) _ hc)
    have hxr := hr x (by simp [Op.operands]) xv hx
    have hyr := hr y (by simp [Op.operands]) yv hy
    refine val_ok (s := pure (if b then a.eval x else a.eval y)) hall H (by simp [hop]) (by simp [execOp, hop, hcb, asBool]) ⟨_, by simp; rfl, ?_⟩ hp
    subst hv
    cases b
    · simpa using hyr
    · simpa using hxr
  | alloc e =>
    simp only [opA, hop] at ho
    exact make (by rw [hop]) ho
  | box e x =>
    simp only [opA, hop] at ho
    exact make (by rw [hop]) ho
  | build t parts =>
    rw [hop] at hr; simp only [opA, hop] at ho
    obtain ⟨v, hv, rfl⟩ := val_res ho
    replace hv := bind_some hv; obtain ⟨ps, hps, hv⟩ := hv
    have hpr := pairs_sound (a := a) hps (fun y hy => hr y (by simpa [Op.operands] using hy))
    exact val_ok hall H (by simp [hop]) (by simp only [execOp, hop]) (build_ok OK.toEnvOk (qs := parts.map fun x => (x.1, a.eval x.2)) (by simpa using hpr) hv) hp
  | buildSlice t n parts =>
    simp only [opA, hop] at ho
    exact make (by rw [hop]) ho
  | load t x =>
    rw [hop] at hr; simp only [opA, hop] at ho
    obtain ⟨v, hv, rfl⟩ := val_res ho
    replace hv := bind_some hv; obtain ⟨p, hx, hv⟩ := hv
    obtain ⟨y, h1, h2, _⟩ := run_loadT OK.toEnvOk H (hr x (by simp [Op.operands]) p hx) hv
    exact val_ok hall H (by simp [hop]) (by simp only [execOp, hop]) ⟨y, h1, h2⟩ hp
  | store t x y =>
    rw [hop] at hr; simp only [opA, hop] at ho
    obtain ⟨h', hv, rfl⟩ := unit_res ho
    replace hv := bind_some hv; obtain ⟨p, hx, hv⟩ := hv
    replace hv := bind_some hv; obtain ⟨u, hy, hv⟩ := hv
    exact unit_ok hall (by simp [hop]) (by simp only [execOp, hop]) (run_storeT OK.toEnvOk H (hr x (by simp [Op.operands]) p hx) (hr y (by simp [Op.operands]) u hy) hv) hp
  | nilCheck x =>
    rw [hop] at hr; simp only [opA, hop] at ho
    obtain ⟨v, hv, rfl⟩ := val_res ho
    replace hv := bind_some hv; obtain ⟨p, hx, hv⟩ := hv
    split at hv
    · rename_i hpl
      simp only [Option.some.injEq] at hv; subst hv
      have hxr := hr x (by simp [Op.operands]) p hx
      exact val_ok (s := pure (a.eval x)) hall H (by simp [hop]) (by rw [isPlace_run hpl hxr ⟨x, hop, rfl⟩]; simp) ⟨_, by simp, hxr⟩ hp
    · cases hv
  | binOp op t x y yt =>
    rw [hop] at hr; simp only [opA, hop] at ho
    obtain ⟨v, hv, rfl⟩ := val_res ho
    replace hv := bind_some hv; obtain ⟨p, hx, hv⟩ := hv
    replace hv := bind_some hv; obtain ⟨q, hy, hv⟩ := hv
    obtain ⟨z, h1, h2⟩ := binop_sound (w := w) (X := x) (Y := y) OK.toEnvOk2 hv (hr x (by simp [Op.operands]) p hx) (hr y (by simp [Op.operands]) q hy)
    exact val_ok hall H (by simp [hop]) (by simp only [execOp, hop]) ⟨z, h1, h2⟩ hp
  | unOp op t x =>
    rw [hop] at hr; simp only [opA, hop] at ho
    obtain ⟨v, hv, rfl⟩ := val_res ho
    replace hv := bind_some hv; obtain ⟨p, hx, hv⟩ := hv
    exact val_ok hall H (by simp [hop]) (by simp only [execOp, hop]) (unop_sound hv (hr x (by simp [Op.operands]) p hx)) hp
  | convert s d x =>
    rw [hop] at hr; simp only [opA, hop] at ho
    obtain ⟨v, hv, rfl⟩ := val_res ho
    replace hv := bind_some hv; obtain ⟨p, hx, hv⟩ := hv
    exact val_ok hall H (by simp [hop]) (by simp only [execOp, hop]) (conv_sound OK.toEnvOk hv (hr x (by simp [Op.operands]) p hx)) hp
  | makeFunc f first caps =>
    rw [hop] at hr; simp only [opA, hop] at ho
    obtain ⟨v, hv, rfl⟩ := val_res ho
    replace hv := bind_some hv; obtain ⟨p, hx, hv⟩ := hv
    replace hv := bind_some hv; obtain ⟨q, hy, hv⟩ := hv
    split at hv
    · rename_i hy'
      simp only [Option.some.injEq] at hv; subst hv
      have h1 := evs_VA (a := a) hx (fun y hy => hr y (by simp [Op.operands]; exact .inl (by simpa using hy)))
      have h2 := evs_VA (a := a) hy (fun y hy => hr y (by simp [Op.operands]; exact .inr (by simpa using hy)))
      refine val_ok (s := Instr.makeFunc f (first.map a.eval) (caps.map a.eval)) hall H (by simp [hop]) (by simp only [execOp, hop]) ⟨.func f (first.map a.eval) (caps.map a.eval), by simp [Instr.makeFunc], ?_⟩ hp
      simp only [VR]
      exact ⟨f, _, _, rfl, by cases f <;> first | rfl | (simp [noYield] at hy'), h1.1, h1.2, h2.1, h2.2⟩
    · cases hv
  | makeMap t rs =>
    cases rs with
    | none =>
      simp only [opA, hop] at ho
      exact make (by rw [hop]) ho
    | some x => simp [opA, hop] at ho
  | makeSlice t l c =>
    simp only [opA, hop] at ho
    exact make (by rw [hop]) ho
  | slice t x lo hi mx =>
    rw [hop] at hr; simp only [opA, hop] at ho
    split at ho
    · cases ho
    rename_i hcond
    obtain ⟨v, hv, rfl⟩ := val_res ho
    replace hv := bind_some hv; obtain ⟨p, hx, hv⟩ := hv
    replace hv := bind_some hv; obtain ⟨lv, hlo, hv⟩ := hv
    replace hv := bind_some hv; obtain ⟨hv', hhi, hv⟩ := hv
    replace hv := bind_some hv; obtain ⟨mv, hmx, hv⟩ := hv
    have opt : ∀ {q : Option Operand} {v : Option AV}, optA tmps q = some v → (∀ y, q = some y → y ∈ (Op.slice t x lo hi mx).operands.toList) → (∀ z, v = some z → ∃ u, q.map a.eval = some u ∧ VR E B0 σ μ z u) ∧ (v = none → q.map a.eval = none) := by
      intro q v hq hm
      cases q with
      | none => simp only [optA, Option.some.injEq] at hq; subst hq; simp
      | some y =>
        simp only [optA] at hq
        replace hq := bind_some hq; obtain ⟨u, hu, hq⟩ := hq
        simp only [Option.some.injEq] at hq; subst hq
        refine ⟨fun z hz => ?_, by simp⟩
        cases hz
        exact ⟨a.eval y, rfl, hr y (hm y rfl) u hu⟩
    obtain ⟨l1, l2⟩ := opt hlo (by intro y hy; subst hy; simp [Op.operands])
    obtain ⟨h1, h2⟩ := opt hhi (by intro y hy; subst hy; simp [Op.operands])
    obtain ⟨m1, m2⟩ := opt hmx (by intro y hy; subst hy; simp [Op.operands])
    refine val_ok hall H (by simp [hop]) (by simp only [execOp, hop]) (slice_sound OK.toEnvOk H hv (hr x (by simp [Op.operands]) p hx) l1 l2 h1 h2 m1 m2 ?_) hp
    intro hn
    cases hi with
    | some y => simp at hn
    | none => cases mx with
      | none => rfl
      | some y => simp at hcond
  | fieldAddr s x f =>
    rw [hop] at hr; simp only [opA, hop] at ho
    obtain ⟨v, hv, rfl⟩ := val_res ho
    replace hv := bind_some hv; obtain ⟨p, hx, hv⟩ := hv
    exact val_ok hall H (by simp [hop]) (by simp only [execOp, hop]) (fieldAddr_sound OK.toEnvOk hv (hr x (by simp [Op.operands]) p hx)) hp
  | field t x f =>
    rw [hop] at hr; simp only [opA, hop] at ho
    obtain ⟨v, hv, rfl⟩ := val_res ho
    replace hv := bind_some hv; obtain ⟨p, hx, hv⟩ := hv
    exact val_ok hall H (by simp [hop]) (by simp only [execOp, hop]) (field_sound OK.toEnvOk hv (hr x (by simp [Op.operands]) p hx)) hp
  | indexAddr t x i =>
    rw [hop] at hr; simp only [opA, hop] at ho
    obtain ⟨v, hv, rfl⟩ := val_res ho
    replace hv := bind_some hv; obtain ⟨p, hx, hv⟩ := hv
    replace hv := bind_some hv; obtain ⟨q, hy, hv⟩ := hv
    exact val_ok hall H (by simp [hop]) (by simp only [execOp, hop]) (indexAddr_sound OK.toEnvOk hv (hr x (by simp [Op.operands]) p hx) (hr i (by simp [Op.operands]) q hy)) hp
  | index t x i =>
    rw [hop] at hr; simp only [opA, hop] at ho
    obtain ⟨v, hv, rfl⟩ := val_res ho
    replace hv := bind_some hv; obtain ⟨p, hx, hv⟩ := hv
    replace hv := bind_some hv; obtain ⟨q, hy, hv⟩ := hv
    exact val_ok hall H (by simp [hop]) (by simp only [execOp, hop]) (index_sound OK.toEnvOk hv (hr x (by simp [Op.operands]) p hx) (hr i (by simp [Op.operands]) q hy)) hp
  | lookup t x k ok =>
    rw [hop] at hr; simp only [opA, hop] at ho
    obtain ⟨v, hv, rfl⟩ := val_res ho
    replace hv := bind_some hv; obtain ⟨p, hx, hv⟩ := hv
    replace hv := bind_some hv; obtain ⟨q, hy, hv⟩ := hv
    exact val_ok hall H (by simp [hop]) (by simp only [execOp, hop]) (lookup_ok OK.toEnvOk2 H (hr x (by simp [Op.operands]) p hx) (hr k (by simp [Op.operands]) q hy) hv) hp
  | mapUpdate t m k v =>
    rw [hop] at hr; simp only [opA, hop] at ho
    obtain ⟨h', hv, rfl⟩ := unit_res ho
    replace hv := bind_some hv; obtain ⟨p, hx, hv⟩ := hv
    replace hv := bind_some hv; obtain ⟨q, hy, hv⟩ := hv
    replace hv := bind_some hv; obtain ⟨u, hz, hv⟩ := hv
    exact unit_ok hall (by simp [hop]) (by simp only [execOp, hop]) (mapUpdate_ok OK.toEnvOk2 H (hr m (by simp [Op.operands]) p hx) (hr k (by simp [Op.operands]) q hy) (hr v (by simp [Op.operands]) u hz) hv) hp
  | insert t m k v =>
    rw [hop] at hr; simp only [opA, hop] at ho
    obtain ⟨h', hv, rfl⟩ := unit_res ho
    replace hv := bind_some hv; obtain ⟨p, hx, hv⟩ := hv
    replace hv := bind_some hv; obtain ⟨q, hy, hv⟩ := hv
    replace hv := bind_some hv; obtain ⟨u, hz, hv⟩ := hv
    exact unit_ok hall (by simp [hop]) (by simp only [execOp, hop]) (mapUpdate_ok OK.toEnvOk2 H (hr m (by simp [Op.operands]) p hx) (hr k (by simp [Op.operands]) q hy) (hr v (by simp [Op.operands]) u hz) hv) hp
  | range t x =>
    rw [hop] at hr; simp only [opA, hop] at ho
    replace ho := bind_some ho; obtain ⟨p, hx, ho⟩ := ho
    replace ho := bind_some ho; obtain ⟨ob, hob, ho⟩ := ho
    simp only [Option.some.injEq] at ho; subst ho
    exact made_op hall H (by simp [hop]) (by simp only [execOp, hop]) (range_ok OK.toEnvOk2 H (H.fresh _ (Nat.le_refl _)) (hr x (by simp [Op.operands]) p hx) hob) hp
  | next it s =>
    cases s with
    | true => simp [opA, hop] at ho
    | false =>
      rw [hop] at hr; simp only [opA, hop] at ho
      replace ho := bind_some ho; obtain ⟨p, hx, ho⟩ := ho
      replace ho := bind_some ho; obtain ⟨⟨v, h'⟩, hob, ho⟩ := ho
      simp only [Option.some.injEq] at ho; subst ho
      obtain ⟨y, w', h1, h2, h3, h4⟩ := next_ok (ty := o.type) H (hr it (by simp [Op.operands]) p hx) hob
      exact loud_ok hall (by simp [hop]) (by simp only [execOp, hop]) ⟨y, w', μ, h1, h2, h3, h4⟩ hp
  | entry it =>
    rw [hop] at hr; simp only [opA, hop] at ho
    obtain ⟨v, hv, rfl⟩ := val_res ho
    replace hv := bind_some hv; obtain ⟨p, hx, hv⟩ := hv
    exact val_ok hall H (by simp [hop]) (by simp only [execOp, hop]) (entry_ok H (hr it (by simp [Op.operands]) p hx) hv) hp
  | extract t i =>
    rw [hop] at hr; simp only [opA, hop] at ho
    obtain ⟨v, hv, rfl⟩ := val_res ho
    replace hv := bind_some hv; obtain ⟨p, hx, hv⟩ := hv
    have hxr := hr t (by simp [Op.operands]) p hx
    split at hv
    · rename_i vs
      obtain ⟨arr, e, harr⟩ := VR_tup.1 hxr
      obtain ⟨u, hu, hru⟩ := harr.get hv
      exact val_ok (s := Instr.extract (a.eval t) i) hall H (by simp [hop]) (by simp only [execOp, hop]) ⟨u, by simp [Instr.extract, e, hu], hru⟩ hp
    · cases hv
  | defer c =>
    rw [hop] at hr; simp only [opA, hop] at ho
    replace ho := bind_some ho; obtain ⟨args, hargs, ho⟩ := ho
    split at ho
    · rename_i f hc
      replace ho := bind_some ho; obtain ⟨fv, hfv, ho⟩ := ho
      split at ho
      · rename_i g first caps
        simp only [Option.some.injEq] at ho; subst ho
        rcases hro with hro | hro
        · cases ro with
          | some l => simp at hro
          | none =>
            cases hF
            have hfr := hr f (by simp [Op.operands, Call.operands, hc]) _ hfv
            have har := evs_VA (a := a) hargs (fun y hy => hr y (by simp [Op.operands, Call.operands, hc]; exact .inr (by simpa using hy)))
            simp only [VR] at hfr
            obtain ⟨g2, fa, fc, e, hg, g3, g4, g5, g6⟩ := hfr
            cases hg
            refine ⟨fun f _ => trivial, ?_⟩
            have hsem : (o.semAt Fence.wide.round a.eval).run P w = .ok (.defer { target := .fn (.func g) fc, args := fa ++ c.args.map a.eval }) w := by
              show (execOp a.eval o).run P w = _
              simp [execOp, hop, resolve, hc, e, Deferred.ofValue]
            rw [hsem]
            have := hp undef σ μ w [{ target := .fn (.func g) fc, args := fa ++ c.args.map a.eval }] H VR_undef (Ev.refl _ _ _ _) ⟨⟨fc, rfl, (VA.append (VA.append ⟨g3, g4⟩ har) ⟨g5, g6⟩)⟩, trivial⟩
            simpa [Oper.uponIn_defer] using this
        · simp [resD] at hro
      · cases ho
    · cases ho
  | call c =>
    rw [hop] at hr; simp only [opA, hop] at ho
    replace ho := bind_some ho; obtain ⟨args, hargs, ho⟩ := ho
    split at ho
    · rename_i f hc
      replace ho := bind_some ho; obtain ⟨fv, hfv, ho⟩ := ho
      split at ho
      · rename_i g first caps
        have hfr := hr f (by simp [Op.operands, Call.operands, hc]) _ hfv
        have har := evs_VA (a := a) hargs (fun y hy => hr y (by simp [Op.operands, Call.operands, hc]; exact .inr (by simpa using hy)))
        simp only [VR] at hfr
        obtain ⟨g2, fa, fc, e, hg, g3, g4, g5, g6⟩ := hfr
        have hargs' : VA E B0 σ μ (first ++ args) (fa ++ c.args.map a.eval) := VA.append ⟨g3, g4⟩ har
        have hsem : (o.semAt F.round a.eval).run P w = (invoke (.fn g2 fc) (fa ++ c.args.map a.eval)).run P w := by
          rw [Oper.semAt_eq _ _ _ (by simp [hop])]
          simp [execOp, hop, resolve, hc, e, Deferred.ofValue]
        cases g with
        | func g =>
          cases hg
          simp only [invokeBy] at ho
          obtain ⟨⟨fn, hfn⟩, hd, hcall⟩ := callBy_ok OK R H (VA.append hargs' ⟨g5, g6⟩) ho
          refine enter_ok hF ?_ hd hcall hp
          rw [hsem]
          simp only [invoke]
          exact run_callFunc OK.toEnvOk hfn _ w
        | yield l =>
          obtain ⟨p, hp', rfl⟩ := hg
          simp only [invokeBy] at ho
          obtain ⟨hd, fn, tm, as, bd, hy, hround⟩ := round_ok R H hargs' hp' ho
          refine ⟨fun f _ => hall f, ?_⟩
          rw [hsem]
          simp only [invoke]
          rw [hy]
          simp only [Oper.uponIn]
          refine ⟨by rw [hF.all.2]; simp, ?_⟩
          have hround' : RoundIn F 0 P p.blk fn tm as bd w (CallPost E B0 h σ μ w (resV res) (resH h res)) := by
            cases ro with
            | none => cases hF; exact hround
            | some l' => obtain ⟨q, _, rfl⟩ := hF; exact hround
          refine hround'.mono ?_
          rintro e w' ⟨y, σ', μ', rfl, h1, h2, h3⟩
          have := hp y σ' μ' w' [] h1 h2 h3 (by rw [hd]; trivial)
          simpa using this
        | method _ => simp [invokeBy] at ho
        | methodOf _ _ => simp [invokeBy] at ho
        | via _ _ _ _ => simp [invokeBy] at ho
      · cases ho
    · rename_i b hc
      have har := evs_VA (a := a) hargs (fun y hy => hr y (by simp [Op.operands, Call.operands, hc]; simpa using hy))
      have hsem : ∀ s : Sem Value, builtin b c.argTypes o.type (c.args.map fun | .const _ => true | _ => false) (c.args.map a.eval) = (do pure (Next.value (← s))) → execOp a.eval o = (do pure (Next.value (← s))) := by
        intro s hs
        simp only [execOp, hop, resolve, hc, pure_bind, invoke]
        exact hs
      unfold builtinA at ho
      split at ho
      · rename_i t x hts
        replace ho := bind_some ho; obtain ⟨v, hv, ho⟩ := ho
        simp only [Option.some.injEq] at ho; subst ho
        obtain ⟨u, us, e1, e2, e3, _⟩ := har.cons
        have : us = [] := by simpa using e2
        subst this
        have e1' : c.args.map a.eval = #[u] := by rw [← Array.toList_inj, e1]
        have hts' : c.argTypes = #[t] := by rw [← Array.toList_inj, hts]
        obtain ⟨y, h1, h2⟩ := len_ok (ty := o.type) OK.toEnvOk H e3 hv
        exact val_ok hall H (by simp [hop]) (hsem _ rfl) ⟨y, by rw [e1', hts']; exact h1, h2⟩ hp
      · rename_i t x hts
        replace ho := bind_some ho; obtain ⟨v, hv, ho⟩ := ho
        simp only [Option.some.injEq] at ho; subst ho
        obtain ⟨u, us, e1, e2, e3, _⟩ := har.cons
        have : us = [] := by simpa using e2
        subst this
        have e1' : c.args.map a.eval = #[u] := by rw [← Array.toList_inj, e1]
        have hts' : c.argTypes = #[t] := by rw [← Array.toList_inj, hts]
        obtain ⟨y, h1, h2⟩ := cap_ok (ty := o.type) OK.toEnvOk H e3 hv
        exact val_ok hall H (by simp [hop]) (hsem _ rfl) ⟨y, by rw [e1', hts']; exact h1, h2⟩ hp
      · rename_i t u s x hts
        split at ho
        · rename_i htu
          rw [Nat.beq_eq] at htu
          replace ho := bind_some ho; obtain ⟨⟨v, h'⟩, hv, ho⟩ := ho
          simp only [Option.some.injEq] at ho; subst ho
          obtain ⟨uu, us, e1, e2, e3, e4⟩ := har.cons
          obtain ⟨u2, rfl⟩ : ∃ u2, us = [u2] := by
            cases us with
            | nil => simp at e2
            | cons u2 us => cases us with
              | nil => exact ⟨u2, rfl⟩
              | cons _ _ => simp at e2
          obtain ⟨u2', hu2, hru2⟩ := e4 0 x (by simp)
          simp at hu2; subst hu2
          have e1' : c.args.map a.eval = #[uu, u2] := by rw [← Array.toList_inj, e1]
          have hts' : c.argTypes = #[t, u] := by rw [← Array.toList_inj, hts]
          subst htu
          obtain ⟨y, w', μ', h1, h2, h3, h4⟩ := append_ok (ty := o.type) OK.toEnvOk H e3 hru2 hv
          exact loud_ok hall (by simp [hop]) (hsem _ rfl) ⟨y, w', μ', by rw [e1', hts']; exact h1, h2, h3, h4⟩ hp
        · cases ho
      · rename_i t u s x hts
        replace ho := bind_some ho; obtain ⟨⟨v, h'⟩, hv, ho⟩ := ho
        simp only [Option.some.injEq] at ho; subst ho
        obtain ⟨uu, us, e1, e2, e3, e4⟩ := har.cons
        obtain ⟨u2, rfl⟩ : ∃ u2, us = [u2] := by
          cases us with
          | nil => simp at e2
          | cons u2 us => cases us with
            | nil => exact ⟨u2, rfl⟩
            | cons _ _ => simp at e2
        obtain ⟨u2', hu2, hru2⟩ := e4 0 x (by simp)
        simp at hu2; subst hu2
        have e1' : c.args.map a.eval = #[uu, u2] := by rw [← Array.toList_inj, e1]
        have hts' : c.argTypes = #[t, u] := by rw [← Array.toList_inj, hts]
        obtain ⟨y, w', h1, h2, h3, h4⟩ := copy_ok (t2 := u) (ty := o.type) OK.toEnvOk H e3 hru2 hv
        exact loud_ok hall (by simp [hop]) (hsem _ rfl) ⟨y, w', μ, by rw [e1', hts']; exact h1, h2, h3, h4⟩ hp
      · rename_i x xs
        replace ho := bind_some ho; obtain ⟨v, hv, ho⟩ := ho
        simp only [Option.some.injEq] at ho; subst ho
        exact val_ok hall H (by simp [hop]) (hsem _ rfl) (max_ok har hv) hp
      · rename_i x xs
        replace ho := bind_some ho; obtain ⟨v, hv, ho⟩ := ho
        simp only [Option.some.injEq] at ho; subst ho
        exact val_ok hall H (by simp [hop]) (hsem _ rfl) (min_ok har hv) hp
      · cases ho
    · cases ho
  | _ => simp [opA, hop] at ho

end
end
end Go.Te
