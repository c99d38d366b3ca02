/- TE: what comes back of a call that was handed snapshots stands behind the caller's own objects. -/
import Derived.Test.YtfcephkliamgfaaGreatDoorTeSnap
namespace Go.Te
open Go

section
variable {E : Env} {P : Program} {B0 : Nat} {σ : Sg} {μ : Mu}

theorem reach_nodup (h : List AO) : ∀ (n : Nat) (todo acc : List Nat), acc.Nodup → (reach h n todo acc).Nodup
  | 0, _, acc, ha => by simpa [reach] using ha
  | n + 1, [], acc, ha => by simpa [reach] using ha
  | n + 1, b :: bs, acc, ha => by
    simp only [reach]
    split
    · exact reach_nodup h n _ _ ha
    · rename_i hb
      refine reach_nodup h n _ _ ?_
      rw [List.nodup_append]
      refine ⟨ha, by simp, fun x hx y hy => ?_⟩
      simp at hy
      subst hy
      intro e
      subst e
      simp at hb
      exact hb hx

theorem renH_spec {f : Nat → Option Nat} {h : List AO} : ∀ (keep : List Nat) (new : List AO), renH f h keep = some new → new.length = keep.length ∧ ∀ (i : Nat) o', new[i]? = some o' → ∃ b o, keep[i]? = some b ∧ h[b]? = some o ∧ renO f o = some o'
  | [], new, hr => by simp only [renH, Option.some.injEq] at hr; subst hr; simp
  | b :: bs, new, hr => by
    simp only [renH] at hr
    split at hr
    · rename_i o ho
      replace hr := bind_some hr; obtain ⟨o1, h1, hr⟩ := hr
      replace hr := bind_some hr; obtain ⟨os, h2, hr⟩ := hr
      simp only [Option.some.injEq] at hr; subst hr
      obtain ⟨k1, k2⟩ := renH_spec bs os h2
      refine ⟨by simp [k1], fun i o' hi => ?_⟩
      cases i with
      | zero => simp at hi; subst hi; exact ⟨b, o, by simp, ho, h1⟩
      | succ i => simpa using k2 i o' (by simpa using hi)
    · cases hr

theorem renM_spec {μ2 : Mu} {f : Nat → Option Nat} (hf : ∀ b j p, f b = some j → μ b = some p → μ2 j = some p) : ∀ (es es2 : List (AV × AV × Nat)) (es' : List MapEntry), renM f es = some es2 → EsR E B0 σ μ es es' → EsR E B0 σ μ2 es2 es'
  | [], es2, es', hr, he => by
    simp only [renM, Option.some.injEq] at hr; subst hr
    exact ⟨he.1, by simp⟩
  | (x, y, n) :: es, es2, es', hr, he => by
    cases es' with
    | nil => have := he.1; simp at this
    | cons e es' =>
      simp only [renM] at hr
      replace hr := bind_some hr; obtain ⟨x2, hx, hr⟩ := hr
      replace hr := bind_some hr; obtain ⟨y2, hy, hr⟩ := hr
      replace hr := bind_some hr; obtain ⟨r, hr2, hr⟩ := hr
      simp only [Option.some.injEq] at hr; subst hr
      obtain ⟨m, hm, rk, rv, rn⟩ := he.2 0 x y n (by simp)
      simp at hm; subst hm
      obtain ⟨k1, k2⟩ := renM_spec hf es r es' hr2 he.tail
      refine ⟨by simp [k1], fun i k v n' hi => ?_⟩
      cases i with
      | zero => simp at hi; obtain ⟨rfl, rfl, rfl⟩ := hi; exact ⟨e, by simp, VR.ren hf _ _ _ hx rk, VR.ren hf _ _ _ hy rv, rn⟩
      | succ i => simpa using k2 i k v n' (by simpa using hi)

theorem EsR.down {σ2 : Sg} {ts : List TypeId} (hd : Down B0 σ σ2 ts) {es : List (AV × AV × Nat)} {es' : List MapEntry} (ht : ∀ e ∈ treesM es, e ∈ ts) (h : EsR E B0 σ μ es es') : EsR E B0 σ2 μ es es' := by
  refine ⟨h.1, fun i k v n hi => ?_⟩
  obtain ⟨m, h1, h2, h3, h4⟩ := h.2 i k v n hi
  have hsub : ∀ (es : List (AV × AV × Nat)) (i : Nat), es[i]? = some (k, v, n) → (∀ e ∈ trees k, e ∈ treesM es) ∧ ∀ e ∈ trees v, e ∈ treesM es := by
    intro es
    induction es with
    | nil => intro i hi; simp at hi
    | cons x es ih =>
      intro i hi
      obtain ⟨a, b, c⟩ := x
      simp only [treesM]
      cases i with
      | zero => simp at hi; obtain ⟨rfl, rfl, rfl⟩ := hi; exact ⟨fun e he => by simp [he], fun e he => by simp [he]⟩
      | succ i =>
        obtain ⟨k1, k2⟩ := ih i (by simpa using hi)
        exact ⟨fun e he => by simp [k1 e he], fun e he => by simp [k2 e he]⟩
  obtain ⟨s1, s2⟩ := hsub es i hi
  exact ⟨m, h1, VR.down hd _ _ _ (fun e he => ht e (s1 e he)) h2, VR.down hd _ _ _ (fun e he => ht e (s2 e he)) h3, h4⟩

/-- An object of the callee's, renamed, for the caller. -/
theorem ObjR.moved {μ2 : Mu} {σ2 : Sg} {f : Nat → Option Nat} {ts : List TypeId} {w : World} {b j : Nat} {o o' : AO} (hf : ∀ b j p, f b = some j → μ b = some p → μ2 j = some p) (hd : Down B0 σ σ2 ts) (hle : Sg.le σ2 σ)
    (hj : f b = some j) (hr : renO f o = some o') (ht : ∀ e ∈ treesH [o'], e ∈ ts) (hσ : o.live = true → ∀ p x, μ b = some p → σ p.blk = some x → σ2 p.blk = some x) (h : ObjR E B0 σ μ w b o) : ObjR E B0 σ2 μ2 w j o' := by
  have hno : ∀ b, σ b = none → σ2 b = none := fun b hb => by
    cases h2 : σ2 b with
    | none => rfl
    | some x => rw [hle _ _ h2] at hb; cases hb
  cases o with
  | row e cs ex se =>
    simp only [renO] at hr
    replace hr := bind_some hr; obtain ⟨cs2, hcs, hr⟩ := hr
    simp only [Option.some.injEq] at hr; subst hr
    obtain ⟨p, c, fr, h1, h2, h3, h4, h5, h6, h7, h8, h9⟩ := h
    obtain ⟨l, k⟩ := VRl.ren hf cs cs2 hcs _ _ h6
    refine ⟨p, c, fr, hf _ _ _ hj h1, h2, h3, h4, by omega, VRl.down hd _ _ _ _ (fun e he => ht e (by simpa [treesH] using he)) k, by rw [l]; exact h7, h8, ?_⟩
    rcases h9 with ⟨g1, g2⟩ | ⟨g1, g2, g3⟩
    · exact .inl ⟨g1, hσ rfl p _ h1 g2⟩
    · exact .inr ⟨g1, hno _ g2, g3⟩
  | map es c =>
    simp only [renO] at hr
    replace hr := bind_some hr; obtain ⟨es2, hes, hr⟩ := hr
    simp only [Option.some.injEq] at hr; subst hr
    obtain ⟨p, es', h1, h2, h3, h4, h5, h6⟩ := h
    have k := renM_spec hf es es2 es'.toList hes ⟨by simpa using h3, fun i k v n hi => by simpa using h4 i k v n hi⟩
    have k2 := k.down hd (fun e he => ht e (by simpa [treesH] using he))
    exact ⟨p, es', hf _ _ _ hj h1, h2, by simpa using k2.1, fun i k v n hi => by simpa using k2.2 i k v n hi, h5, hno _ h6⟩
  | dead => simp only [renO, Option.some.injEq] at hr; subst hr; trivial
  | iter m a b' c => simp [renO] at hr
  | loop s p t ps a b' => simp [renO] at hr
  | deferred => simp [renO] at hr

theorem sealAll_length : ∀ (l : List Nat) (h : List AO), (sealAll h l).length = h.length
  | [], _ => rfl
  | b :: bs, h => by
    simp only [sealAll]
    split
    · rw [sealAll_length bs]; simp
    · exact sealAll_length bs h

/-- What sealing makes of an object. -/
theorem sealAll_get : ∀ (l : List Nat) (h : List AO) (id : Nat) (o' : AO), (sealAll h l)[id]? = some o' →
    (h[id]? = some o' ∧ (id ∉ l ∨ ∀ e cs ex se, o' ≠ .row e cs ex se)) ∨ ∃ e cs ex se, id ∈ l ∧ h[id]? = some (.row e cs ex se) ∧ o' = .row e cs ex true
  | [], h, id, o', ho => .inl ⟨ho, .inl (by simp)⟩
  | b :: bs, h, id, o', ho => by
    simp only [sealAll] at ho
    split at ho
    · rename_i e cs ex se hb
      rcases sealAll_get bs _ id o' ho with ⟨h1, h2⟩ | ⟨e', cs', ex', se', h1, h2, h3⟩
      · by_cases hid : id = b
        · subst hid
          rw [List.getElem?_set_self (List.getElem?_eq_some_iff.1 hb).1] at h1
          simp only [Option.some.injEq] at h1
          exact .inr ⟨e, cs, ex, se, by simp, hb, h1.symm⟩
        · rw [List.getElem?_set_ne (Ne.symm hid)] at h1
          refine .inl ⟨h1, ?_⟩
          rcases h2 with h2 | h2
          · exact .inl (by simp [hid, h2])
          · exact .inr h2
      · by_cases hid : id = b
        · subst hid
          rw [List.getElem?_set_self (List.getElem?_eq_some_iff.1 hb).1] at h2
          simp only [Option.some.injEq, AO.row.injEq] at h2
          obtain ⟨rfl, rfl, rfl, _⟩ := h2
          exact .inr ⟨e, cs, ex, se, by simp, hb, h3⟩
        · rw [List.getElem?_set_ne (Ne.symm hid)] at h2
          exact .inr ⟨e', cs', ex', se', by simp [h1], h2, h3⟩
    · rename_i hb
      rcases sealAll_get bs _ id o' ho with ⟨h1, h2⟩ | ⟨e', cs', ex', se', h1, h2, h3⟩
      · refine .inl ⟨h1, ?_⟩
        by_cases hid : id = b
        · subst hid
          exact .inr fun e cs ex se e0 => hb e cs ex se (by rw [h1, e0])
        · rcases h2 with h2 | h2
          · exact .inl (by simp [hid, h2])
          · exact .inr h2
      · exact .inr ⟨e', cs', ex', se', by simp [h1], h2, h3⟩

theorem toSeal_mem {h : List AO} {ts : List TypeId} : ∀ {l : List Nat} {id : Nat} {e : TypeId} {cs : List AV} {ex se : Bool}, id ∈ l → h[id]? = some (.row e cs ex se) → e ∈ ts → id ∈ toSeal h ts l
  | b :: bs, id, e, cs, ex, se, hm, ho, he => by
    simp only [toSeal]
    rcases List.mem_cons.1 hm with rfl | hm
    · have hr : rowType h id = some e := by simp [rowType, ho]
      rw [hr]
      simp [he]
    · have := toSeal_mem hm ho he
      split
      · split
        · exact List.mem_cons_of_mem _ this
        · exact this
      · exact this
theorem toSeal_sub {h : List AO} {ts : List TypeId} : ∀ {l : List Nat} {id : Nat}, id ∈ toSeal h ts l → id ∈ l
  | [], _, hm => by simp [toSeal] at hm
  | b :: bs, id, hm => by
    simp only [toSeal] at hm
    split at hm
    · split at hm
      · rcases List.mem_cons.1 hm with rfl | hm
        · simp
        · exact List.mem_cons_of_mem _ (toSeal_sub hm)
      · exact List.mem_cons_of_mem _ (toSeal_sub hm)
    · exact List.mem_cons_of_mem _ (toSeal_sub hm)

theorem joinH_eq (h new : List AO) : joinH h new = h ++ new := by cases new <;> simp [joinH]

/-- How a call ends. -/
def CallPost (E : Env) (B0 : Nat) (h : List AO) (σ : Sg) (μ : Mu) (w : World) (v : AV) (h' : List AO) : Ending → World → Prop :=
  fun e w' => ∃ y σ' μ', e = .returned y ∧ WR E B0 σ' μ' h' w' ∧ VR E B0 σ' μ' v y ∧ Ev h σ μ w h' σ' μ' w'

/-- A callee, handed snapshots, has come back: with a value and objects of its own. They stand behind the caller's. -/
theorem moveFrom_ok {h h' : List AO} {w w' : World} {v : AV} {y : Value} {σ' : Sg} {μ' : Mu} {seen keep : List Nat} {res : OpRes} (H : WR E B0 σ μ h w) (hk : keep.Nodup)
    (H' : WR E B0 σ' μ' h' w') (hv : VR E B0 σ' μ' v y) (ev : Ev [] (Sg.with σ μ h w (· ∈ seen)) NoMu w h' σ' μ' w') (hm : moveFrom h seen v h' keep = some res) :
    ∃ σ2 μ2, WR E B0 σ2 μ2 (resH h res) w' ∧ VR E B0 σ2 μ2 (resV res) y ∧ Ev h σ μ w (resH h res) σ2 μ2 w' ∧ resD res = [] := by
  classical
  simp only [moveFrom] at hm
  replace hm := bind_some hm; obtain ⟨v2, hv2, hm⟩ := hm
  replace hm := bind_some hm; obtain ⟨new, hnew, hm⟩ := hm
  simp only [Option.some.injEq] at hm; subst hm
  -- the rows that are sealed
  obtain ⟨seals, hseals⟩ : ∃ s, s = sealsOf h seen (trees v2 ++ treesH new) := ⟨_, rfl⟩
  have hsub : ∀ id ∈ seals, id ∈ seen := by
    intro id hid
    rw [hseals] at hid
    unfold sealsOf at hid
    split at hid
    · cases hid
    · exact toSeal_sub hid
  have hmem : ∀ id e cs ex se, id ∈ seen → h[id]? = some (.row e cs ex se) → e ∈ trees v2 ++ treesH new → id ∈ seals := by
    intro id e cs ex se hid ho he
    rw [hseals]
    unfold sealsOf
    split
    · cases hid
    · exact toSeal_mem hid ho he
  show ∃ σ2 μ2, WR E B0 σ2 μ2 (joinH (sealAll h (sealsOf h seen (trees v2 ++ treesH new))) new) w' ∧ VR E B0 σ2 μ2 v2 y ∧ Ev h σ μ w (joinH (sealAll h (sealsOf h seen (trees v2 ++ treesH new))) new) σ2 μ2 w' ∧ [] = []
  rw [← hseals, joinH_eq]
  obtain ⟨nl, nget⟩ := renH_spec keep new hnew
  -- blocks that stay open to the caller's writing
  let U : Nat → Prop := fun b => ∃ id o p, h[id]? = some o ∧ o.live = true ∧ μ id = some p ∧ p.blk = b ∧ σ b = none ∧ id ∉ seals
  let σ2 : Sg := fun b => if U b then none else σ' b
  let μ2 : Mu := fun id => if id < h.length then μ id else (keep[id - h.length]?).bind μ'
  have own0 : ∀ b, ¬ Own [] NoMu b := by rintro b ⟨id, o, p, h1, _⟩; simp at h1
  have hUlt : ∀ b, U b → B0 ≤ b ∧ b < w.heap.size := by
    rintro b ⟨id, o, p, h1, h2, h3, h4, h5, h6⟩
    exact Own.base H ⟨id, o, p, h1, h2, h3, h4⟩
  have le2 : Sg.le σ2 σ' := by
    intro b x hb
    simp only [σ2] at hb
    split at hb
    · cases hb
    · exact hb
  have le1 : Sg.le σ σ2 := by
    intro b x hb
    have hnU : ¬ U b := by rintro ⟨_, _, _, _, _, _, _, h5, _⟩; rw [hb] at h5; cases h5
    simp only [σ2, hnU, if_false]
    exact ev.sg _ _ (with_le _ H _ _ hb)
  have mu1 : Mu.le μ μ2 := by
    intro id p hp
    have : id < h.length := by
      rcases Nat.lt_or_ge id h.length with g | g
      · exact g
      · rw [H.fresh id g] at hp; cases hp
    simp only [μ2, this, if_true]; exact hp
  have keepw : ∀ b, b < w.heap.size → w'.heap[b]? = w.heap[b]? := fun b hb => ev.keep b hb (own0 b)
  have newblk : ∀ b, Own h' μ' b → w.heap.size ≤ b := fun b hb => (ev.own b hb).resolve_left (own0 b)
  have hf : ∀ b j p, posIn b keep h.length = some j → μ' b = some p → μ2 j = some p := by
    intro b j p hb hp
    obtain ⟨g1, g2⟩ := posIn_spec keep b h.length j hb
    have : ¬ j < h.length := by omega
    simp only [μ2, this, if_false, g2, Option.bind_some]
    exact hp
  have down : Down B0 σ' σ2 (trees v2 ++ treesH new) := by
    intro blk e' c e hb he hmemt
    have hnU : ¬ U blk := by
      intro hU
      have hlt := hUlt blk hU
      obtain ⟨id, o, p, h1, h2, h3, h4, h5, h6⟩ := hU
      have hee : e' = e := he.resolve_right (by omega)
      subst hee
      rcases ev.sgnew _ _ hb with g | g | g
      · rcases with_inv g with g | ⟨id2, e2, cs2, ex2, se2, p2, s1, s2, s3, s4⟩
        · rw [h5] at g; cases g
        · have : id2 = id := H.inj id2 id _ o p2 p s2 h1 rfl h2 s3 h3 (by rw [s4, h4])
          subst this
          obtain ⟨q, cq, frq, q1, q2, q3, _⟩ := H.objs _ _ s2
          rw [s3] at q1; cases q1
          have := with_row (σ := σ) (S := (· ∈ seen)) s1 s2 s3 q3
          rw [s4, g] at this
          simp only [Option.some.injEq, Prod.mk.injEq] at this
          obtain ⟨rfl, _⟩ := this
          exact h6 (hmem _ _ _ _ _ s1 s2 hmemt)
      · exact own0 _ g
      · omega
    simp only [σ2, hnU, if_false]; exact hb
  -- objects behind
  have behind : ∀ id o', h.length ≤ id → (sealAll h seals ++ new)[id]? = some o' → ∃ b o, keep[id - h.length]? = some b ∧ h'[b]? = some o ∧ renO (fun b => posIn b keep h.length) o = some o' ∧ new[id - h.length]? = some o' := by
    intro id o' hid ho
    rw [List.getElem?_append_right (by rw [sealAll_length]; exact hid), sealAll_length] at ho
    obtain ⟨b, o, k1, k2, k3⟩ := nget _ _ ho
    exact ⟨b, o, k1, k2, k3, ho⟩
  have ahead : ∀ id o', id < h.length → (sealAll h seals ++ new)[id]? = some o' → (sealAll h seals)[id]? = some o' := by
    intro id o' hid ho
    rwa [List.getElem?_append_left (by rw [sealAll_length]; exact hid)] at ho
  have aheadL : ∀ id o', id < h.length → (sealAll h seals ++ new)[id]? = some o' → o'.live = true → ∃ o, h[id]? = some o ∧ o.live = true := by
    intro id o' hid ho hl
    rcases sealAll_get seals h id o' (ahead id o' hid ho) with ⟨h1, _⟩ | ⟨e, cs, ex, se, h1, h2, h3⟩
    · exact ⟨o', h1, hl⟩
    · exact ⟨_, h2, rfl⟩
  have posSelf : ∀ i b, keep[i]? = some b → posIn b keep h.length = some (h.length + i) := by
    have gen : ∀ (l : List Nat) (i b k : Nat), l.Nodup → l[i]? = some b → posIn b l k = some (k + i) := by
      intro l
      induction l with
      | nil => intro i b k _ hi; simp at hi
      | cons c cs ih =>
        intro i b k hn hi
        simp only [posIn]
        cases i with
        | zero => simp at hi; subst hi; simp
        | succ i =>
          have hi' : cs[i]? = some b := by simpa using hi
          have hne : b ≠ c := by
            intro e; subst e
            exact (List.nodup_cons.1 hn).1 (List.mem_of_getElem? hi')
          have : Nat.beq b c = false := by
            cases hb : Nat.beq b c with
            | false => rfl
            | true => rw [Nat.beq_eq] at hb; exact absurd hb hne
          rw [this]
          simp only [Bool.false_eq_true, if_false]
          rw [ih i b (k + 1) (List.nodup_cons.1 hn).2 hi']
          congr 1; omega
    intro i b hi
    exact gen keep i b h.length hk hi
  have renLive : ∀ (f : Nat → Option Nat) (o o' : AO), renO f o = some o' → o'.live = true → o.live = true := by
    intro f o o' hr hl
    cases o <;> first | rfl | (simp only [renO, Option.some.injEq] at hr; subst hr; exact hl)
  have back : ∀ id o', h.length ≤ id → (sealAll h seals ++ new)[id]? = some o' → o'.live = true → ∀ p, μ2 id = some p → ∃ b o, keep[id - h.length]? = some b ∧ h'[b]? = some o ∧ o.live = true ∧ μ' b = some p := by
    intro id o' hid ho hl p hp
    obtain ⟨b, o, k1, k2, k3, _⟩ := behind id o' hid ho
    have : ¬ id < h.length := by omega
    simp only [μ2, this, if_false, k1, Option.bind_some] at hp
    exact ⟨b, o, k1, k2, renLive _ _ _ k3 hl, hp⟩
  refine ⟨σ2, μ2, ⟨?_, ?_, ?_, ?_, ?_, ?_, Nat.le_trans H.base ev.size⟩, ?_, ⟨le1, ?_, mu1, ?_, ?_, ?_, ev.os, ev.tape, ev.output, ev.size, fun b hb _ => keepw b hb⟩, rfl⟩
  · -- stable
    exact fun b e c hb => H'.stable b e c (le2 _ _ hb)
  · -- objs
    intro id o' ho
    by_cases hid : id < h.length
    · rcases sealAll_get seals h id o' (ahead id o' hid ho) with ⟨h1, h2⟩ | ⟨e, cs, ex, se, h1, h2, h3⟩
      · refine (H.objs id o' h1).mono le1 mu1 (fun _ p hp => keepw _ (H.lt _ _ hp)) (fun hl p hp hs => ?_)
        rcases h2 with h2 | h2
        · have : U p.blk := ⟨id, o', p, h1, hl, hp, rfl, hs, h2⟩
          simp only [σ2, this, if_true]
        · -- no row: it was never one of those that stand still
          cases hs2 : σ2 p.blk with
          | none => rfl
          | some x =>
            exfalso
            have := le2 _ _ hs2
            have hlt := H.lt _ _ hp
            rcases ev.sgnew _ _ this with g | g | g
            · rcases with_inv g with g | ⟨id2, e2, cs2, ex2, se2, p2, s1, s2, s3, s4⟩
              · rw [hs] at g; cases g
              · have : id2 = id := H.inj id2 id _ o' p2 p s2 h1 rfl hl s3 hp s4
                subst this
                rw [h1] at s2
                simp only [Option.some.injEq] at s2
                exact h2 _ _ _ _ s2
            · exact own0 _ g
            · omega
      · subst h3
        obtain ⟨p, c, fr, g1, g2, g3, g4, g5, g6, g7, g8, g9⟩ := H.objs id _ h2
        refine ⟨p, c, fr, mu1 _ _ g1, g2, (keepw _ (H.lt _ _ g1)).trans g3, g4, g5, VRl.mono le1 mu1 _ _ _ g6, g7, g8, .inl ⟨rfl, ?_⟩⟩
        have hnU : ¬ U p.blk := by
          rintro ⟨id2, o2, p2, k1, k2, k3, k4, k5, k6⟩
          have : id2 = id := H.inj id2 id _ _ p2 p k1 h2 k2 rfl k3 g1 k4
          subst this
          exact k6 h1
        simp only [σ2, hnU, if_false]
        exact ev.sg _ _ (with_row (hsub _ h1) h2 g1 g3)
    · obtain ⟨b, o, k1, k2, k3, k4⟩ := behind id o' (by omega) ho
      have hpos := posSelf _ _ k1
      rw [show h.length + (id - h.length) = id by omega] at hpos
      have ht : ∀ e ∈ treesH [o'], e ∈ trees v2 ++ treesH new := by
        intro e he
        refine List.mem_append_right _ ?_
        have gen : ∀ (l : List AO) (i : Nat), l[i]? = some o' → e ∈ treesH l := by
          intro l
          induction l with
          | nil => intro i hi; simp at hi
          | cons x l ih =>
            intro i hi
            cases i with
            | zero =>
              simp at hi; subst hi
              simp only [treesH, List.append_nil] at he ⊢
              exact List.mem_append_left _ he
            | succ i =>
              simp only [treesH]
              exact List.mem_append_right _ (ih i (by simpa using hi))
        exact gen new _ k4
      refine ObjR.moved hf down le2 hpos k3 ht (fun hl p x hp hs => ?_) (H'.objs b o k2)
      have hge := newblk p.blk ⟨b, o, p, k2, hl, hp, rfl⟩
      have hnU : ¬ U p.blk := fun hU => by have := (hUlt _ hU).2; omega
      simp only [σ2, hnU, if_false]; exact hs
  · -- fresh
    intro id hid
    simp only [List.length_append, sealAll_length, nl] at hid
    have : ¬ id < h.length := by omega
    simp only [μ2, this, if_false]
    rw [List.getElem?_eq_none (by omega)]
    rfl
  · -- glob
    intro g cs hg
    obtain ⟨e, c, h1, h2⟩ := H.glob g cs hg
    exact ⟨e, c, le1 _ _ h1, VRl.mono le1 (Mu.le_refl _) _ _ _ h2⟩
  · -- blocks apart
    intro i j a b p q hi hj la lb hp hq he
    by_cases hil : i < h.length <;> by_cases hjl : j < h.length
    · obtain ⟨a0, ha0, la0⟩ := aheadL i a hil hi la
      obtain ⟨b0, hb0, lb0⟩ := aheadL j b hjl hj lb
      simp only [μ2, hil, if_true] at hp
      simp only [μ2, hjl, if_true] at hq
      exact H.inj i j a0 b0 p q ha0 hb0 la0 lb0 hp hq he
    · obtain ⟨b1, o1, k1, k2, k3, k4⟩ := back j b (by omega) hj lb q hq
      simp only [μ2, hil, if_true] at hp
      have h1 := H.lt _ _ hp
      have h2 := newblk q.blk ⟨b1, o1, q, k2, k3, k4, rfl⟩
      omega
    · obtain ⟨b1, o1, k1, k2, k3, k4⟩ := back i a (by omega) hi la p hp
      simp only [μ2, hjl, if_true] at hq
      have h1 := H.lt _ _ hq
      have h2 := newblk p.blk ⟨b1, o1, p, k2, k3, k4, rfl⟩
      omega
    · obtain ⟨b1, o1, k1, k2, k3, k4⟩ := back i a (by omega) hi la p hp
      obtain ⟨b2, o2, j1, j2, j3, j4⟩ := back j b (by omega) hj lb q hq
      have hb := H'.inj b1 b2 o1 o2 p q k2 j2 k3 j3 k4 j4 he
      subst hb
      have e1 := posSelf _ _ k1
      have e2 := posSelf _ _ j1
      rw [e1] at e2
      simp only [Option.some.injEq] at e2
      omega
  · -- within the heap
    intro id p hp
    by_cases hid : id < h.length
    · simp only [μ2, hid, if_true] at hp
      exact Nat.lt_of_lt_of_le (H.lt _ _ hp) ev.size
    · simp only [μ2, hid, if_false] at hp
      obtain ⟨b, hb, hp⟩ := bind_some hp
      exact H'.lt _ _ hp
  · -- the value
    exact VR.down down _ _ _ (fun e he => List.mem_append_left _ he) (VR.ren hf v v2 y hv2 hv)
  · -- rows that stand still anew
    intro b x hb
    rcases ev.sgnew _ _ (le2 _ _ hb) with g | g | g
    · rcases with_inv g with g | ⟨id2, e2, cs2, ex2, se2, p2, s1, s2, s3, s4⟩
      · exact .inl g
      · exact .inr (.inl ⟨id2, _, p2, s2, rfl, s3, s4⟩)
    · exact absurd g (own0 _)
    · exact .inr (.inr g)
  · -- ids
    intro id p hp
    by_cases hid : id < h.length
    · simp only [μ2, hid, if_true] at hp; exact .inl hp
    · exact .inr (by omega)
  · simp [sealAll_length]
  · -- owners
    rintro b ⟨id, o', p, h1, h2, h3, h4⟩
    by_cases hid : id < h.length
    · obtain ⟨o, ho, hl⟩ := aheadL id o' hid h1 h2
      simp only [μ2, hid, if_true] at h3
      exact .inl ⟨id, o, p, ho, hl, h3, h4⟩
    · obtain ⟨b1, o1, k1, k2, k3, k4⟩ := back id o' (by omega) h1 h2 p h3
      exact .inr (newblk b ⟨b1, o1, p, k2, k3, k4, h4⟩)

/-- A result that is read as a snapshot itself. -/
theorem asSnap {h' : List AO} {w w' : World} {v v2 : AV} {y : Value} {σ1 σ' : Sg} {μ' : Mu} {d : Nat} (H' : WR E B0 σ' μ' h' w') (hv : VR E B0 σ' μ' v y) (ev : Ev [] σ1 NoMu w h' σ' μ' w') (hs : snap E h' d v = some v2) :
    ∃ σ2, WR E B0 σ2 NoMu [] w' ∧ VR E B0 σ2 NoMu v2 y ∧ Ev [] σ1 NoMu w [] σ2 NoMu w' := by
  have own0 : ∀ b, ¬ Own [] NoMu b := by rintro b ⟨id, o, p, h1, _⟩; simp at h1
  refine ⟨Sg.with σ' μ' h' w' (fun _ => True), H'.bare _, snap_sound H' d v v2 y hs (.inl fun _ => trivial) hv,
    ⟨Sg.le_trans ev.sg (with_le _ H'), fun b x hb => ?_, Mu.le_refl _, (fun id p hp => by cases hp), Nat.le_refl _, fun b hb => absurd hb (own0 b), ev.os, ev.tape, ev.output, ev.size, ev.keep⟩⟩
  rcases with_inv hb with g | ⟨id2, e2, cs2, ex2, se2, p2, s1, s2, s3, s4⟩
  · exact ev.sgnew _ _ g
  · exact .inr (.inr ((ev.own b ⟨id2, _, p2, s2, rfl, s3, s4⟩).resolve_left (own0 b)))

end
end Go.Te
