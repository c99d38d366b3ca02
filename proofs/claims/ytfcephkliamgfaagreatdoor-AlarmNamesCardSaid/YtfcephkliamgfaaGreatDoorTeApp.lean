/- TE: append, copy, len, cap, max, min, maps. -/
import Derived.Test.YtfcephkliamgfaaGreatDoorTeOps3
namespace Go.Te
open Go

section
variable {E : Env} {P : Program} {B0 : Nat} {σ : Sg} {μ : Mu}

theorem new_ones {new : List AV} {vs : List Value} (hl : vs.length = new.length) (h : ∀ (i : Nat) y, new[i]? = some y → ∃ u, vs[i]? = some u ∧ VR E B0 σ μ y u) (ho : new.all AV.oneCell = true) :
    ∀ u ∈ vs, u.oneCell' = true := by
  intro u hm
  obtain ⟨i, hi⟩ := List.mem_iff_getElem?.1 hm
  have hi' : i < new.length := by rw [← hl]; exact (List.getElem?_eq_some_iff.1 hi).1
  obtain ⟨u', hu', hr⟩ := h i new[i] (List.getElem?_eq_getElem hi')
  rw [hi] at hu'
  cases hu'
  exact VR_oneCell hr (List.all_eq_true.1 ho _ (List.getElem_mem hi'))

theorem joined {xs ys : List AV} {us vs : List Value} (h1 : us.length = xs.length) (hx : ∀ (i : Nat) y, xs[i]? = some y → ∃ u, us[i]? = some u ∧ VR E B0 σ μ y u)
    (hy : ∀ (i : Nat) y, ys[i]? = some y → ∃ u, vs[i]? = some u ∧ VR E B0 σ μ y u) : ∀ (i : Nat) y, (xs ++ ys)[i]? = some y → ∃ u, (us ++ vs)[i]? = some u ∧ VR E B0 σ μ y u := by
  intro i y hi
  by_cases hlt : i < xs.length
  · rw [List.getElem?_append_left hlt] at hi
    obtain ⟨u, hu, hr⟩ := hx i y hi
    exact ⟨u, by rw [List.getElem?_append_left (by omega)]; exact hu, hr⟩
  · rw [List.getElem?_append_right (by omega)] at hi
    obtain ⟨u, hu, hr⟩ := hy _ y hi
    exact ⟨u, by rw [List.getElem?_append_right (by omega), h1]; exact hu, hr⟩

theorem setMany_splice (cs new : List AV) (k : Nat) (h : k + new.length ≤ cs.length) : setMany cs k new = cs.take k ++ new ++ cs.drop (k + new.length) := by
  refine List.ext_getElem? fun i => ?_
  rw [setMany_get new cs k i h]
  by_cases h1 : i < k
  · rw [if_neg (by omega), List.append_assoc, List.getElem?_append_left (by simp; omega), List.getElem?_take_of_lt h1]
  · by_cases h2 : i < k + new.length
    · rw [if_pos ⟨by omega, h2⟩, List.append_assoc, List.getElem?_append_right (by simp; omega), List.getElem?_append_left (by simp; omega)]
      congr 1; simp; omega
    · rw [if_neg (by omega), List.getElem?_append_right (by simp; omega), List.getElem?_drop]
      congr 1; simp; omega

theorem append_ok (OK : EnvOk E P) {h h' : List AO} {w : World} {t ty : TypeId} {s x v : AV} {sv xv : Value} (H : WR E B0 σ μ h w) (hs : VR E B0 σ μ s sv) (hx : VR E B0 σ μ x xv)
    (ha : appendA E h t s x = some (v, h')) : ∃ y w' μ', (Builtin.append_ #[t, t] ty #[sv, xv]).run P w = .ok y w' ∧ VR E B0 σ μ' v y ∧ WR E B0 σ μ' h' w' ∧ Ev h σ μ w h' σ μ' w' := by
  simp only [appendA] at ha
  replace ha := bind_some ha; obtain ⟨e, he, ha⟩ := ha
  replace ha := bind_some ha; obtain ⟨i, hi, ha⟩ := ha
  replace ha := bind_some ha; obtain ⟨z, hz, ha⟩ := ha
  have ht := elemOfSlice_sound OK he
  obtain ⟨info, zv, g1, g2, g3, g4, g5⟩ := ti_zero (B0 := B0) OK hi hz
  have hzc := VR_cells (g5 σ μ)
  split at ha
  case isFalse => cases ha
  rename_i hc0
  simp only [Bool.and_eq_true, Nat.ble_eq, Nat.beq_eq] at hc0
  obtain ⟨hc1, hc2⟩ := hc0
  have hzs : zv.cells.size = i.size := by rw [hzc.1, hc2]
  replace ha := bind_some ha; obtain ⟨⟨m, new⟩, hrow, ha⟩ := ha
  obtain ⟨a, c, vs, rfl, r1, r2, r3, r4⟩ := rowCells_sound H hrow hx
  simp only at ha
  split at ha
  · -- nothing comes
    rename_i hm
    rw [Nat.beq_eq] at hm
    subst hm
    have : ∃ b n cc, sv = .slice b n cc ∧ n ≤ cc ∧ v = s ∧ h' = h := by
      split at ha
      · simp only [Option.some.injEq, Prod.mk.injEq] at ha; obtain ⟨rfl, rfl⟩ := ha
        simp only [VR] at hs; subst hs; exact ⟨none, 0, 0, rfl, Nat.le_refl _, rfl, rfl⟩
      · simp only [Option.some.injEq, Prod.mk.injEq] at ha; obtain ⟨rfl, rfl⟩ := ha
        simp only [VR] at hs; obtain ⟨a, rfl⟩ := hs; exact ⟨a, 0, 0, rfl, Nat.le_refl _, rfl, rfl⟩
      · simp only [Option.some.injEq, Prod.mk.injEq] at ha; obtain ⟨rfl, rfl⟩ := ha
        simp only [VR] at hs; obtain ⟨p, a, cap, s, _, rfl, h3, _⟩ := hs; exact ⟨_, _, _, rfl, h3, rfl, rfl⟩
      · simp only [Option.some.injEq, Prod.mk.injEq] at ha; obtain ⟨rfl, rfl⟩ := ha
        simp only [VR] at hs; obtain ⟨a, cap, s, rfl, h3, _⟩ := hs; exact ⟨_, _, _, rfl, h3, rfl, rfl⟩
      · cases ha
    obtain ⟨b, n, cc, rfl, hn, rfl, rfl⟩ := this
    exact ⟨_, w, μ, run_append_none ht g1 b a n cc c hn, hs, H, Ev.refl _ _ _ _⟩
  rename_i hm
  rw [Nat.beq_eq] at hm
  obtain ⟨a', rfl, r5⟩ := r4 (by omega)
  split at ha
  case isFalse => cases ha
  rename_i hone'
  have hones := new_ones r1 r3 hone'
  have rl : vs.length = m * info.size := by rw [r1, r2, g2]
  -- onto a slice of no capacity
  have fresh0 : ∀ b, sv = .slice b 0 0 → (if (m * i.bytes).ble most && m.ble most then some ((AV.sl h.length 0 m none), h ++ [AO.row e new false false]) else none) = some (v, h') →
      ∃ y w' μ', (Builtin.append_ #[t, t] ty #[sv, .slice (some a') m c]).run P w = .ok y w' ∧ VR E B0 σ μ' v y ∧ WR E B0 σ μ' h' w' ∧ Ev h σ μ w h' σ μ' w' := by
    rintro b rfl ha
    split at ha
    · rename_i hroom
      simp only [Bool.and_eq_true, Nat.ble_eq] at hroom
      unfold most at hroom
      simp only [Option.some.injEq, Prod.mk.injEq] at ha
      obtain ⟨rfl, rfl⟩ := ha
      have hfit : m * info.bytes ≤ 140737488355328 := by rw [g3]; omega
      have hcap := grownCap_ge w m 0 e
      obtain ⟨k1, k2, k3⟩ := grown_ok (z := z) (need := m) (cap := grownCap w m 0 e) H hi (by omega) hzs r1 r2 hcap r3
      refine ⟨_, _, _, ?_, k3, k1, k2⟩
      cases b with
      | none => exact run_append_nil w t ty e info zv ht g1 g4 a' m c vs rl r5 (by omega) (by omega) (by omega)
      | some b =>
        have := run_append_grow w t ty e info zv ht g1 g4 b 0 0 [] (by simp) (by simp) a' m c vs rl r5 (by omega) (by omega) (by
          rw [Nat.zero_add]; exact growslice_fits (by omega) hfit)
        simpa using this
    · cases ha
  split at ha
  · simp only [VR] at hs; subst hs; exact fresh0 none rfl ha
  · simp only [VR] at hs; obtain ⟨b, rfl⟩ := hs; exact fresh0 b rfl ha
  · rename_i b o n cc
    split at ha
    case h_2 => cases ha
    rename_i e' cs ex ho
    split at ha
    case isFalse => cases ha
    rename_i hcond
    simp only [Bool.and_eq_true, Nat.beq_eq] at hcond
    obtain ⟨rfl, rfl⟩ := hcond
    replace ha := bind_some ha; obtain ⟨old, hold, ha⟩ := ha
    obtain ⟨o1, o2, o3⟩ := slice?_spec hold
    simp only [VR] at hs
    obtain ⟨p, ba, cap, s, q1, rfl, q3, q4, q5, q6, q7, q8, q9⟩ := hs
    obtain ⟨q, cur, fr, w1, w2, w3, w4, w5, w6, w7, w8, w9⟩ := H.objs _ _ ho
    rw [q1] at w1
    cases w1
    have hs' : s = i.size := by rw [w2] at q6; simp [esz, hi] at q6; exact q6.symm
    subst hs'
    rcases w9 with ⟨hx, _⟩ | ⟨_, w9, rfl⟩
    · cases hx
    -- the old cells
    have oldv := VRl_slice w6 hold
    obtain ⟨us, u1, u2, u3⟩ := VRl_values oldv
    have hjoin := joined u1 u3 r3
    have hul : us.length = n * info.size := by rw [u1, o1, g2]
    have hucell : 0 < cap → ∀ (j : Nat) u, us[j]? = some u → w.cell? (ba.add j) = some u := fun hcp j u hj => by
      have := q4 (by omega)
      subst this
      rw [add_none, cell_of w3, Nat.zero_add]
      have := u2 j u hj
      simpa using this
    -- growth
    have grow : ∀ (h0 : List AO), WR E B0 σ μ h0 w → (n + m) * i.bytes ≤ most ∧ n + m ≤ most → cap < n + m →
        ∃ y w' μ', (Builtin.append_ #[t, t] ty #[.slice (some ba) n cap, .slice (some a') m c]).run P w = .ok y w' ∧ VR E B0 σ μ' (.sl h0.length 0 (n + m) none) y ∧
          WR E B0 σ μ' (h0 ++ [.row e' (old ++ new) false false]) w' ∧ Ev h0 σ μ w (h0 ++ [.row e' (old ++ new) false false]) σ μ' w' := by
      intro h0 H0 hroom hlt
      unfold most at hroom
      have hcap := grownCap_ge w (n + m) cap e'
      have hlen : (us ++ vs).length = (old ++ new).length := by simp [u1, r1]
      obtain ⟨k1, k2, k3⟩ := grown_ok (z := z) (need := n + m) (cap := grownCap w (n + m) cap e') H0 hi (by omega) hzs hlen (by simp [o1, r2, Nat.add_mul]) hcap hjoin
      refine ⟨_, _, _, ?_, k3, k1, k2⟩
      have hfit : Builtin.nextslicecap (n + m) cap * info.bytes ≤ 281474976710656 := growslice_fits hlt (by rw [g3]; omega)
      have hold' : ∀ (j : Nat) u, us[j]? = some u → w.cell? (ba.add j) = some u := by
        by_cases hcp : 0 < cap
        · exact hucell hcp
        · have : n = 0 := by omega
          subst this
          have : us = [] := by have := hul; simp at this; exact this
          subst this
          simp
      have := run_append_grow w t ty e' info zv ht g1 g4 ba n cap us hul hold' a' m c vs rl r5 hlt (by omega) hfit
      rw [this]
      simp
    -- in place
    have stay : n * i.size + new.length ≤ cs.length → n + m ≤ cap →
        ∃ y w' , (Builtin.append_ #[t, t] ty #[.slice (some ba) n cap, .slice (some a') m c]).run P w = .ok y w' ∧ VR E B0 σ μ (.sl b 0 (n + m) cc) y ∧
          WR E B0 σ μ (h.set b (.row e' (setMany cs (n * i.size) new) ex false)) w' ∧ Ev h σ μ w (h.set b (.row e' (setMany cs (n * i.size) new) ex false)) σ μ w' := by
      intro hsure hle
      have := q4 (by omega)
      subst this
      have hrun := run_append_room w t ty e' info ht g1 p.blk n cap cur (by rw [w3]) a' m c vs rl r5 hones hle (by rw [g2, r1]; omega)
      refine ⟨_, _, hrun, ?_, ?_, ?_⟩
      · simp only [VR]
        exact ⟨p, _, cap, i.size, q1, rfl, hle, fun _ => rfl, q5, q6, q7, q8, q9⟩
      · refine H.set ho rfl q1 w9 (fun b hb => setRow_other w p.blk b _ hb) (by simp) ⟨p, _, (0, 0), q1, w2, setRow_heap w p.blk cur _ _ _ w3, ?_, ?_, ?_, ?_, w8, .inr ⟨rfl, w9, rfl⟩⟩
        · rw [w4]; simp [g2, r1]; omega
        · rw [setMany_length]; simp [g2, r1]; omega
        · rw [setMany_splice _ _ _ hsure]
          refine VRl_iff.2 fun k y hk => ?_
          simp only [Nat.zero_add, List.getElem?_toArray]
          have base : ∀ (k : Nat) y, cs[k]? = some y → ∃ u, cur[k]? = some u ∧ VR E B0 σ μ y u := fun k y hk => by simpa using VRl_iff.1 w6 k y hk
          refine joined (xs := cs.take (n * i.size) ++ new) (us := cur.toList.take (n * info.size) ++ vs) (by simp [g2, r1]; omega) (joined (by simp [g2]; omega) (fun j y hj => ?_) r3) (fun j y hj => ?_) k y hk
          · have hjl : j < n * i.size := by have := (List.getElem?_eq_some_iff.1 hj).1; simp at this; omega
            rw [List.getElem?_take_of_lt hjl] at hj
            obtain ⟨u, hu, hr⟩ := base j y hj
            exact ⟨u, by rw [g2, List.getElem?_take_of_lt hjl]; simpa using hu, hr⟩
          · rw [List.getElem?_drop] at hj
            obtain ⟨u, hu, hr⟩ := base _ y hj
            exact ⟨u, by rw [List.getElem?_drop, g2, r1]; simpa using hu, hr⟩
        · intro hex
          rw [setMany_length]; simp [g2, r1]
          have := w7 hex
          omega
      · exact Ev.set ho rfl q1 (fun b hb => setRow_other w p.blk b _ hb) (by simp) rfl rfl rfl
    split at ha
    · -- a known capacity
      rename_i k hk
      have hkc : k = cap := knownCap_sound (n := n) H hk q1 q7 q5 q9
      subst hkc
      split at ha
      · rename_i hle
        rw [Nat.ble_eq] at hle
        split at ha
        · rename_i hsure
          rw [Nat.ble_eq] at hsure
          simp only [Option.some.injEq, Prod.mk.injEq] at ha
          obtain ⟨rfl, rfl⟩ := ha
          obtain ⟨y, w', s1, s2, s3, s4⟩ := stay hsure hle
          exact ⟨y, w', μ, s1, s2, s3, s4⟩
        · cases ha
      · rename_i hle
        rw [Nat.ble_eq] at hle
        split at ha
        · rename_i hroom
          simp only [Bool.and_eq_true, Nat.ble_eq] at hroom
          simp only [Option.some.injEq, Prod.mk.injEq] at ha
          obtain ⟨rfl, rfl⟩ := ha
          exact grow h H hroom (by omega)
        · cases ha
    · -- an unknown capacity
      rename_i hk
      have hcn : cc = none := by
        cases cc with
        | none => rfl
        | some k => simp [knownCap] at hk
      subst hcn
      have hend := q9 rfl
      split at ha
      · rename_i hsure
        rw [Nat.ble_eq] at hsure
        simp only [Option.some.injEq, Prod.mk.injEq] at ha
        obtain ⟨rfl, rfl⟩ := ha
        have hle : n + m ≤ cap := by
          have h1 : (n + m) * i.size ≤ cap * i.size := by rw [Nat.add_mul, ← r2]; omega
          exact Nat.le_of_mul_le_mul_right h1 q7
        obtain ⟨y, w', s1, s2, s3, s4⟩ := stay hsure hle
        exact ⟨y, w', μ, s1, s2, s3, s4⟩
      · split at ha
        · rename_i hroom
          simp only [Bool.and_eq_true, Nat.ble_eq, Nat.beq_eq] at hroom
          obtain ⟨⟨htip, hroom1⟩, hroom2⟩ := hroom
          simp only [Option.some.injEq, Prod.mk.injEq] at ha
          obtain ⟨rfl, rfl⟩ := ha
          -- the old object is dead
          have Hd : WR E B0 σ μ (h.set b .dead) w := H.set ho rfl q1 w9 (fun _ _ => rfl) rfl trivial
          have Ed : Ev h σ μ w (h.set b .dead) σ μ w := Ev.set ho rfl q1 (fun _ _ => rfl) rfl rfl rfl rfl
          by_cases hle : n + m ≤ cap
          · have := q4 (by omega)
            subst this
            have hfit2 : n * i.size + new.length ≤ cur.size := by
              have h1 : (n + m) * i.size ≤ cap * i.size := Nat.mul_le_mul_right _ hle
              rw [Nat.add_mul, ← r2] at h1; omega
            have hrun := run_append_room w t ty e' info ht g1 p.blk n cap cur (by rw [w3]) a' m c vs rl r5 hones hle (by rw [g2, r1]; exact hfit2)
            have hlt := H.lt _ _ q1
            have hfree : ¬ Own (h.set b .dead) μ p.blk := by
              rintro ⟨j, o', q', hj, hl, hq, hbe⟩
              by_cases hjb : j = b
              · subst hjb
                rw [List.getElem?_set_self (List.getElem?_eq_some_iff.1 ho).1] at hj
                cases hj
                simp [AO.live] at hl
              · rw [List.getElem?_set_ne (Ne.symm hjb)] at hj
                exact hjb (H.inj j b o' _ q' p hj ho hl rfl hq q1 hbe)
            have hown : Own h μ p.blk := ⟨b, _, p, ho, rfl, q1, rfl⟩
            have husame : us = cur.toList.take (n * info.size) := by
              refine List.ext_getElem? fun j => ?_
              by_cases hj : j < us.length
              · have := u2 j us[j] (List.getElem?_eq_getElem hj)
                rw [List.getElem?_take_of_lt (by omega), List.getElem?_eq_getElem hj]
                simpa using this.symm
              · rw [List.getElem?_eq_none (by omega), List.getElem?_eq_none (by simp; omega)]
            have hnew := Hd.push' (w' := w.setRow p.blk (cur.toList.take (n * info.size) ++ vs ++ cur.toList.drop (n * info.size + vs.length)).toArray) (a := .row e' (old ++ new) false false) (p := ⟨p.blk, p.size, e'⟩)
              (fun b hb _ => setRow_other w p.blk b _ hb) (by simp) (by simpa using hlt) w9 hfree (by
              refine ⟨⟨p.blk, p.size, e'⟩, _, (0, 0), Mu.put_self _ _ _, rfl, setRow_heap w p.blk cur _ _ _ w3, ?_, ?_, ?_, by simp, w8, .inr ⟨rfl, w9, rfl⟩⟩
              · simp [g2, r1, w4]; omega
              · simp [g2, r1, o1]; omega
              · refine VRl.mono (Sg.le_refl _) (Mu.le_put (Hd.fresh _ (Nat.le_refl _))) _ _ _ ?_
                refine VRl_iff.2 fun k y hk => ?_
                simp only [Nat.zero_add, List.getElem?_toArray]
                obtain ⟨u, hu, hr⟩ := hjoin k y hk
                refine ⟨u, ?_, hr⟩
                have hkl : k < (us ++ vs).length := (List.getElem?_eq_some_iff.1 hu).1
                rw [← husame, List.getElem?_append_left hkl]
                exact hu)
            refine ⟨_, _, _, hrun, ?_, hnew, ?_⟩
            · simp only [VR]
              refine ⟨⟨p.blk, p.size, e'⟩, _, cap, i.size, by rw [show (h.set b AO.dead).length = h.length by simp]; exact Mu.put_self _ _ _, rfl, hle, fun _ => rfl, by simp, by simp [esz, hi], hc1, by simpa using q8, fun _ => by simpa using hend⟩
            · exact Ev.push' (by simp) (fun b' hb => own_set ho rfl hb) Hd.fresh (fun b' _ hn => setRow_other w p.blk b' _ (fun e => hn (e ▸ hown))) (by simp) (.inl hown) rfl rfl rfl
          · obtain ⟨y, w', μ', s1, s2, s3, s4⟩ := grow (h.set b .dead) Hd ⟨hroom1, hroom2⟩ (by omega)
            exact ⟨y, w', μ', s1, by simpa using s2, s3, Ed.trans s4⟩
        · cases ha
  · cases ha

end
end Go.Te
