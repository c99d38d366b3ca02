/- TE: how abstract values and heaps stand for the model's, and what stays so. -/
import Derived.Test.YtfcephkliamgfaaGreatDoorTeDef
import Derived.Laws.Sem
import Derived.Laws.World
namespace Go.Te
open Go

/-- Where an own object lies: its block, how many cells the block has, the type of its elements. -/
structure Pl where
  blk : Nat
  size : Nat
  e : TypeId

abbrev Sg := Nat → Option (TypeId × Array Value)
abbrev Mu := Nat → Option Pl
def NoMu : Mu := fun _ => none

def Sg.le (a b : Sg) : Prop := ∀ k x, a k = some x → b k = some x
def Mu.le (a b : Mu) : Prop := ∀ k x, a k = some x → b k = some x
theorem Sg.le_refl (a : Sg) : Sg.le a a := fun _ _ h => h
theorem Mu.le_refl (a : Mu) : Mu.le a a := fun _ _ h => h
theorem Sg.le_trans {a b c : Sg} (h : Sg.le a b) (k : Sg.le b c) : Sg.le a c := fun i x hi => k i x (h i x hi)
theorem Mu.le_trans {a b c : Mu} (h : Mu.le a b) (k : Mu.le b c) : Mu.le a c := fun i x hi => k i x (h i x hi)
theorem NoMu.le (a : Mu) : Mu.le NoMu a := fun _ _ h => by cases h

def FnR (μ : Mu) : Fn → Fn → Prop
  | .yield l, g => ∃ p, μ l = some p ∧ g = .yield p.blk
  | f, g => g = f

section
variable (E : Env) (B0 : Nat)

def esz (e : TypeId) : Option Nat := (E.ti e).map (·.size)

mutual
def VR (σ : Sg) (μ : Mu) : AV → Value → Prop
  | .bool b, v => v = .bool b
  | .int k n, v => v = .int k n
  | .str s, v => v = .string s
  | .nilp, v => v = .pointer none
  | .ptr b o, v => ∃ p, μ b = some p ∧ v = .pointer (some ⟨p.blk, o, none⟩)
  | .tptr e _ cs o, v => ∃ blk off e' c, σ blk = some (e', c) ∧ (e' = e ∨ blk < B0) ∧ VRl σ NoMu cs (fun j => c[j]?) off ∧ v = .pointer (some ⟨blk, off + o, none⟩)
  | .glob g o, v => v = .pointer (some ⟨g, o, none⟩)
  | .snil, v => v = .slice none 0 0
  | .slnil, v => ∃ a, v = .slice a 0 0
  | .sl b o n c, v => ∃ p a cap s, μ b = some p ∧ v = .slice (some a) n cap ∧ n ≤ cap ∧ (cap ≠ 0 → a = ⟨p.blk, o, none⟩) ∧ (∀ k, c = some k → cap = k) ∧
      esz E p.e = some s ∧ 0 < s ∧ o + cap * s ≤ p.size ∧ (c = none → o + cap * s = p.size)
  | .tree e n cs, v => ∃ a cap s, v = .slice a n cap ∧ n ≤ cap ∧ esz E e = some s ∧ 0 < s ∧ cs.length = n * s ∧
      ((n = 0 ∧ a.isSome = true) ∨ ∃ blk off e' c, a = some ⟨blk, off, none⟩ ∧ σ blk = some (e', c) ∧ (e' = e ∨ blk < B0) ∧ VRl σ NoMu cs (fun j => c[j]?) off)
  | .mapnil, v => v = .map none
  | .map b, v => ∃ p, μ b = some p ∧ v = .map (some p.blk)
  | .fn f xs ys, v => ∃ g a c, v = .func g a c ∧ FnR μ f g ∧ a.size = xs.length ∧ VRl σ μ xs (fun j => a[j]?) 0 ∧ c.size = ys.length ∧ VRl σ μ ys (fun j => c[j]?) 0
  | .nilfn, v => v = .nilFunc
  | .agg xs, v => ∃ a, v = .agg a ∧ a.size = xs.length ∧ VRl σ μ xs (fun j => a[j]?) 0
  | .tup xs, v => ∃ a, v = .tuple a ∧ a.size = xs.length ∧ VRl σ μ xs (fun j => a[j]?) 0
def VRl (σ : Sg) (μ : Mu) : List AV → (Nat → Option Value) → Nat → Prop
  | [], _, _ => True
  | x :: xs, f, p => (∃ v, f p = some v ∧ VR σ μ x v) ∧ VRl σ μ xs f (p + 1)
end

variable {E B0}

theorem VRl_iff {σ : Sg} {μ : Mu} : ∀ {xs : List AV} {f : Nat → Option Value} {p : Nat},
    VRl E B0 σ μ xs f p ↔ ∀ (i : Nat) (x : AV), xs[i]? = some x → ∃ v, f (p + i) = some v ∧ VR E B0 σ μ x v := by
  intro xs
  induction xs with
  | nil => intro f p; simp [VRl]
  | cons y ys ih =>
    intro f p
    simp only [VRl, ih]
    constructor
    · rintro ⟨h0, h1⟩ i x hx
      cases i with
      | zero => simp at hx; subst hx; simpa using h0
      | succ i =>
        have := h1 i x (by simpa using hx)
        rwa [show p + 1 + i = p + (i + 1) by omega] at this
    · intro h
      refine ⟨by simpa using h 0 y (by simp), fun i x hx => ?_⟩
      have := h (i + 1) x (by simpa using hx)
      rwa [show p + (i + 1) = p + 1 + i by omega] at this

theorem FnR.mono {μ μ' : Mu} (hμ : Mu.le μ μ') : ∀ (f g : Fn), FnR μ f g → FnR μ' f g
  | .yield l, g, h => by obtain ⟨p, h1, h2⟩ := h; exact ⟨p, hμ _ _ h1, h2⟩
  | .func _, _, h => h
  | .method _, _, h => h
  | .methodOf _ _, _, h => h
  | .via _ _ _ _, _, h => h

mutual
theorem VR.mono {σ σ' : Sg} {μ μ' : Mu} (hσ : Sg.le σ σ') (hμ : Mu.le μ μ') : ∀ (x : AV) (v : Value), VR E B0 σ μ x v → VR E B0 σ' μ' x v
  | .bool _, _, h => by simpa only [VR] using h
  | .int _ _, _, h => by simpa only [VR] using h
  | .str _, _, h => by simpa only [VR] using h
  | .nilp, _, h => by simpa only [VR] using h
  | .ptr _ _, _, h => by
    simp only [VR] at h ⊢
    obtain ⟨p, h1, h2⟩ := h
    exact ⟨p, hμ _ _ h1, h2⟩
  | .tptr _ _ cs _, _, h => by
    simp only [VR] at h ⊢
    obtain ⟨blk, off, e', c, h1, h2, h3, h4⟩ := h
    exact ⟨blk, off, e', c, hσ _ _ h1, h2, VRl.mono hσ (Mu.le_refl _) cs _ _ h3, h4⟩
  | .glob _ _, _, h => by simpa only [VR] using h
  | .snil, _, h => by simpa only [VR] using h
  | .slnil, _, h => by simpa only [VR] using h
  | .sl _ _ _ _, _, h => by
    simp only [VR] at h ⊢
    obtain ⟨p, a, cap, s, h1, h2⟩ := h
    exact ⟨p, a, cap, s, hμ _ _ h1, h2⟩
  | .tree _ _ cs, _, h => by
    simp only [VR] at h ⊢
    obtain ⟨a, cap, s, h1, h2, h3, h4, h5, h6⟩ := h
    refine ⟨a, cap, s, h1, h2, h3, h4, h5, ?_⟩
    rcases h6 with h6 | ⟨blk, off, e', c, g1, g2, g3, g4⟩
    · exact .inl h6
    · exact .inr ⟨blk, off, e', c, g1, hσ _ _ g2, g3, VRl.mono hσ (Mu.le_refl _) cs _ _ g4⟩
  | .mapnil, _, h => by simpa only [VR] using h
  | .map _, _, h => by
    simp only [VR] at h ⊢
    obtain ⟨p, h1, h2⟩ := h
    exact ⟨p, hμ _ _ h1, h2⟩
  | .fn f xs ys, _, h => by
    simp only [VR] at h ⊢
    obtain ⟨g, a, c, h1, h2, h3, h4, h5, h6⟩ := h
    exact ⟨g, a, c, h1, FnR.mono hμ _ _ h2, h3, VRl.mono hσ hμ xs _ _ h4, h5, VRl.mono hσ hμ ys _ _ h6⟩
  | .nilfn, _, h => by simpa only [VR] using h
  | .agg xs, _, h => by
    simp only [VR] at h ⊢
    obtain ⟨a, h1, h2, h3⟩ := h
    exact ⟨a, h1, h2, VRl.mono hσ hμ xs _ _ h3⟩
  | .tup xs, _, h => by
    simp only [VR] at h ⊢
    obtain ⟨a, h1, h2, h3⟩ := h
    exact ⟨a, h1, h2, VRl.mono hσ hμ xs _ _ h3⟩
theorem VRl.mono {σ σ' : Sg} {μ μ' : Mu} (hσ : Sg.le σ σ') (hμ : Mu.le μ μ') : ∀ (xs : List AV) (f : Nat → Option Value) (p : Nat),
    VRl E B0 σ μ xs f p → VRl E B0 σ' μ' xs f p
  | [], _, _, _ => by simp only [VRl]
  | x :: xs, f, p, h => by
    simp only [VRl] at h ⊢
    obtain ⟨⟨v, h1, h2⟩, h3⟩ := h
    exact ⟨⟨v, h1, VR.mono hσ hμ x v h2⟩, VRl.mono hσ hμ xs f (p + 1) h3⟩
end

variable (E B0)

def AO.live : AO → Bool
  | .dead => false
  | _ => true

/-- What an own object says of the model's heap. -/
def ObjR (σ : Sg) (μ : Mu) (w : World) (id : Nat) : AO → Prop
  | .row e cs ex sealed => ∃ p c fr, μ id = some p ∧ p.e = e ∧ w.heap[p.blk]? = some (.cells c e fr) ∧ p.size = c.size ∧
      cs.length ≤ c.size ∧ VRl E B0 σ μ cs (fun j => c[j]?) 0 ∧ (ex = true → cs.length = c.size) ∧ B0 ≤ p.blk ∧
      ((sealed = true ∧ σ p.blk = some (e, c)) ∨ (sealed = false ∧ σ p.blk = none ∧ fr = (0, 0)))
  | .map es clock => ∃ p es', μ id = some p ∧ w.heap[p.blk]? = some (.map es' clock) ∧ es'.size = es.length ∧
      (∀ (i : Nat) (k v : AV) (n : Nat), es[i]? = some (k, v, n) → ∃ m, es'[i]? = some m ∧ VR E B0 σ μ k m.key ∧ VR E B0 σ μ v m.val ∧ m.born = n) ∧ B0 ≤ p.blk ∧ σ p.blk = none
  | .iter m since seen last => ∃ p mb, μ id = some p ∧ w.heap[p.blk]? = some (.mapIter mb since seen.toArray last) ∧
      ((m = none ∧ mb = none) ∨ (∃ b q, m = some b ∧ μ b = some q ∧ mb = some q.blk)) ∧ B0 ≤ p.blk ∧ σ p.blk = none
  | .loop s pend t ps a b => ∃ (p : Pl) (L : Loop), μ id = some p ∧ w.heap[p.blk]? = some (.loop L) ∧ L.state = s ∧ L.pending = pend ∧ L.params.toList = ps ∧ L.assign = a ∧
      L.body = b ∧ L.tmps.size = t.length ∧ VRl E B0 σ μ t (fun j => L.tmps[j]?) 0 ∧ B0 ≤ p.blk ∧ σ p.blk = none
  | .deferred => ∃ p, μ id = some p ∧ w.heap[p.blk]? = some (.deferred (some [])) ∧ B0 ≤ p.blk ∧ σ p.blk = none
  | .dead => True

/-- A block that a live object has. -/
def Own (h : List AO) (μ : Mu) (b : Nat) : Prop := ∃ id o p, h[id]? = some o ∧ o.live = true ∧ μ id = some p ∧ p.blk = b

structure WR (σ : Sg) (μ : Mu) (h : List AO) (w : World) : Prop where
  stable : ∀ b e c, σ b = some (e, c) → ∃ fr, w.heap[b]? = some (.cells c e fr)
  objs : ∀ id o, h[id]? = some o → ObjR E B0 σ μ w id o
  fresh : ∀ id, h.length ≤ id → μ id = none
  glob : ∀ g cs, E.gv g = some cs → ∃ e c, σ g = some (e, c) ∧ VRl E B0 σ NoMu cs (fun j => c[j]?) 0
  inj : ∀ (i j : Nat) (a b : AO) (p q : Pl), h[i]? = some a → h[j]? = some b → a.live = true → b.live = true → μ i = some p → μ j = some q → p.blk = q.blk → i = j
  lt : ∀ id p, μ id = some p → p.blk < w.heap.size
  base : B0 ≤ w.heap.size

/-- From one moment to a later one. -/
structure Ev (h : List AO) (σ : Sg) (μ : Mu) (w : World) (h' : List AO) (σ' : Sg) (μ' : Mu) (w' : World) : Prop where
  sg : Sg.le σ σ'
  sgnew : ∀ b x, σ' b = some x → σ b = some x ∨ Own h μ b ∨ w.heap.size ≤ b
  mu : Mu.le μ μ'
  ids : ∀ id p, μ' id = some p → μ id = some p ∨ h.length ≤ id
  len : h.length ≤ h'.length
  own : ∀ b, Own h' μ' b → Own h μ b ∨ w.heap.size ≤ b
  os : w'.os = w.os
  tape : w'.tape = w.tape
  output : w'.output = w.output
  size : w.heap.size ≤ w'.heap.size
  keep : ∀ b, b < w.heap.size → ¬ Own h μ b → w'.heap[b]? = w.heap[b]?

variable {E B0}

theorem Ev.refl (h : List AO) (σ : Sg) (μ : Mu) (w : World) : Ev h σ μ w h σ μ w :=
  ⟨Sg.le_refl _, fun _ _ h => .inl h, Mu.le_refl _, fun _ _ h => .inl h, Nat.le_refl _, fun _ h => .inl h, rfl, rfl, rfl, Nat.le_refl _, fun _ _ _ => rfl⟩

theorem Ev.trans {h h1 h2 : List AO} {σ σ1 σ2 : Sg} {μ μ1 μ2 : Mu} {w w1 w2 : World} (H : Ev h σ μ w h1 σ1 μ1 w1) (K : Ev h1 σ1 μ1 w1 h2 σ2 μ2 w2) : Ev h σ μ w h2 σ2 μ2 w2 where
  sg := Sg.le_trans H.sg K.sg
  sgnew := fun b x hb => by
    rcases K.sgnew b x hb with h1 | h1 | h1
    · exact H.sgnew b x h1
    · exact .inr (H.own b h1)
    · exact .inr (.inr (Nat.le_trans H.size h1))
  mu := Mu.le_trans H.mu K.mu
  ids := fun id p hp => by
    rcases K.ids id p hp with h1 | h1
    · exact H.ids id p h1
    · exact .inr (Nat.le_trans H.len h1)
  len := Nat.le_trans H.len K.len
  own := fun b hb => by
    rcases K.own b hb with h1 | h1
    · exact H.own b h1
    · exact .inr (Nat.le_trans H.size h1)
  os := K.os.trans H.os
  tape := K.tape.trans H.tape
  output := K.output.trans H.output
  size := Nat.le_trans H.size K.size
  keep := fun b hb hn => by
    rw [K.keep b (Nat.lt_of_lt_of_le hb H.size) ?_, H.keep b hb hn]
    intro ho
    rcases H.own b ho with h1 | h1
    · exact hn h1
    · omega

/-- The world's count of draws means nothing here. -/
theorem WR.of_heap {σ : Sg} {μ : Mu} {h : List AO} {w w' : World} (H : WR E B0 σ μ h w) (e : w'.heap = w.heap) : WR E B0 σ μ h w' where
  stable := by rw [e]; exact H.stable
  objs := fun id o ho => by
    have := H.objs id o ho
    cases o with
    | dead => trivial
    | _ => simpa only [ObjR, e] using this
  fresh := H.fresh
  glob := H.glob
  inj := H.inj
  lt := by rw [e]; exact H.lt
  base := by rw [e]; exact H.base

theorem Ev.of_heap (h : List AO) (σ : Sg) (μ : Mu) (w : World) (n : Nat) : Ev h σ μ w h σ μ { w with drawn := n } :=
  ⟨Sg.le_refl _, fun _ _ h => .inl h, Mu.le_refl _, fun _ _ h => .inl h, Nat.le_refl _, fun _ h => .inl h, rfl, rfl, rfl, Nat.le_refl _, fun _ _ _ => rfl⟩

theorem ObjR.mono {σ σ' : Sg} {μ μ' : Mu} {w w' : World} {id : Nat} {o : AO} (h : ObjR E B0 σ μ w id o) (hσ : Sg.le σ σ') (hμ : Mu.le μ μ')
    (hw : o.live = true → ∀ p, μ id = some p → w'.heap[p.blk]? = w.heap[p.blk]?) (hs : o.live = true → ∀ p, μ id = some p → σ p.blk = none → σ' p.blk = none) : ObjR E B0 σ' μ' w' id o := by
  cases o with
  | row e cs ex sealed =>
    obtain ⟨p, c, fr, h1, h2, h3, h4, h5, h6, h7, h8, h9⟩ := h
    refine ⟨p, c, fr, hμ _ _ h1, h2, (hw rfl p h1).trans h3, h4, h5, VRl.mono hσ hμ _ _ _ h6, h7, h8, ?_⟩
    rcases h9 with ⟨g1, g2⟩ | ⟨g1, g2, g3⟩
    · exact .inl ⟨g1, hσ _ _ g2⟩
    · exact .inr ⟨g1, hs rfl p h1 g2, g3⟩
  | map es clock =>
    obtain ⟨p, es', h1, h2, h3, h4, h5, h6⟩ := h
    refine ⟨p, es', hμ _ _ h1, (hw rfl p h1).trans h2, h3, fun i k v n hi => ?_, h5, hs rfl p h1 h6⟩
    obtain ⟨m, g1, g2, g3, g4⟩ := h4 i k v n hi
    exact ⟨m, g1, VR.mono hσ hμ _ _ g2, VR.mono hσ hμ _ _ g3, g4⟩
  | iter m since seen last =>
    obtain ⟨p, mb, h1, h2, h3, h4, h5⟩ := h
    refine ⟨p, mb, hμ _ _ h1, (hw rfl p h1).trans h2, ?_, h4, hs rfl p h1 h5⟩
    rcases h3 with h3 | ⟨b, q, g1, g2, g3⟩
    · exact .inl h3
    · exact .inr ⟨b, q, g1, hμ _ _ g2, g3⟩
  | loop s pend t ps a b =>
    obtain ⟨p, L, h1, h2, h3, h4, h5, h6, h7, h8, h9, h10, h11⟩ := h
    exact ⟨p, L, hμ _ _ h1, (hw rfl p h1).trans h2, h3, h4, h5, h6, h7, h8, VRl.mono hσ hμ _ _ _ h9, h10, hs rfl p h1 h11⟩
  | deferred =>
    obtain ⟨p, h1, h2, h3, h4⟩ := h
    exact ⟨p, hμ _ _ h1, (hw rfl p h1).trans h2, h3, hs rfl p h1 h4⟩
  | dead => trivial

theorem ObjR.place {σ : Sg} {μ : Mu} {w : World} {id : Nat} {o : AO} (h : ObjR E B0 σ μ w id o) (hl : o.live = true) : ∃ p, μ id = some p ∧ B0 ≤ p.blk := by
  cases o with
  | dead => simp [AO.live] at hl
  | row e cs ex sealed => obtain ⟨p, _, _, h1, _, _, _, _, _, _, h8, _⟩ := h; exact ⟨p, h1, h8⟩
  | map es clock => obtain ⟨p, _, h1, _, _, _, h5, _⟩ := h; exact ⟨p, h1, h5⟩
  | iter m since seen last => obtain ⟨p, _, h1, _, _, h4, _⟩ := h; exact ⟨p, h1, h4⟩
  | loop s pend t ps a b => obtain ⟨p, _, h1, _, _, _, _, _, _, _, _, h10, _⟩ := h; exact ⟨p, h1, h10⟩
  | deferred => obtain ⟨p, h1, _, h3, _⟩ := h; exact ⟨p, h1, h3⟩

theorem Own.base {σ : Sg} {μ : Mu} {h : List AO} {w : World} {b : Nat} (H : WR E B0 σ μ h w) (ho : Own h μ b) : B0 ≤ b ∧ b < w.heap.size := by
  obtain ⟨id, o, p, h1, h2, h3, rfl⟩ := ho
  obtain ⟨q, g1, g2⟩ := (H.objs id o h1).place h2
  rw [h3] at g1; cases g1
  exact ⟨g2, H.lt _ _ h3⟩

theorem own_set {h : List AO} {μ : Mu} {id : Nat} {o o' : AO} {b : Nat} (ho : h[id]? = some o) (hl : o.live = true) (hb : Own (h.set id o') μ b) : Own h μ b := by
  obtain ⟨k, x, p, h1, h2, h3, h4⟩ := hb
  by_cases hk : k = id
  · subst hk; exact ⟨k, o, p, ho, hl, h3, h4⟩
  · rw [List.getElem?_set_ne (Ne.symm hk)] at h1; exact ⟨k, x, p, h1, h2, h3, h4⟩

/-- One live, unsealed object turns; its block alone. -/
theorem WR.set {σ : Sg} {μ : Mu} {h : List AO} {w w' : World} {id : Nat} {o o' : AO} {p : Pl} (H : WR E B0 σ μ h w) (ho : h[id]? = some o) (hl : o.live = true)
    (hp : μ id = some p) (hs : σ p.blk = none) (hw : ∀ b, b ≠ p.blk → w'.heap[b]? = w.heap[b]?) (hz : w'.heap.size = w.heap.size)
    (hn : ObjR E B0 σ μ w' id o') : WR E B0 σ μ (h.set id o') w' where
  stable := fun b e c hb => by
    by_cases hbp : b = p.blk
    · subst hbp; rw [hs] at hb; cases hb
    · rw [hw b hbp]; exact H.stable b e c hb
  objs := fun j a hj => by
    by_cases hji : j = id
    · subst hji
      have hlt : j < h.length := (List.getElem?_eq_some_iff.1 ho).1
      rw [List.getElem?_set_self hlt] at hj
      cases hj
      exact hn
    · rw [List.getElem?_set_ne (Ne.symm hji)] at hj
      by_cases hla : a.live = true
      · refine (H.objs j a hj).mono (Sg.le_refl _) (Mu.le_refl _) (fun _ q hq => hw q.blk fun e => hji (H.inj j id a o q p hj ho hla hl hq hp e)) (fun _ _ _ h => h)
      · cases a <;> first | trivial | (simp [AO.live] at hla)
  fresh := fun j hj => H.fresh j (by simpa using hj)
  glob := H.glob
  inj := fun i j a b q r hi hj la lb hq hr e => by
    have conv : ∀ (k : Nat) (x : AO), (h.set id o')[k]? = some x → x.live = true → ∃ y : AO, h[k]? = some y ∧ y.live = true := by
      intro k x hk lx
      by_cases hkid : k = id
      · subst hkid; exact ⟨o, ho, hl⟩
      · rw [List.getElem?_set_ne (Ne.symm hkid)] at hk; exact ⟨x, hk, lx⟩
    obtain ⟨a', ha', la'⟩ := conv i a hi la
    obtain ⟨b', hb', lb'⟩ := conv j b hj lb
    exact H.inj i j a' b' q r ha' hb' la' lb' hq hr e
  lt := fun j q hq => by rw [hz]; exact H.lt j q hq
  base := by rw [hz]; exact H.base

theorem Ev.set {h : List AO} {σ : Sg} {μ : Mu} {w w' : World} {id : Nat} {o o' : AO} {p : Pl} (ho : h[id]? = some o) (hl : o.live = true) (hp : μ id = some p) (hw : ∀ b, b ≠ p.blk → w'.heap[b]? = w.heap[b]?) (hz : w'.heap.size = w.heap.size)
    (h1 : w'.os = w.os) (h2 : w'.tape = w.tape) (h3 : w'.output = w.output) : Ev h σ μ w (h.set id o') σ μ w' where
  sg := Sg.le_refl _
  sgnew := fun _ _ h => .inl h
  mu := Mu.le_refl _
  ids := fun _ _ h => .inl h
  len := by simp
  own := fun b hb => .inl (own_set ho hl hb)
  os := h1
  tape := h2
  output := h3
  size := by rw [hz]; exact Nat.le_refl _
  keep := fun b _ hn => hw b (fun e => hn ⟨id, o, p, ho, hl, hp, e.symm⟩)

def Mu.put (μ : Mu) (id : Nat) (p : Pl) : Mu := fun k => if k = id then some p else μ k
theorem Mu.put_self (μ : Mu) (id : Nat) (p : Pl) : Mu.put μ id p id = some p := by simp [Mu.put]
theorem Mu.put_ne {μ : Mu} {id k : Nat} {p : Pl} (h : k ≠ id) : Mu.put μ id p k = μ k := by simp [Mu.put, h]
theorem Mu.le_put {μ : Mu} {id : Nat} {p : Pl} (h : μ id = none) : Mu.le μ (Mu.put μ id p) := fun k x hk => by
  by_cases e : k = id
  · subst e; rw [h] at hk; cases hk
  · simpa [Mu.put, e] using hk

theorem heap_alloc_lt (w : World) (o : Obj) {b : Nat} (h : b < w.heap.size) : (w.alloc o).heap[b]? = w.heap[b]? := by
  simp only [World.alloc]
  rw [Array.getElem?_push_lt h, Array.getElem?_eq_getElem h]
theorem heap_alloc_new (w : World) (o : Obj) : (w.alloc o).heap[w.heap.size]? = some o := by simp only [World.alloc]; exact Array.getElem?_push_size
theorem heap_alloc_size (w : World) (o : Obj) : (w.alloc o).heap.size = w.heap.size + 1 := by simp only [World.alloc]; exact Array.size_push _

/-- A dead place is filled: with a block of its own. 'w'': the old blocks, but for that one, are as they were. -/
theorem WR.fill {σ : Sg} {μ : Mu} {h : List AO} {w w' : World} {id : Nat} {a : AO} {p : Pl} (H : WR E B0 σ μ h w) (hd : h[id]? = some .dead) (hμ : μ id = none)
    (hw : ∀ b, b ≠ p.blk → b < w.heap.size → w'.heap[b]? = w.heap[b]?) (hz : w.heap.size ≤ w'.heap.size) (hlt : p.blk < w'.heap.size) (hσ : σ p.blk = none) (hfree : ¬ Own h μ p.blk)
    (hn : ObjR E B0 σ (Mu.put μ id p) w' id a) : WR E B0 σ (Mu.put μ id p) (h.set id a) w' where
  stable := fun b e c hb => by
    obtain ⟨fr, hf⟩ := H.stable b e c hb
    refine ⟨fr, (hw b (fun e => ?_) (Array.getElem?_eq_some_iff.1 hf).1).trans hf⟩
    rw [e, hσ] at hb; cases hb
  objs := fun j x hj => by
    by_cases hji : j = id
    · subst hji
      rw [List.getElem?_set_self (List.getElem?_eq_some_iff.1 hd).1] at hj
      cases hj
      exact hn
    · rw [List.getElem?_set_ne (Ne.symm hji)] at hj
      exact (H.objs j x hj).mono (Sg.le_refl _) (Mu.le_put hμ) (fun hl q hq => hw q.blk (fun e => hfree ⟨j, x, q, hj, hl, hq, e⟩) (H.lt j q hq)) (fun _ _ _ h => h)
  fresh := fun j hj => by
    simp at hj
    have : j ≠ id := by have := (List.getElem?_eq_some_iff.1 hd).1; omega
    rw [Mu.put_ne this]; exact H.fresh j hj
  glob := H.glob
  inj := fun i j x y q r hi hj lx ly hq hr e => by
    by_cases hi' : i = id <;> by_cases hj' : j = id
    · rw [hi', hj']
    · exfalso
      subst hi'
      rw [Mu.put_self] at hq; cases hq
      rw [Mu.put_ne hj'] at hr
      rw [List.getElem?_set_ne (Ne.symm hj')] at hj
      exact hfree ⟨j, y, r, hj, ly, hr, e.symm⟩
    · exfalso
      subst hj'
      rw [Mu.put_self] at hr; cases hr
      rw [Mu.put_ne hi'] at hq
      rw [List.getElem?_set_ne (Ne.symm hi')] at hi
      exact hfree ⟨i, x, q, hi, lx, hq, e⟩
    · rw [List.getElem?_set_ne (Ne.symm hi')] at hi
      rw [List.getElem?_set_ne (Ne.symm hj')] at hj
      rw [Mu.put_ne hi'] at hq
      rw [Mu.put_ne hj'] at hr
      exact H.inj i j x y q r hi hj lx ly hq hr e
  lt := fun j q hq => by
    by_cases e : j = id
    · subst e; rw [Mu.put_self] at hq; cases hq; exact hlt
    · rw [Mu.put_ne e] at hq; exact Nat.lt_of_lt_of_le (H.lt j q hq) hz
  base := Nat.le_trans H.base hz

/-- A dead place at the end means nothing. -/
theorem WR.dead {σ : Sg} {μ : Mu} {h : List AO} {w : World} (H : WR E B0 σ μ h w) : WR E B0 σ μ (h ++ [.dead]) w where
  stable := H.stable
  objs := fun j x hj => by
    by_cases hjl : j < h.length
    · rw [List.getElem?_append_left hjl] at hj; exact H.objs j x hj
    · have : j = h.length := by
        have := (List.getElem?_eq_some_iff.1 hj).1
        simp at this; omega
      subst this
      simp at hj; subst hj; trivial
  fresh := fun j hj => H.fresh j (by simp at hj; omega)
  glob := H.glob
  inj := fun i j x y q r hi hj lx ly hq hr e => by
    have bnd : ∀ (k : Nat) (z : AO), (h ++ [AO.dead])[k]? = some z → z.live = true → h[k]? = some z := by
      intro k z hk lz
      by_cases hkl : k < h.length
      · rwa [List.getElem?_append_left hkl] at hk
      · have := (List.getElem?_eq_some_iff.1 hk).1
        simp at this
        have : k = h.length := by omega
        subst this
        simp at hk; subst hk; simp [AO.live] at lz
    exact H.inj i j x y q r (bnd i x hi lx) (bnd j y hj ly) lx ly hq hr e
  lt := H.lt
  base := H.base

theorem own_dead {h : List AO} {μ : Mu} {b : Nat} (hb : Own (h ++ [.dead]) μ b) : Own h μ b := by
  obtain ⟨k, x, p, h1, h2, h3, h4⟩ := hb
  by_cases hk : k < h.length
  · rw [List.getElem?_append_left hk] at h1; exact ⟨k, x, p, h1, h2, h3, h4⟩
  · have := (List.getElem?_eq_some_iff.1 h1).1
    simp at this
    have : k = h.length := by omega
    subst this
    simp at h1; subst h1; simp [AO.live] at h2

theorem Ev.dead (h : List AO) (σ : Sg) (μ : Mu) (w : World) : Ev h σ μ w (h ++ [.dead]) σ μ w where
  sg := Sg.le_refl _
  sgnew := fun _ _ h => .inl h
  mu := Mu.le_refl _
  ids := fun _ _ h => .inl h
  len := by simp
  own := fun b hb => .inl (own_dead hb)
  os := rfl
  tape := rfl
  output := rfl
  size := Nat.le_refl _
  keep := fun _ _ _ => rfl

theorem set_append (h : List AO) (a : AO) : (h ++ [AO.dead]).set h.length a = h ++ [a] := by simp

/-- A new object in a block of its own. -/
theorem WR.push' {σ : Sg} {μ : Mu} {h : List AO} {w w' : World} {a : AO} {p : Pl} (H : WR E B0 σ μ h w)
    (hw : ∀ b, b ≠ p.blk → b < w.heap.size → w'.heap[b]? = w.heap[b]?) (hz : w.heap.size ≤ w'.heap.size) (hlt : p.blk < w'.heap.size) (hσ : σ p.blk = none) (hfree : ¬ Own h μ p.blk)
    (hn : ObjR E B0 σ (Mu.put μ h.length p) w' h.length a) : WR E B0 σ (Mu.put μ h.length p) (h ++ [a]) w' := by
  have := H.dead.fill (id := h.length) (a := a) (p := p) (by simp) (H.fresh _ (Nat.le_refl _)) hw hz hlt hσ (fun ho => hfree (own_dead ho)) hn
  rwa [set_append] at this

theorem Ev.push' {h h0 : List AO} {σ : Sg} {μ : Mu} {w w' : World} {a : AO} {p : Pl} (hl : h.length = h0.length) (hown : ∀ b, Own h μ b → Own h0 μ b) (hf : ∀ id, h.length ≤ id → μ id = none)
    (hw : ∀ b, b < w.heap.size → ¬ Own h0 μ b → w'.heap[b]? = w.heap[b]?) (hz : w.heap.size ≤ w'.heap.size) (hp : Own h0 μ p.blk ∨ w.heap.size ≤ p.blk)
    (h1 : w'.os = w.os) (h2 : w'.tape = w.tape) (h3 : w'.output = w.output) : Ev h0 σ μ w (h ++ [a]) σ (Mu.put μ h.length p) w' where
  sg := Sg.le_refl _
  sgnew := fun _ _ h => .inl h
  mu := Mu.le_put (hf _ (Nat.le_refl _))
  ids := fun id q hq => by
    by_cases e : id = h.length
    · exact .inr (by omega)
    · rw [Mu.put_ne e] at hq; exact .inl hq
  len := by simp; omega
  own := fun b hb => by
    obtain ⟨k, x, q, g1, g2, g3, g4⟩ := hb
    by_cases hk : k < h.length
    · rw [List.getElem?_append_left hk] at g1
      rw [Mu.put_ne (by omega)] at g3
      exact .inl (hown b ⟨k, x, q, g1, g2, g3, g4⟩)
    · have := (List.getElem?_eq_some_iff.1 g1).1
      simp at this
      have : k = h.length := by omega
      subst this
      rw [Mu.put_self] at g3; cases g3
      rw [← g4]; exact hp
  os := h1
  tape := h2
  output := h3
  size := hz
  keep := hw

theorem WR.noSg {σ : Sg} {μ : Mu} {h : List AO} {w : World} {b : Nat} (H : WR E B0 σ μ h w) (hb : w.heap.size ≤ b) : σ b = none := by
  cases hs : σ b with
  | none => rfl
  | some x =>
    obtain ⟨fr, hf⟩ := H.stable b x.1 x.2 hs
    have := (Array.getElem?_eq_some_iff.1 hf).1
    omega

theorem WR.noOwn {σ : Sg} {μ : Mu} {h : List AO} {w : World} {b : Nat} (H : WR E B0 σ μ h w) (hb : w.heap.size ≤ b) : ¬ Own h μ b := by
  rintro ⟨id, o, p, h1, h2, h3, rfl⟩
  have := H.lt _ _ h3
  omega

/-- A new object in a new block. -/
theorem WR.push {σ : Sg} {μ : Mu} {h : List AO} {w : World} {o : Obj} {a : AO} {p : Pl} (H : WR E B0 σ μ h w) (hp : p.blk = w.heap.size)
    (hn : ObjR E B0 σ (Mu.put μ h.length p) (w.alloc o) h.length a) : WR E B0 σ (Mu.put μ h.length p) (h ++ [a]) (w.alloc o) :=
  H.push' (fun b _ hb => heap_alloc_lt w o hb) (by rw [heap_alloc_size]; omega) (by rw [heap_alloc_size]; omega) (H.noSg (by omega)) (H.noOwn (by omega)) hn

theorem Ev.push {σ : Sg} {μ : Mu} {h : List AO} {w : World} {p : Pl} (o : Obj) (a : AO) (H : WR E B0 σ μ h w) (hp : p.blk = w.heap.size) : Ev h σ μ w (h ++ [a]) σ (Mu.put μ h.length p) (w.alloc o) :=
  Ev.push' rfl (fun _ h => h) H.fresh (fun b hb _ => heap_alloc_lt w o hb) (by rw [heap_alloc_size]; omega) (.inr (by omega)) rfl rfl rfl

/-- .. in a place that was kept for it. -/
theorem WR.place {σ : Sg} {μ : Mu} {h : List AO} {w : World} {o : Obj} {a : AO} {p : Pl} {id : Nat} (H : WR E B0 σ μ h w) (hp : p.blk = w.heap.size) (hd : h[id]? = some .dead) (hμ : μ id = none)
    (hn : ObjR E B0 σ (Mu.put μ id p) (w.alloc o) id a) : WR E B0 σ (Mu.put μ id p) (h.set id a) (w.alloc o) :=
  H.fill hd hμ (fun b _ hb => heap_alloc_lt w o hb) (by rw [heap_alloc_size]; omega) (by rw [heap_alloc_size]; omega) (H.noSg (by omega)) (H.noOwn (by omega)) hn

/-- Fewer live objects. -/
theorem WR.forget {σ : Sg} {μ : Mu} {h h' : List AO} {w : World} (H : WR E B0 σ μ h w) (hl : h'.length = h.length) (hd : ∀ id : Nat, h'[id]? = h[id]? ∨ h'[id]? = some AO.dead) : WR E B0 σ μ h' w where
  stable := H.stable
  objs := fun id o ho => by
    rcases hd id with h1 | h1
    · exact H.objs id o (h1 ▸ ho)
    · rw [h1] at ho; cases ho; trivial
  fresh := fun id hid => H.fresh id (by omega)
  glob := H.glob
  inj := fun i j a b p q hi hj la lb hp hq e => by
    have conv : ∀ (k : Nat) (x : AO), h'[k]? = some x → x.live = true → h[k]? = some x := by
      intro k x hk lx
      rcases hd k with h1 | h1
      · rwa [h1] at hk
      · rw [h1] at hk; cases hk; simp [AO.live] at lx
    exact H.inj i j a b p q (conv i a hi la) (conv j b hj lb) la lb hp hq e
  lt := H.lt
  base := H.base

theorem own_forget {h h' : List AO} {μ : Mu} {b : Nat} (hd : ∀ id : Nat, h'[id]? = h[id]? ∨ h'[id]? = some AO.dead) (hb : Own h' μ b) : Own h μ b := by
  obtain ⟨k, x, p, h1, h2, h3, h4⟩ := hb
  rcases hd k with g | g
  · exact ⟨k, x, p, g ▸ h1, h2, h3, h4⟩
  · rw [g] at h1; cases h1; simp [AO.live] at h2

/-- What was hidden from a step stands as before behind it. -/
theorem WR.restore {σ σ' : Sg} {μ μ' : Mu} {h hm hm' h' : List AO} {w w' : World} (H : WR E B0 σ μ h w) (hl : hm.length = h.length) (hd : ∀ id : Nat, hm[id]? = h[id]? ∨ hm[id]? = some AO.dead)
    (H' : WR E B0 σ' μ' hm' w') (ev : Ev hm σ μ w hm' σ' μ' w') (hl' : h'.length = hm'.length)
    (hd' : ∀ id : Nat, h'[id]? = hm'[id]? ∨ (hm[id]? = some AO.dead ∧ h'[id]? = h[id]?)) : WR E B0 σ' μ' h' w' ∧ Ev h σ μ w h' σ' μ' w' := by
  -- a hidden object's block is no one's in 'hm'
  have hid : ∀ id o p, h[id]? = some o → o.live = true → hm[id]? = some .dead → μ id = some p → ¬ Own hm μ p.blk := by
    intro id o p ho lo hm0 hp hown
    obtain ⟨k, x, q, g1, g2, g3, g4⟩ := hown
    rcases hd k with e | e
    · have := H.inj k id x o q p (e ▸ g1) ho g2 lo g3 hp g4
      subst this
      rw [hm0] at g1; cases g1; simp [AO.live] at g2
    · rw [e] at g1; cases g1; simp [AO.live] at g2
  have hpl : ∀ id o, h[id]? = some o → o.live = true → ∃ p, μ id = some p := fun id o ho lo => let ⟨p, h1, _⟩ := (H.objs id o ho).place lo; ⟨p, h1⟩
  refine ⟨⟨H'.stable, fun id o ho => ?_, fun id hid => H'.fresh id (by omega), H'.glob, fun i j a b p q hi hj la lb hp hq e => ?_, H'.lt, H'.base⟩,
    ⟨ev.sg, fun b x hb => ?_, ev.mu, fun id p hp => ?_, by rw [hl', ← hl]; exact ev.len, fun b hb => ?_, ev.os, ev.tape, ev.output, ev.size, fun b hb hn => ev.keep b hb (fun ho => hn (own_forget hd ho))⟩⟩
  · rcases hd' id with e | ⟨e0, e1⟩
    · exact H'.objs id o (e ▸ ho)
    · rw [e1] at ho
      by_cases lo : o.live = true
      · refine (H.objs id o ho).mono ev.sg ev.mu (fun _ p hp => ev.keep _ (H.lt _ _ hp) (hid id o p ho lo e0 hp)) (fun _ p hp hs => ?_)
        cases hs' : σ' p.blk with
        | none => rfl
        | some x =>
          rcases ev.sgnew _ _ hs' with g | g | g
          · rw [hs] at g; cases g
          · exact absurd g (hid id o p ho lo e0 hp)
          · have := H.lt _ _ hp; omega
      · cases o <;> first | trivial | (simp [AO.live] at lo)
  · -- blocks apart
    have two : ∀ (i j : Nat) (a b : AO) (p q : Pl), hm[i]? = some .dead → h[i]? = some a → a.live = true → μ' i = some p → hm'[j]? = some b → b.live = true → μ' j = some q → p.blk = q.blk → False := by
      intro i j a b p q e0 hi la hp hj lb hq e
      obtain ⟨p0, hp0⟩ := hpl i a hi la
      have := ev.mu _ _ hp0
      rw [hp] at this; cases this
      have hno := hid i a p hi la e0 hp0
      rcases ev.own q.blk ⟨j, b, q, hj, lb, hq, rfl⟩ with g | g
      · exact hno (e ▸ g)
      · have := H.lt _ _ hp0; omega
    rcases hd' i with ei | ⟨ei0, ei1⟩ <;> rcases hd' j with ej | ⟨ej0, ej1⟩
    · exact H'.inj i j a b p q (ei ▸ hi) (ej ▸ hj) la lb hp hq e
    · exact (two j i b a q p ej0 (ej1 ▸ hj) lb hq (ei ▸ hi) la hp e.symm).elim
    · exact (two i j a b p q ei0 (ei1 ▸ hi) la hp (ej ▸ hj) lb hq e).elim
    · rw [ei1] at hi
      rw [ej1] at hj
      obtain ⟨p0, hp0⟩ := hpl i a hi la
      obtain ⟨q0, hq0⟩ := hpl j b hj lb
      have e1 := ev.mu _ _ hp0
      have e2 := ev.mu _ _ hq0
      rw [hp] at e1; cases e1
      rw [hq] at e2; cases e2
      exact H.inj i j a b p q hi hj la lb hp0 hq0 e
  · rcases ev.sgnew b x hb with g | g | g
    · exact .inl g
    · exact .inr (.inl (own_forget hd g))
    · exact .inr (.inr g)
  · rcases ev.ids id p hp with g | g
    · exact .inl g
    · exact .inr (by omega)
  · obtain ⟨k, x, p, h1, h2, h3, h4⟩ := hb
    rcases hd' k with e | ⟨e0, e1⟩
    · rcases ev.own b ⟨k, x, p, e ▸ h1, h2, h3, h4⟩ with g | g
      · exact .inl (own_forget hd g)
      · exact .inr g
    · rw [e1] at h1
      obtain ⟨p0, hp0⟩ := hpl k x h1 h2
      have := ev.mu _ _ hp0
      rw [h3] at this; cases this
      exact .inl ⟨k, x, p, h1, h2, hp0, h4⟩

end
end Go.Te
