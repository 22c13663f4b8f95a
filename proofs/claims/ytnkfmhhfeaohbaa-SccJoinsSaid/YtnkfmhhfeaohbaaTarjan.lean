/- The search for parts, plainly: what holds at the head of its loop, and what each step does to it. No program in sight. -/
import Derived.Test.YtnkfmhhfeaohbaaGraph
namespace Go.Own

/-- A function turned at one place. -/
def up {α : Type} (f : Nat → α) (i : Nat) (v : α) : Nat → α := fun j => if j = i then v else f j
theorem up_same {α : Type} (f : Nat → α) (i : Nat) (v : α) : up f i v i = v := by simp [up]
theorem up_other {α : Type} (f : Nat → α) (i j : Nat) (v : α) (h : j ≠ i) : up f i v j = f j := by simp [up, h]

/-- The search's state: stack and way as lists, the first one that was come to ahead. -/
structure St where
  num : Nat → Nat
  low : Nat → Nat
  next : Nat → Nat
  part : Nat → Nat
  inn : Nat → Bool
  stack : List Nat
  way : List Nat
  cnt : Nat

def deg (E : List (List Int)) (v : Nat) : Nat := (E.getD v []).length
/-- An edge that has been looked at. -/
def Pr (E : List (List Int)) (s : St) (v y : Nat) : Prop := y < E.length ∧ (y : Int) ∈ (E.getD v []).take (s.next v)

structure Inv (E : List (List Int)) (s : St) : Prop where
  mem : ∀ v ∈ s.stack, v < E.length ∧ s.num v ≠ 0
  inn : ∀ v, v < E.length → (s.inn v = true ↔ v ∈ s.stack)
  sorted : s.stack.Pairwise (fun a b => s.num a < s.num b)
  sub : s.way.Sublist s.stack
  cnt : ∀ v, v < E.length → s.num v ≤ s.cnt
  chain : s.way.Pairwise (fun a b => Reach E a b)
  seg : ∀ v ∈ s.stack, ∃ g ∈ s.way, s.num g ≤ s.num v ∧ (∀ g' ∈ s.way, s.num g' ≤ s.num v → s.num g' ≤ s.num g) ∧ Reach E g v ∧ Reach E v g ∧ ∀ y, Pr E s v y → y ∈ s.stack → s.low g ≤ s.num y
  seen : ∀ v y, v < E.length → Pr E s v y → s.num y ≠ 0
  low : ∀ v ∈ s.stack, s.low v ≤ s.num v ∧ ∃ u ∈ s.stack, s.num u = s.low v ∧ Reach E v u
  done : ∀ v, v < E.length → s.num v ≠ 0 → v ∉ s.stack → IsMin E v (s.part v) ∧ ∀ y, adj E v y → s.num y ≠ 0 ∧ y ∉ s.stack
  full : ∀ v, v < E.length → s.num v ≠ 0 → v ∉ s.way → s.next v = deg E v
  next : ∀ v, v < E.length → s.next v ≤ deg E v
  fresh : ∀ v, v < E.length → s.num v = 0 → s.next v = 0

theorem sorted_inj {s : List Nat} {f : Nat → Nat} (h : s.Pairwise (fun a b => f a < f b)) : ∀ a ∈ s, ∀ b ∈ s, f a = f b → a = b := by
  induction s with
  | nil => intro a ha; cases ha
  | cons x l ih =>
    rw [List.pairwise_cons] at h
    intro a ha b hb e
    rcases List.mem_cons.1 ha with ha' | ha'
    · rcases List.mem_cons.1 hb with hb' | hb'
      · rw [ha', hb']
      · have := h.1 b hb'; rw [← ha'] at this; omega
    · rcases List.mem_cons.1 hb with hb' | hb'
      · have := h.1 a ha'; rw [← hb'] at this; omega
      · exact ih h.2 a ha' b hb' e

theorem take_next (l : List Int) (k : Nat) (h : k < l.length) : l.take (k + 1) = l.take k ++ [l.getD k 0] := by
  rw [List.take_succ_eq_append_getElem h]; simp [List.getD, h]

section
variable {E : List (List Int)} {s : St}

theorem Inv.way_mem (h : Inv E s) {v : Nat} (hv : v ∈ s.way) : v ∈ s.stack := h.sub.subset hv
theorem Inv.inj (h : Inv E s) {a b : Nat} (ha : a ∈ s.stack) (hb : b ∈ s.stack) (e : s.num a = s.num b) : a = b := sorted_inj h.sorted a ha b hb e
theorem Inv.wsorted (h : Inv E s) : s.way.Pairwise (fun a b => s.num a < s.num b) := h.sorted.sublist h.sub
/-- A node of the way is its own segment's head. -/
theorem Inv.self (h : Inv E s) {x : Nat} (hx : x ∈ s.way) : ∀ y, Pr E s x y → y ∈ s.stack → s.low x ≤ s.num y := by
  obtain ⟨g, hg, h1, h2, _, _, h5⟩ := h.seg x (h.way_mem hx)
  have h3 := h2 x hx (Nat.le_refl _)
  have : g = x := h.inj (h.way_mem hg) (h.way_mem hx) (by omega)
  subst this; exact h5

/-- Without a way there is no stack: all that was come to is done. -/
theorem Inv.empty (h : Inv E s) (hw : s.way = []) : s.stack = [] := by
  cases hs : s.stack with
  | nil => rfl
  | cons v l =>
    obtain ⟨g, hg, _⟩ := h.seg v (by rw [hs]; exact List.mem_cons_self)
    rw [hw] at hg; cases hg

/-- A node is come to. -/
def St.come (s : St) (y : Nat) : St := { s with num := up s.num y (s.cnt + 1), low := up s.low y (s.cnt + 1), inn := up s.inn y true, stack := s.stack ++ [y], way := s.way ++ [y], cnt := s.cnt + 1 }

theorem Inv.come (h : Inv E s) {y : Nat} (hy : y < E.length) (h0 : s.num y = 0) (hr : ∀ g ∈ s.way, Reach E g y) : Inv E (s.come y) := by
  have hys : y ∉ s.stack := fun hm => (h.mem y hm).2 h0
  have hyw : y ∉ s.way := fun hm => hys (h.way_mem hm)
  have hne : ∀ v ∈ s.stack, v ≠ y := fun v hv e => hys (e ▸ hv)
  have hn : ∀ v ∈ s.stack, (s.come y).num v = s.num v := fun v hv => up_other _ _ _ _ (hne v hv)
  have hl : ∀ v ∈ s.stack, (s.come y).low v = s.low v := fun v hv => up_other _ _ _ _ (hne v hv)
  have hny : (s.come y).num y = s.cnt + 1 := up_same _ _ _
  have hly : (s.come y).low y = s.cnt + 1 := up_same _ _ _
  have hlt : ∀ v ∈ s.stack, s.num v ≤ s.cnt := fun v hv => h.cnt v (h.mem v hv).1
  have hst : (s.come y).stack = s.stack ++ [y] := rfl
  have hwt : (s.come y).way = s.way ++ [y] := rfl
  have hnx : (s.come y).next = s.next := rfl
  have hpr : ∀ v z, Pr E (s.come y) v z ↔ Pr E s v z := fun v z => Iff.rfl
  have hnz : ∀ v, s.num v ≠ 0 → (s.come y).num v ≠ 0 := fun v hv => by
    by_cases e : v = y
    · rw [e, hny]; omega
    · show up s.num y (s.cnt + 1) v ≠ 0
      rw [up_other _ _ _ _ e]; exact hv
  have hnv : ∀ v, v ≠ y → (s.come y).num v = s.num v := fun v e => up_other _ _ _ _ e
  refine ⟨?_, ?_, ?_, ?_, ?_, ?_, ?_, ?_, ?_, ?_, ?_, ?_, ?_⟩
  · intro v hv
    rw [hst, List.mem_append, List.mem_singleton] at hv
    rcases hv with hv | rfl
    · exact ⟨(h.mem v hv).1, hnz v (h.mem v hv).2⟩
    · exact ⟨hy, by rw [hny]; omega⟩
  · intro v hv
    rw [hst, List.mem_append, List.mem_singleton]
    show up s.inn y true v = true ↔ _
    by_cases e : v = y
    · subst e; rw [up_same]; simp
    · rw [up_other _ _ _ _ e, h.inn v hv]; simp [e]
  · rw [hst, List.pairwise_append]
    refine ⟨?_, List.pairwise_singleton _ _, fun a ha b hb => ?_⟩
    · exact h.sorted.imp_of_mem fun ha hb hab => by rw [hn _ ha, hn _ hb]; exact hab
    · rw [List.mem_singleton] at hb
      subst hb
      rw [hn a ha, hny]; have := hlt a ha; omega
  · rw [hst, hwt]; exact h.sub.append (List.Sublist.refl _)
  · intro v hv
    show up s.num y (s.cnt + 1) v ≤ s.cnt + 1
    by_cases e : v = y
    · rw [e, up_same]; exact Nat.le_refl _
    · rw [up_other _ _ _ _ e]; have := h.cnt v hv; omega
  · rw [hwt, List.pairwise_append]
    exact ⟨h.chain, List.pairwise_singleton _ _, fun a ha b hb => by rw [List.mem_singleton] at hb; subst hb; exact hr a ha⟩
  · intro v hv
    rw [hst, List.mem_append, List.mem_singleton] at hv
    rcases hv with hv | rfl
    · obtain ⟨g, hg, h1, h2, h3, h4, h5⟩ := h.seg v hv
      have hgs := h.way_mem hg
      refine ⟨g, by rw [hwt]; exact List.mem_append_left _ hg, by rw [hn g hgs, hn v hv]; exact h1, fun g' hg' hle => ?_, h3, h4, fun z hz hzs => ?_⟩
      · rw [hwt, List.mem_append, List.mem_singleton] at hg'
        rcases hg' with hg' | rfl
        · rw [hn g' (h.way_mem hg'), hn v hv] at hle
          rw [hn g' (h.way_mem hg'), hn g hgs]; exact h2 g' hg' hle
        · rw [hny, hn v hv] at hle; have := hlt v hv; omega
      · rw [hst, List.mem_append, List.mem_singleton] at hzs
        rw [hl g hgs]
        rcases hzs with hzs | rfl
        · rw [hn z hzs]; exact h5 z hz hzs
        · rw [hny]; have := (h.low g hgs).1; have := hlt g hgs; omega
    · refine ⟨v, by rw [hwt]; simp, Nat.le_refl _, fun g' hg' hle => hle, Reach.refl _ _, Reach.refl _ _, fun z hz _ => ?_⟩
      have hz' : (z : Int) ∈ (E.getD v []).take (s.next v) := hz.2
      rw [h.fresh v hy h0, List.take_zero] at hz'
      cases hz'
  · intro v z hv hz; exact hnz z (h.seen v z hv hz)
  · intro v hv
    rw [hst, List.mem_append, List.mem_singleton] at hv
    rcases hv with hv | rfl
    · obtain ⟨h1, u, hu, h2, h3⟩ := h.low v hv
      exact ⟨by rw [hl v hv, hn v hv]; exact h1, u, by rw [hst]; exact List.mem_append_left _ hu, by rw [hn u hu, hl v hv]; exact h2, h3⟩
    · exact ⟨by rw [hly, hny]; exact Nat.le_refl _, v, by rw [hst]; simp, by rw [hly, hny], Reach.refl _ _⟩
  · intro v hv h1 h2
    rw [hst, List.mem_append, List.mem_singleton] at h2
    have e : v ≠ y := fun e => h2 (.inr e)
    rw [hnv v e] at h1
    obtain ⟨h3, h4⟩ := h.done v hv h1 (fun hm => h2 (.inl hm))
    refine ⟨h3, fun z hz => ⟨hnz z (h4 z hz).1, ?_⟩⟩
    rw [hst, List.mem_append, List.mem_singleton]
    rintro (hm | rfl)
    · exact (h4 z hz).2 hm
    · exact (h4 z hz).1 h0
  · intro v hv h1 h2
    rw [hwt, List.mem_append, List.mem_singleton] at h2
    have e : v ≠ y := fun e => h2 (.inr e)
    rw [hnv v e] at h1
    exact h.full v hv h1 (fun hm => h2 (.inl hm))
  · exact h.next
  · intro v hv h1
    by_cases e : v = y
    · rw [e, hny] at h1; omega
    · rw [hnv v e] at h1; exact h.fresh v hv h1

/-- The next edge of a node of the way has been looked at. -/
def St.bump (s : St) (x : Nat) : St := { s with next := up s.next x (s.next x + 1) }

theorem Inv.bump (h : Inv E s) {x : Nat} {to : Int} (hx : x ∈ s.way) (hd : s.next x < deg E x) (hto : (E.getD x []).getD (s.next x) 0 = to)
    (hy : ∀ y : Nat, y < E.length → to = (y : Int) → s.num y ≠ 0 ∧ (y ∈ s.stack → s.low x ≤ s.num y)) : Inv E (s.bump x) := by
  have hxs := h.way_mem hx
  have hxn := h.mem x hxs
  have htk : (E.getD x []).take (s.next x + 1) = (E.getD x []).take (s.next x) ++ [to] := by
    rw [take_next _ _ hd, hto]
  have hpr : ∀ v z, Pr E (s.bump x) v z → Pr E s v z ∨ (v = x ∧ z < E.length ∧ to = (z : Int)) := by
    rintro v z ⟨h1, h2⟩
    by_cases e : v = x
    · subst e
      have h2' : (z : Int) ∈ (E.getD v []).take (up s.next v (s.next v + 1) v) := h2
      rw [up_same, htk, List.mem_append, List.mem_singleton] at h2'
      rcases h2' with h2' | h2'
      · exact .inl ⟨h1, h2'⟩
      · exact .inr ⟨rfl, h1, h2'.symm⟩
    · have h2' : (z : Int) ∈ (E.getD v []).take (up s.next x (s.next x + 1) v) := h2
      rw [up_other _ _ _ _ e] at h2'
      exact .inl ⟨h1, h2'⟩
  refine ⟨h.mem, h.inn, h.sorted, h.sub, h.cnt, h.chain, ?_, ?_, h.low, h.done, ?_, ?_, ?_⟩
  · intro v hv
    obtain ⟨g, hg, h1, h2, h3, h4, h5⟩ := h.seg v hv
    refine ⟨g, hg, h1, h2, h3, h4, fun y hp hys => ?_⟩
    rcases hpr v y hp with hp | ⟨rfl, hyn, e⟩
    · exact h5 y hp hys
    · have hle := h2 v hx (Nat.le_refl _)
      have : g = v := h.inj (h.way_mem hg) (h.way_mem hx) (by have : s.num v ≤ s.num g := hle; have : s.num g ≤ s.num v := h1; omega)
      subst this
      exact (hy y hyn e).2 hys
  · intro v y hv hp
    rcases hpr v y hp with hp | ⟨rfl, hyn, e⟩
    · exact h.seen v y hv hp
    · exact (hy y hyn e).1
  · intro v hv h1 h2
    show up s.next x (s.next x + 1) v = _
    have e : v ≠ x := fun e => h2 (e ▸ hx)
    rw [up_other _ _ _ _ e]; exact h.full v hv h1 h2
  · intro v hv
    show up s.next x (s.next x + 1) v ≤ _
    by_cases e : v = x
    · subst e; rw [up_same]; exact hd
    · rw [up_other _ _ _ _ e]; exact h.next v hv
  · intro v hv h1
    show up s.next x (s.next x + 1) v = _
    have e : v ≠ x := fun e => hxn.2 (by rw [← e]; exact h1)
    rw [up_other _ _ _ _ e]; exact h.fresh v hv h1

/-- A node's low is made lower. -/
def St.lower (s : St) (x m : Nat) : St := { s with low := up s.low x (min (s.low x) m) }

theorem Inv.lower (h : Inv E s) {x y : Nat} (hx : x ∈ s.stack) (hy : y ∈ s.stack) (hr : Reach E x y) : Inv E (s.lower x (s.num y)) := by
  have hle : ∀ v, (s.lower x (s.num y)).low v ≤ s.low v := fun v => by
    show up s.low x (min (s.low x) (s.num y)) v ≤ s.low v
    by_cases e : v = x
    · subst e; rw [up_same]; omega
    · rw [up_other _ _ _ _ e]; exact Nat.le_refl _
  refine ⟨h.mem, h.inn, h.sorted, h.sub, h.cnt, h.chain, ?_, h.seen, ?_, h.done, h.full, h.next, h.fresh⟩
  · intro v hv
    obtain ⟨g, hg, h1, h2, h3, h4, h5⟩ := h.seg v hv
    exact ⟨g, hg, h1, h2, h3, h4, fun z hp hz => Nat.le_trans (hle g) (h5 z hp hz)⟩
  · intro v hv
    obtain ⟨h1, u, hu, h2, h3⟩ := h.low v hv
    refine ⟨Nat.le_trans (hle v) h1, ?_⟩
    by_cases e : v = x
    · subst e
      show ∃ u ∈ s.stack, s.num u = up s.low v (min (s.low v) (s.num y)) v ∧ Reach E v u
      rw [up_same]
      rcases Nat.le_total (s.low v) (s.num y) with hl | hl
      · exact ⟨u, hu, by rw [Nat.min_eq_left hl]; exact h2, h3⟩
      · exact ⟨y, hy, by rw [Nat.min_eq_right hl], hr⟩
    · show ∃ u ∈ s.stack, s.num u = up s.low x (min (s.low x) (s.num y)) v ∧ Reach E v u
      rw [up_other _ _ _ _ e]
      exact ⟨u, hu, h2, h3⟩

theorem lower_same (s : St) (x m : Nat) (h : s.low x ≤ m) : s.lower x m = s := by
  have : up s.low x (min (s.low x) m) = s.low := by
    funext v
    by_cases e : v = x
    · subst e; rw [up_same]; omega
    · exact up_other _ _ _ _ e
  show { s with low := up s.low x (min (s.low x) m) } = s
  rw [this]

/-- The way's last node: the head of all that lies behind it on the stack. -/
theorem Inv.wlt (h : Inv E s) {W : List Nat} {x : Nat} (hw : s.way = W ++ [x]) : ∀ g ∈ W, s.num g < s.num x := by
  have := h.wsorted
  rw [hw, List.pairwise_append] at this
  exact fun g hg => this.2.2 g hg x (by simp)
theorem Inv.xmem (h : Inv E s) {W : List Nat} {x : Nat} (hw : s.way = W ++ [x]) : x ∈ s.stack := h.way_mem (by rw [hw]; simp)
theorem Inv.top (h : Inv E s) {W : List Nat} {x : Nat} (hw : s.way = W ++ [x]) : ∀ v ∈ s.stack, s.num x ≤ s.num v → Reach E x v ∧ Reach E v x ∧ ∀ y, Pr E s v y → y ∈ s.stack → s.low x ≤ s.num y := by
  intro v hv hle
  obtain ⟨g, hg, h1, h2, h3, h4, h5⟩ := h.seg v hv
  have h6 := h2 x (by rw [hw]; simp) hle
  have : g = x := by
    rw [hw, List.mem_append, List.mem_singleton] at hg
    rcases hg with hg | hg
    · have := h.wlt hw g hg; omega
    · exact hg
  subst this
  exact ⟨h3, h4, h5⟩

/-- The last node of the way leads to one ahead of it: it is left on the stack. -/
theorem Inv.stay (h : Inv E s) {W : List Nat} {x : Nat} (hw : s.way = W ++ [x]) (hf : s.next x = deg E x) (hr : s.low x ≠ s.num x) :
    ∃ W' p, W = W' ++ [p] ∧ Inv E (({ s with way := W } : St).lower p (s.low x)) := by
  have hxs := h.xmem hw
  obtain ⟨hl, u, hu, hun, hxu⟩ := h.low x hxs
  obtain ⟨gu, hgu, g1, _, _, g4, _⟩ := h.seg u hu
  have hguW : gu ∈ W := by
    rw [hw, List.mem_append, List.mem_singleton] at hgu
    rcases hgu with hgu | rfl
    · exact hgu
    · omega
  obtain ⟨W', p, rfl⟩ : ∃ W' p, W = W' ++ [p] := by
    rcases List.eq_nil_or_concat W with e | ⟨W', p, e⟩
    · rw [e] at hguW; cases hguW
    · exact ⟨W', p, by rw [e, List.concat_eq_append]⟩
  have hch := h.chain
  rw [hw, List.pairwise_append, List.pairwise_append] at hch
  obtain ⟨⟨_, _, hc1⟩, _, hc2⟩ := hch
  have hpx : Reach E p x := hc2 p (by simp) x (by simp)
  have hxp : Reach E x p := by
    refine (hxu.trans g4).trans ?_
    rw [List.mem_append, List.mem_singleton] at hguW
    rcases hguW with hg | rfl
    · exact hc1 gu hg p (by simp)
    · exact Reach.refl _ _
  have hpn := h.wlt hw p (by simp)
  have hps : p ∈ s.stack := h.way_mem (by rw [hw]; simp)
  have hplast : ∀ g ∈ W' ++ [p], s.num g ≤ s.num p := by
    have := h.wsorted
    rw [hw, List.pairwise_append, List.pairwise_append] at this
    intro g hg
    rw [List.mem_append, List.mem_singleton] at hg
    rcases hg with hg | rfl
    · exact Nat.le_of_lt (this.1.2.2 g hg p (by simp))
    · exact Nat.le_refl _
  have hle : ∀ v, (({ s with way := W' ++ [p] } : St).lower p (s.low x)).low v ≤ s.low v := fun v => by
    show up s.low p (min (s.low p) (s.low x)) v ≤ s.low v
    by_cases e : v = p
    · subst e; rw [up_same]; omega
    · rw [up_other _ _ _ _ e]; exact Nat.le_refl _
  have hlp : (({ s with way := W' ++ [p] } : St).lower p (s.low x)).low p ≤ s.low x := by
    show up s.low p (min (s.low p) (s.low x)) p ≤ s.low x
    rw [up_same]; omega
  refine ⟨W', p, rfl, h.mem, h.inn, h.sorted, ?_, h.cnt, ?_, ?_, h.seen, ?_, h.done, ?_, h.next, h.fresh⟩
  · have := h.sub
    rw [hw] at this
    exact (List.sublist_append_left _ _).trans this
  · have := h.chain
    rw [hw, List.pairwise_append] at this
    exact this.1
  · intro v hv
    obtain ⟨g, hg, h1, h2, h3, h4, h5⟩ := h.seg v hv
    rw [hw, List.mem_append, List.mem_singleton] at hg
    rcases hg with hg | rfl
    · exact ⟨g, hg, h1, fun g' hg' => h2 g' (by rw [hw]; exact List.mem_append_left _ hg'), h3, h4, fun y hy hys => Nat.le_trans (hle g) (h5 y hy hys)⟩
    · refine ⟨p, by show p ∈ W' ++ [p]; simp, Nat.le_trans (Nat.le_of_lt hpn) h1, fun g' hg' _ => hplast g' hg', hpx.trans h3, h4.trans hxp, fun y hy hys => Nat.le_trans hlp (h5 y hy hys)⟩
  · intro v hv
    obtain ⟨h1, u', hu', h2, h3⟩ := h.low v hv
    refine ⟨Nat.le_trans (hle v) h1, ?_⟩
    show ∃ u ∈ s.stack, s.num u = up s.low p (min (s.low p) (s.low x)) v ∧ Reach E v u
    by_cases e : v = p
    · subst e
      rw [up_same]
      rcases Nat.le_total (s.low v) (s.low x) with hh | hh
      · exact ⟨u', hu', by rw [Nat.min_eq_left hh]; exact h2, h3⟩
      · exact ⟨u, hu, by rw [Nat.min_eq_right hh]; exact hun, hpx.trans hxu⟩
    · rw [up_other _ _ _ _ e]; exact ⟨u', hu', h2, h3⟩
  · intro v hv h1 h2
    by_cases e : v = x
    · subst e; exact hf
    · refine h.full v hv h1 ?_
      rw [hw, List.mem_append, List.mem_singleton]
      rintro (hm | hm)
      · exact h2 hm
      · exact e hm

/-- The stack's rest is taken off as one part, m being its least node. -/
def St.off (s : St) (W A L : List Nat) (m : Nat) : St :=
  { s with way := W, stack := A, part := fun v => if v ∈ L then m else s.part v, inn := fun v => if v ∈ L then false else s.inn v }

theorem Inv.root (h : Inv E s) {W A B : List Nat} {x m : Nat} (hw : s.way = W ++ [x]) (hf : s.next x = deg E x) (hr : s.low x = s.num x) (hs : s.stack = A ++ x :: B)
    (hm : m ∈ x :: B) (hmin : ∀ v ∈ x :: B, m ≤ v) : Inv E (s.off W A (x :: B) m) := by
  have hxs := h.xmem hw
  have hsort := h.sorted
  rw [hs, List.pairwise_append, List.pairwise_cons] at hsort
  obtain ⟨hsA, ⟨hsx, _⟩, hsAB⟩ := hsort
  have hA : ∀ v ∈ A, s.num v < s.num x := fun v hv => hsAB v hv x List.mem_cons_self
  have hP : ∀ v ∈ x :: B, s.num x ≤ s.num v := fun v hv => by
    rcases List.mem_cons.1 hv with rfl | hv
    · exact Nat.le_refl _
    · exact Nat.le_of_lt (hsx v hv)
  have hAs : ∀ v ∈ A, v ∈ s.stack := fun v hv => by rw [hs]; exact List.mem_append_left _ hv
  have hPs : ∀ v ∈ x :: B, v ∈ s.stack := fun v hv => by rw [hs]; exact List.mem_append_right _ hv
  have hsplit : ∀ v ∈ s.stack, v ∈ A ∨ v ∈ x :: B := fun v hv => by rw [hs] at hv; exact List.mem_append.1 hv
  have hdisj : ∀ v, v ∈ A → v ∉ x :: B := fun v h1 h2 => by have := hA v h1; have := hP v h2; omega
  have hPw : ∀ v ∈ x :: B, v ∉ W := fun v hv hvW => by have := h.wlt hw v hvW; have := hP v hv; omega
  have hfull : ∀ v ∈ x :: B, s.next v = deg E v := fun v hv => by
    by_cases e : v = x
    · subst e; exact hf
    · refine h.full v (h.mem v (hPs v hv)).1 (h.mem v (hPs v hv)).2 ?_
      rw [hw, List.mem_append, List.mem_singleton]
      rintro (hm' | hm')
      · exact hPw v hv hm'
      · exact e hm'
  have hedge : ∀ v ∈ x :: B, ∀ y, adj E v y → s.num y ≠ 0 ∧ y ∉ A := by
    intro v hv y hadj
    have hp : Pr E s v y := ⟨hadj.2.1, by rw [hfull v hv]; unfold deg; rw [List.take_length]; exact hadj.2.2⟩
    refine ⟨h.seen v y hadj.1 hp, fun hyA => ?_⟩
    have := (h.top hw v (hPs v hv) (hP v hv)).2.2 y hp (hAs y hyA)
    have := hA y hyA
    omega
  have hclosed : ∀ v y, (v ∉ A ∧ s.num v ≠ 0 ∧ v < E.length) → adj E v y → (y ∉ A ∧ s.num y ≠ 0 ∧ y < E.length) := by
    rintro v y ⟨h1, h2, h3⟩ hadj
    by_cases hv : v ∈ s.stack
    · have := hedge v ((hsplit v hv).resolve_left h1) y hadj
      exact ⟨this.2, this.1, hadj.2.1⟩
    · have := (h.done v h3 h2 hv).2 y hadj
      exact ⟨fun hyA => this.2 (hAs y hyA), this.1, hadj.2.1⟩
  have hclosedD : ∀ v y, (v ∉ s.stack ∧ s.num v ≠ 0 ∧ v < E.length) → adj E v y → (y ∉ s.stack ∧ s.num y ≠ 0 ∧ y < E.length) := by
    rintro v y ⟨h1, h2, h3⟩ hadj
    have := (h.done v h3 h2 h1).2 y hadj
    exact ⟨this.2, this.1, hadj.2.1⟩
  have hscc : ∀ v ∈ x :: B, ∀ u, Scc E v u ↔ u ∈ x :: B := by
    intro v hv u
    have htv := h.top hw v (hPs v hv) (hP v hv)
    constructor
    · rintro ⟨h1, h2⟩
      have h3 := h1.closed hclosed ⟨fun hvA => hdisj v hvA hv, (h.mem v (hPs v hv)).2, (h.mem v (hPs v hv)).1⟩
      by_cases hus : u ∈ s.stack
      · exact (hsplit u hus).resolve_left h3.1
      · have := h2.closed hclosedD ⟨hus, h3.2.1, h3.2.2⟩
        exact absurd (hPs v hv) this.1
    · intro hu
      have htu := h.top hw u (hPs u hu) (hP u hu)
      exact ⟨htv.2.1.trans htu.1, htu.2.1.trans htv.1⟩
  refine ⟨fun v hv => h.mem v (hAs v hv), ?_, hsA, ?_, h.cnt, ?_, ?_, h.seen, ?_, ?_, ?_, h.next, h.fresh⟩
  · intro v hv
    show (if v ∈ x :: B then false else s.inn v) = true ↔ v ∈ A
    by_cases hvP : v ∈ x :: B
    · rw [if_pos hvP]
      exact ⟨fun e => (by cases e), fun hvA => absurd hvP (hdisj v hvA)⟩
    · rw [if_neg hvP, h.inn v hv]
      exact ⟨fun hvs => (hsplit v hvs).resolve_right hvP, hAs v⟩
  · have hsub := h.sub
    rw [hw, hs] at hsub
    have hsub' : W.Sublist (A ++ x :: B) := (List.sublist_append_left _ _).trans hsub
    have := List.sublist_append_iff.1 hsub'
    obtain ⟨l1, l2, e, k1, k2⟩ := this
    have : l2 = [] := by
      cases hl : l2 with
      | nil => rfl
      | cons y l =>
        have hy2 : y ∈ l2 := by rw [hl]; exact List.mem_cons_self
        exact absurd (show y ∈ W by rw [e]; exact List.mem_append_right _ hy2) (hPw y (k2.subset hy2))
    subst this
    rw [List.append_nil] at e
    show W.Sublist A
    rw [e]; exact k1
  · have := h.chain
    rw [hw, List.pairwise_append] at this
    exact this.1
  · intro v hv
    obtain ⟨g, hg, h1, h2, h3, h4, h5⟩ := h.seg v (hAs v hv)
    rw [hw, List.mem_append, List.mem_singleton] at hg
    rcases hg with hg | rfl
    · exact ⟨g, hg, h1, fun g' hg' => h2 g' (by rw [hw]; exact List.mem_append_left _ hg'), h3, h4, fun y hy hys => h5 y hy (hAs y hys)⟩
    · have := hA v hv; omega
  · intro v hv
    obtain ⟨h1, u, hu, h2, h3⟩ := h.low v (hAs v hv)
    refine ⟨h1, u, ?_, h2, h3⟩
    refine (hsplit u hu).resolve_right fun huP => ?_
    have h4 := hP u huP
    have h5 := hA v hv
    omega
  · intro v hv h1 h2
    by_cases hvP : v ∈ x :: B
    · refine ⟨?_, fun y hadj => hedge v hvP y hadj⟩
      show IsMin E v (if v ∈ x :: B then m else s.part v)
      rw [if_pos hvP]
      exact ⟨(hscc v hvP m).2 hm, fun u hu => hmin u ((hscc v hvP u).1 hu)⟩
    · have hvs : v ∉ s.stack := fun hvs => (hsplit v hvs).elim h2 hvP
      obtain ⟨h3, h4⟩ := h.done v hv h1 hvs
      refine ⟨?_, fun y hadj => ⟨(h4 y hadj).1, fun hyA => (h4 y hadj).2 (hAs y hyA)⟩⟩
      show IsMin E v (if v ∈ x :: B then m else s.part v)
      rw [if_neg hvP]; exact h3
  · intro v hv h1 h2
    by_cases hvP : v ∈ x :: B
    · exact hfull v hvP
    · refine h.full v hv h1 ?_
      rw [hw, List.mem_append, List.mem_singleton]
      rintro (hm' | rfl)
      · exact h2 hm'
      · exact hvP List.mem_cons_self
end
end Go.Own
