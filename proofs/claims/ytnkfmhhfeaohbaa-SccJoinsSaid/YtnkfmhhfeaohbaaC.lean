/- The search's struct in the heap, and what each write does to it. -/
import Derived.Test.YtnkfmhhfeaohbaaB
import Derived.Test.YtnkfmhhfeaohbaaBar
namespace Go.Proofs.Ytnkfmhhfeaohbaa
open Go.RowKit Go.Own

def sl7 (k : Nat) : Prop := 1 ≤ k ∧ k ≤ 7
def ty7 (k : Nat) : TypeId := if k = 6 then 4 else 3

structure Srch (w : World) (g : Nat) (ev : Value) (n : Nat) (s : St) (F : Nat → Prop) (C : Nat → Value) (X : Nat → List Value) : Prop where
  str : Rec 9 sl7 ty7 w g C X
  edges : C 0 = ev
  cnt : C 8 = .int .i64 (s.cnt : Int)
  num : X 1 = numsOf n s.num
  low : X 2 = numsOf n s.low
  next : X 3 = numsOf n s.next
  stack : X 4 = natsOf s.stack
  way : X 5 = natsOf s.way
  inn : X 6 = boolsOf n s.inn
  part : X 7 = numsOf n s.part
  foot : ∀ b, RFoot sl7 g C b → F b
  lt : ∀ b, F b → b < w.heap.size
/-- The same, its cells put away. -/
def IsS (w : World) (g : Nat) (ev : Value) (n : Nat) (s : St) (F : Nat → Prop) : Prop := ∃ C X, Srch w g ev n s F C X
/-- What a call leaves. -/
def SDone (g : Nat) (ev : Value) (n : Nat) (s : St) (F : Nat → Prop) (w w' : World) : Prop := ∃ F', IsS w' g ev n s F' ∧ Kept F w w' ∧ ∀ b, F' b → F b ∨ w.heap.size ≤ b

section
variable {w w1 : World} {g n : Nat} {ev : Value} {s : St} {F : Nat → Prop} {C : Nat → Value} {X : Nat → List Value}

theorem Srch.kept {S : Nat → Prop} (h : Srch w g ev n s F C X) (hk : Kept S w w1) (hS : ∀ b, F b → ¬ S b) : Srch w1 g ev n s F C X :=
  { h with str := h.str.kept hk (fun b hb => hS b (h.foot b hb)), lt := fun b hb => Nat.lt_of_lt_of_le (h.lt b hb) hk.size }
theorem IsS.kept {S : Nat → Prop} (h : IsS w g ev n s F) (hk : Kept S w w1) (hS : ∀ b, F b → ¬ S b) : IsS w1 g ev n s F := by
  obtain ⟨C, X, h⟩ := h; exact ⟨C, X, h.kept hk hS⟩
theorem IsS.below (h : IsS w g ev n s F) (hb : Below w.heap.size w w1) : IsS w1 g ev n s F :=
  h.kept (Kept.ofBelow hb) (fun b hF => by obtain ⟨C, X, h⟩ := h; have := h.lt b hF; omega)
theorem IsS.drew (h : IsS w g ev n s F) : IsS w.drew g ev n s F := h.below (Below.refl _ _).drew
theorem Srch.drew (h : Srch w g ev n s F C X) : Srch w.drew g ev n s F C X := h.kept (S := fun _ => False) (Kept.refl _ w).drew (fun _ _ h => h)

theorem SDone.refl (h : IsS w g ev n s F) : SDone g ev n s F w w := ⟨F, h, Kept.refl _ _, fun _ h => .inl h⟩
theorem SDone.trans {s1 s2 : St} {w2 : World} (h : SDone g ev n s1 F w w1) (k : ∀ F', IsS w1 g ev n s1 F' → SDone g ev n s2 F' w1 w2) : SDone g ev n s2 F w w2 := by
  obtain ⟨F1, h1, h2, h3⟩ := h
  obtain ⟨F2, k1, k2, k3⟩ := k F1 h1
  have hs := h2.size
  exact ⟨F2, k1, h2.then k2 (fun i hi hF => (h3 i hF).elim id (fun hle => by omega)), fun b hb => (k3 b hb).elim (fun hF => h3 b hF) (fun hle => .inr (by omega))⟩

/-- A slice of n cells of the struct. -/
theorem Srch.arr (h : Srch w g ev n s F C X) (k : Nat) (hk : sl7 k) (hl : (X k).length = n) (hn : 0 < n) :
    ∃ b c, C k = .slice (some ⟨b, 0, none⟩) n c ∧ (∀ i, i < n → w.cell? ⟨b, i, none⟩ = (X k)[i]? ∧ w.frozen? ⟨b, i, none⟩ = false) ∧ b ≠ g := by
  obtain ⟨a, c, e, _, _, _, hc⟩ := h.str.val k hk
  rw [hl] at e hc
  obtain ⟨b, rfl, _, _⟩ := hc 0 hn
  refine ⟨b, c, e, fun i hi => ?_, fun e' => h.str.off k hk (by rw [e, e']; rfl)⟩
  obtain ⟨b', e', h1, h2⟩ := hc i hi
  cases e'
  exact ⟨h1, h2⟩

theorem foot_same (h : Srch w g ev n s F C X) : Kept F w w := Kept.refl _ _

theorem Srch.setCnt (h : Srch w g ev n s F C X) (m : Nat) : Srch (w.setCell ⟨g, 8, none⟩ (.int .i64 (m : Int))) g ev n { s with cnt := m } F (up C 8 (.int .i64 (m : Int))) X where
  str := h.str.plain 8 (by decide) (fun hs => by have := hs.2; omega) _
  edges := by rw [up_other _ _ _ _ (by decide)]; exact h.edges
  cnt := up_same _ _ _
  num := h.num
  low := h.low
  next := h.next
  stack := h.stack
  way := h.way
  inn := h.inn
  part := h.part
  foot b hb := h.foot b (foot_plain (fun k hk => by have := hk.2; omega) _ b hb)
  lt b hb := by have := h.lt b hb; simpa [World.setCell] using this

theorem Srch.setNum (h : Srch w g ev n s F C X) {b c m : Nat} (hC : C 1 = .slice (some ⟨b, 0, none⟩) m c) (y v : Nat) (hy : y < n) :
    Srch (w.setCell ⟨b, y, none⟩ (.int .i64 (v : Int))) g ev n { s with num := up s.num y v } F C (up X 1 ((X 1).set y (.int .i64 (v : Int)))) where
  str := h.str.elem 1 ⟨by decide, by decide⟩ hC y _
  edges := h.edges
  cnt := h.cnt
  num := by rw [up_same, h.num, numsOf_set _ _ _ _ hy]
  low := by rw [up_other _ _ _ _ (by decide)]; exact h.low
  next := by rw [up_other _ _ _ _ (by decide)]; exact h.next
  stack := by rw [up_other _ _ _ _ (by decide)]; exact h.stack
  way := by rw [up_other _ _ _ _ (by decide)]; exact h.way
  inn := by rw [up_other _ _ _ _ (by decide)]; exact h.inn
  part := by rw [up_other _ _ _ _ (by decide)]; exact h.part
  foot := h.foot
  lt b hb := by have := h.lt b hb; simpa [World.setCell] using this
theorem Srch.setLow (h : Srch w g ev n s F C X) {b c m : Nat} (hC : C 2 = .slice (some ⟨b, 0, none⟩) m c) (y v : Nat) (hy : y < n) :
    Srch (w.setCell ⟨b, y, none⟩ (.int .i64 (v : Int))) g ev n { s with low := up s.low y v } F C (up X 2 ((X 2).set y (.int .i64 (v : Int)))) where
  str := h.str.elem 2 ⟨by decide, by decide⟩ hC y _
  edges := h.edges
  cnt := h.cnt
  num := by rw [up_other _ _ _ _ (by decide)]; exact h.num
  low := by rw [up_same, h.low, numsOf_set _ _ _ _ hy]
  next := by rw [up_other _ _ _ _ (by decide)]; exact h.next
  stack := by rw [up_other _ _ _ _ (by decide)]; exact h.stack
  way := by rw [up_other _ _ _ _ (by decide)]; exact h.way
  inn := by rw [up_other _ _ _ _ (by decide)]; exact h.inn
  part := by rw [up_other _ _ _ _ (by decide)]; exact h.part
  foot := h.foot
  lt b hb := by have := h.lt b hb; simpa [World.setCell] using this
theorem Srch.setNext (h : Srch w g ev n s F C X) {b c m : Nat} (hC : C 3 = .slice (some ⟨b, 0, none⟩) m c) (y v : Nat) (hy : y < n) :
    Srch (w.setCell ⟨b, y, none⟩ (.int .i64 (v : Int))) g ev n { s with next := up s.next y v } F C (up X 3 ((X 3).set y (.int .i64 (v : Int)))) where
  str := h.str.elem 3 ⟨by decide, by decide⟩ hC y _
  edges := h.edges
  cnt := h.cnt
  num := by rw [up_other _ _ _ _ (by decide)]; exact h.num
  low := by rw [up_other _ _ _ _ (by decide)]; exact h.low
  next := by rw [up_same, h.next, numsOf_set _ _ _ _ hy]
  stack := by rw [up_other _ _ _ _ (by decide)]; exact h.stack
  way := by rw [up_other _ _ _ _ (by decide)]; exact h.way
  inn := by rw [up_other _ _ _ _ (by decide)]; exact h.inn
  part := by rw [up_other _ _ _ _ (by decide)]; exact h.part
  foot := h.foot
  lt b hb := by have := h.lt b hb; simpa [World.setCell] using this
theorem Srch.setPart (h : Srch w g ev n s F C X) {b c m : Nat} (hC : C 7 = .slice (some ⟨b, 0, none⟩) m c) (y v : Nat) (hy : y < n) :
    Srch (w.setCell ⟨b, y, none⟩ (.int .i64 (v : Int))) g ev n { s with part := up s.part y v } F C (up X 7 ((X 7).set y (.int .i64 (v : Int)))) where
  str := h.str.elem 7 ⟨by decide, by decide⟩ hC y _
  edges := h.edges
  cnt := h.cnt
  num := by rw [up_other _ _ _ _ (by decide)]; exact h.num
  low := by rw [up_other _ _ _ _ (by decide)]; exact h.low
  next := by rw [up_other _ _ _ _ (by decide)]; exact h.next
  stack := by rw [up_other _ _ _ _ (by decide)]; exact h.stack
  way := by rw [up_other _ _ _ _ (by decide)]; exact h.way
  inn := by rw [up_other _ _ _ _ (by decide)]; exact h.inn
  part := by rw [up_same, h.part, numsOf_set _ _ _ _ hy]
  foot := h.foot
  lt b hb := by have := h.lt b hb; simpa [World.setCell] using this
theorem Srch.setInn (h : Srch w g ev n s F C X) {b c m : Nat} (hC : C 6 = .slice (some ⟨b, 0, none⟩) m c) (y : Nat) (v : Bool) (hy : y < n) :
    Srch (w.setCell ⟨b, y, none⟩ (.bool v)) g ev n { s with inn := up s.inn y v } F C (up X 6 ((X 6).set y (.bool v))) where
  str := h.str.elem 6 ⟨by decide, by decide⟩ hC y _
  edges := h.edges
  cnt := h.cnt
  num := by rw [up_other _ _ _ _ (by decide)]; exact h.num
  low := by rw [up_other _ _ _ _ (by decide)]; exact h.low
  next := by rw [up_other _ _ _ _ (by decide)]; exact h.next
  stack := by rw [up_other _ _ _ _ (by decide)]; exact h.stack
  way := by rw [up_other _ _ _ _ (by decide)]; exact h.way
  inn := by rw [up_same, h.inn, boolsOf_set _ _ _ _ hy]
  part := by rw [up_other _ _ _ _ (by decide)]; exact h.part
  foot := h.foot
  lt b hb := by have := h.lt b hb; simpa [World.setCell] using this
/-- Stack and way have got one more. -/
theorem Srch.pair (h : Srch w g ev n s F C X) {v u : Value} {y : Nat} (hk : Kept (fun k => (C 4).ownBlock = some k ∨ (C 5).ownBlock = some k) w w1)
    (n1 : Sl w1 3 v ((natsOf s.stack).length + 1) (natsOf s.stack ++ [.int .i64 (y : Int)])) (m1 : Moved w (C 4) v)
    (n2 : Sl w1 3 u ((natsOf s.way).length + 1) (natsOf s.way ++ [.int .i64 (y : Int)])) (m2 : Moved w (C 5) u) (hne : ∀ k, v.ownBlock = some k → u.ownBlock ≠ some k) :
    SDone g ev n { s with stack := s.stack ++ [y], way := s.way ++ [y] } F w ((w1.setCell ⟨g, 4, none⟩ v).setCell ⟨g, 5, none⟩ u) := by
  have s4 : sl7 4 := ⟨by decide, by decide⟩
  have s5 : sl7 5 := ⟨by decide, by decide⟩
  have hr := h.str.two 4 5 s4 s5 (by decide) v u (natsOf (s.stack ++ [y])) (natsOf (s.way ++ [y])) hk (by rw [natsOf_snoc, List.length_append]; exact n1) (by rw [natsOf_snoc, List.length_append]; exact n2) m1 m2 hne
  have hfoot := foot_two (g := g) 4 5 s4 s5 v u m1 m2
  have hF : ∀ b, RFoot sl7 g (up (up C 4 v) 5 u) b → F b ∨ w.heap.size ≤ b := fun b hb => (hfoot b hb).imp (h.foot b) id
  have hkF : Kept F w w1 := hk.mono fun k _ e => e.elim (fun e => h.foot k (.inr ⟨4, s4, e⟩)) (fun e => h.foot k (.inr ⟨5, s5, e⟩))
  have hg : F g := h.foot g (.inl rfl)
  refine ⟨_, ⟨_, _, {
    str := hr
    edges := by rw [up_other _ _ _ _ (by decide), up_other _ _ _ _ (by decide)]; exact h.edges
    cnt := by rw [up_other _ _ _ _ (by decide), up_other _ _ _ _ (by decide)]; exact h.cnt
    num := by rw [up_other _ _ _ _ (by decide), up_other _ _ _ _ (by decide)]; exact h.num
    low := by rw [up_other _ _ _ _ (by decide), up_other _ _ _ _ (by decide)]; exact h.low
    next := by rw [up_other _ _ _ _ (by decide), up_other _ _ _ _ (by decide)]; exact h.next
    stack := by rw [up_other _ _ _ _ (by decide), up_same]
    way := up_same _ _ _
    inn := by rw [up_other _ _ _ _ (by decide), up_other _ _ _ _ (by decide)]; exact h.inn
    part := by rw [up_other _ _ _ _ (by decide), up_other _ _ _ _ (by decide)]; exact h.part
    foot := fun b hb => hb
    lt := hr.foot_lt }⟩, (hkF.setCell (fun _ => hg) _).setCell (fun _ => hg) _, hF⟩
/-- What a write into one of its blocks leaves. -/
theorem SDone.of {s' : St} (h : Srch w g ev n s F C X) {C' : Nat → Value} {X' : Nat → List Value} (h' : Srch w1 g ev n s' F C' X') (hk : Kept F w w1) : SDone g ev n s' F w w1 := ⟨F, ⟨_, _, h'⟩, hk, fun _ h => .inl h⟩
theorem Srch.cutStack (h : Srch w g ev n s F C X) {a : Option Addr} {m c : Nat} (hC : C 4 = .slice a m c) (k : Nat) (hk : k ≤ s.stack.length) :
    Srch (w.setCell ⟨g, 4, none⟩ (.slice a k c)) g ev n { s with stack := s.stack.take k } F (up C 4 (.slice a k c)) (up X 4 (natsOf (s.stack.take k))) := by
  have hs : sl7 4 := ⟨by decide, by decide⟩
  have h1 := h.str.own 4 hs
  rw [h.stack, natsOf_len, hC] at h1
  have hm : m = s.stack.length := by have := sl_cap h1; omega
  subst hm
  have h2 := sl_cut h1 hk
  rw [← natsOf_take] at h2
  have hown : ∀ (a : Option Addr) (p q c : Nat), (Value.slice a p c).ownBlock = (Value.slice a q c).ownBlock := fun a p q c => by cases a <;> rfl
  have hr := h.str.slice (w1 := w) 4 hs (.slice a k c) (natsOf (s.stack.take k)) (by rw [natsOf_len, List.length_take, Nat.min_eq_left hk]; exact h2) (Kept.refl _ _) (.inl (by rw [hC]; exact hown _ _ _ _))
  exact {
    str := hr
    edges := by rw [up_other _ _ _ _ (by decide)]; exact h.edges
    cnt := by rw [up_other _ _ _ _ (by decide)]; exact h.cnt
    num := by rw [up_other _ _ _ _ (by decide)]; exact h.num
    low := by rw [up_other _ _ _ _ (by decide)]; exact h.low
    next := by rw [up_other _ _ _ _ (by decide)]; exact h.next
    stack := up_same _ _ _
    way := by rw [up_other _ _ _ _ (by decide)]; exact h.way
    inn := by rw [up_other _ _ _ _ (by decide)]; exact h.inn
    part := by rw [up_other _ _ _ _ (by decide)]; exact h.part
    foot := fun b hb => h.foot b (by
      rcases hb with rfl | ⟨j, hj, e⟩
      · exact .inl rfl
      · by_cases hjk : j = 4
        · subst hjk; rw [up_same] at e; exact .inr ⟨4, hs, by rw [hC, hown a _ k c]; exact e⟩
        · rw [up_other _ _ _ _ hjk] at e; exact .inr ⟨j, hj, e⟩)
    lt := fun b hb => by have := h.lt b hb; simpa [World.setCell] using this }
theorem Srch.cutWay (h : Srch w g ev n s F C X) {a : Option Addr} {m c : Nat} (hC : C 5 = .slice a m c) (k : Nat) (hk : k ≤ s.way.length) :
    Srch (w.setCell ⟨g, 5, none⟩ (.slice a k c)) g ev n { s with way := s.way.take k } F (up C 5 (.slice a k c)) (up X 5 (natsOf (s.way.take k))) := by
  have hs : sl7 5 := ⟨by decide, by decide⟩
  have h1 := h.str.own 5 hs
  rw [h.way, natsOf_len, hC] at h1
  have hm : m = s.way.length := by have := sl_cap h1; omega
  subst hm
  have h2 := sl_cut h1 hk
  rw [← natsOf_take] at h2
  have hown : ∀ (a : Option Addr) (p q c : Nat), (Value.slice a p c).ownBlock = (Value.slice a q c).ownBlock := fun a p q c => by cases a <;> rfl
  have hr := h.str.slice (w1 := w) 5 hs (.slice a k c) (natsOf (s.way.take k)) (by rw [natsOf_len, List.length_take, Nat.min_eq_left hk]; exact h2) (Kept.refl _ _) (.inl (by rw [hC]; exact hown _ _ _ _))
  exact {
    str := hr
    edges := by rw [up_other _ _ _ _ (by decide)]; exact h.edges
    cnt := by rw [up_other _ _ _ _ (by decide)]; exact h.cnt
    num := by rw [up_other _ _ _ _ (by decide)]; exact h.num
    low := by rw [up_other _ _ _ _ (by decide)]; exact h.low
    next := by rw [up_other _ _ _ _ (by decide)]; exact h.next
    stack := by rw [up_other _ _ _ _ (by decide)]; exact h.stack
    way := up_same _ _ _
    inn := by rw [up_other _ _ _ _ (by decide)]; exact h.inn
    part := by rw [up_other _ _ _ _ (by decide)]; exact h.part
    foot := fun b hb => h.foot b (by
      rcases hb with rfl | ⟨j, hj, e⟩
      · exact .inl rfl
      · by_cases hjk : j = 5
        · subst hjk; rw [up_same] at e; exact .inr ⟨5, hs, by rw [hC, hown a _ k c]; exact e⟩
        · rw [up_other _ _ _ _ hjk] at e; exact .inr ⟨j, hj, e⟩)
    lt := fun b hb => by have := h.lt b hb; simpa [World.setCell] using this }
/-- A cell of a slice of the struct whose value is known. -/
theorem Srch.arrAt (h : Srch w g ev n s F C X) (k : Nat) (hk : sl7 k) {b m c : Nat} (hC : C k = .slice (some ⟨b, 0, none⟩) m c) (i : Nat) (hi : i < (X k).length) : w.cell? ⟨b, i, none⟩ = (X k)[i]? ∧ w.frozen? ⟨b, i, none⟩ = false := by
  obtain ⟨a', c', e, _, _, _, hc⟩ := h.str.val k hk
  rw [hC] at e
  cases e
  obtain ⟨b', e', h1⟩ := hc i hi
  cases e'
  exact h1
end
end Go.Proofs.Ytnkfmhhfeaohbaa
