/- The search's state as its walk holds it: the struct, the captured cell, what lay below. -/
import Derived.Test.YtnkfmhhfeaohbaaF
namespace Go.Proofs.Ytnkfmhhfeaohbaa
open Go.RowKit Go.Own

/-- The state s in the struct g, made since w0; q holds the struct's address. -/
def WR (w0 w : World) (g q : Nat) (ev : Value) (n : Nat) (s : St) : Prop :=
  ∃ F, IsS w g ev n s F ∧ (∀ b, F b → w0.heap.size ≤ b ∧ b ≠ q) ∧ Below w0.heap.size w0 w ∧ w.cell? ⟨q, 0, none⟩ = some (.pointer (some ⟨g, 0, none⟩))

section
variable {w0 w : World} {g q n : Nat} {ev : Value} {s : St}

theorem WR.old (h : WR w0 w g q ev n s) : Below w0.heap.size w0 w := by obtain ⟨F, _, _, h, _⟩ := h; exact h
theorem WR.cap (h : WR w0 w g q ev n s) : w.cell? ⟨q, 0, none⟩ = some (.pointer (some ⟨g, 0, none⟩)) := by obtain ⟨F, _, _, _, h⟩ := h; exact h
theorem WR.edges (h : WR w0 w g q ev n s) : w.cell? ⟨g, 0, none⟩ = some ev := by
  obtain ⟨F, ⟨C, X, h⟩, _⟩ := h
  rw [h.str.cell 0 (by decide), h.edges]
theorem WR.below {w1 : World} (h : WR w0 w g q ev n s) (hb : Below w.heap.size w w1) : WR w0 w1 g q ev n s := by
  obtain ⟨F, h1, h2, h3, h4⟩ := h
  exact ⟨F, h1.below hb, h2, h3.trans (hb.mono h3.size), (hb.cell (World.block_lt_of_cell? w _ h4)).trans h4⟩
theorem WR.done {w1 : World} {s1 : St} (h : WR w0 w g q ev n s) (hd : ∀ F, IsS w g ev n s F → SDone g ev n s1 F w w1) : WR w0 w1 g q ev n s1 := by
  obtain ⟨F, h1, h2, h3, h4⟩ := h
  obtain ⟨F', k1, k2, k3⟩ := hd F h1
  have hq := World.block_lt_of_cell? w _ h4
  refine ⟨F', k1, fun b hb => ?_, h3.trans (k2.below h3.size (fun k hk hF => by have := (h2 k hF).1; omega)), k2.cellSome h4 (fun hF => (h2 q hF).2 rfl)⟩
  rcases k3 b hb with hF | hle
  · exact h2 b hF
  · have := h3.size
    exact ⟨by omega, fun e => by subst e; have : b < w.heap.size := hq; omega⟩

theorem wr_come (h : WR w0 w g q ev n s) (y : Nat) (hy : y < n) (hn : n ≤ 1000000000) (hc : s.cnt ≤ 1000000000) (hst : s.stack.length ≤ 1000000000) (hw : s.way.length ≤ 1000000000) :
    Calls Try.prog 22 #[.pointer (some ⟨g, 0, none⟩), .int .i64 (y : Int)] w fun e w' => e = .returned (.tuple #[]) ∧ Hid (WR w0 w' g q ev n (s.come y)) := by
  obtain ⟨F, h1, h2⟩ := h
  refine (come_any g ev n s F w h1 y hy hn hc hst hw).mono ?_
  rintro e w' ⟨rfl, hd⟩
  obtain ⟨F', k1, k2, k3⟩ := hd
  obtain ⟨h2, h3, h4⟩ := h2
  have hq := World.block_lt_of_cell? w _ h4
  refine ⟨rfl, F', k1, fun b hb => ?_, h3.trans (k2.below h3.size (fun k hk hF => by have := (h2 k hF).1; omega)), k2.cellSome h4 (fun hF => (h2 q hF).2 rfl)⟩
  rcases k3 b hb with hF | hle
  · exact h2 b hF
  · have := h3.size
    exact ⟨by omega, fun e => by subst e; have : b < w.heap.size := hq; omega⟩
theorem wr_lower (h : WR w0 w g q ev n s) (x m : Nat) (hx : x < n) :
    Calls Try.prog 23 #[.int .i64 (x : Int), .int .i64 (m : Int), .pointer (some ⟨q, 0, none⟩)] w fun e w' => e = .returned (.tuple #[]) ∧ Hid (WR w0 w' g q ev n (s.lower x m)) := by
  obtain ⟨F, h1, h2, h3, h4⟩ := h
  refine (lower_any g q ev n s F w h1 h4 x m hx).mono ?_
  rintro e w' ⟨rfl, F', k1, k2, k3⟩
  have hq := World.block_lt_of_cell? w _ h4
  refine ⟨rfl, F', k1, fun b hb => ?_, h3.trans (k2.below h3.size (fun k hk hF => by have := (h2 k hF).1; omega)), k2.cellSome h4 (fun hF => (h2 q hF).2 rfl)⟩
  rcases k3 b hb with hF | hle
  · exact h2 b hF
  · have := h3.size
    exact ⟨by omega, fun e => by subst e; have : b < w.heap.size := hq; omega⟩
theorem wr_stay (h : WR w0 w g q ev n s) (x : Nat) (hx : x < n) (hne : s.low x ≠ s.num x) :
    Calls Try.prog 24 #[.pointer (some ⟨g, 0, none⟩), .int .i64 (x : Int)] w fun e w' => e = .returned (.tuple #[]) ∧ Hid (WR w0 w' g q ev n s) := by
  obtain ⟨F, h1, h2, h3, h4⟩ := h
  refine (leave_stay g ev n s F w h1 x hx hne).mono ?_
  rintro e w' ⟨rfl, F', k1, k2, k3⟩
  have hq := World.block_lt_of_cell? w _ h4
  refine ⟨rfl, F', k1, fun b hb => ?_, h3.trans (k2.below h3.size (fun k hk hF => by have := (h2 k hF).1; omega)), k2.cellSome h4 (fun hF => (h2 q hF).2 rfl)⟩
  rcases k3 b hb with hF | hle
  · exact h2 b hF
  · have := h3.size
    exact ⟨by omega, fun e => by subst e; have : b < w.heap.size := hq; omega⟩
theorem wr_root (h : WR w0 w g q ev n s) (x : Nat) (A B : List Nat) (hs : s.stack = A ++ x :: B) (hxB : x ∉ B) (hlt : ∀ v ∈ x :: B, v < n) (hlow : s.low x = s.num x) (hn : n ≤ 1000000000) (hsz : s.stack.length ≤ 1000000000) :
    Calls Try.prog 24 #[.pointer (some ⟨g, 0, none⟩), .int .i64 (x : Int)] w fun e w' => e = .returned (.tuple #[]) ∧ Hid (WR w0 w' g q ev n (s.off s.way A (x :: B) (minL (x :: B)))) := by
  obtain ⟨F, h1, h2, h3, h4⟩ := h
  refine (leave_root g ev n s F w h1 x A B hs hxB hlt hlow hn hsz).mono ?_
  rintro e w' ⟨rfl, F', k1, k2, k3⟩
  have hq := World.block_lt_of_cell? w _ h4
  refine ⟨rfl, F', k1, fun b hb => ?_, h3.trans (k2.below h3.size (fun k hk hF => by have := (h2 k hF).1; omega)), k2.cellSome h4 (fun hF => (h2 q hF).2 rfl)⟩
  rcases k3 b hb with hF | hle
  · exact h2 b hF
  · have := h3.size
    exact ⟨by omega, fun e => by subst e; have : b < w.heap.size := hq; omega⟩

theorem WR.rdNum (h : WR w0 w g q ev n s) (i : Nat) (hi : i < n) : ∃ b d, w.cell? ⟨g, 1, none⟩ = some (.slice (some ⟨b, 0, none⟩) n d) ∧ w.cell? ⟨b, i, none⟩ = some (.int .i64 (s.num i : Int)) := by
  obtain ⟨F, ⟨C, X, h⟩, _⟩ := h
  obtain ⟨b, d, E, cc, _⟩ := h.arr 1 ⟨by decide, by decide⟩ (by rw [h.num, numsOf_len]) (by omega)
  refine ⟨b, d, by rw [h.str.cell 1 (by decide), E], ?_⟩
  rw [(cc i hi).1, h.num, numsOf_at _ _ _ hi]
theorem WR.rdLow (h : WR w0 w g q ev n s) (i : Nat) (hi : i < n) : ∃ b d, w.cell? ⟨g, 2, none⟩ = some (.slice (some ⟨b, 0, none⟩) n d) ∧ w.cell? ⟨b, i, none⟩ = some (.int .i64 (s.low i : Int)) := by
  obtain ⟨F, ⟨C, X, h⟩, _⟩ := h
  obtain ⟨b, d, E, cc, _⟩ := h.arr 2 ⟨by decide, by decide⟩ (by rw [h.low, numsOf_len]) (by omega)
  refine ⟨b, d, by rw [h.str.cell 2 (by decide), E], ?_⟩
  rw [(cc i hi).1, h.low, numsOf_at _ _ _ hi]
theorem WR.rdInn (h : WR w0 w g q ev n s) (i : Nat) (hi : i < n) : ∃ b d, w.cell? ⟨g, 6, none⟩ = some (.slice (some ⟨b, 0, none⟩) n d) ∧ w.cell? ⟨b, i, none⟩ = some (.bool (s.inn i)) := by
  obtain ⟨F, ⟨C, X, h⟩, _⟩ := h
  obtain ⟨b, d, E, cc, _⟩ := h.arr 6 ⟨by decide, by decide⟩ (by rw [h.inn, boolsOf_len]) (by omega)
  refine ⟨b, d, by rw [h.str.cell 6 (by decide), E], ?_⟩
  rw [(cc i hi).1, h.inn, boolsOf_at _ _ _ hi]
theorem WR.rdNext (h : WR w0 w g q ev n s) (i : Nat) (hi : i < n) : ∃ b d, w.cell? ⟨g, 3, none⟩ = some (.slice (some ⟨b, 0, none⟩) n d) ∧ w.cell? ⟨b, i, none⟩ = some (.int .i64 (s.next i : Int)) ∧ w.frozen? ⟨b, i, none⟩ = false ∧
    ∀ v : Nat, WR w0 (w.setCell ⟨b, i, none⟩ (.int .i64 (v : Int))) g q ev n { s with next := up s.next i v } := by
  have h0 := h
  obtain ⟨F, ⟨C, X, h⟩, _⟩ := h
  obtain ⟨b, d, E, cc, _⟩ := h.arr 3 ⟨by decide, by decide⟩ (by rw [h.next, numsOf_len]) (by omega)
  refine ⟨b, d, by rw [h.str.cell 3 (by decide), E], ?_, (cc i hi).2, fun v => ?_⟩
  · rw [(cc i hi).1, h.next, numsOf_at _ _ _ hi]
  · obtain ⟨F, h1, h2, h3, h4⟩ := h0
    have hF : F b ∨ True := .inr trivial
    clear hF
    obtain ⟨C1, X1, h1⟩ := h1
    obtain ⟨b', d', E', cc', _⟩ := h1.arr 3 ⟨by decide, by decide⟩ (by rw [h1.next, numsOf_len]) (by omega)
    have e1 := h.str.cell 3 (by decide)
    have e2 := h1.str.cell 3 (by decide)
    rw [E] at e1
    rw [E', e1] at e2
    obtain ⟨rfl, rfl⟩ : b = b' ∧ d = d' := by cases e2; exact ⟨rfl, rfl⟩
    have hFb := h1.foot b (.inr ⟨3, ⟨by decide, by decide⟩, by rw [E']; rfl⟩)
    have k : Kept F w (w.setCell ⟨b, i, none⟩ (.int .i64 (v : Int))) := (Kept.refl F w).setCell (fun _ => hFb) _
    exact ⟨F, ⟨_, _, h1.setNext E' i v hi⟩, h2, h3.setCell (h2 b hFb).1 _, k.cellSome h4 (fun hF => (h2 q hF).2 rfl)⟩
theorem WR.rdWay (h : WR w0 w g q ev n s) : ∃ a d, w.cell? ⟨g, 5, none⟩ = some (.slice a s.way.length d) ∧ w.frozen? ⟨g, 5, none⟩ = false ∧ s.way.length ≤ d ∧ d ≤ maxLen ∧ (∀ i, i < s.way.length → ∃ b, a = some ⟨b, 0, none⟩ ∧ w.cell? ⟨b, i, none⟩ = some (.int .i64 ((s.way.getD i 0 : Nat) : Int))) ∧
    ∀ k : Nat, k ≤ s.way.length → WR w0 (w.setCell ⟨g, 5, none⟩ (.slice a k d)) g q ev n { s with way := s.way.take k } := by
  obtain ⟨F, ⟨C, X, h⟩, h2, h3, h4⟩ := h
  obtain ⟨a, d, E, l1, l2, _, hc⟩ := h.str.val 5 ⟨by decide, by decide⟩
  have hl : (X 5).length = s.way.length := by rw [h.way, natsOf_len]
  rw [hl] at E l1 hc
  refine ⟨a, d, by rw [h.str.cell 5 (by decide), E], h.str.froz 5, l1, l2, fun i hi => ?_, fun k hk => ?_⟩
  · obtain ⟨b, e, h5, _⟩ := hc i hi
    exact ⟨b, e, by rw [h5, h.way]; exact natsOf_at _ _ hi⟩
  · have k5 : Kept F w (w.setCell ⟨g, 5, none⟩ (.slice a k d)) := (Kept.refl F w).setCell (fun _ => h.foot g (.inl rfl)) _
    exact ⟨F, ⟨_, _, h.cutWay E k hk⟩, h2, h3.setCell (h2 g (h.foot g (.inl rfl))).1 _, k5.cellSome h4 (fun hF => (h2 q hF).2 rfl)⟩
end

/-- How many nodes have not been come to. -/
def unv (n : Nat) (s : St) : Nat := (List.range n).countP fun v => decide (s.num v = 0)
theorem unv_come (n : Nat) (s : St) (y : Nat) (hy : y < n) (h0 : s.num y = 0) : unv n s = unv n (s.come y) + 1 := by
  refine countP_one (i := y) (p := fun v => decide (s.num v = 0)) (q := fun v => decide ((s.come y).num v = 0)) ?_ ?_ (fun j hj => ?_) _ List.nodup_range (List.mem_range.2 hy)
  · simp [h0]
  · have : (s.come y).num y = s.cnt + 1 := up_same _ _ _
    simp [this]
  · have : (s.come y).num j = s.num j := up_other _ _ _ _ hj
    simp [this]
/-- What the walk keeps beside. -/
structure PInv (E : List (List Int)) (Z : Nat → Prop) (s : St) : Prop where
  inv : Inv E s
  cnt : s.cnt + unv E.length s = E.length
  len : s.stack.length ≤ s.cnt
  seen : ∀ v, Z v → s.num v ≠ 0
theorem PInv.wayLen {E : List (List Int)} {Z : Nat → Prop} {s : St} (h : PInv E Z s) : s.way.length ≤ s.cnt := Nat.le_trans h.inv.sub.length_le h.len
theorem PInv.come {E : List (List Int)} {Z : Nat → Prop} {s : St} (h : PInv E Z s) {y : Nat} (hy : y < E.length) (h0 : s.num y = 0) (hr : ∀ v ∈ s.way, Own.Reach E v y) : PInv E (fun v => Z v ∨ v = y) (s.come y) where
  inv := h.inv.come hy h0 hr
  cnt := by
    have := h.cnt
    rw [unv_come _ _ _ hy h0] at this
    show s.cnt + 1 + _ = _; omega
  len := by
    show (s.stack ++ [y]).length ≤ s.cnt + 1
    have := h.len
    simp; omega
  seen v hv := by
    show up s.num y (s.cnt + 1) v ≠ 0
    by_cases e : v = y
    · subst e; rw [up_same]; omega
    · rw [up_other _ _ _ _ e]; exact h.seen v (hv.resolve_right e)
end Go.Proofs.Ytnkfmhhfeaohbaa
