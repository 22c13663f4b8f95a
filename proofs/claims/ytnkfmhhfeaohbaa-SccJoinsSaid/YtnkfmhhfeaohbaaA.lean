/- Graphs in the heap; walks of Same and far. -/
import Derived.Test.YtnkfmhhfeaohbaaChecked
import Derived.Test.YtnkfmhhfeaohbaaRec
import Derived.Test.YtnkfmhhfeaohbaaInv
import Derived.Test.YtnkfmhhfeaohbaaTail
import Derived.Test.YtnkfmhhfeaohbaaStep
import Derived.Deep.QuietTactic
namespace Go.Proofs.Ytnkfmhhfeaohbaa
open Go.RowKit Go.Own

/-- A node's edges: each of two cells, where it leads to ahead. -/
def EdgeRow (w : World) (v : Value) (row : List Int) : Prop :=
  ∃ a c, v = .slice a row.length c ∧ (row.length = 0 ∨ ∃ b off, a = some ⟨b, off, none⟩ ∧ ∀ j, j < row.length → w.cell? ⟨b, off + j * 2, none⟩ = some (.int .i64 (row.getD j 0)) ∧ ∃ act, w.cell? ⟨b, off + j * 2 + 1, none⟩ = some (.int .i64 act))
/-- All nodes' edges. -/
def EdgesAt (w : World) (a : Option Addr) (E : List (List Int)) : Prop :=
  E.length = 0 ∨ ∃ b off, a = some ⟨b, off, none⟩ ∧ ∀ i, i < E.length → ∃ v, w.cell? ⟨b, off + i, none⟩ = some v ∧ EdgeRow w v (E.getD i [])

theorem EdgeRow.below {w w' : World} {v : Value} {row : List Int} (h : EdgeRow w v row) (hb : Below w.heap.size w w') : EdgeRow w' v row := by
  obtain ⟨a, c, rfl, h⟩ := h
  refine ⟨a, c, rfl, h.imp id ?_⟩
  rintro ⟨b, off, rfl, hc⟩
  refine ⟨b, off, rfl, fun j hj => ?_⟩
  obtain ⟨h1, act, h2⟩ := hc j hj
  exact ⟨(hb.cell (World.block_lt_of_cell? w _ h1)).trans h1, act, (hb.cell (World.block_lt_of_cell? w _ h2)).trans h2⟩
theorem EdgesAt.below {w w' : World} {a : Option Addr} {E : List (List Int)} (h : EdgesAt w a E) (hb : Below w.heap.size w w') : EdgesAt w' a E := by
  refine h.imp id ?_
  rintro ⟨b, off, rfl, hc⟩
  refine ⟨b, off, rfl, fun i hi => ?_⟩
  obtain ⟨v, h1, h2⟩ := hc i hi
  exact ⟨v, (hb.cell (World.block_lt_of_cell? w _ h1)).trans h1, h2.below hb⟩
/-- One node's. -/
theorem EdgesAt.at {w : World} {a : Option Addr} {E : List (List Int)} (h : EdgesAt w a E) (i : Nat) (hi : i < E.length) :
    ∃ b off ai ci, a = some ⟨b, off, none⟩ ∧ w.cell? ⟨b, off + i, none⟩ = some (.slice ai (E.getD i []).length ci) ∧
      ∀ j, j < (E.getD i []).length → ∃ b' off', ai = some ⟨b', off', none⟩ ∧ w.cell? ⟨b', off' + j * 2, none⟩ = some (.int .i64 ((E.getD i []).getD j 0)) ∧ ∃ act, w.cell? ⟨b', off' + j * 2 + 1, none⟩ = some (.int .i64 act) := by
  rcases h with h | ⟨b, off, rfl, hc⟩
  · omega
  · obtain ⟨v, h1, ai, ci, rfl, h2⟩ := hc i hi
    refine ⟨b, off, ai, ci, rfl, h1, fun j hj => ?_⟩
    rcases h2 with h2 | ⟨b', off', rfl, h2⟩
    · omega
    · exact ⟨b', off', rfl, h2 j hj⟩

theorem below_drewN (w : World) (q : Nat) : Below w.heap.size w (w.drewN q) := ⟨rfl, rfl, rfl, Nat.le_refl _, fun _ _ => rfl⟩

theorem getD_ne {xs ys : List Int} {k : Nat} (h : k < xs.length) (h' : k < ys.length) (e : xs.getD k 0 ≠ ys.getD k 0) : xs ≠ ys := fun h => e (by rw [h])
theorem list_eq_of {xs ys : List Int} (hl : xs.length = ys.length) (h : ∀ k, k < xs.length → xs.getD k 0 = ys.getD k 0) : xs = ys :=
  List.ext_getElem hl fun i h1 h2 => by have := h i h1; simpa [List.getD, h1, h2] using this

set_option maxHeartbeats 1000000 in
theorem same_any (a b : Option Addr) (n c m d : Nat) (xs ys : List Int) (w : World) (hx : RowAt .i64 w a n xs) (hy : RowAt .i64 w b m ys) (hn : n ≤ 9223372036854775807) (hm : m ≤ 9223372036854775807) :
    Calls Try.prog 10 #[.slice a n c, .slice b m d] w fun e w' => e = .returned (.bool (decide (xs = ys))) ∧ Below w.heap.size w w' := by
  have HX : Hid (xs.length = n) := hx.1
  have HY : Hid (ys.length = m) := hy.1
  have H1 := Lib.hid hx
  have H2 := Lib.hid hy
  clear hx hy
  by_cases hne : n = m
  · subst hne
    go_enter Try.func10, Try.ntmps10
    go_wp2
    go_loopw [5] (fun i wr => ∃ k : Nat, k ≤ n ∧ i = .int .i64 k ∧ Below w.heap.size w wr ∧ Hid (∀ j, j < k → xs.getD j 0 = ys.getD j 0)) (fun i _ => n - (intOf i).toNat)
    case atStart => exact ⟨0, Nat.zero_le _, rfl, Below.refl _ _, fun j hj => by omega⟩
    case round =>
      obtain ⟨k, hk, rfl, hbel, hno⟩ := hrel
      have HB0 := Lib.hid hbel
      by_cases hlt : k < n
      · have hltI : (k : Int) < (n : Int) := by omega
        obtain ⟨hz1, h0 | ⟨b1, o1, rfl, hc1⟩⟩ := H1.out.below hbel
        · omega
        obtain ⟨hz2, h0 | ⟨b2, o2, rfl, hc2⟩⟩ := H2.out.below hbel
        · omega
        have c1 := hc1 k hlt
        have c2 := hc2 k hlt
        clear hc1 hc2 hbel hz1 hz2
        by_cases heq : xs.getD k 0 = ys.getD k 0
        · have hno' : Hid (∀ j, j < k + 1 → xs.getD j 0 = ys.getD j 0) := fun j hj => by
            rcases Nat.lt_succ_iff_lt_or_eq.1 hj with h | rfl
            · exact hno.out j h
            · exact heq
          rw [heq] at c1
          clear heq
          generalize ys.getD k 0 = y at *
          go_wp2_with fail
          go_quiet (fail)
          go_wp2
          go_roundw
          case rel => exact ⟨k + 1, by omega, by go_num, below_then HB0.out (below_drewN _ _), hno'⟩
          case measure => simp [intOf]; omega
        · have HD : Hid (decide (xs = ys) = false) := decide_eq_false (getD_ne (by rw [HX.out]; exact hlt) (by rw [HY.out]; exact hlt) heq)
          have hq : (xs.getD k 0 == ys.getD k 0) = false := beq_eq_false_iff_ne.2 heq
          have hq2 : (xs.getD k 0 != ys.getD k 0) = true := by rw [bne, hq]; rfl
          clear heq
          generalize ys.getD k 0 = y at *
          generalize xs.getD k 0 = x at *
          go_wp2_with fail
          go_quiet (fail)
          go_wp2
          go_ret
          exact ⟨by rw [HD.out]; rfl, below_then HB0.out (below_drewN _ _)⟩
      · obtain rfl : k = n := by omega
        have HD : Hid (decide (xs = ys) = true) := decide_eq_true (list_eq_of (by rw [HX.out, HY.out]) (fun j hj => hno.out j (by rw [← HX.out]; exact hj)))
        clear hbel
        go_wp2
        go_ret
        exact ⟨by rw [HD.out]; rfl, HB0.out⟩
  · have HD : Hid (decide (xs = ys) = false) := decide_eq_false (fun e => hne (by rw [← HX.out, ← HY.out, e]))
    have hq : ((n : Int) == (m : Int)) = false := beq_eq_false_iff_ne.2 (by omega)
    have hq2 : (n == m) = false := beq_eq_false_iff_ne.2 hne
    have hq3 : ((n : Int) != (m : Int)) = true := by rw [bne, hq]; rfl
    have hq4 : (n != m) = true := by rw [bne, hq2]; rfl
    clear hne
    go_enter Try.func10, Try.ntmps10
    go_wp2
    go_ret
    exact ⟨by rw [HD.out]; rfl, Below.refl _ _⟩
end Go.Proofs.Ytnkfmhhfeaohbaa
