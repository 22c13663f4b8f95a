/- The walk of the law SccCyclic. -/
import Derived.Test.YtnkfmhhfeaohbaaR
import Derived.Test.YtnkfmhhfeaohbaaAa
import Derived.Test.YtnkfmhhfeaohbaaB
import Derived.Deep.RegionHeld3
namespace Go.Proofs.Ytnkfmhhfeaohbaa
open Go.RowKit Go.Own

set_option maxHeartbeats 2000000 in
theorem sccCyclic_walk (vi vl : Value) (ae : Option Addr) (n ce : Nat) (E : List (List Int)) (ap : Option Addr) (m cp : Nat) (zs : List Int) (w : World) (hE : E.length = n) (he : EdgesAt w ae E) (hn : n ≤ 9223372036854775807) (hrow : ∀ i, i < E.length → (E.getD i []).length ≤ 140737488355328)
    (hz : RowAt .i64 w ap m zs) (hm : m ≤ 9223372036854775807) :
    Calls Try.prog 5 #[.agg #[vi, .slice ae n ce, vl], .slice ap m cp] w fun e w' => e = .returned (.bool true) ∧ Below w.heap.size w w' := by
  have HE := Lib.hid hE
  have HED : Hid (∀ W, Below w.heap.size w W → EdgesAt W ae E) := fun W h => he.below h
  have HZ : Hid (∀ W, Below w.heap.size w W → RowAt .i64 W ap m zs) := fun W h => hz.below h
  have HF : Hid (∀ W, Below w.heap.size w W → Calls Try.prog 8 #[.agg #[vi, .slice ae n ce, vl]] W (FarDone E W)) := fun W h => far_any vi vl ae n ce E W hE (he.below h) hn hrow
  have HB : Hid (∀ W, W = w.alloc (.cells #[vi, .slice ae n ce, vl] 26) → Below w.heap.size w W ∧ W.cell? ⟨w.heap.size, 0, none⟩ = some vi ∧ W.cell? ⟨w.heap.size, 1, none⟩ = some (.slice ae n ce) ∧ W.cell? ⟨w.heap.size, 2, none⟩ = some vl) := by
    rintro W rfl
    exact ⟨(Below.refl _ w).alloc (Nat.le_refl _) _, World.cell?_alloc_at (w := w) _ 26 w.heap.size 0 rfl, World.cell?_alloc_at (w := w) _ 26 w.heap.size 1 rfl, World.cell?_alloc_at (w := w) _ 26 w.heap.size 2 rfl⟩
  clear he hrow hE hz
  go_enter Try.func5, Try.ntmps5
  go_upto_region 1 with (fail)
  obtain ⟨hB1, c0, c1, c2⟩ := HB.out _ rfl
  have HB1 := Lib.hid hB1
  clear HB hB1
  generalize w.alloc (.cells #[vi, .slice ae n ce, vl] 26) = w1 at *
  have HC : Hid (∀ W, Hid (Below w1.heap.size w1 W) → W.cell? ⟨w.heap.size, 0, none⟩ = some vi ∧ W.cell? ⟨w.heap.size, 1, none⟩ = some (.slice ae n ce) ∧ W.cell? ⟨w.heap.size, 2, none⟩ = some vl ∧ Hid (Below w1.heap.size w1 W)) := fun W h => ⟨(h.out.cell (World.block_lt_of_cell? w1 _ c0)).trans c0, (h.out.cell (World.block_lt_of_cell? w1 _ c1)).trans c1, (h.out.cell (World.block_lt_of_cell? w1 _ c2)).trans c2, h⟩
  have HLV : Hid (∀ W, Hid (Below w1.heap.size w1 W) → Calls Try.prog 9 #[] W fun e w' => e = .returned (.bool true) ∧ Hid (Below w1.heap.size w1 w')) := fun W h => (lives_any W).mono fun e w' ⟨h1, h2⟩ => ⟨h1, h.out.trans (h2.mono h.out.size)⟩
  have HEND : Hid (∀ W, Hid (Below w1.heap.size w1 W) → Below w.heap.size w W) := fun W h => HB1.out.trans (h.out.mono HB1.out.size)
  by_cases h200 : (200 : Int) < (m : Int)
  · have t0 : decide ((200 : Int) < (m : Int)) = true := decide_eq_true h200
    go_upto_region 2 with (go_at_call 8; refine (HF.out w1 HB1.out).mono ?_; rintro e w2 ⟨b, rfl, -, hbel⟩; have HBX := Lib.hid hbel; clear hbel; cases b)
    all_goals
      clear c0 c1 c2
      go_wp2_with (go_at_call 9; refine (HLV.out w2 HBX).mono ?_; rintro e w3 ⟨rfl, h3⟩)
      go_ret
      exact ⟨rfl, HEND.out _ h3⟩
  · have t0 : decide ((200 : Int) < (m : Int)) = false := decide_eq_false h200
    go_wp2_with (go_at_call 8; refine (HF.out w1 HB1.out).mono ?_; rintro e w2 ⟨b, rfl, hb, hbel⟩; have HFB := Lib.hid hb; have HBX := Lib.hid hbel; clear hb hbel; cases b)
    · obtain ⟨h60, hr2⟩ := HFB.out trivial
      have hn60 : n ≤ 1000000 := by rw [← HE.out]; omega
      have HCY : Hid (∀ W, Hid (Below w1.heap.size w1 W) → Calls Try.prog 15 #[.agg #[vi, .slice ae n ce, vl], .slice ap m cp] W fun e w' => e = .returned (.bool (cycScan E n (-1) zs)) ∧ Hid (Below w1.heap.size w1 w')) := fun W h =>
        (cyclic_any vi vl ae n ce E ap m cp zs W HE.out (HED.out W (HEND.out W h)) hn60 (fun i hi => by have := hr2 i hi; omega) (HZ.out W (HEND.out W h)) hm).mono fun e w' ⟨h1, h2⟩ => ⟨h1, h.out.trans (h2.mono h.out.size)⟩
      have HRC : Hid (∀ W, Hid (Below w1.heap.size w1 W) → Calls Try.prog 16 #[.agg #[vi, .slice ae n ce, vl], .slice ap m cp] W fun e w' => e = .returned (.bool (cycScan E n (-1) zs)) ∧ Hid (Below w1.heap.size w1 w')) := fun W h =>
        (refCyclic_any vi vl ae n ce E ap m cp zs W HE.out (HED.out W (HEND.out W h)) hn60 (fun i hi => by have := hr2 i hi; omega) (HZ.out W (HEND.out W h)) hm).mono fun e w' ⟨h1, h2⟩ => ⟨h1, h.out.trans (h2.mono h.out.size)⟩
      have H0 : Hid (Below w1.heap.size w1 w2.drew) := HBX.out.drew
      clear h60 hr2 HFB HED HF HZ c0 c1 c2
      generalize cycScan E n (-1) zs = cb at *
      have hcb : (cb == cb) = true := beq_self_eq_true cb
      go_region_held3 (fun W => W.cell? ⟨w.heap.size, 0, none⟩ = some vi ∧ W.cell? ⟨w.heap.size, 1, none⟩ = some (.slice ae n ce) ∧ W.cell? ⟨w.heap.size, 2, none⟩ = some vl ∧ Hid (Below w1.heap.size w1 W))
        (first | exact HC.out _ H0 | exact HC.out _ (by assumption))
        (first
          | (go_at_call 15; refine (HCY.out _ H0).mono ?_; rintro e w3 ⟨rfl, H3⟩)
          | (go_at_call 16; refine (HRC.out _ H3).mono ?_; rintro e w4 ⟨rfl, H4⟩)
          | (go_at_call 9; refine (HLV.out _ H4).mono ?_; rintro e w5 ⟨rfl, H5⟩))
      go_wp2_with fail
      go_ret
      exact ⟨rfl, HEND.out _ H5⟩
    · clear c0 c1 c2
      refine (HLV.out w2 HBX).mono ?_
      rintro e w3 ⟨rfl, h3⟩
      go_wp2_with fail
      go_ret
      exact ⟨rfl, HEND.out _ h3⟩

theorem sccCyclic_law (vi vl : Value) (ae : Option Addr) (n ce : Nat) (E : List (List Int)) (ap : Option Addr) (m cp : Nat) (zs : List Int) (w : World) (hE : E.length = n) (he : EdgesAt w ae E) (hn : n ≤ 9223372036854775807) (hrow : ∀ i, i < E.length → (E.getD i []).length ≤ 140737488355328)
    (hz : RowAt .i64 w ap m zs) (_ : ∀ z ∈ zs, (Lit.int .i64 z).wf = true) (hl : m ≤ cp) (hcm : cp ≤ maxLen) (_ : cp * 8 ≤ 140737488351232) (_ : ap = none → m = 0 ∧ cp = 0) :
    Calls Try.prog 5 #[.agg #[vi, .slice ae n ce, vl], .slice ap m cp] w fun e w' => e = .returned (.bool true) ∧ Below w.heap.size w w' := by
  unfold maxLen at hcm
  exact sccCyclic_walk vi vl ae n ce E ap m cp zs w hE he hn hrow hz (by omega)
end Go.Proofs.Ytnkfmhhfeaohbaa
