/- The walk of lives: the constant graph. -/
import Derived.Test.YtnkfmhhfeaohbaaQ
namespace Go.Proofs.Ytnkfmhhfeaohbaa
open Go.RowKit Go.Own

def EL : List (List Int) := [[1], [0, 2], []]
theorem sccEL : sccOf EL = [0, 0, 2] := by decide
theorem liveEL : boolsOf 3 (liveB EL 3) = [.bool true, .bool true, .bool false] := by
  have h0 : liveB EL 3 0 = true := by decide
  have h1 : liveB EL 3 1 = true := by decide
  have h2 : liveB EL 3 2 = false := by decide
  show [Value.bool (liveB EL 3 0), Value.bool (liveB EL 3 1), Value.bool (liveB EL 3 2)] = _
  rw [h0, h1, h2]

/-- The world with the graph in it. -/
def WL (w : World) : World := (((w.alloc (.cells #[.int .i64 1, .int .i64 0] 40)).alloc (.cells #[.int .i64 0, .int .i64 0, .int .i64 2, .int .i64 0] 40)).alloc
  (.cells #[.slice (some ⟨w.heap.size, 0, none⟩) 1 1, .slice (some ⟨w.heap.size + 1, 0, none⟩) 2 2, .slice none 0 0] 38)).alloc
  (.cells #[.slice none 0 0, .slice (some ⟨w.heap.size + 1 + 1, 0, none⟩) 3 3, .slice none 0 0] 26)
theorem WL.a (w : World) (i : Nat) : (WL w).cell? ⟨w.heap.size, i, none⟩ = (#[.int .i64 1, .int .i64 0] : Array Value)[i]? := by
  unfold WL
  rw [World.cell?_alloc_past _ _ _ (by simp; omega), World.cell?_alloc_past _ _ _ (by simp; omega), World.cell?_alloc_past _ _ _ (by simp)]
  exact World.cell?_alloc_at (w := w) _ 40 _ i rfl
theorem WL.b (w : World) (i : Nat) : (WL w).cell? ⟨w.heap.size + 1, i, none⟩ = (#[.int .i64 0, .int .i64 0, .int .i64 2, .int .i64 0] : Array Value)[i]? := by
  unfold WL
  rw [World.cell?_alloc_past _ _ _ (by simp), World.cell?_alloc_past _ _ _ (by simp)]
  exact World.cell?_alloc_at _ 40 _ i (by simp)
theorem WL.c (w : World) (i : Nat) : (WL w).cell? ⟨w.heap.size + 1 + 1, i, none⟩ = (#[.slice (some ⟨w.heap.size, 0, none⟩) 1 1, .slice (some ⟨w.heap.size + 1, 0, none⟩) 2 2, .slice none 0 0] : Array Value)[i]? := by
  unfold WL
  rw [World.cell?_alloc_past _ _ _ (by simp)]
  exact World.cell?_alloc_at _ 38 _ i (by simp)
theorem WL.d (w : World) (i : Nat) : (WL w).cell? ⟨w.heap.size + 1 + 1 + 1, i, none⟩ = (#[.slice none 0 0, .slice (some ⟨w.heap.size + 1 + 1, 0, none⟩) 3 3, .slice none 0 0] : Array Value)[i]? := by
  unfold WL
  exact World.cell?_alloc_at _ 26 _ i (by simp)
theorem WL.below (w : World) : Below w.heap.size w (WL w) := by
  unfold WL
  exact ((((Below.refl _ w).alloc (Nat.le_refl _) _).alloc (by simp) _).alloc (by simp; omega) _).alloc (by simp; omega) _
theorem WL.edges (w : World) : EdgesAt (WL w) (some ⟨w.heap.size + 1 + 1, 0, none⟩) EL := by
  refine .inr ⟨_, _, rfl, fun i hi => ?_⟩
  have h3 : i < 3 := hi
  match i, h3 with
  | 0, _ =>
    refine ⟨.slice (some ⟨w.heap.size, 0, none⟩) 1 1, WL.c w 0, _, 1, rfl, .inr ⟨_, _, rfl, fun j hj => ?_⟩⟩
    have h1 : j < 1 := hj
    obtain rfl : j = 0 := by omega
    exact ⟨WL.a w 0, 0, WL.a w 1⟩
  | 1, _ =>
    refine ⟨.slice (some ⟨w.heap.size + 1, 0, none⟩) 2 2, WL.c w 1, _, 2, rfl, .inr ⟨_, _, rfl, fun j hj => ?_⟩⟩
    have h1 : j < 2 := hj
    match j, h1 with
    | 0, _ => exact ⟨WL.b w 0, 0, WL.b w 1⟩
    | 1, _ => exact ⟨WL.b w 2, 0, WL.b w 3⟩
  | 2, _ => exact ⟨.slice none 0 0, WL.c w 2, _, 0, rfl, .inl rfl⟩
theorem EL_row (i : Nat) (hi : i < EL.length) : (EL.getD i []).length ≤ 1000000000 := by
  have h3 : i < 3 := hi
  match i, h3 with
  | 0, _ => decide
  | 1, _ => decide
  | 2, _ => decide

set_option maxHeartbeats 1000000 in
theorem lives_any (w : World) : Calls Try.prog 9 #[] w fun e w' => e = .returned (.bool true) ∧ Below w.heap.size w w' := by
  have HL : Hid (∀ W, Below (WL w).heap.size (WL w) W → Calls Try.prog 17 #[.agg #[.slice none 0 0, .slice (some ⟨w.heap.size + 1 + 1, 0, none⟩) 3 3, .slice none 0 0]] W fun e w' => ∃ a c, e = .returned (.slice a 3 c) ∧ Sl w' 4 (.slice a 3 c) 3 (boolsOf 3 (liveB EL 3)) ∧ Below W.heap.size W w') :=
    fun W h => live_any _ _ _ 3 3 EL W rfl ((WL.edges w).below h) (by omega) EL_row
  have HO : Hid (∀ W, Below (WL w).heap.size (WL w) W → Calls Try.prog 11 #[.agg #[.slice none 0 0, .slice (some ⟨w.heap.size + 1 + 1, 0, none⟩) 3 3, .slice none 0 0]] W fun e w' => ∃ a c, e = .returned (.slice a 3 c) ∧ MadeInts .i64 3 W w' (.slice a 3 c) [0, 0, 2]) :=
    fun W h => by
      have := of_any (.slice none 0 0) (.slice none 0 0) _ 3 3 EL W rfl ((WL.edges w).below h) (by omega) EL_row
      unfold OfDone at this
      rw [sccEL] at this
      exact this
  have HB : Hid (Below w.heap.size w (WL w)) := WL.below w
  have d0 : Hid ((WL w).cell? ⟨w.heap.size + 1 + 1 + 1, 0, none⟩ = some (.slice none 0 0)) := WL.d w 0
  have d1 : Hid ((WL w).cell? ⟨w.heap.size + 1 + 1 + 1, 1, none⟩ = some (.slice (some ⟨w.heap.size + 1 + 1, 0, none⟩) 3 3)) := WL.d w 1
  have d2 : Hid ((WL w).cell? ⟨w.heap.size + 1 + 1 + 1, 2, none⟩ = some (.slice none 0 0)) := WL.d w 2
  go_enter Try.func9, Try.ntmps9
  go_upto_region 2 with (fail)
  change Code.wp _ _ _ _ (WL w)
  generalize hW : WL w = W at *
  clear hW
  have c0 := d0.out
  have c1 := d1.out
  have c2 := d2.out
  generalize w.heap.size + 1 + 1 + 1 = gb at *
  generalize w.heap.size + 1 + 1 = ge at *
  go_upto_region 3 with (go_at_call 17; refine (HL.out W (Below.refl _ _)).mono ?_; rintro e w2 ⟨a, c, rfl, hs, hb⟩; have HS := Lib.hid hs; have HB2 := Lib.hid hb; clear hs hb)
  clear c0 c1 c2
  have c0 := (HB2.out.cell (World.block_lt_of_cell? W _ d0.out)).trans d0.out
  have c1 := (HB2.out.cell (World.block_lt_of_cell? W _ d1.out)).trans d1.out
  have c2 := (HB2.out.cell (World.block_lt_of_cell? W _ d2.out)).trans d2.out
  obtain ⟨a', c', ea, hc⟩ := HS.out.shape
  cases ea
  obtain ⟨g, rfl, -, k0⟩ := hc 0 (by omega)
  have k1 := hc 1 (by omega)
  have k2 := hc 2 (by omega)
  obtain ⟨g1, e1, -, k1⟩ := k1
  cases e1
  obtain ⟨g2, e2, -, k2⟩ := k2
  cases e2
  rw [liveEL] at k0 k1 k2
  have HK : Hid (∀ W, Below w2.heap.size w2 W → W.cell? ⟨g, 0, none⟩ = some (.bool true) ∧ W.cell? ⟨g, 1, none⟩ = some (.bool true) ∧ W.cell? ⟨g, 2, none⟩ = some (.bool false)) := fun W h =>
    ⟨(h.cell (World.block_lt_of_cell? w2 _ k0)).trans k0, (h.cell (World.block_lt_of_cell? w2 _ k1)).trans k1, (h.cell (World.block_lt_of_cell? w2 _ k2)).trans k2⟩
  have HSM : Hid (∀ w3 a2 c2, MadeInts .i64 3 w2 w3 (.slice a2 3 c2) [0, 0, 2] → Calls Try.prog 10 #[.slice a2 3 c2, .slice (some ⟨w3.heap.size, 0, none⟩) 3 3] (w3.alloc (.cells #[.int .i64 0, .int .i64 0, .int .i64 2] 3)) fun e w' => e = .returned (.bool true) ∧ Below w2.heap.size w2 w') := fun w3 a2 c2 hm => by
    have hb3 : Below w3.heap.size w3 (w3.alloc (.cells #[.int .i64 0, .int .i64 0, .int .i64 2] 3)) := (Below.refl _ w3).alloc (Nat.le_refl _) _
    refine (same_any a2 (some ⟨w3.heap.size, 0, none⟩) 3 c2 3 3 [0, 0, 2] [0, 0, 2] _ ((made_rowAt hm).below hb3) ⟨rfl, .inr ⟨_, _, rfl, fun i hi => ?_⟩⟩ (by omega) (by omega)).mono ?_
    · rw [World.cell?_alloc_at (w := w3) _ 3 _ _ rfl]
      match i, hi with
      | 0, _ => rfl
      | 1, _ => rfl
      | 2, _ => rfl
    · rintro e w' ⟨rfl, h⟩
      have h1 := (made_below hm).trans (hb3.mono (made_below hm).size)
      exact ⟨rfl, h1.trans (h.mono h1.size)⟩
  clear k0 k1 k2 hc HS HL
  have HO2 := Lib.hid (HO.out w2 HB2.out)
  clear HO d0 d1 d2
  go_wp2_with (first | (go_at_call 11; refine HO2.out.mono ?_; rintro e w3 ⟨a2, c2, rfl, hm⟩; have HM := Lib.hid hm; clear hm) | (go_at_call 10; refine (HSM.out _ _ _ HM.out).mono ?_; rintro e w5 ⟨rfl, hb⟩; obtain ⟨k0, k1, k2⟩ := HK.out _ hb; have HB5 := Lib.hid hb; clear hb))
  go_ret
  exact ⟨rfl, HB.out.trans ((HB2.out.trans (HB5.out.mono HB2.out.size)).mono HB.out.size)⟩
end Go.Proofs.Ytnkfmhhfeaohbaa
