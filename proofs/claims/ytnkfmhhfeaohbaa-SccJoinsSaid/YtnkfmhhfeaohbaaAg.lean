/- The graph of the parts as it is made: a struct that holds an outer slice, in each cell of it a row of edges. -/
import Derived.Test.YtnkfmhhfeaohbaaAe
import Derived.Test.YtnkfmhhfeaohbaaAd
namespace Go.Proofs.Ytnkfmhhfeaohbaa
open Go.RowKit Go.Own

theorem own_shape {w : World} {e : TypeId} {size : Nat} {v : Value} {n : Nat} {xs : List Value} (h : w.ownsRow 0 e size v n xs) : ∃ a c, v = .slice a n c := by
  rcases h.2 with ⟨h1, h2⟩ | ⟨g, cap, cur, h1, _⟩
  · exact ⟨none, 0, by rw [h1, h2]⟩
  · exact ⟨_, _, h1⟩
theorem own_slice {w : World} {e : TypeId} {size : Nat} {v : Value} {n : Nat} {xs : List Value} (h : w.ownsRow 0 e size v n xs) : ∃ a l c, v = .slice a l c := by
  obtain ⟨a, c, h1⟩ := own_shape h
  exact ⟨a, n, c, h1⟩

theorem getD_mem {l : List Int} {k : Nat} (hk : k < l.length) : l.getD k 0 ∈ l := by
  have e : l.getD k 0 = l[k] := by simp [List.getD, hk]
  rw [e]
  exact List.getElem_mem hk

structure HW (w8 w : World) (gh g : Nat) (V : Nat → Value) (R : Nat) (C : Nat → List Int) : Prop where
  es : ES w8 w g V R C
  c0 : w.cell? ⟨gh, 0, none⟩ = some (.slice none 0 0)
  c1 : w.cell? ⟨gh, 1, none⟩ = some (.slice (some ⟨g, 0, none⟩) R R)
  c2 : w.cell? ⟨gh, 2, none⟩ = some (.slice none 0 0)
  ne : gh ≠ g
  neR : ∀ i, i < R → (V i).ownBlock ≠ some gh
  old : Below w8.heap.size w8 w

section
variable {w8 w w1 : World} {gh g : Nat} {V : Nat → Value} {R : Nat} {C : Nat → List Int}
theorem HW.below (h : HW w8 w gh g V R C) (hb : Below w.heap.size w w1) : HW w8 w1 gh g V R C :=
  ⟨h.es.below hb, (hb.cell (World.block_lt_of_cell? w _ h.c0)).trans h.c0, (hb.cell (World.block_lt_of_cell? w _ h.c1)).trans h.c1, (hb.cell (World.block_lt_of_cell? w _ h.c2)).trans h.c2, h.ne, h.neR, h.old.trans (hb.mono h.old.size)⟩
theorem HW.push (h : HW w8 w gh g V R C) {i : Nat} (hi : i < R) {x : Int} {u : Value} (hs : w1.ownsRow 0 40 2 u ((C i).length + 1) (edgeCells (C i ++ [x]))) (hk : Kept (fun k => (V i).ownBlock = some k) w w1) (hm : Moved w (V i) u) :
    HW w8 (w1.setCell ⟨g, i, none⟩ u) gh g (up V i u) R (up C i (C i ++ [x])) := by
  have hks : Kept (fun k => k = g) w1 (w1.setCell ⟨g, i, none⟩ u) := (Kept.refl (fun k => k = g) w1).setCell (p := ⟨g, i, none⟩) (fun _ => rfl) u
  have hgl : gh < w.heap.size := World.block_lt_of_cell? w _ h.c0
  refine ⟨h.es.push hi hs hk hm h.old.size, hks.cellSome (hk.cellSome h.c0 (h.neR i hi)) h.ne, hks.cellSome (hk.cellSome h.c1 (h.neR i hi)) h.ne, hks.cellSome (hk.cellSome h.c2 (h.neR i hi)) h.ne, h.ne, fun j hj e => ?_, ?_⟩
  · by_cases ej : j = i
    · subst ej
      rw [up_same] at e
      rcases hm with hm | ⟨g', e', hm⟩
      · rw [hm] at e; exact h.neR j hi e
      · rw [e'] at e; cases e; omega
    · rw [up_other _ _ _ _ ej] at e; exact h.neR j hj e
  · exact (h.old.trans (hk.below h.old.size (fun k hlt e => by have := h.es.newR i k hi e; omega))).setCell h.es.new _
/-- What region 30 needs of a row. -/
theorem r30_facts {i lr cr : Nat} {ar : Option Addr} (h : HW w8 w gh g V R C) (hi : i < R) (hV : V i = .slice ar lr cr) (hl : (C i).length = lr) : w.cell? ⟨g, i, none⟩ = some (.slice ar lr cr) ∧
      Hid (∀ W, HW w8 W gh g V R C → W.ownsRow 0 40 2 (.slice ar lr cr) lr (edgeCells (C i))) ∧
      Hid (∀ W w6, HW w8 W gh g V R C → Kept (fun k => (Value.slice ar lr cr).ownBlock = some k) W w6 → w6.frozen? ⟨g, i, none⟩ = false ∧ w6.cell? ⟨g, i, none⟩ = some (.slice ar lr cr) ∧ w6.cell? ⟨gh, 1, none⟩ = some (.slice (some ⟨g, 0, none⟩) R R) ∧ Below w8.heap.size w8 w6) ∧
      Hid (∀ W w6 v6 x, HW w8 W gh g V R C → w6.ownsRow 0 40 2 v6 (lr + 1) (edgeCells (C i ++ [x])) → Kept (fun k => (Value.slice ar lr cr).ownBlock = some k) W w6 → Moved W (.slice ar lr cr) v6 →
        HW w8 (w6.setCell ⟨g, i, none⟩ v6) gh g (up V i v6) R (up C i (C i ++ [x]))) := by
  refine ⟨by rw [(h.es.at i hi).1, hV], fun W hW => ?_, fun W w6 hW hk => ?_, fun W w6 v6 x hW hs hk hm => ?_⟩
  · have := hW.es.row i hi
    rwa [hV, hl] at this
  · rw [← hV] at hk
    have hgn : ¬ (V i).ownBlock = some g := hW.es.off i hi
    obtain ⟨h1, h2⟩ := hW.es.at i hi
    refine ⟨(World.frozen?_of_block (hk.block g hW.es.lt hgn)).trans h2, by rw [← hV]; exact hk.cellSome h1 hgn, hk.cellSome hW.c1 (hW.neR i hi), hW.old.trans (hk.below hW.old.size (fun k hlt e => by have := hW.es.newR i k hi e; omega))⟩
  · rw [← hV] at hk hm
    rw [← hl] at hs
    exact hW.push hi hs hk hm
theorem HW.start {w9 : World} (hs : w9.ownsRow 0 38 1 (.slice (some ⟨w8.heap.size, 0, none⟩) R R) R (madeCells (Value.slice none 0 0).cells (R * 1)).toList) (hg : w8.grownBy w9 none) :
    HW w8 (w9.alloc (.cells #[.slice none 0 0, .slice (some ⟨w8.heap.size, 0, none⟩) R R, .slice none 0 0] 26)) w9.heap.size w8.heap.size (fun _ => .slice none 0 0) R (fun _ => []) := by
  have hes := ES.start (w2 := w8) (w := w8) (R := R) hs (Nat.le_refl _)
  have hk : Kept (fun _ => False) w8 w9 := ⟨hg.os, hg.tape, hg.output, hg.size, fun k hk _ => hg.block k hk (by simp)⟩
  have hb9 : Below w8.heap.size w8 w9 := hk.below (Nat.le_refl _) (fun _ _ h => h)
  have hb : Below w9.heap.size w9 (w9.alloc (.cells #[.slice none 0 0, .slice (some ⟨w8.heap.size, 0, none⟩) R R, .slice none 0 0] 26)) := (Below.refl _ _).alloc (Nat.le_refl _) _
  refine ⟨hes.below hb, World.cell?_alloc_at (w := w9) _ 26 w9.heap.size 0 rfl, World.cell?_alloc_at (w := w9) _ 26 w9.heap.size 1 rfl, World.cell?_alloc_at (w := w9) _ 26 w9.heap.size 2 rfl, fun e => by have := hes.lt; omega, fun i _ e => (by cases e), hb9.trans (hb.mono hb9.size)⟩
end
end Go.Proofs.Ytnkfmhhfeaohbaa
