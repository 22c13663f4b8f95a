/- Plain facts on cells of values: what Put and Take answer of them. -/
import Derived.Test.YtcbeeapcbnnmpaaF
namespace Go.Proofs.Ytcbeeapcbnnmpaa
open Go.RowKit Go.Own

theorem isC_cellsOf (n : Nat) (l : List Int) : isC (cellsOf n l) = true := by
  unfold cellsOf
  rw [List.cons_append, isC_yes (by simp)]
  simp [notZero]
theorem items_cellsOf (n : Nat) (l : List Int) : items (cellsOf n l) = l := by
  have h := isC_cellsOf n l
  unfold items
  rw [if_pos h]
  simp [cellsOf]
theorem putB_cellsOf (n : Nat) (l : List Int) (h : l.length + 1 ≤ n) : putB (cellsOf n l) = decide (l.length + 2 ≤ n) := by
  unfold putB
  rw [isC_cellsOf, Bool.true_and, length_cellsOf n l h]
  simp only [cellsOf, List.cons_append, List.headD_cons]
  rw [Bool.eq_iff_iff]
  simp; omega
theorem putL_cellsOf (n : Nat) (l : List Int) (x : Int) (h : l.length + 2 ≤ n) : putL (cellsOf n l) x = cellsOf n (l ++ [x]) := by
  rw [putL_yes (by rw [putB_cellsOf n l (by omega)]; simpa using h), length_cellsOf n l (by omega), items_cellsOf]
theorem takeB_cellsOf (n : Nat) (l : List Int) : takeB (cellsOf n l) = !l.isEmpty := by unfold takeB; rw [items_cellsOf]
theorem takeX_cellsOf (n : Nat) (x : Int) (l : List Int) : takeX (cellsOf n (x :: l)) = x := by unfold takeX; rw [items_cellsOf]; rfl
theorem takeL_cellsOf (n : Nat) (x : Int) (l : List Int) (h : l.length + 2 ≤ n) : takeL (cellsOf n (x :: l)) = cellsOf n l := by
  unfold takeL
  rw [items_cellsOf, if_neg (by simp), length_cellsOf n (x :: l) (by simpa using h)]
  rfl
theorem takeL_cellsOf_nil (n : Nat) : takeL (cellsOf n []) = [] := by
  unfold takeL
  rw [items_cellsOf, if_pos rfl]
theorem cellsOf_nil (n : Nat) (h : 1 ≤ n) : cellsOf n [] = List.replicate n 0 := by
  obtain ⟨k, rfl⟩ : ∃ k, n = k + 1 := ⟨n - 1, by omega⟩
  simp [cellsOf, List.replicate_succ]
end Go.Proofs.Ytcbeeapcbnnmpaa
