/- A slice of rows of bools, each row in its own block. -/
import Derived.Test.YtnkfmhhfeaohbaaRec
namespace Go.Own
open Go.RowKit

/-- The outer slice v holds R rows; K rows there are (the last one may not lie in it yet). No block is below B. -/
structure MatV (B : Nat) (w : World) (v : Value) (V : Nat → Value) (R K n : Nat) (M : Nat → Nat → Bool) : Prop where
  outer : Sl w 34 v R ((List.range R).map V)
  row : ∀ i, i < K → Sl w 4 (V i) n (boolsOf n (M i))
  apart : ∀ i j b, i < K → j < K → (V i).ownBlock = some b → (V j).ownBlock = some b → i = j
  off : ∀ i b, i < K → (V i).ownBlock = some b → v.ownBlock ≠ some b
  new : ∀ b, v.ownBlock = some b → B ≤ b
  newR : ∀ i b, i < K → (V i).ownBlock = some b → B ≤ b

section
variable {B : Nat} {w w1 : World} {v : Value} {V : Nat → Value} {R K n : Nat} {M M' : Nat → Nat → Bool}

theorem MatV.start (B : Nat) (w : World) (V : Nat → Value) (n : Nat) (M : Nat → Nat → Bool) : MatV B w (.slice none 0 0) V 0 0 n M :=
  ⟨World.ownsRow_nil _ _ _ _, fun i h => absurd h (Nat.not_lt_zero i), fun i _ _ h => absurd h (Nat.not_lt_zero i), fun i _ h => absurd h (Nat.not_lt_zero i), fun b h => (by cases h), fun i _ h => absurd h (Nat.not_lt_zero i)⟩
theorem boolsOf_congr {n : Nat} {f g : Nat → Bool} (h : ∀ j, j < n → f j = g j) : boolsOf n f = boolsOf n g := by
  unfold boolsOf
  exact List.map_congr_left fun j hj => by rw [h j (List.mem_range.1 hj)]
theorem MatV.congr (h : MatV B w v V R K n M) (hM : ∀ i, i < K → ∀ j, j < n → M i j = M' i j) : MatV B w v V R K n M' :=
  { h with row := fun i hi => by rw [← boolsOf_congr (hM i hi)]; exact h.row i hi }
theorem MatV.kept {S : Nat → Prop} (h : MatV B w v V R K n M) (hk : Kept S w w1) (h1 : ∀ b, v.ownBlock = some b → ¬ S b) (h2 : ∀ i b, i < K → (V i).ownBlock = some b → ¬ S b) : MatV B w1 v V R K n M :=
  { h with outer := Sl.kept h.outer hk h1, row := fun i hi => Sl.kept (h.row i hi) hk (fun b e => h2 i b hi e) }
theorem MatV.below (h : MatV B w v V R K n M) (hb : Below w.heap.size w w1) : MatV B w1 v V R K n M :=
  h.kept (Kept.ofBelow hb) (fun b e s => by have := h.outer.lt b e; omega) (fun i b hi e s => by have := (h.row i hi).lt b e; omega)
/-- A new row of 'false'. -/
theorem MatV.make (h : MatV B w v V R R n M) (hB : B ≤ w.heap.size) (hs : Sl w1 4 (.slice (some ⟨w.heap.size, 0, none⟩) n n) n (List.replicate n (.bool false))) (hk : Kept (fun _ => False) w w1) (hf : ∀ j, M R j = false) :
    MatV B w1 v (up V R (.slice (some ⟨w.heap.size, 0, none⟩) n n)) R (R + 1) n M := by
  have hbR : boolsOf n (M R) = List.replicate n (.bool false) := by
    refine List.ext_getElem (by simp [boolsOf]) fun i h1 h2 => ?_
    simp [boolsOf, hf]
  have hV : ∀ i, i < R → up V R (.slice (some ⟨w.heap.size, 0, none⟩) n n) i = V i := fun i hi => up_other _ _ _ _ (by omega)
  have hlt : ∀ i b, i < R → (V i).ownBlock = some b → b < w.heap.size := fun i b hi e => (h.row i hi).lt b e
  have hown : (Value.slice (some ⟨w.heap.size, 0, none⟩) n n).ownBlock = some w.heap.size := rfl
  refine ⟨?_, fun i hi => ?_, fun i j b hi hj e1 e2 => ?_, fun i b hi e => ?_, h.new, fun i b hi e => ?_⟩
  · have : (List.range R).map (up V R (.slice (some ⟨w.heap.size, 0, none⟩) n n)) = (List.range R).map V := List.map_congr_left fun i hi => hV i (List.mem_range.1 hi)
    rw [this]
    exact Sl.kept h.outer hk (fun _ _ h => h)
  · by_cases e : i = R
    · subst e; rw [up_same, hbR]; exact hs
    · rw [hV i (by omega)]; exact Sl.kept (h.row i (by omega)) hk (fun _ _ h => h)
  · by_cases ei : i = R
    · subst ei
      by_cases ej : j = i
      · exact ej.symm
      · rw [up_same, hown] at e1
        rw [hV j (by omega)] at e2
        have := hlt j b (by omega) e2
        cases e1; omega
    · rw [hV i (by omega)] at e1
      by_cases ej : j = R
      · subst ej
        rw [up_same, hown] at e2
        have := hlt i b (by omega) e1
        cases e2; omega
      · rw [hV j (by omega)] at e2
        exact h.apart i j b (by omega) (by omega) e1 e2
  · by_cases ei : i = R
    · subst ei
      rw [up_same, hown] at e
      cases e
      exact fun e2 => by have := h.outer.lt _ e2; omega
    · rw [hV i (by omega)] at e
      exact h.off i b (by omega) e
  · by_cases ei : i = R
    · subst ei
      rw [up_same, hown] at e
      cases e; exact hB
    · rw [hV i (by omega)] at e
      exact h.newR i b (by omega) e
/-- The pending row goes into the outer slice. -/
theorem MatV.snoc (h : MatV B w v V R (R + 1) n M) {v' : Value} (hs : Sl w1 34 v' (R + 1) ((List.range R).map V ++ [V R])) (hk : Kept (fun k => v.ownBlock = some k) w w1) (hm : ∀ b, v'.ownBlock = some b → v.ownBlock = some b ∨ w.heap.size ≤ b) (hB : B ≤ w.heap.size) :
    MatV B w1 v' V (R + 1) (R + 1) n M where
  outer := by rw [List.range_succ, List.map_append]; exact hs
  row i hi := Sl.kept (h.row i hi) hk (fun b e e2 => h.off i b hi e e2)
  apart := h.apart
  off i b hi e e2 := by
    rcases hm b e2 with h1 | h1
    · exact h.off i b hi e h1
    · have := (h.row i hi).lt b e; omega
  new b e := by
    rcases hm b e with h1 | h1
    · exact h.new b h1
    · omega
  newR := h.newR
/-- One cell is written. -/
theorem MatV.set (h : MatV B w v V R K n M) {b c : Nat} {i j : Nat} (hi : i < K) (hV : V i = .slice (some ⟨b, 0, none⟩) n c) (hj : j < n) (x : Bool) :
    MatV B (w.setCell ⟨b, j, none⟩ (.bool x)) v V R K n (up M i (up (M i) j x)) := by
  have hb : (V i).ownBlock = some b := by rw [hV]; rfl
  have hkp : Kept (fun d => d = b) w (w.setCell ⟨b, j, none⟩ (.bool x)) := (Kept.refl (fun d => d = b) w).setCell (p := ⟨b, j, none⟩) (fun _ => rfl) _
  refine { outer := Sl.kept h.outer hkp (fun d e e2 => h.off i b hi hb (by rw [e, e2])), row := fun k hk => ?_, apart := h.apart, off := h.off, new := h.new, newR := h.newR }
  by_cases e : k = i
  · subst e
    rw [up_same]
    have h1 := h.row k hk
    rw [hV] at h1
    have := (World.ownsRow.stored h1 j (.bool x)).1
    rw [boolsOf_set _ _ _ _ hj] at this
    rw [hV]; exact this
  · rw [up_other _ _ _ _ e]
    exact Sl.kept (h.row k hk) hkp (fun d e1 e2 => e (h.apart k i d hk hi e1 (by rw [hb, e2])))
theorem MatV.setBelow {B0 : Nat} {w0 : World} (h : MatV B w v V R K n M) (hb0 : Below B0 w0 w) (hle : B0 ≤ B) {b c i j : Nat} (hi : i < K) (hV : V i = .slice (some ⟨b, 0, none⟩) n c) (x : Value) : Below B0 w0 (w.setCell ⟨b, j, none⟩ x) :=
  hb0.setCell (Nat.le_trans hle (h.newR i b hi (by rw [hV]; rfl))) _
/-- What a row is. -/
theorem MatV.val (h : MatV B w v V R K n M) (i : Nat) (hi : i < K) (hn : 0 < n) :
    ∃ b c, V i = .slice (some ⟨b, 0, none⟩) n c ∧ ∀ j, j < n → w.cell? ⟨b, j, none⟩ = some (.bool (M i j)) ∧ w.frozen? ⟨b, j, none⟩ = false := by
  have h1 := h.row i hi
  obtain ⟨a, c, e, hc⟩ := h1.shape
  obtain ⟨b, rfl, _, _⟩ := hc 0 hn
  refine ⟨b, c, e, fun j hj => ?_⟩
  obtain ⟨b', e', _, h2⟩ := hc j hj
  cases e'
  rw [e] at h1
  exact ⟨h2.trans (boolsOf_at _ _ _ hj), World.ownsRow.frozenAt (size := 1) h1 j⟩
/-- What the outer slice holds. -/
theorem MatV.at (h : MatV B w v V R K n M) (i : Nat) (hi : i < R) : ∃ g c, v = .slice (some ⟨g, 0, none⟩) R c ∧ ∀ k, k < R → w.cell? ⟨g, k, none⟩ = some (V k) := by
  obtain ⟨a, c, e, hc⟩ := h.outer.shape
  obtain ⟨g, rfl, _, _⟩ := hc i hi
  refine ⟨g, c, e, fun k hk => ?_⟩
  obtain ⟨g', e', _, h2⟩ := hc k hk
  cases e'
  rw [h2]; simp [hk]
end

/-- Row i while its first k edges have been looked at. -/
def rowB (E : List (List Int)) (i k j : Nat) : Bool := ((E.getD i []).take k).contains (j : Int)
theorem rowB_zero (E : List (List Int)) (i j : Nat) : rowB E i 0 j = false := by simp [rowB]
theorem rowB_full {E : List (List Int)} {i j : Nat} (hi : i < E.length) (hj : j < E.length) : rowB E i (E.getD i []).length j = adjB E i j := by
  unfold rowB adjB
  rw [List.take_length]; simp [hi, hj]
theorem rowB_step {E : List (List Int)} {i k : Nat} (hk : k < (E.getD i []).length) (j : Nat) : rowB E i (k + 1) j = (rowB E i k j || decide ((j : Int) = (E.getD i []).getD k 0)) := by
  unfold rowB
  rw [take_more _ _ hk, List.contains_eq_mem, List.contains_eq_mem]
  by_cases h1 : (j : Int) ∈ (E.getD i []).take k <;> by_cases h2 : (j : Int) = (E.getD i []).getD k 0 <;> simp [h1, h2]
def buildM (E : List (List Int)) (i k p q : Nat) : Bool := if p < i then adjB E p q else if p = i then rowB E i k q else false
theorem buildM_done {E : List (List Int)} {i p q : Nat} (hi : i < E.length) (hp : p < i + 1) (hq : q < E.length) : buildM E i (E.getD i []).length p q = buildM E (i + 1) 0 p q := by
  unfold buildM
  by_cases h : p < i
  · rw [if_pos h, if_pos hp]
  · obtain rfl : p = i := by omega
    rw [if_neg h, if_pos rfl, if_pos hp]
    exact rowB_full hi hq
theorem buildM_new (E : List (List Int)) (i j : Nat) : buildM E i 0 i j = false := by
  unfold buildM
  rw [if_neg (Nat.lt_irrefl i), if_pos rfl, rowB_zero]
theorem buildM_set {E : List (List Int)} {i k y : Nat} (hk : k < (E.getD i []).length) (e : (E.getD i []).getD k 0 = (y : Int)) (p q : Nat) :
    up (buildM E i k) i (up (buildM E i k i) y true) p q = buildM E i (k + 1) p q := by
  by_cases h : p = i
  · subst h
    rw [up_same]
    have e1 : ∀ m, buildM E p m p q = rowB E p m q := fun m => by unfold buildM; rw [if_neg (Nat.lt_irrefl p), if_pos rfl]
    rw [e1, rowB_step hk, e]
    by_cases hq : q = y
    · subst hq; rw [up_same]; simp
    · rw [up_other _ _ _ _ hq, e1]
      have : ¬ (q : Int) = (y : Int) := by omega
      simp [this]
  · rw [up_other _ _ _ _ h]
    unfold buildM
    simp [h]
theorem buildM_skip {E : List (List Int)} {i k : Nat} (hk : k < (E.getD i []).length) (n : Nat) (hz : ∀ q : Nat, q < n → (E.getD i []).getD k 0 ≠ (q : Int)) (p q : Nat) (hq : q < n) :
    buildM E i k p q = buildM E i (k + 1) p q := by
  unfold buildM
  by_cases h : p < i
  · rw [if_pos h, if_pos h]
  · rw [if_neg h, if_neg h]
    by_cases h2 : p = i
    · rw [if_pos h2, if_pos h2, rowB_step hk]
      have : ¬ (q : Int) = (E.getD i []).getD k 0 := fun e => hz q hq e.symm
      rw [decide_eq_false this, Bool.or_false]
    · rw [if_neg h2, if_neg h2]
theorem buildM_war {E : List (List Int)} {p q : Nat} (hp : p < E.length) : buildM E E.length 0 p q = warB E 0 p q := by
  unfold buildM warB
  rw [if_pos hp]

/-- Within stage k: the rows below i are done, and row i below j. -/
def stageM (E : List (List Int)) (k i j p q : Nat) : Bool := if p < i ∨ (p = i ∧ q < j) then warB E (k + 1) p q else warB E k p q
theorem stageM_start (E : List (List Int)) (k p q : Nat) : stageM E k 0 0 p q = warB E k p q := by
  unfold stageM; rw [if_neg (by omega)]
theorem stageM_k (E : List (List Int)) (k i j q : Nat) : stageM E k i j k q = warB E k k q := by
  unfold stageM
  by_cases h : k < i ∨ (k = i ∧ q < j)
  · rw [if_pos h, warB_row]
  · rw [if_neg h]
theorem stageM_ik (E : List (List Int)) (k i : Nat) : stageM E k i 0 i k = warB E k i k := by
  unfold stageM; rw [if_neg (by omega)]
theorem war_step (E : List (List Int)) (k i j : Nat) : warB E (k + 1) i j = (warB E k i j || (warB E k i k && warB E k k j)) := by
  conv => lhs; unfold warB
theorem stageM_row (E : List (List Int)) (k i n p q : Nat) (hq : q < n) : stageM E k i n p q = stageM E k (i + 1) 0 p q := by
  unfold stageM
  by_cases h : p < i + 1
  · rw [if_pos (by omega), if_pos (by omega)]
  · rw [if_neg (by omega), if_neg (by omega)]
theorem stageM_skip {E : List (List Int)} {k i : Nat} (h0 : warB E k i k = false) (p q : Nat) : stageM E k i 0 p q = stageM E k (i + 1) 0 p q := by
  unfold stageM
  by_cases h : p < i
  · rw [if_pos (by omega), if_pos (by omega)]
  · rw [if_neg (by omega)]
    by_cases h2 : p = i
    · subst h2
      rw [if_pos (by omega), war_step, h0]; simp
    · rw [if_neg (by omega)]
theorem stageM_same {E : List (List Int)} {k i j : Nat} (h0 : warB E k k j = false) (p q : Nat) : stageM E k i j p q = stageM E k i (j + 1) p q := by
  unfold stageM
  by_cases h : p < i ∨ (p = i ∧ q < j)
  · rw [if_pos h, if_pos (by omega)]
  · rw [if_neg h]
    by_cases h2 : p = i ∧ q = j
    · obtain ⟨rfl, rfl⟩ := h2
      rw [if_pos (by omega), war_step, h0]; simp
    · rw [if_neg (by omega)]
theorem stageM_set {E : List (List Int)} {k i j : Nat} (h1 : warB E k i k = true) (h2 : warB E k k j = true) (p q : Nat) :
    up (stageM E k i j) i (up (stageM E k i j i) j true) p q = stageM E k i (j + 1) p q := by
  by_cases hp : p = i
  · subst hp
    rw [up_same]
    by_cases hq : q = j
    · subst hq
      rw [up_same]
      unfold stageM
      rw [if_pos (by omega), war_step, h1, h2]; simp
    · rw [up_other _ _ _ _ hq]
      unfold stageM
      by_cases h : q < j
      · rw [if_pos (by omega), if_pos (by omega)]
      · rw [if_neg (by omega), if_neg (by omega)]
  · rw [up_other _ _ _ _ hp]
    unfold stageM
    by_cases h : p < i
    · rw [if_pos (by omega), if_pos (by omega)]
    · rw [if_neg (by omega), if_neg (by omega)]
theorem stageM_end (E : List (List Int)) (k n p q : Nat) (hp : p < n) : stageM E k n 0 p q = stageM E (k + 1) 0 0 p q := by
  unfold stageM
  rw [if_pos (by omega), if_neg (by omega)]
end Go.Own
