/- A slice of rows of numbers, each row in its own block, beside an array of numbers. -/
import Derived.Test.YtnkfmhhfeaohbaaMat
namespace Go.Own
open Go.RowKit

structure PS (w2 w : World) (aV v : Value) (V : Nat → Value) (n R : Nat) (A : Nat → Nat) (X : Nat → List Int) : Prop where
  outer : Sl w 22 v R ((List.range R).map V)
  row : ∀ i, i < R → Sl w 3 (V i) (X i).length ((X i).map (Value.int .i64))
  apart : ∀ i j b, i < R → j < R → (V i).ownBlock = some b → (V j).ownBlock = some b → i = j
  off : ∀ i b, i < R → (V i).ownBlock = some b → v.ownBlock ≠ some b
  new : ∀ b, v.ownBlock = some b → w2.heap.size ≤ b
  newR : ∀ i b, i < R → (V i).ownBlock = some b → w2.heap.size ≤ b
  arr : Sl w 3 aV n (numsOf n A)
  aoff : ∀ b, aV.ownBlock = some b → v.ownBlock ≠ some b
  aoffR : ∀ i b, i < R → aV.ownBlock = some b → (V i).ownBlock ≠ some b
  anew : ∀ b, aV.ownBlock = some b → w2.heap.size ≤ b
  old : Below w2.heap.size w2 w

section
variable {w2 w w1 : World} {aV v : Value} {V : Nat → Value} {n R : Nat} {A : Nat → Nat} {X X' : Nat → List Int}

theorem PS.congr (h : PS w2 w aV v V n R A X) (hX : ∀ i, i < R → X i = X' i) : PS w2 w aV v V n R A X' :=
  { h with row := fun i hi => by rw [← hX i hi]; exact h.row i hi }
theorem PS.drew (h : PS w2 w aV v V n R A X) : PS w2 w.drew aV v V n R A X :=
  { h with outer := h.outer, row := h.row, arr := h.arr, old := h.old.drew }
/-- An empty row more. -/
theorem PS.snoc (h : PS w2 w aV v V n R A X) {g c' : Nat} (hs : Sl w1 22 (.slice (some ⟨g, 0, none⟩) (R + 1) c') (R + 1) ((List.range R).map V ++ [.slice none 0 0])) (hk : Kept (fun k => v.ownBlock = some k) w w1)
    (hm : v.ownBlock = some g ∨ w.heap.size ≤ g) : PS w2 w1 aV (.slice (some ⟨g, 0, none⟩) (R + 1) c') (up V R (.slice none 0 0)) n (R + 1) A (up X R []) := by
  have hV : ∀ i, i < R → up V R (.slice none 0 0) i = V i := fun i hi => up_other _ _ _ _ (by omega)
  have hX : ∀ i, i < R → up X R [] i = X i := fun i hi => up_other _ _ _ _ (by omega)
  have hg : ∀ b, (Value.slice (some ⟨g, 0, none⟩) (R + 1) c').ownBlock = some b → b = g := fun b e => by cases e; rfl
  have hRV : up V R (.slice none 0 0) R = .slice none 0 0 := up_same _ _ _
  have hold : ∀ i b, i < R + 1 → (up V R (.slice none 0 0) i).ownBlock = some b → i < R ∧ (V i).ownBlock = some b := fun i b hi e => by
    by_cases ei : i = R
    · subst ei; rw [hRV] at e; cases e
    · rw [hV i (by omega)] at e; exact ⟨by omega, e⟩
  refine ⟨?_, fun i hi => ?_, fun i j b hi hj e1 e2 => ?_, fun i b hi e e2 => ?_, fun b e => ?_, fun i b hi e => ?_, Sl.kept h.arr hk (fun b e e2 => h.aoff b e e2), fun b e e2 => ?_, fun i b hi e e2 => ?_, h.anew, h.old.trans (hk.below h.old.size (fun k hlt e => by have := h.new k e; omega))⟩
  · rw [List.range_succ, List.map_append]
    have : (List.range R).map (up V R (.slice none 0 0)) = (List.range R).map V := List.map_congr_left fun i hi => hV i (List.mem_range.1 hi)
    rw [this]
    simpa [hRV] using hs
  · by_cases ei : i = R
    · subst ei; rw [hRV, up_same]; exact World.ownsRow_nil _ _ _ _
    · rw [hV i (by omega), hX i (by omega)]
      exact Sl.kept (h.row i (by omega)) hk (fun b e e2 => h.off i b (by omega) e e2)
  · obtain ⟨h1, e1⟩ := hold i b hi e1
    obtain ⟨h2, e2⟩ := hold j b hj e2
    exact h.apart i j b h1 h2 e1 e2
  · obtain ⟨h1, e⟩ := hold i b hi e
    obtain rfl := hg b e2
    rcases hm with hm | hm
    · exact h.off i _ h1 e hm
    · have := (h.row i h1).lt _ e; omega
  · obtain rfl := hg b e
    rcases hm with hm | hm
    · exact h.new _ hm
    · have := h.old.size; omega
  · obtain ⟨h1, e⟩ := hold i b hi e
    exact h.newR i b h1 e
  · obtain rfl := hg b e2
    rcases hm with hm | hm
    · exact h.aoff _ e hm
    · have := h.arr.lt _ e; omega
  · obtain ⟨h1, e2⟩ := hold i b hi e2
    exact h.aoffR i b h1 e e2
/-- A row has got one more, and the outer slice holds what the row now is. -/
theorem PS.push (h : PS w2 w aV v V n R A X) {i : Nat} (hi : i < R) {x : Int} {u : Value} (hs : Sl w1 3 u ((X i).length + 1) ((X i).map (Value.int .i64) ++ [.int .i64 x])) (hk : Kept (fun k => (V i).ownBlock = some k) w w1) (hm : Moved w (V i) u)
    {g c : Nat} (hv : v = .slice (some ⟨g, 0, none⟩) R c) : PS w2 (w1.setCell ⟨g, i, none⟩ u) aV v (up V i u) n R A (up X i (X i ++ [x])) := by
  have hvg : v.ownBlock = some g := by rw [hv]; rfl
  have hu : ∀ b, u.ownBlock = some b → (V i).ownBlock = some b ∨ w.heap.size ≤ b := fun b e => by
    rcases hm with hm | ⟨g', e', hm⟩
    · rw [hm] at e; exact .inl e
    · rw [e'] at e; cases e; exact .inr hm
  have hug : u.ownBlock ≠ some g := fun e => by
    rcases hu g e with h1 | h1
    · exact h.off i g hi h1 hvg
    · have := h.outer.lt g hvg; omega
  have hks : Kept (fun k => k = g) w1 (w1.setCell ⟨g, i, none⟩ u) := (Kept.refl (fun k => k = g) w1).setCell (p := ⟨g, i, none⟩) (fun _ => rfl) u
  have ho1 : Sl w1 22 v R ((List.range R).map V) := Sl.kept h.outer hk (fun b e e2 => h.off i b hi e2 e)
  have hold : ∀ j b, j < R → (up V i u j).ownBlock = some b → ((V j).ownBlock = some b) ∨ (j = i ∧ w.heap.size ≤ b) := fun j b hj e => by
    by_cases ej : j = i
    · subst ej; rw [up_same] at e
      exact (hu b e).imp id (fun h => ⟨rfl, h⟩)
    · rw [up_other _ _ _ _ ej] at e; exact .inl e
  refine ⟨?_, fun j hj => ?_, fun j k b hj hk' e1 e2 => ?_, fun j b hj e e2 => ?_, h.new, fun j b hj e => ?_, ?_, h.aoff, fun j b hj e e2 => ?_, h.anew, ?_⟩
  · rw [hv] at ho1 ⊢
    have := (World.ownsRow.stored ho1 i u).1
    have e : ((List.range R).map V).set i u = (List.range R).map (up V i u) := by
      refine List.ext_getElem (by simp) fun j h1 h2 => ?_
      simp only [List.getElem_set, List.getElem_map, List.getElem_range, up]
      by_cases e : i = j
      · subst e; simp
      · rw [if_neg e, if_neg (fun e' => e e'.symm)]
    rw [e] at this
    exact this
  · by_cases ej : j = i
    · subst ej
      rw [up_same, up_same, List.length_append, List.map_append]
      exact Sl.kept hs hks (fun b e e2 => hug (by rw [e, e2]))
    · rw [up_other _ _ _ _ ej, up_other _ _ _ _ ej]
      exact Sl.kept (Sl.kept (h.row j hj) hk (fun b e e2 => ej (h.apart j i b hj hi e e2))) hks (fun b e e2 => h.off j b hj e (by rw [hvg, e2]))
  · rcases hold j b hj e1 with h1 | ⟨h1, h1'⟩
    · rcases hold k b hk' e2 with h2 | ⟨h2, h2'⟩
      · exact h.apart j k b hj hk' h1 h2
      · have := (h.row j hj).lt b h1; omega
    · rcases hold k b hk' e2 with h2 | ⟨h2, h2'⟩
      · have := (h.row k hk').lt b h2; omega
      · omega
  · rcases hold j b hj e with h1 | ⟨_, h1⟩
    · exact h.off j b hj h1 e2
    · have := h.outer.lt b e2; omega
  · rcases hold j b hj e with h1 | ⟨_, h1⟩
    · exact h.newR j b hj h1
    · have := h.old.size; omega
  · exact Sl.kept (Sl.kept h.arr hk (fun b e e2 => h.aoffR i b hi e e2)) hks (fun b e e2 => h.aoff b e (by rw [hvg, e2]))
  · rcases hold j b hj e2 with h1 | ⟨_, h1⟩
    · exact h.aoffR j b hj e h1
    · have := h.arr.lt b e; omega
  · exact (h.old.trans (hk.below h.old.size (fun k hlt e => by have := h.newR i k hi e; omega))).setCell (h.new g hvg) _
/-- A cell of the array is written. -/
theorem PS.setArr (h : PS w2 w aV v V n R A X) {b c j : Nat} (hV : aV = .slice (some ⟨b, 0, none⟩) n c) (hj : j < n) (x : Nat) : PS w2 (w.setCell ⟨b, j, none⟩ (.int .i64 (x : Int))) aV v V n R (up A j x) X := by
  have hb : aV.ownBlock = some b := by rw [hV]; rfl
  have hkp : Kept (fun d => d = b) w (w.setCell ⟨b, j, none⟩ (.int .i64 (x : Int))) := (Kept.refl (fun d => d = b) w).setCell (p := ⟨b, j, none⟩) (fun _ => rfl) _
  refine { h with outer := Sl.kept h.outer hkp (fun d e e2 => h.aoff b hb (by rw [← e2]; exact e)), row := fun i hi => Sl.kept (h.row i hi) hkp (fun d e e2 => h.aoffR i b hi hb (by rw [← e2]; exact e)), arr := ?_, old := h.old.setCell (h.anew b hb) _ }
  have h1 := h.arr
  rw [hV] at h1 ⊢
  have := (World.ownsRow.stored h1 j (.int .i64 (x : Int))).1
  rw [numsOf_set _ _ _ _ hj] at this
  exact this
theorem PS.arrAt (h : PS w2 w aV v V n R A X) (hn : 0 < n) : ∃ b c, aV = .slice (some ⟨b, 0, none⟩) n c ∧ ∀ j, j < n → w.cell? ⟨b, j, none⟩ = some (.int .i64 ((A j : Nat) : Int)) ∧ w.frozen? ⟨b, j, none⟩ = false := by
  have h1 := h.arr
  obtain ⟨a, c, e, hc⟩ := h1.shape
  obtain ⟨b, rfl, _, _⟩ := hc 0 hn
  refine ⟨b, c, e, fun j hj => ?_⟩
  obtain ⟨b', e', _, h2⟩ := hc j hj
  cases e'
  rw [e] at h1
  exact ⟨h2.trans (numsOf_at _ _ _ hj), World.ownsRow.frozenAt (size := 1) h1 j⟩
theorem PS.at (h : PS w2 w aV v V n R A X) (hR : 0 < R) : ∃ g c, v = .slice (some ⟨g, 0, none⟩) R c ∧ ∀ k, k < R → w.cell? ⟨g, k, none⟩ = some (V k) ∧ w.frozen? ⟨g, k, none⟩ = false := by
  have h1 := h.outer
  obtain ⟨a, c, e, hc⟩ := h1.shape
  obtain ⟨g, rfl, _, _⟩ := hc 0 hR
  refine ⟨g, c, e, fun k hk => ?_⟩
  obtain ⟨g', e', _, h2⟩ := hc k hk
  cases e'
  rw [e] at h1
  exact ⟨by rw [h2]; simp [hk], World.ownsRow.frozenAt (size := 1) h1 k⟩
end

/-- The groups of the first k by their leaders, plainly. -/
def leads (f : Nat → Nat) (k : Nat) : List Nat := (List.range k).filter fun v => decide (f v = v)
def cntL (f : Nat → Nat) (k : Nat) : Nat := (leads f k).length
def grp (f : Nat → Nat) (k u : Nat) : List Int := ((List.range k).filter fun v => decide (f v = u)).map fun (v : Nat) => (v : Int)
/-- Row i of the groups of the first k. -/
def grpRow (f : Nat → Nat) (k i : Nat) : List Int := grp f k ((leads f k).getD i 0)
theorem leads_succ (f : Nat → Nat) (k : Nat) : leads f (k + 1) = leads f k ++ (if f k = k then [k] else []) := by
  unfold leads
  rw [List.range_succ, List.filter_append]
  by_cases h : f k = k <;> simp [h]
theorem grp_succ (f : Nat → Nat) (k u : Nat) : grp f (k + 1) u = grp f k u ++ (if f k = u then [(k : Int)] else []) := by
  unfold grp
  rw [List.range_succ, List.filter_append, List.map_append]
  by_cases h : f k = u <;> simp [h]
theorem cntL_succ (f : Nat → Nat) (k : Nat) : cntL f (k + 1) = cntL f k + (if f k = k then 1 else 0) := by
  unfold cntL
  rw [leads_succ, List.length_append]
  by_cases h : f k = k <;> simp [h]
theorem cntL_le (f : Nat → Nat) : ∀ k, cntL f k ≤ k
  | 0 => Nat.le_refl _
  | k + 1 => by rw [cntL_succ]; have := cntL_le f k; split <;> omega
/-- A leader stands where as many leaders are ahead of it. -/
theorem leads_at {f : Nat → Nat} {u : Nat} (hu : f u = u) : ∀ k, u < k → cntL f u < cntL f k ∧ (leads f k).getD (cntL f u) 0 = u
  | 0, h => by omega
  | k + 1, h => by
    by_cases e : u = k
    · subst e
      rw [cntL_succ, if_pos hu, leads_succ, if_pos hu]
      refine ⟨by omega, ?_⟩
      simp [cntL, List.getD]
    · obtain ⟨h1, h2⟩ := leads_at hu k (by omega)
      refine ⟨by rw [cntL_succ]; omega, ?_⟩
      rw [leads_succ]
      have h1' : cntL f u < (leads f k).length := h1
      rw [List.getD_eq_getElem?_getD, List.getElem?_append_left h1', ← List.getD_eq_getElem?_getD]; exact h2
theorem leads_mem {f : Nat → Nat} {k i : Nat} (hi : i < cntL f k) : f ((leads f k).getD i 0) = (leads f k).getD i 0 ∧ (leads f k).getD i 0 < k := by
  have hi' : i < (leads f k).length := hi
  have e : (leads f k).getD i 0 = (leads f k)[i] := by simp [List.getD, hi']
  have hm : (leads f k)[i] ∈ leads f k := List.getElem_mem hi'
  rw [e]
  unfold leads at hm ⊢
  rw [List.mem_filter] at hm
  exact ⟨of_decide_eq_true hm.2, List.mem_range.1 hm.1⟩
theorem leads_old {f : Nat → Nat} {k i : Nat} (hi : i < cntL f k) : (leads f (k + 1)).getD i 0 = (leads f k).getD i 0 := by
  have hi' : i < (leads f k).length := hi
  rw [leads_succ, List.getD_eq_getElem?_getD, List.getElem?_append_left hi', ← List.getD_eq_getElem?_getD]
theorem leads_inj {f : Nat → Nat} {k i u : Nat} (hu : f u = u) (huk : u < k) (hi : i < cntL f k) (e : (leads f k).getD i 0 = u) : i = cntL f u := by
  have h1 := leads_at hu k huk
  have hnd : (leads f k).Nodup := List.Pairwise.filter _ List.nodup_range
  have hi' : i < (leads f k).length := hi
  have h2 : cntL f u < (leads f k).length := h1.1
  have e1 : (leads f k).getD i 0 = (leads f k)[i] := by simp [List.getD, hi']
  have e2 : (leads f k).getD (cntL f u) 0 = (leads f k)[cntL f u] := by simp [List.getD, h2]
  exact (List.getElem_inj (h₀ := hi') (h₁ := h2) hnd).1 (by rw [← e1, ← e2, e, h1.2])
/-- Node k goes into its leader's row. -/
theorem grpRow_push {f : Nat → Nat} {k : Nat} (hf : f (f k) = f k) (hlt : f k < k) (i : Nat) (hi : i < cntL f k) :
    up (grpRow f k) (cntL f (f k)) (grpRow f k (cntL f (f k)) ++ [(k : Int)]) i = grpRow f (k + 1) i := by
  have hne : f k ≠ k := by omega
  by_cases e : i = cntL f (f k)
  · subst e
    rw [up_same]
    unfold grpRow
    rw [leads_old hi, (leads_at hf k hlt).2, grp_succ, if_pos rfl]
  · rw [up_other _ _ _ _ e]
    unfold grpRow
    rw [leads_old hi, grp_succ, if_neg (fun e' => e (leads_inj hf hlt hi e'.symm)), List.append_nil]
/-- Node k is its own leader. -/
theorem grpRow_new {f : Nat → Nat} (hle : ∀ v, f v ≤ v) {k : Nat} (hk : f k = k) (i : Nat) (hi : i < cntL f k + 1) :
    up (up (grpRow f k) (cntL f k) []) (cntL f k) ((up (grpRow f k) (cntL f k) []) (cntL f k) ++ [(k : Int)]) i = grpRow f (k + 1) i := by
  have h1 := leads_at hk (k + 1) (Nat.lt_succ_self k)
  by_cases e : i = cntL f k
  · subst e
    rw [up_same, up_same]
    unfold grpRow
    rw [h1.2, grp_succ, if_pos hk]
    have : grp f k k = [] := by
      unfold grp
      rw [List.map_eq_nil_iff, List.filter_eq_nil_iff]
      intro v hv h
      have := hle v
      have := of_decide_eq_true h
      have := List.mem_range.1 hv
      omega
    rw [this]
  · rw [up_other _ _ _ _ e, up_other _ _ _ _ e]
    have hi' : i < cntL f k := by omega
    unfold grpRow
    rw [leads_old hi', grp_succ, if_neg, List.append_nil]
    have := (leads_mem hi').2
    omega
end Go.Own
