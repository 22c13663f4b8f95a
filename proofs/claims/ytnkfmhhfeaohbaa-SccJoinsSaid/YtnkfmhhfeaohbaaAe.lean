/- Rows of edges that the call itself makes, each in its own block. -/
import Derived.Test.YtnkfmhhfeaohbaaAc
import Derived.Maps.AppendAt
namespace Go.Proofs.Ytnkfmhhfeaohbaa
open Go.RowKit Go.Own

theorem own_kept {S : Nat → Prop} {w w' : World} {e : TypeId} {size : Nat} {v : Value} {n : Nat} {xs : List Value} (h : w.ownsRow 0 e size v n xs) (hk : Kept S w w') (hn : ∀ g, v.ownBlock = some g → ¬ S g) : w'.ownsRow 0 e size v n xs := by
  refine ⟨h.1, ?_⟩
  rcases h.2 with h0 | ⟨g, cap, cur, rfl, hb, hg, rest⟩
  · exact .inl h0
  · exact .inr ⟨g, cap, cur, rfl, hb, by rw [hk.block g (Array.getElem?_eq_some_iff.1 hg).1 (hn g rfl)]; exact hg, rest⟩
theorem own_lt {w : World} {e : TypeId} {size : Nat} {v : Value} {n : Nat} {xs : List Value} (h : w.ownsRow 0 e size v n xs) : ∀ g, v.ownBlock = some g → g < w.heap.size := fun g hg => (World.ownsRow.lt h g hg).2

def edgeCells : List Int → List Value
  | [] => []
  | t :: r => .int .i64 t :: .int .i64 0 :: edgeCells r
theorem edgeCells_len : ∀ l : List Int, (edgeCells l).length = l.length * 2
  | [] => rfl
  | t :: r => by show (edgeCells r).length + 1 + 1 = (r.length + 1) * 2; rw [edgeCells_len r]; omega
theorem edgeCells_snoc (x : Int) : ∀ l : List Int, edgeCells (l ++ [x]) = edgeCells l ++ [.int .i64 x, .int .i64 0]
  | [] => rfl
  | t :: r => by show _ :: _ :: edgeCells (r ++ [x]) = _; rw [edgeCells_snoc x r]; rfl
theorem edgeCells_at : ∀ (l : List Int) (j : Nat), j < l.length → (edgeCells l)[j * 2]? = some (.int .i64 (l.getD j 0)) ∧ (edgeCells l)[j * 2 + 1]? = some (.int .i64 0)
  | [], j, h => by simp at h
  | t :: r, 0, _ => ⟨rfl, rfl⟩
  | t :: r, j + 1, h => by
    have h' : j < r.length := by simpa using h
    obtain ⟨h1, h2⟩ := edgeCells_at r j h'
    have e1 : (j + 1) * 2 = j * 2 + 1 + 1 := by omega
    rw [e1]
    exact ⟨h1, h2⟩

/-- An edge more behind a row. -/
theorem op_appendE {w : World} {o : Oper} {a : Act} {K : Act → World → Prop} {Q : Exit → Act → World → Prop} (s x : Operand)
    (ho : o.op = .call { callee := .builtin .append, args := #[s, x], argTypes := #[38, 38] })
    (i : TypeInfo) (z : Value) (hi : Try.prog.info? 40 = some i) (hz : i.zero = some z)
    (hsize : i.size = 2) (hby : i.bytes = 16) (hzs : z.cells.size = 2)
    (v : Value) (n : Nat) (X : List Int) (hX : X.length = n) (hs : a.eval s = v) (hown : w.ownsRow 0 40 2 v n (edgeCells X))
    (b : Nat) (y : Int) (hx : a.eval x = .slice (some ⟨b, 0, none⟩) 1 1) (hc0 : w.cell? ⟨b, 0, none⟩ = some (.int .i64 y)) (hc1 : w.cell? ⟨b, 1, none⟩ = some (.int .i64 0)) (hbytes : n ≤ 1000000000)
    (h : ∀ v' w', w'.ownsRow 0 40 2 v' (n + 1) (edgeCells (X ++ [y])) → Kept (fun k => v.ownBlock = some k) w w' → Moved w v v' → K (a.put o.dst v') w') : OpGoal Try.prog o a w K Q := by
  constructor
  obtain ⟨v', w', hr, h2, h3, _, h5⟩ := run_append_own_at (P := Try.prog) w 0 38 o.type 40 i z 2 16 Try.underlying38 hi hz hsize hby hzs (by decide) v n (edgeCells X) hown ⟨b, 0, none⟩ 1 1 [.int .i64 y, .int .i64 0] rfl (by
    intro j u' hj
    match j, hj with
    | 0, hj =>
      simp at hj; subst hj
      have : (⟨b, 0, none⟩ : Addr).add 0 = ⟨b, 0, none⟩ := by simp [Addr.add]
      rw [this]; exact hc0
    | 1, hj =>
      simp at hj; subst hj
      have : (⟨b, 0, none⟩ : Addr).add 1 = ⟨b, 1, none⟩ := by simp [Addr.add]
      rw [this]; exact hc1
    | j + 2, hj => simp at hj) (by intro u' hu'; simp at hu'; rcases hu' with rfl | rfl <;> rfl) (by unfold maxLen; omega) (by omega) (Nat.zero_le _)
  unfold Oper.wp execOp
  simp only [ho, resolve, invoke, builtin, Sem.run_bind, Sem.run_pure, Result.andThen_ok, List.map_toArray, List.map_cons, List.map_nil, hs, hx, hr]
  refine h v' w' (by rw [edgeCells_snoc]; exact h2) ⟨h3.os, h3.tape, h3.output, h3.size, fun k hk hn => h3.block k hk (fun e => hn e.symm)⟩ ?_
  rcases h5 with h5 | h5
  · exact .inl h5
  · exact .inr ⟨_, h5, Nat.le_refl _⟩

/-- The outer slice in block g, a row of edges in each of its cells. -/
structure ES (w2 w : World) (g : Nat) (V : Nat → Value) (R : Nat) (C : Nat → List Int) : Prop where
  outer : Sl w 38 (.slice (some ⟨g, 0, none⟩) R R) R ((List.range R).map V)
  row : ∀ i, i < R → w.ownsRow 0 40 2 (V i) (C i).length (edgeCells (C i))
  apart : ∀ i j b, i < R → j < R → (V i).ownBlock = some b → (V j).ownBlock = some b → i = j
  off : ∀ i, i < R → (V i).ownBlock ≠ some g
  new : w2.heap.size ≤ g
  newR : ∀ i b, i < R → (V i).ownBlock = some b → w2.heap.size ≤ b

section
variable {w2 w w1 : World} {g : Nat} {V : Nat → Value} {R : Nat} {C : Nat → List Int}
theorem ES.kept {S : Nat → Prop} (h : ES w2 w g V R C) (hk : Kept S w w1) (h1 : ¬ S g) (h2 : ∀ i b, i < R → (V i).ownBlock = some b → ¬ S b) : ES w2 w1 g V R C :=
  { h with outer := Sl.kept h.outer hk (fun b e => by cases e; exact h1), row := fun i hi => own_kept (h.row i hi) hk (fun b e => h2 i b hi e) }
theorem ES.lt (h : ES w2 w g V R C) : g < w.heap.size := h.outer.lt g rfl
theorem ES.below (h : ES w2 w g V R C) (hb : Below w.heap.size w w1) : ES w2 w1 g V R C :=
  h.kept (Kept.ofBelow hb) (fun e => by have := h.lt; omega) (fun i b hi e s => by have := own_lt (h.row i hi) b e; omega)
theorem ES.at (h : ES w2 w g V R C) (i : Nat) (hi : i < R) : w.cell? ⟨g, i, none⟩ = some (V i) ∧ w.frozen? ⟨g, i, none⟩ = false := by
  have h1 := h.outer
  obtain ⟨a, c, e, hc⟩ := h1.shape
  cases e
  obtain ⟨g', e', _, h2⟩ := hc i hi
  cases e'
  exact ⟨by rw [h2]; simp [hi], World.ownsRow.frozenAt (size := 1) h1 i⟩
theorem ES.push (h : ES w2 w g V R C) {i : Nat} (hi : i < R) {x : Int} {u : Value} (hs : w1.ownsRow 0 40 2 u ((C i).length + 1) (edgeCells (C i ++ [x]))) (hk : Kept (fun k => (V i).ownBlock = some k) w w1) (hm : Moved w (V i) u) (hw : w2.heap.size ≤ w.heap.size) :
    ES w2 (w1.setCell ⟨g, i, none⟩ u) g (up V i u) R (up C i (C i ++ [x])) := by
  have hu : ∀ b, u.ownBlock = some b → (V i).ownBlock = some b ∨ w.heap.size ≤ b := fun b e => by
    rcases hm with hm | ⟨g', e', hm⟩
    · rw [hm] at e; exact .inl e
    · rw [e'] at e; cases e; exact .inr hm
  have hug : u.ownBlock ≠ some g := fun e => by
    rcases hu g e with h1 | h1
    · exact h.off i hi h1
    · have := h.lt; omega
  have hks : Kept (fun k => k = g) w1 (w1.setCell ⟨g, i, none⟩ u) := (Kept.refl (fun k => k = g) w1).setCell (p := ⟨g, i, none⟩) (fun _ => rfl) u
  have ho1 : Sl w1 38 (.slice (some ⟨g, 0, none⟩) R R) R ((List.range R).map V) := Sl.kept h.outer hk (fun b e e2 => by cases e; exact h.off i hi e2)
  have hold : ∀ j b, j < R → (up V i u j).ownBlock = some b → ((V j).ownBlock = some b) ∨ (j = i ∧ w.heap.size ≤ b) := fun j b hj e => by
    by_cases ej : j = i
    · subst ej; rw [up_same] at e
      exact (hu b e).imp id (fun h => ⟨rfl, h⟩)
    · rw [up_other _ _ _ _ ej] at e; exact .inl e
  refine ⟨?_, fun j hj => ?_, fun j k b hj hk' e1 e2 => ?_, fun j hj e => ?_, h.new, fun j b hj e => ?_⟩
  · have := (World.ownsRow.stored ho1 i u).1
    have e : ((List.range R).map V).set i u = (List.range R).map (up V i u) := by
      refine List.ext_getElem (by simp) fun j h1 h2 => ?_
      simp only [List.getElem_set, List.getElem_map, List.getElem_range, up]
      by_cases e : i = j
      · subst e; simp
      · rw [if_neg e, if_neg (fun e' => e e'.symm)]
    rw [e] at this
    exact this
  · by_cases ej : j = i
    · subst ej
      rw [up_same, up_same, List.length_append]
      exact own_kept hs hks (fun b e e2 => hug (by rw [e, e2]))
    · rw [up_other _ _ _ _ ej, up_other _ _ _ _ ej]
      exact own_kept (own_kept (h.row j hj) hk (fun b e e2 => ej (h.apart j i b hj hi e e2))) hks (fun b e e2 => h.off j hj (by rw [e, e2]))
  · rcases hold j b hj e1 with h1 | ⟨h1, h1'⟩
    · rcases hold k b hk' e2 with h2 | ⟨h2, h2'⟩
      · exact h.apart j k b hj hk' h1 h2
      · have := own_lt (h.row j hj) b h1; omega
    · rcases hold k b hk' e2 with h2 | ⟨h2, h2'⟩
      · have := own_lt (h.row k hk') b h2; omega
      · omega
  · rcases hold j g hj e with h1 | ⟨_, h1⟩
    · exact h.off j hj h1
    · have := h.lt; omega
  · rcases hold j b hj e with h1 | ⟨_, h1⟩
    · exact h.newR j b hj h1
    · omega
/-- As the program's own functions find it. -/
theorem ES.edges (h : ES w2 w g V R C) : EdgesAt w (some ⟨g, 0, none⟩) (condE C R) := by
  refine .inr ⟨g, 0, rfl, fun i hi => ?_⟩
  rw [condE_len] at hi
  rw [condE_at C hi]
  refine ⟨V i, by rw [Nat.zero_add]; exact (h.at i hi).1, ?_⟩
  have hr := h.row i hi
  rcases hr.2 with ⟨e, h0⟩ | ⟨b, cap, cur, e, rest⟩
  · exact ⟨none, 0, by rw [e, h0], .inl h0⟩
  · refine ⟨some ⟨b, 0, none⟩, cap, e, .inr ⟨b, 0, rfl, fun j hj => ?_⟩⟩
    rw [e] at hr
    obtain ⟨e1, e2⟩ := edgeCells_at (C i) j hj
    refine ⟨?_, 0, ?_⟩
    · rw [Nat.zero_add, World.ownsRow.cellAt (size := 2) hr (j * 2) (by omega)]; exact e1
    · rw [Nat.zero_add, World.ownsRow.cellAt (size := 2) hr (j * 2 + 1) (by omega)]; exact e2
/-- 'make' laid it. -/
theorem ES.start (hs : w1.ownsRow 0 38 1 (.slice (some ⟨w.heap.size, 0, none⟩) R R) R (madeCells (Value.slice none 0 0).cells (R * 1)).toList) (hw : w2.heap.size ≤ w.heap.size) :
    ES w2 w1 w.heap.size (fun _ => .slice none 0 0) R (fun _ => []) := by
  rw [madeCells_list (.slice none 0 0) rfl] at hs
  refine ⟨?_, fun i _ => World.ownsRow_nil _ _ _ _, fun i j b _ _ e => (by cases e), fun i _ e => (by cases e), hw, fun i b _ e => (by cases e)⟩
  have : (List.range R).map (fun _ => Value.slice none 0 0) = List.replicate R (.slice none 0 0) := by
    refine List.ext_getElem (by simp) fun i h1 h2 => by simp
  rw [this]; exact hs
end
end Go.Proofs.Ytnkfmhhfeaohbaa
