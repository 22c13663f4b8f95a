/- Several 'make's of one size in one statement that draws its order: what holds whatever came up. -/
import Derived.Test.YtnkfmhhfeaohbaaBar
import Derived.Test.YtnkfmhhfeaohbaaRec
namespace Go.Own
open Go.RowKit

theorem op_make {P : Program} {w : World} {o : Oper} {a : Act} {K : Act → World → Prop} {Q : Exit → Act → World → Prop} (l c : Operand) (t : TypeId) (hop : o.op = Op.makeSlice t l c)
    (e : TypeId) (i : TypeInfo) (z : Value) (h1 : P.underlying t = some (.slice e)) (h2 : P.info? e = some i) (h3 : i.zero = some z) (h4 : i.size = 1) (hz : z.cells = #[z]) (n : Nat)
    (hl : a.eval l = .int .i64 (n : Int)) (hc : a.eval c = .int .i64 (n : Int)) (b2 : i.bytes * n ≤ 281474976710656) (b3 : n ≤ maxLen)
    (hK : ∀ w', Sl w' e (.slice (some ⟨w.heap.size, 0, none⟩) n n) n (List.replicate n z) → Kept (fun _ => False) w w' → K (a.put o.dst (.slice (some ⟨w.heap.size, 0, none⟩) n n)) w') : OpGoal P o a w K Q := by
  constructor
  obtain ⟨w', hrun, r1, r2⟩ := run_make_full (P := P) w 0 t e i z 1 h1 h2 h3 h4 .i64 .i64 n b2 b3 (Nat.zero_le _)
  rw [madeCells_list z hz] at r1
  unfold Oper.wp
  simp [execOp, hop, hl, hc, hrun, Result.andThen]
  exact hK w' r1 ⟨r2.os, r2.tape, r2.output, r2.size, fun k hk _ => r2.block k hk (by simp)⟩

structure MakesJ (R : List Nat) (dst : Nat → Nat) (ty : Nat → TypeId) (z : Nat → Value) (n : Nat) (w1 : World) (l : Array Bool) (V : Nat → Value) (w : World) : Prop where
  kept : Kept (fun _ => False) w1 w
  made : ∀ j ∈ R, l.getD j false = true → Sl w (ty j) (V (dst j)) n (List.replicate n (z j)) ∧ ∃ b, V (dst j) = .slice (some ⟨b, 0, none⟩) n n ∧ w1.heap.size ≤ b
  apart : ∀ j ∈ R, ∀ k ∈ R, j ≠ k → l.getD j false = true → l.getD k false = true → (V (dst j)).ownBlock ≠ (V (dst k)).ownBlock

theorem MakesJ.step {R : List Nat} {dst : Nat → Nat} {ty : Nat → TypeId} {z : Nat → Value} {n : Nat} {w1 w w' : World} {l : Array Bool} {V : Nat → Value} (h : MakesJ R dst ty z n w1 l V w) (i : Nat) (hi : i ∈ R) (hd : (R.map dst).Nodup) (hl : i < l.size)
    (hs : Sl w' (ty i) (.slice (some ⟨w.heap.size, 0, none⟩) n n) n (List.replicate n (z i))) (hk : Kept (fun _ => False) w w') :
    MakesJ R dst ty z n w1 (l.setIfInBounds i true) (up V (dst i) (.slice (some ⟨w.heap.size, 0, none⟩) n n)) w' := by
  have hdst : ∀ j ∈ R, j ≠ i → dst j ≠ dst i := by
    intro j hj hne e
    have key : ∀ (L : List Nat), (L.map dst).Nodup → i ∈ L → j ∈ L → False := by
      intro L
      induction L with
      | nil => intro _ h; cases h
      | cons x L ih =>
        intro hn h1 h2
        rw [List.map_cons, List.nodup_cons] at hn
        rcases List.mem_cons.1 h1 with h1' | h1'
        · rcases List.mem_cons.1 h2 with h2' | h2'
          · exact hne (h2'.trans h1'.symm)
          · exact hn.1 (List.mem_map.2 ⟨j, h2', by rw [e, h1']⟩)
        · rcases List.mem_cons.1 h2 with h2' | h2'
          · exact hn.1 (List.mem_map.2 ⟨i, h1', by rw [← e, h2']⟩)
          · exact ih hn.2 h1' h2'
    exact key R hd hi hj
  have hlt : ∀ j ∈ R, l.getD j false = true → ∀ b, (V (dst j)).ownBlock = some b → b < w.heap.size := fun j hj hlj b e => (h.made j hj hlj).1.lt b e
  have hbit : ∀ j, j ≠ i → (l.setIfInBounds i true).getD j false = l.getD j false := fun j hj => getD_set_ne false (Ne.symm hj)
  refine ⟨h.kept.trans hk, fun j hj hlj => ?_, fun j hj k hk' hjk hlj hlk => ?_⟩
  · by_cases e : j = i
    · subst e
      rw [up_same]
      exact ⟨hs, w.heap.size, rfl, h.kept.size⟩
    · rw [hbit j e] at hlj
      rw [up_other _ _ _ _ (hdst j hj e)]
      exact ⟨Sl.kept (h.made j hj hlj).1 hk (fun _ _ h => h), (h.made j hj hlj).2⟩
  · by_cases ej : j = i
    · subst ej
      have ek : k ≠ j := Ne.symm hjk
      rw [hbit k ek] at hlk
      rw [up_same, up_other _ _ _ _ (hdst k hk' ek)]
      intro e
      have e' : (V (dst k)).ownBlock = some w.heap.size := e.symm
      have := hlt k hk' hlk _ e'; omega
    · rw [hbit j ej] at hlj
      rw [up_other _ _ _ _ (hdst j hj ej)]
      by_cases ek : k = i
      · subst ek
        rw [up_same]
        intro e
        have e' : (V (dst j)).ownBlock = some w.heap.size := e
        have := hlt j hj hlj _ e'; omega
      · rw [hbit k ek] at hlk
        rw [up_other _ _ _ _ (hdst k hk' ek)]
        exact h.apart j hj k hk' hjk hlj hlk
end Go.Own
