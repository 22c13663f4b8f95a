/- A region that draws its order, by what holds of its operations whatever came up already: each operation is gone through once, not once for each order. -/
import Derived.Test.YtnkfmhhfeaohbaaHeld
namespace Go.Own
open Go.RowKit

/-- How many of the first n have not come up. -/
def unlisted (n : Nat) (listed : Array Bool) : Nat := (List.range n).countP fun i => !listed.getD i true

theorem countP_less {α : Type} {p q : α → Bool} : ∀ (l : List α), (∀ x ∈ l, q x = true → p x = true) → ∀ x ∈ l, p x = true → q x = false → l.countP q < l.countP p
  | [], _, x, hx, _, _ => by cases hx
  | y :: l, h, x, hx, h1, h2 => by
    have hle : l.countP q ≤ l.countP p := List.countP_mono_left (fun z hz => h z (List.mem_cons_of_mem _ hz))
    rcases List.mem_cons.1 hx with rfl | hx
    · rw [List.countP_cons_of_pos h1, List.countP_cons_of_neg (by rw [h2]; decide)]; omega
    · have ih := countP_less l (fun z hz => h z (List.mem_cons_of_mem _ hz)) x hx h1 h2
      by_cases hq : q y = true
      · rw [List.countP_cons_of_pos hq, List.countP_cons_of_pos (h y List.mem_cons_self hq)]; omega
      · rw [List.countP_cons_of_neg hq]
        by_cases hp : p y = true
        · rw [List.countP_cons_of_pos hp]; omega
        · rw [List.countP_cons_of_neg hp]; omega

section
variable {P : Program} {ops : Array Oper} {Q : Exit → Act → World → Prop} {md : Region.Mode} {S : World → Prop}

theorem ready_lt {listed : Array Bool} {i : Nat} (h : i ∈ Region.ready md ops listed) : i < ops.size := by
  unfold Region.ready at h
  exact List.mem_range.1 (List.mem_filter.1 h).1

theorem unlisted_set {listed : Array Bool} {i : Nat} (hs : listed.size = ops.size) (hi : i ∈ Region.ready md ops listed) : unlisted ops.size (listed.setIfInBounds i true) < unlisted ops.size listed := by
  have hlt := ready_lt hi
  have hf := (mem_ready.1 hi).1
  refine countP_less _ (fun j _ hj => ?_) i (List.mem_range.2 hlt) (by rw [hf]; rfl) ?_
  · by_cases e : i = j
    · subst e; rw [hf]; rfl
    · rw [getD_set_ne true e] at hj; exact hj
  · have : i < listed.size := by omega
    simp [this]

/-- I: what holds of what came up, of the frame and of the world. -/
theorem wpAnyH_inv {I : Array Bool → Act → World → Prop} (hS : ∀ listed a w, I listed a w → S w)
    (hstep : ∀ listed a w i, listed.size = ops.size → i ∈ Region.ready md ops listed → I listed a w → wpOp P ops Q i (fun a' w' => I (listed.setIfInBounds i true) a' w') a w)
    (hend : ∀ listed a w, listed.size = ops.size → Region.ready md ops listed = [] → I listed a w → Q .normal a w) :
    ∀ (fuel : Nat) (listed : Array Bool) (a : Act) (w : World), listed.size = ops.size → unlisted ops.size listed ≤ fuel → I listed a w → wpAnyH P md ops Q S fuel listed a w
  | 0, listed, a, w, hs, hf, h => by
    have hr : Region.ready md ops listed = [] := by
      cases hr : Region.ready md ops listed with
      | nil => rfl
      | cons i l => have := unlisted_set hs (i := i) (md := md) (by rw [hr]; exact List.mem_cons_self); omega
    exact ⟨hr, hend listed a w hs hr h⟩
  | fuel + 1, listed, a, w, hs, hf, h => by
    refine ⟨fun hr => hend listed a w hs hr h, fun i hi => wpOp_mono (fun a' w' h' => ⟨hS _ _ _ h', ?_⟩) (hstep listed a w i hs hi h)⟩
    have := unlisted_set hs hi
    exact wpAnyH_inv hS hstep hend fuel _ a' w' (by rw [Array.size_setIfInBounds]; exact hs) (by omega) h'

/-- An operation that comes up: its own goal. -/
theorem wpOp_at {i : Nat} {o : Oper} {K : Act → World → Prop} {a : Act} {w : World} (ho : ops[i]? = some o) (hw : Region.wanted o (yielded ops a.tmps) = true) (h : Oper.wp P o a w K Q) : wpOp P ops Q i K a w := by
  unfold wpOp
  rw [ho]
  dsimp only
  rw [if_pos hw]
  exact .inl h
theorem wanted_plain {o : Oper} {y : Nat → Option Bool} (h : o.guard = none) : Region.wanted o y = true := by simp [Region.wanted, h]

/-- An operation's own goal, behind a name that nobody lays open by the way (an elaborator looks whether a goal is a '∀' by unfolding it: an operation on an unknown number then runs). -/
structure OpGoal (P : Program) (o : Oper) (a : Act) (w : World) (K : Act → World → Prop) (Q : Exit → Act → World → Prop) : Prop where
  out : Oper.wp P o a w K Q
/-- An operation that hands back a value, and what it makes of the world. -/
theorem op_value {o : Oper} {K : Act → World → Prop} {a : Act} {w w' : World} {v : Value} (h : (execOp a.eval o).run P w = .ok (.value v) w') (hK : K (a.put o.dst v) w') : OpGoal P o a w K Q := by
  constructor
  unfold Oper.wp
  rw [h]
  exact hK
theorem op_skip {o : Oper} {K : Act → World → Prop} {a : Act} {w w' : World} (h : (execOp a.eval o).run P w = .ok .skip w') (hK : K (a.put o.dst undef) w') : OpGoal P o a w K Q := by
  constructor
  unfold Oper.wp
  rw [h]
  exact hK

/-- What must have come up ahead of an operation. -/
def waitsB (ops : Array Oper) (i : Nat) (l : List Nat) : Bool := match ops[i]? with
  | some o => l.all fun j => o.after.any fun e => Region.binds .any e && e.on == j
  | none => false
theorem ready_waits {listed : Array Bool} {i : Nat} {l : List Nat} (hw : waitsB ops i l = true) (h : i ∈ Region.ready .any ops listed) : ∀ j ∈ l, listed.getD j false = true := by
  obtain ⟨_, o, ho, hall⟩ := mem_ready.1 h
  unfold waitsB at hw
  rw [ho] at hw
  dsimp only at hw
  intro j hj
  have h1 := List.all_eq_true.1 hw j hj
  obtain ⟨e, he, h2⟩ := Array.any_eq_true'.1 h1
  rw [Bool.and_eq_true, beq_iff_eq] at h2
  have := hall e he h2.1
  rwa [h2.2] at this
theorem ready_new {listed : Array Bool} {i : Nat} (h : i ∈ Region.ready md ops listed) : listed.getD i true = false := (mem_ready.1 h).1
end

/-- Each waits for ones ahead of it in the text alone. -/
def aheadB (ops : Array Oper) : Bool := (List.range ops.size).all fun i => match ops[i]? with
  | some o => o.after.all fun e => decide (e.on < i)
  | none => true
theorem ready_nil {ops : Array Oper} {md : Region.Mode} {listed : Array Bool} (ha : aheadB ops = true) (hs : listed.size = ops.size) (hr : Region.ready md ops listed = []) : ∀ i, i < ops.size → listed.getD i false = true := by
  intro i
  induction i using Nat.strongRecOn with
  | _ i ih =>
    intro hi
    have h1 := List.all_eq_true.1 ha i (List.mem_range.2 hi)
    have ho : ops[i]? = some ops[i] := Array.getElem?_eq_getElem hi
    rw [ho] at h1
    dsimp only at h1
    by_cases hl : listed.getD i true = false
    · exfalso
      have : i ∈ Region.ready md ops listed := mem_ready.2 ⟨hl, ops[i], ho, fun e he _ => by
        have h2 := Array.all_eq_true'.1 h1 e he
        have h3 := of_decide_eq_true h2
        exact ih e.on h3 (by omega)⟩
      rw [hr] at this; cases this
    · have hlt : i < listed.size := by omega
      simp [hlt] at hl ⊢
      exact hl
end Go.Own
