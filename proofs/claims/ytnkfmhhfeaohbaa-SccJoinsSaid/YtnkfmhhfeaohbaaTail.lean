/- A region that draws its order, whose operations only read but for the last ones: the reads walked in the order of the text by the quiet walk, in one world; then the tail. -/
import Derived.BigQuiet
import Derived.StillTail
namespace Go
section
variable {P : Program} {ops : Array Oper} {w0 : World}

theorem Oper.still_of_quiet {o : Oper} {a : Act} {K K' : Act → Prop} (hK : ∀ a, K a → K' a) (h : o.quiet P a (fun x => x = w0) K) : o.still P a w0 K' := by
  obtain ⟨v, h1, h2⟩ := h
  have h3 := h1 w0 rfl
  unfold Oper.still
  unfold Oper.quietAt at h3
  cases hr : (execOp a.eval o).run P w0 with
  | ok n w' =>
    rw [hr] at h3
    cases n with
    | value u => obtain ⟨rfl, rfl⟩ := h3; exact ⟨rfl, hK _ h2⟩
    | skip => obtain ⟨rfl, rfl⟩ := h3; exact ⟨rfl, hK _ h2⟩
    | enter f args =>
      obtain ⟨hw, hc⟩ := h3
      exact ⟨hw, v, by subst hw; exact hc, hK _ h2⟩
    | _ => exact h3.elim
  | _ => rw [hr] at h3; exact h3.elim

theorem wpStill_of_quiet {Q : Act → Prop} : ∀ (l : List Oper) (a : Act), wpQuiet P ops (fun x => x = w0) Q l a → wpStill P ops w0 Q l a
  | [], _, h => h
  | o :: rest, a, h => by
    unfold wpQuiet at h
    unfold wpStill
    split at h
    · rename_i hw
      rw [if_pos hw]
      exact Oper.still_of_quiet (fun a h => wpStill_of_quiet rest a h) h
    · rename_i hw
      rw [if_neg hw]
      exact wpStill_of_quiet rest _ h

/-- 'n': how many operations only read. -/
theorem wp_region_quiet_tail {id : Nat} {Q : Exit → Act → World → Prop} {a : Act} {w : World} {l : List Oper} (n : Nat) (hm : P.follows .mixedOrders = true) (hB : Region.lexTailB .any l.toArray n = true)
    (h : wpQuiet P l.toArray (fun x => x = w.drew) (fun a' => wpList P l.toArray Q (l.drop n) a' w.drew) (l.take n) a) : (Code.region id l.toArray true).wp P Q a w :=
  wp_region_still_tail n hm hB (wpStill_of_quiet _ _ h)
end
end Go
