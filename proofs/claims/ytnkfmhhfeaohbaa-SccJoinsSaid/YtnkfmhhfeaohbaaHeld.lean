/- A region that draws its order, walked by hand: the condition on the world may be made stronger on the way (what a call has made is known only behind it). -/
import Derived.Test.YtnkfmhhfeaohbaaLib
import Derived.Deep.RegionHeld3
namespace Go.Own
open Go.RowKit
section
variable {P : Program} {ops : Array Oper} {Q : Exit → Act → World → Prop} {md : Region.Mode} {S S' : World → Prop}
theorem wpAnyH_stronger (hs : ∀ w, S' w → S w) : ∀ (fuel : Nat) (listed : Array Bool) (a : Act) (w : World), wpAnyH P md ops Q S' fuel listed a w → wpAnyH P md ops Q S fuel listed a w
  | 0, _, _, _, h => h
  | fuel + 1, _, _, _, h => ⟨h.1, fun i hi => wpOp_mono (fun a' w' h' => ⟨hs w' h'.1, wpAnyH_stronger hs fuel _ a' w' h'.2⟩) (h.2 i hi)⟩
/-- From here on nothing turns the world any more. -/
theorem wpAnyH_rest {fuel : Nat} {listed : Array Bool} {a : Act} {w : World} (hs : S w) (h : wpAnyH P md ops Q (fun w' => w' = w) fuel listed a w) : wpAnyH P md ops Q S fuel listed a w :=
  wpAnyH_stronger (fun w' e => by cases e; exact hs) fuel listed a w h
end
end Go.Own
