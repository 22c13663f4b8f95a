/- The walk of the reference's Live. -/
import Derived.Test.YtnkfmhhfeaohbaaJ
namespace Go.Proofs.Ytnkfmhhfeaohbaa
open Go.RowKit Go.Own

/-- A slice that the call made since w. -/
def MadeL (e : TypeId) (w w' : World) (v : Value) (n : Nat) (xs : List Value) : Prop := Sl w' e v n xs ∧ Below w.heap.size w w' ∧ ∀ b, v.ownBlock = some b → w.heap.size ≤ b
theorem madeL_nil (e : TypeId) (w : World) : MadeL e w w (.slice none 0 0) 0 [] := ⟨World.ownsRow_nil _ _ _ _, Below.refl _ _, by simp [Value.ownBlock]⟩
theorem madeL_step {e : TypeId} {w wr w1 : World} {v x : Value} {xs : List Value} {g c n : Nat} (h : MadeL e w wr v n xs)
    (hs : Sl w1 e (.slice (some ⟨g, 0, none⟩) (n + 1) c) (n + 1) (xs ++ [x])) (hk : Kept (fun b => v.ownBlock = some b) wr w1) (hm : v.ownBlock = some g ∨ wr.heap.size ≤ g) :
    MadeL e w w1 (.slice (some ⟨g, 0, none⟩) (n + 1) c) (n + 1) (xs ++ [x]) := by
  refine ⟨hs, h.2.1.trans (hk.below h.2.1.size (fun k hlt e => by have := h.2.2 k e; omega)), fun b e => ?_⟩
  cases e
  rcases hm with hm | hm
  · exact h.2.2 _ hm
  · exact Nat.le_trans h.2.1.size hm
theorem boolsOf_snoc (n : Nat) (f : Nat → Bool) : boolsOf n f ++ [.bool (f n)] = boolsOf (n + 1) f := by
  unfold boolsOf
  rw [List.range_succ, List.map_append]; rfl

set_option maxHeartbeats 1000000 in
theorem refLive_any (vi vl : Value) (ae : Option Addr) (n ce : Nat) (E : List (List Int)) (w : World) (hE : E.length = n) (he : EdgesAt w ae E) (hn : n ≤ 1000000) (hrow : ∀ i, i < E.length → (E.getD i []).length ≤ 1000000000) :
    Calls Try.prog 18 #[.agg #[vi, .slice ae n ce, vl]] w fun e w' => ∃ a c, e = .returned (.slice a n c) ∧ Sl w' 4 (.slice a n c) n (boolsOf n fun v => warB E n v v) ∧ Below w.heap.size w w' := by
  obtain ⟨i4, hi4, hz4, hs4, hb4⟩ := info_parts Try.info4
  have HN := Lib.hid hn
  have HB : Hid (∀ W, W = w.alloc (.cells #[vi, .slice ae n ce, vl] 26) → Below w.heap.size w W) := by rintro W rfl; exact (Below.refl _ w).alloc (Nat.le_refl _) _
  have HB1 := Lib.hid (HB.out _ rfl)
  have HW := Lib.hid (ways_any vi vl ae n ce E _ hE (he.below HB1.out) hn hrow)
  clear HB he hrow hE
  go_enter Try.func18, Try.ntmps18
  go_wp2_with (go_at_call 20; refine HW.out.mono ?_; rintro e w2 ⟨aw, cw, V, rfl, hWM⟩; have HWM0 := Lib.hid hWM; clear hWM)
  have HWM : Hid (WM w w2 (.slice aw n cw) V n n n (warB E n)) := HWM0.out.mono HB1.out
  clear HW HB1 HWM0
  go_loopw [4, 5] (fun v x wr => ∃ k : Nat, k ≤ n ∧ x = .int .i64 k ∧ Hid (MadeL 4 w2 wr v k (boolsOf k fun v => warB E n v v))) (fun _ x _ => n - (intOf x).toNat)
  case atStart => exact ⟨0, Nat.zero_le _, rfl, madeL_nil _ _⟩
  case round =>
    obtain ⟨i, hi, rfl, hm⟩ := hrel
    by_cases hlt : i < n
    · have hltI : (i : Int) < (n : Int) := by omega
      obtain ⟨g, b1, d1, ea, c1, c2, -, -⟩ := (HWM.out.below hm.out.2.1).rd (Nat.le_refl _) i i hlt hlt
      cases ea
      have HO := Lib.hid hm.out.1
      go_wp2_with (at_builtin; refine wpList_append_one_pos rfl (.tmp 14) (.tmp 22) 34 rfl 4 i4 (.bool false) 1 Try.underlying34 hi4 hz4 hs4 hb4 rfl (by decide) _ _ _ rfl HO.out _ rfl rfl (by omega) ?_; intro g1 c1 w3 hs hkp hmv; have HN2 := Lib.hid (madeL_step hm.out hs hkp hmv); clear hs hkp hmv)
      go_roundw
      case rel => exact ⟨i + 1, by omega, by go_num, by have := HN2.out; rw [boolsOf_snoc i fun v => warB E n v v] at this; exact this⟩
      case measure => simp [intOf]; omega
    · obtain rfl : n = i := by omega
      obtain ⟨a, cc, e, -⟩ := hm.out.1.shape
      subst e
      go_wp2_with fail
      go_ret
      exact ⟨a, cc, rfl, hm.out.1, HWM.out.2.trans (hm.out.2.1.mono HWM.out.2.size)⟩
end Go.Proofs.Ytnkfmhhfeaohbaa
