/- The walk of the reference's Of. -/
import Derived.Test.YtnkfmhhfeaohbaaJ
namespace Go.Proofs.Ytnkfmhhfeaohbaa
open Go.RowKit Go.Own

theorem sccOf_at {E : List (List Int)} {i : Nat} (hi : i < E.length) : (sccOf E).getD i 0 = ((leastB E i i i : Nat) : Int) := by
  simp [sccOf, List.getD, hi]
theorem leastB_step (E : List (List Int)) (n i q best : Nat) (hn : E.length = n) : leastB E i (q + 1) best = leastB E i q (if warB E n i q && warB E n q i then q else best) := by
  subst hn; rfl

set_option maxRecDepth 100000 in
set_option maxHeartbeats 2000000 in
theorem refOf_any (vi vl : Value) (ae : Option Addr) (n ce : Nat) (E : List (List Int)) (w : World) (hE : E.length = n) (he : EdgesAt w ae E) (hn : n ≤ 1000000) (hrow : ∀ i, i < E.length → (E.getD i []).length ≤ 1000000000) :
    Calls Try.prog 12 #[.agg #[vi, .slice ae n ce, vl]] w (OfDone E w) := by
  obtain ⟨i3, hi3, hz3, hs3, hb3⟩ := info_parts Try.info3
  have HE := Lib.hid hE
  have HN := Lib.hid hn
  have HB : Hid (∀ W, W = w.alloc (.cells #[vi, .slice ae n ce, vl] 26) → Below w.heap.size w W) := by rintro W rfl; exact (Below.refl _ w).alloc (Nat.le_refl _) _
  have HB1 := Lib.hid (HB.out _ rfl)
  have HW := Lib.hid (ways_any vi vl ae n ce E _ hE (he.below HB1.out) hn hrow)
  clear HB he hrow hE
  go_enter Try.func12, Try.ntmps12
  go_wp2_with (go_at_call 20; refine HW.out.mono ?_; rintro e w2 ⟨aw, cw, V, rfl, hWM⟩; have HWM0 := Lib.hid hWM; clear hWM)
  have HWM : Hid (WM w w2 (.slice aw n cw) V n n n (warB E n)) := HWM0.out.mono HB1.out
  clear HW HB1 HWM0
  go_loopw [4, 5] (fun v x wr => ∃ k : Nat, k ≤ n ∧ x = .int .i64 k ∧ Hid (MadeInts .i64 3 w2 wr v ((sccOf E).take k))) (fun _ x _ => n - (intOf x).toNat)
  case atStart => exact ⟨0, Nat.zero_le _, rfl, made_nil _ _ _⟩
  case round =>
    obtain ⟨i, hi, rfl, hm⟩ := hrel
    by_cases hlt : i < n
    · have hltI : (i : Int) < (n : Int) := by omega
      have hL : Hid (((sccOf E).take i).length = i) := by show _ = _; rw [List.length_take, sccOf_len, HE.out]; exact Nat.min_eq_left hi
      have HT := Lib.hid (take_more (sccOf E) i (by rw [sccOf_len, HE.out]; exact hlt))
      have HA := Lib.hid (sccOf_at (E := E) (i := i) (by rw [HE.out]; exact hlt))
      go_wp2_with fail
      go_loopw [6, 7] (fun b x wr' => ∃ q best : Nat, q ≤ i ∧ best ≤ i ∧ b = .int .i64 (best : Int) ∧ x = .int .i64 ((q : Int) - 1) ∧ Hid (leastB E i q best = leastB E i i i) ∧ wr' = wr) (fun _ x _ => (intOf x + 1).toNat)
      case atStart => exact ⟨i, i, Nat.le_refl _, Nat.le_refl _, rfl, rfl, rfl, rfl⟩
      case round =>
        obtain ⟨q, best, hq, hbest, rfl, e, hls, rfl⟩ := hrel
        cases q with
        | succ q =>
          have e2 : (((q + 1 : Nat) : Int) - 1) = (q : Int) := by omega
          rw [e2] at e
          subst e
          have HLS := Lib.hid ((leastB_step E n i q best HE.out).symm.trans hls.out)
          have hqn : q < n := by omega
          have hqI : (q : Int) < (n : Int) := by omega
          have t0 : decide (0 ≤ (q : Int)) = true := decide_eq_true (by omega)
          obtain ⟨g, b1, d1, ea, c1, c2, -, -⟩ := (HWM.out.below (made_below hm.out)).rd (Nat.le_refl _) i q hlt hqn
          cases ea
          obtain ⟨g', b2, d2, ea, c3, c4, -, -⟩ := (HWM.out.below (made_below hm.out)).rd (Nat.le_refl _) q i hqn hlt
          cases ea
          generalize warB E n i q = p1 at *
          generalize warB E n q i = p2 at *
          clear hls e2
          cases p1 with
          | true => cases p2 with
            | true =>
              go_wp2_with fail
              go_roundw
              case rel => exact ⟨q, q, by omega, by omega, rfl, by go_num, HLS, trivial⟩
              case measure => simp [intOf]
            | false =>
              go_wp2_with fail
              go_roundw
              case rel => exact ⟨q, best, by omega, hbest, rfl, by go_num, HLS, trivial⟩
              case measure => simp [intOf]
          | false =>
            have HLS2 : Hid (leastB E i q best = leastB E i i i) := by
              have := HLS.out; cases p2 <;> exact this
            clear HLS
            go_wp2_with fail
            go_roundw
            case rel => exact ⟨q, best, by omega, hbest, rfl, by go_num, HLS2, trivial⟩
            case measure => simp [intOf]
        | zero =>
          have e2 : (((0 : Nat) : Int) - 1) = -1 := by omega
          rw [e2] at e
          subst e
          clear e2
          have HBST : Hid (best = leastB E i i i) := hls.out
          have hown := hm.out.1
          rw [hL.out] at hown
          have HO := Lib.hid hown
          clear hown hls
          go_wp2_with (at_builtin; refine wpList_append_one_pos rfl (.tmp 40) (.tmp 42) 22 rfl 3 i3 (.int .i64 0) 8 Try.underlying22 hi3 hz3 hs3 hb3 rfl (by decide) _ _ _ rfl HO.out _ rfl rfl (by omega) ?_; intro g1 c1 w3 hs hkp hmv; have HN2 := Lib.hid (made_step_pos hm.out hL.out hs hkp hmv); clear hs hkp hmv)
          go_roundw
          case rel => exact ⟨i + 1, by omega, by go_num, by rw [HT.out, HA.out, ← HBST.out]; exact HN2.out⟩
          case measure => simp [intOf]; omega
    · obtain rfl : n = i := by omega
      obtain ⟨a, cc, e, -⟩ := made_row hm.out
      have hl : ((sccOf E).take n).length = n := by rw [List.length_take, sccOf_len, HE.out]; exact Nat.min_self n
      rw [hl] at e
      subst e
      clear hl
      go_wp2_with fail
      go_ret
      refine ⟨a, cc, (by rw [HE.out]; rfl), ?_⟩
      have h1 := made_from HWM.out.2 hm.out
      have h2 : (sccOf E).take n = sccOf E := List.take_of_length_le (by rw [sccOf_len, HE.out]; exact Nat.le_refl _)
      rw [h2] at h1
      rw [HE.out]; exact h1
end Go.Proofs.Ytnkfmhhfeaohbaa
