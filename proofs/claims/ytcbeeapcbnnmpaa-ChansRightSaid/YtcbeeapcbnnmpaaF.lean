/- Walks of Same and of the example; the laws ChansItems and ChansPuts. -/
import Derived.Test.YtcbeeapcbnnmpaaE
import Derived.WalkSmall
namespace Go.Proofs.Ytcbeeapcbnnmpaa
open Go.RowKit Go.Own

theorem beq_take (xs ys : List Int) (h : xs.length = ys.length) (hall : ∀ j, j < xs.length → xs.getD j 0 = ys.getD j 0) : (xs == ys) = true := by
  rw [beq_iff_eq]
  apply List.ext_getElem h
  intro j h1 h2
  have := hall j h1
  simpa [List.getD, h1, h2] using this

set_option maxHeartbeats 1000000 in
theorem same_any (a a' : Option Addr) (n n' c c' : Nat) (xs ys : List Int) (w : World) (hn : n ≤ 9223372036854775807) (hn' : n' ≤ 9223372036854775807) (hx : RowAt .i64 w a n xs) (hy : RowAt .i64 w a' n' ys) :
    Calls Try.prog 12 #[.slice a n c, .slice a' n' c'] w fun e w' => e = .returned (.bool (xs == ys)) ∧ Below w.heap.size w w' := by
  have HX := Lib.hid hx
  have HY := Lib.hid hy
  have hlx : Hid (xs.length = n) := hx.1
  have hly : Hid (ys.length = n') := hy.1
  clear hx hy
  by_cases hne : n = n'
  · subst hne
    have h0 : ((n : Int) != (n : Int)) = false := by simp
    go_enter Try.func12, Try.ntmps12
    go_wp2
    go_loopw [5] (fun i wr => ∃ k : Nat, k ≤ n ∧ i = .int .i64 k ∧ Hid (∀ j, j < k → xs.getD j 0 = ys.getD j 0) ∧ Below w.heap.size w wr) (fun i _ => n - (intOf i).toNat)
    case atStart => exact ⟨0, Nat.zero_le _, rfl, fun j hj => by omega, Below.refl _ _⟩
    case round =>
      obtain ⟨k, hk, rfl, hall, hbel⟩ := hrel
      by_cases hlt : k < n
      · obtain ⟨_, h0 | ⟨b, off, rfl, hc⟩⟩ := HX.out.below hbel
        · omega
        obtain ⟨_, h0' | ⟨b', off', rfl, hc'⟩⟩ := HY.out.below hbel
        · omega
        have e1 := hc k hlt
        have e2 := hc' k hlt
        have hltI : (k : Int) < (n : Int) := by omega
        clear hc hc'
        by_cases heq : xs.getD k 0 = ys.getD k 0
        · have hN : Hid (∀ j, j < k + 1 → xs.getD j 0 = ys.getD j 0) := fun j hj => by
            rcases Nat.lt_succ_iff_lt_or_eq.1 hj with h | rfl
            · exact hall.out j h
            · exact heq
          rw [← heq] at e2
          clear heq
          generalize xs.getD k 0 = x at *
          have hxx : (x != x) = false := by simp
          go_wp2
          go_quiet (fail)
          go_wp2
          go_roundw
          case rel => exact ⟨k + 1, by omega, by go_num, hN, below_drewN hbel _⟩
          case measure => simp [intOf]; omega
        · have hxx : (xs.getD k 0 != ys.getD k 0) = true := bne_iff_ne.2 heq
          have hR : Hid ((xs == ys) = false) := by
            show _ = _
            rw [beq_eq_false_iff_ne]
            intro e; subst e; exact heq rfl
          generalize xs.getD k 0 = x at *
          generalize ys.getD k 0 = y at *
          clear heq
          go_wp2
          go_quiet (fail)
          go_wp2
          go_ret
          exact ⟨by rw [hR.out]; rfl, below_drewN hbel _⟩
      · obtain rfl : k = n := by omega
        have hR : Hid ((xs == ys) = true) := beq_take xs ys (by rw [hlx.out, hly.out]) (by rw [hlx.out]; exact hall.out)
        go_wp2
        go_ret
        exact ⟨by rw [hR.out]; rfl, hbel⟩
  · have h0 : ((n : Int) != (n' : Int)) = true := by rw [bne_iff_ne]; omega
    have hR : Hid ((xs == ys) = false) := by
      show _ = _
      rw [beq_eq_false_iff_ne]
      intro e; subst e
      have := hlx.out; have := hly.out; omega
    go_enter Try.func12, Try.ntmps12
    go_wp2
    go_ret
    exact ⟨by rw [hR.out]; rfl, Below.refl _ _⟩

theorem put_ex : putB [1, 5, 0] = true ∧ putL [1, 5, 0] 7 = [2, 5, 7] := by decide +kernel
theorem take_ex : takeL [2, 5, 7] = [1, 7, 0] ∧ takeX [2, 5, 7] = 5 ∧ takeB [2, 5, 7] = true := by decide +kernel

/-- A literal of three numbers, in the world in which it is laid. -/
theorem lit3 (w : World) (x y z : Int) : RowAt .i64 (w.alloc (.cells #[.int .i64 x, .int .i64 y, .int .i64 z] 3)) (some ⟨w.heap.size, 0, none⟩) 3 [x, y, z] := by
  refine ⟨rfl, .inr ⟨_, _, rfl, fun i hi => ?_⟩⟩
  match i, hi with
  | 0, _ => simp
  | 1, _ => simp
  | 2, _ => simp


set_option maxHeartbeats 1000000 in
theorem lives_any (w : World) : Calls Try.prog 13 #[] w fun e w' => e = .returned (.bool true) ∧ Below w.heap.size w w' := by
  have hS : ∀ l : List Int, Hid ((l == l) = true) := fun l => beq_self_eq_true l
  go_enter Try.func13, Try.ntmps13
  go_wp2_with fail
  refine (put_any _ 3 3 [1, 5, 0] 7 _ (by omega) (by omega) (by omega) (lit3 _ _ _ _)).mono ?_
  rintro e w1 ⟨v1, rfl, hm1⟩
  rw [put_ex.2] at hm1
  rw [put_ex.1]
  obtain ⟨a1, c1, rfl, _⟩ := made_row hm1
  have HM1 := Lib.hid (made_from (below_alloc (Below.refl _ w) _) hm1)
  clear hm1
  have hc := made_cap HM1.out
  unfold maxLen at hc
  go_wp2_with fail
  refine (take_any a1 3 c1 [2, 5, 7] _ hc.1 hc.2 (by omega) (made_rowAt HM1.out)).mono ?_
  rintro e w2 ⟨v2, rfl, hm2⟩
  rw [take_ex.1] at hm2
  rw [take_ex.2.1, take_ex.2.2]
  obtain ⟨a2, c2, rfl, _⟩ := made_row hm2
  have HM2 := Lib.hid hm2
  have HB2 := Lib.hid (below_then (made_below HM1.out) (made_below hm2))
  clear hm2
  go_wp2_with fail
  refine (same_any _ _ 3 3 c1 3 [2, 5, 7] [2, 5, 7] _ (by omega) (by omega) (RowAt.below (made_rowAt HM1.out) (below_alloc (made_below HM2.out) _)) (lit3 _ _ _ _)).mono ?_
  rintro e w3 ⟨rfl, hb3⟩
  rw [(hS _).out]
  have HB3 := Lib.hid (below_then (below_alloc HB2.out _) hb3)
  have HR2 := Lib.hid (RowAt.below (made_rowAt HM2.out) (below_then (below_alloc (Below.refl _ _) _) hb3))
  clear hb3
  go_wp2_with fail
  refine (same_any _ _ 3 3 c2 3 [1, 7, 0] [1, 7, 0] _ (by omega) (by omega) (RowAt.below HR2.out (below_alloc (Below.refl _ _) _)) (lit3 _ _ _ _)).mono ?_
  rintro e w4 ⟨rfl, hb4⟩
  rw [(hS _).out]
  have HB4 := Lib.hid (below_then (below_alloc HB3.out _) hb4)
  clear hb4
  go_wp2
  go_ret
  exact ⟨rfl, HB4.out⟩

set_option maxHeartbeats 1000000 in
theorem chansItems_walk (a : Option Addr) (n cap : Nat) (zs : List Int) (w : World) (hl : n ≤ cap) (hcm : cap ≤ 9223372036854775807) (hn : n * 8 ≤ 140737488351232) (hr : RowAt .i64 w a n zs) :
    Calls Try.prog 5 #[.slice a n cap] w fun e w' => e = .returned (.bool true) ∧ Below w.heap.size w w' := by
  have HR := Lib.hid hr
  have hlen := items_len zs
  rw [hr.1] at hlen
  have hS : Hid ((items zs == items zs) = true) := beq_self_eq_true _
  clear hr
  generalize hI : items zs = its at *
  have HI := Lib.hid hI
  clear hI
  go_enter Try.func5, Try.ntmps5
  go_wp2_with fail
  refine (len_any _ _ _ zs _ hl hcm hn HR.out).mono ?_
  rintro e w1 ⟨rfl, hb1⟩
  have HB1 := Lib.hid hb1
  rw [HI.out]
  clear hb1
  go_wp2_with fail
  refine (refLen_any _ _ _ zs _ hl hcm hn (HR.out.below HB1.out)).mono ?_
  rintro e w2 ⟨rfl, hb2⟩
  rw [HI.out]
  have HB2 := Lib.hid (below_then HB1.out hb2)
  clear hb2
  go_wp2_with fail
  refine (items_any _ _ _ zs _ hl hcm hn (HR.out.below HB2.out)).mono ?_
  rintro e w3 ⟨v3, rfl, hm3⟩
  rw [HI.out] at hm3
  obtain ⟨a3, c3, rfl, _⟩ := made_row hm3
  have HM3 := Lib.hid hm3
  have HB3 := Lib.hid (below_then HB2.out (made_below hm3))
  clear hm3
  go_wp2_with fail
  refine (refItems_any _ _ _ zs _ hl hcm hn (HR.out.below HB3.out)).mono ?_
  rintro e w4 ⟨v4, rfl, hm4⟩
  rw [HI.out] at hm4
  obtain ⟨a4, c4, rfl, _⟩ := made_row hm4
  have HM4 := Lib.hid hm4
  have HB4 := Lib.hid (below_then HB3.out (made_below hm4))
  clear hm4
  go_wp2_with fail
  refine (same_any _ _ _ _ c3 c4 its its _ (by omega) (by omega) (RowAt.below (made_rowAt HM3.out) (made_below HM4.out)) (made_rowAt HM4.out)).mono ?_
  rintro e w5 ⟨rfl, hb5⟩
  rw [hS.out]
  have HB5 := Lib.hid (below_then HB4.out hb5)
  clear hb5
  go_wp2_with fail
  refine (lives_any _).mono ?_
  rintro e w6 ⟨rfl, hb6⟩
  have HB6 := Lib.hid (below_then HB5.out hb6)
  clear hb6
  go_wp2
  go_ret
  exact ⟨rfl, HB6.out⟩
end Go.Proofs.Ytcbeeapcbnnmpaa
