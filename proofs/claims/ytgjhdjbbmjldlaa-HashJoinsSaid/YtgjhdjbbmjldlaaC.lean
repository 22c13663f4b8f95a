/- The walks of four laws of the hash layer: HashBytes, HashInts, HashMixes, HashJoins. -/
import Derived.Test.YtgjhdjbbmjldlaaB
import Derived.OpenShut
namespace Go.Proofs.Ytgjhdjbbmjldlaa
open Go.RowKit Go.Own

set_option maxHeartbeats 400000 in
theorem hashBytes_walk (a : Option Addr) (n cap : Nat) (zs : List Int) (w : World) (hn : n ≤ 9223372036854775807) (hr : RowAt .u8 w a n zs) :
    Calls Try.prog 3 #[.slice a n cap] w fun e w' => e = .returned (.bool true) ∧ Below w.heap.size w w' := by
  have HR := Lib.hid hr
  clear hr
  go_enter Try.func3, Try.ntmps3
  go_wp2_with fail
  refine (bytes_any _ _ _ _ _ hn HR.out).mono ?_
  rintro e w' ⟨rfl, rfl⟩
  go_wp2_with fail
  refine (refBytes_any _ _ _ _ _ hn HR.out).mono ?_
  rintro e w' ⟨rfl, rfl⟩
  go_wp2_with fail
  refine (lives_any _).mono ?_
  rintro e w' ⟨rfl, hb⟩
  go_wp2
  go_ret
  exact ⟨rfl, hb⟩

set_option maxHeartbeats 400000 in
theorem hashInts_walk (a : Option Addr) (n cap : Nat) (zs : List Int) (w : World) (hn : n * 8 ≤ 140737488351232) (hr : RowAt .i64 w a n zs) :
    Calls Try.prog 4 #[.slice a n cap] w fun e w' => e = .returned (.bool true) ∧ Below w.heap.size w w' := by
  have HR := Lib.hid hr
  clear hr
  go_enter Try.func4, Try.ntmps4
  go_wp2_with fail
  refine (ints_any _ _ _ _ _ (by omega) HR.out).mono ?_
  rintro e w' ⟨rfl, rfl⟩
  go_wp2_with fail
  refine (refInts_any _ _ _ _ _ hn HR.out).mono ?_
  rintro e w1 ⟨rfl, hb1⟩
  go_wp2_with fail
  refine (lives_any _).mono ?_
  rintro e w2 ⟨rfl, hb⟩
  go_wp2
  go_ret
  exact ⟨rfl, hb1.trans (hb.mono hb1.size)⟩

theorem buck_bd (h n : Int) (h0 : 0 ≤ h) (hn : 1 ≤ n ∧ n ≤ 9223372036854775807) : 0 ≤ buck h n ∧ buck h n < n := by
  unfold buck
  rw [if_neg (by omega), Int.tmod_eq_emod_of_nonneg h0]
  have := Int.emod_nonneg h (by omega : n ≠ 0)
  have := Int.emod_lt_of_pos h (by omega : 0 < n)
  rw [IntWalk.wrap64_in _ (by omega)]
  omega

set_option maxHeartbeats 1000000 in
theorem hashMixes_walk (x y n : Int) (w : World) (x0 : 0 ≤ x) (x1 : x ≤ 18446744073709551615) (y0 : 0 ≤ y) (y1 : y ≤ 18446744073709551615) (n0 : -9223372036854775808 ≤ n) (n1 : n ≤ 9223372036854775807) :
    Calls Try.prog 5 #[.int .u64 x, .int .u64 y, .int .i64 n] w fun e w' => e = .returned (.bool true) ∧ Below w.heap.size w w' := by
  have HN := Lib.hid (bucket_any x n w ⟨n0, n1⟩)
  have HN2 := fun w => Lib.hid (refBucket_any x n w ⟨n0, n1⟩)
  by_cases hlt : n < 1
  · have hb : buck x n = 0 := by unfold buck; rw [if_pos hlt]
    rw [hb] at HN HN2
    clear hb
    go_enter Try.func5, Try.ntmps5
    go_wp2_with fail
    refine HN.out.mono ?_
    rintro e w' ⟨rfl, rfl⟩
    go_wp2_with fail
    refine (mix_any _ _ _).mono ?_
    rintro e w' ⟨rfl, rfl⟩
    go_wp2_with fail
    refine (refMix_any _ _ _ x0 x1 y0 y1).mono ?_
    rintro e w1 ⟨rfl, hb1⟩
    go_wp2_with fail
    refine (HN2 _).out.mono ?_
    rintro e w' ⟨rfl, rfl⟩
    go_wp2_with fail
    refine (lives_any _).mono ?_
    rintro e w2 ⟨rfl, hb⟩
    go_wp2
    go_ret
    exact ⟨rfl, hb1.trans (hb.mono hb1.size)⟩
  · obtain ⟨k0, k1⟩ := buck_bd x n x0 ⟨by omega, n1⟩
    generalize buck x n = k at *
    go_enter Try.func5, Try.ntmps5
    go_wp2_with fail
    refine HN.out.mono ?_
    rintro e w' ⟨rfl, rfl⟩
    go_wp2_with fail
    refine (mix_any _ _ _).mono ?_
    rintro e w' ⟨rfl, rfl⟩
    go_wp2_with fail
    refine (refMix_any _ _ _ x0 x1 y0 y1).mono ?_
    rintro e w1 ⟨rfl, hb1⟩
    go_wp2_with fail
    refine (HN2 _).out.mono ?_
    rintro e w' ⟨rfl, rfl⟩
    go_wp2_with fail
    refine (lives_any _).mono ?_
    rintro e w2 ⟨rfl, hb⟩
    go_wp2
    go_ret
    exact ⟨rfl, hb1.trans (hb.mono hb1.size)⟩

set_option maxHeartbeats 1000000 in
theorem hashJoins_walk (x y : Int) (w : World) :
    Calls Try.prog 7 #[.int .i64 x, .int .i64 y] w fun e w' => e = .returned (.bool true) ∧ Below w.heap.size w w' := by
  have hrow : ∀ w : World, Hid (RowAt .i64 (w.alloc (.cells #[.int .i64 x, .int .i64 y] 3)) (some ⟨w.heap.size, 0, none⟩) 2 [x, y]) := by
    intro w
    refine ⟨rfl, .inr ⟨_, _, rfl, fun i hi => ?_⟩⟩
    match i, hi with
    | 0, _ => simp
    | 1, _ => simp
  have HJ : Hid (sumN basis ([x, y].map uns) = num (num basis (uns x)) (uns y)) := by
    show _ = _
    simp only [List.map_cons, List.map_nil, sumN, List.foldl_cons, List.foldl_nil]
  go_enter Try.func7, Try.ntmps7
  go_wp2_with fail
  refine (mix_any _ _ _).mono ?_
  rintro e w' ⟨rfl, rfl⟩
  go_wp2_with fail
  refine (ints_any _ _ _ _ _ (by omega) (hrow _).out).mono ?_
  rintro e w' ⟨rfl, rfl⟩
  rw [HJ.out]
  unfold uns
  go_wp2_with fail
  refine (lives_any _).mono ?_
  rintro e w2 ⟨rfl, hb⟩
  go_wp2
  go_ret
  exact ⟨rfl, ((Below.refl _ _).alloc (Nat.le_refl _) _).trans (hb.mono (by simp))⟩

/-! ### The same, in the shape that the row's step asks. -/
theorem hashBytes_law (a : Option Addr) (n cap : Nat) (zs : List Int) (w : World) (hr : RowAt .u8 w a n zs) (_ : ∀ z ∈ zs, (Lit.int .u8 z).wf = true) (hl : n ≤ cap) (_ : cap ≤ maxLen) (hs : cap * 1 ≤ 140737488351232) :
    Calls Try.prog 3 #[.slice a n cap] w fun e w' => e = .returned (.bool true) ∧ Below w.heap.size w w' :=
  hashBytes_walk a n cap zs w (by omega) hr

theorem hashInts_law (a : Option Addr) (n cap : Nat) (zs : List Int) (w : World) (hr : RowAt .i64 w a n zs) (_ : ∀ z ∈ zs, (Lit.int .i64 z).wf = true) (hl : n ≤ cap) (_ : cap ≤ maxLen) (hs : cap * 8 ≤ 140737488351232) :
    Calls Try.prog 4 #[.slice a n cap] w fun e w' => e = .returned (.bool true) ∧ Below w.heap.size w w' :=
  hashInts_walk a n cap zs w (by omega) hr

theorem hashMixes_law (x y n : Int) (w : World) (hx : (Lit.int .u64 x).wf = true) (hy : (Lit.int .u64 y).wf = true) (hn : (Lit.int .i64 n).wf = true) :
    Calls Try.prog 5 #[.int .u64 x, .int .u64 y, .int .i64 n] w fun e w' => e = .returned (.bool true) ∧ Below w.heap.size w w' := by
  have h1 := bounds_u64 hx
  have h2 := bounds_u64 hy
  have h3 := bounds_i64 hn
  exact hashMixes_walk x y n w h1.1 h1.2 h2.1 h2.2 h3.1 h3.2

theorem hashJoins_law (x y : Int) (w : World) (_ : (Lit.int .i64 x).wf = true) (_ : (Lit.int .i64 y).wf = true) :
    Calls Try.prog 7 #[.int .i64 x, .int .i64 y] w fun e w' => e = .returned (.bool true) ∧ Below w.heap.size w w' :=
  hashJoins_walk x y w
end Go.Proofs.Ytgjhdjbbmjldlaa
