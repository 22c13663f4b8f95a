/- The walk of far: what it tells of a graph that it lets through. -/
import Derived.Test.YtnkfmhhfeaohbaaA
namespace Go.Proofs.Ytnkfmhhfeaohbaa
open Go.RowKit Go.Own

/-- How many edges the first k nodes have. -/
def edgeSum (E : List (List Int)) : Nat → Nat
  | 0 => 0
  | k + 1 => edgeSum E k + (E.getD k []).length
theorem edgeSum_le (E : List (List Int)) (M : Nat) (h : ∀ i, i < E.length → (E.getD i []).length ≤ M) : ∀ k, k ≤ E.length → edgeSum E k ≤ k * M
  | 0, _ => by simp [edgeSum]
  | k + 1, hk => by
    unfold edgeSum
    have h1 := edgeSum_le E M h k (by omega)
    have h2 := h k (by omega)
    rw [Nat.succ_mul]; omega
theorem edgeSum_ge (E : List (List Int)) : ∀ k i, i < k → (E.getD i []).length ≤ edgeSum E k
  | 0, i, h => by omega
  | k + 1, i, h => by
    unfold edgeSum
    rcases Nat.lt_succ_iff_lt_or_eq.1 h with h | rfl
    · have := edgeSum_ge E k i h; omega
    · omega

def FarDone (E : List (List Int)) (w : World) (e : Ending) (w' : World) : Prop :=
  ∃ b, e = .returned (.bool b) ∧ (b = false → E.length ≤ 60 ∧ ∀ i, i < E.length → (E.getD i []).length ≤ 2000) ∧ Below w.heap.size w w'

set_option maxHeartbeats 1000000 in
theorem far_any (vi vl : Value) (ae : Option Addr) (n ce : Nat) (E : List (List Int)) (w : World) (hE : E.length = n) (he : EdgesAt w ae E) (hn : n ≤ 9223372036854775807) (hrow : ∀ i, i < E.length → (E.getD i []).length ≤ 140737488355328) :
    Calls Try.prog 8 #[.agg #[vi, .slice ae n ce, vl]] w (FarDone E w) := by
  have HE := Lib.hid hE
  have H := Lib.hid he
  have HR := Lib.hid hrow
  have HB : Hid (∀ W, W = w.alloc (.cells #[vi, .slice ae n ce, vl] 26) → Below w.heap.size w W) := by rintro W rfl; exact (Below.refl _ w).alloc (Nat.le_refl _) _
  clear hE he hrow
  by_cases hbig : 60 < n
  · have t0 : decide ((60 : Int) < (n : Int)) = true := decide_eq_true (by omega)
    have t1 : decide (60 < n) = true := decide_eq_true hbig
    go_enter Try.func8, Try.ntmps8
    go_wp2
    go_loop [3, 12] (fun s i => ∃ k : Nat, k ≤ n ∧ i = .int .i64 k ∧ ∃ z : Int, s = .int .i64 z) (fun _ i => n - (intOf i).toNat)
    case atStart => exact ⟨0, Nat.zero_le _, rfl, _, rfl⟩
    case round =>
      obtain ⟨k, hk, rfl, z, rfl⟩ := hrel
      by_cases hlt : k < n
      · have hltI : (k : Int) < (n : Int) := by omega
        obtain ⟨b, off, ai, ci, rfl, hc, _⟩ := (H.out.below (HB.out _ rfl)).at k (by rw [HE.out]; exact hlt)
        clear t0 t1
        go_wp2
        go_round
        case rel => exact ⟨k + 1, by omega, by go_num, _, rfl⟩
        case measure => simp [intOf]; omega
      · obtain rfl : k = n := by omega
        go_wp2
        go_ret
        exact ⟨true, rfl, (fun h => nomatch h), HB.out _ rfl⟩
  · have t0 : decide ((60 : Int) < (n : Int)) = false := decide_eq_false (by omega)
    have t1 : decide (60 < n) = false := decide_eq_false hbig
    have hn60 : n ≤ 60 := by omega
    clear hbig
    go_enter Try.func8, Try.ntmps8
    go_wp2
    go_loop [3, 12] (fun s i => ∃ k : Nat, k ≤ n ∧ i = .int .i64 k ∧ s = .int .i64 ((n + edgeSum E k : Nat) : Int)) (fun _ i => n - (intOf i).toNat)
    case atStart => exact ⟨0, Nat.zero_le _, rfl, rfl⟩
    case round =>
      obtain ⟨k, hk, rfl, rfl⟩ := hrel
      have hs := edgeSum_le E 140737488355328 HR.out k (by rw [HE.out]; exact hk)
      have hs2 : edgeSum E k ≤ 8444249301319680 := by omega
      clear hs
      by_cases hlt : k < n
      · have hltI : (k : Int) < (n : Int) := by omega
        obtain ⟨b, off, ai, ci, rfl, hc, _⟩ := (H.out.below (HB.out _ rfl)).at k (by rw [HE.out]; exact hlt)
        have hr := HR.out k (by rw [HE.out]; exact hlt)
        have HS : Hid (edgeSum E (k + 1) = edgeSum E k + (E.getD k []).length) := rfl
        generalize (E.getD k []).length = m at *
        generalize hes : edgeSum E k = sk at *
        have HES := Lib.hid hes
        clear t0 t1 hes
        go_wp2
        go_round
        case rel => exact ⟨k + 1, by omega, by go_num, by rw [HS.out]; go_num⟩
        case measure => simp [intOf]; omega
      · obtain rfl : k = n := by omega
        have HG := Lib.hid (edgeSum_ge E k)
        by_cases hm : 2000 < k + edgeSum E k
        · have t2 : decide (2000 < k + edgeSum E k) = true := decide_eq_true hm
          have t3 : decide ((2000 : Int) < (k : Int) + (edgeSum E k : Int)) = true := decide_eq_true (by omega)
          clear hm
          go_wp2
          go_ret
          exact ⟨true, rfl, (fun h => nomatch h), HB.out _ rfl⟩
        · have t2 : decide (2000 < k + edgeSum E k) = false := decide_eq_false hm
          have t3 : decide ((2000 : Int) < (k : Int) + (edgeSum E k : Int)) = false := decide_eq_false (by omega)
          have HL : Hid (∀ i, i < E.length → (E.getD i []).length ≤ 2000) := fun i hi => by
            have := HG.out i (by rw [← HE.out]; exact hi); omega
          clear hm
          go_wp2
          go_ret
          exact ⟨false, rfl, fun _ => ⟨by rw [HE.out]; exact hn60, HL.out⟩, HB.out _ rfl⟩
end Go.Proofs.Ytnkfmhhfeaohbaa
