/- Walks of the hash layer's functions that the table layer calls. -/
import Derived.Test.YtflnddpbkaeaaaaChecked
import Derived.Test.YtflnddpbkaeaaaaMade
import Derived.Lib.SlBytesConst
import Derived.Lib.SlBytesRow
import Derived.Laws.Bits64
namespace Go.Proofs.Ytflnddpbkaeaaaa
open Go.RowKit Go.Own

/-- One step of the sum, as the code's own operations give it. -/
def mixB (h b : Int) : Int := IntKind.u64.wrap (bits BinOp.xor IntKind.u64 h (IntKind.u64.wrap b) * 1099511628211)
def sumB (h : Int) (l : List Int) : Int := l.foldl mixB h
def basis : Int := 14695981039346656037
theorem sumB_take (h : Int) (l : List Int) (k : Nat) (hk : k < l.length) : sumB h (l.take (k + 1)) = mixB (sumB h (l.take k)) (l.getD k 0) := by
  unfold sumB
  rw [List.take_succ_eq_append_getElem hk, List.foldl_append]
  simp [List.getD, hk]

theorem put_any (h b : Int) (w : World) :
    Calls Try.prog 29 #[.int .u64 h, .int .u8 b] w fun e w' => e = .returned (.int .u64 (mixB h b)) ∧ w = w' := by
  go_enter Try.func29, Try.ntmps29
  go_wp2
  go_ret
  exact ⟨rfl, rfl⟩

set_option maxHeartbeats 400000 in
theorem bytes_any (a : Option Addr) (n cap : Nat) (zs : List Int) (w : World) (hn : n ≤ 9223372036854775807) (hr : RowAt .u8 w a n zs) :
    Calls Try.prog 27 #[.slice a n cap] w fun e w' => e = .returned (.int .u64 (sumB basis zs)) ∧ w = w' := by
  obtain ⟨hl, hr⟩ := hr
  have HL := Lib.hid hl
  clear hl
  go_enter Try.func27, Try.ntmps27
  go_wp2
  go_loop [3, 5, 8] (fun h _ i => ∃ k : Nat, k ≤ n ∧ i = .int .i64 k ∧ h = .int .u64 (sumB basis (zs.take k))) (fun _ _ i => n - (intOf i).toNat)
  case atStart => exact ⟨0, Nat.zero_le _, rfl, rfl⟩
  case round =>
    obtain ⟨k, hk, rfl, rfl⟩ := hrel
    by_cases hlt : k < n
    · rcases hr with h0 | ⟨b, off, rfl, hc⟩
      · omega
      have hck := hc k hlt
      clear hc
      have HS := Lib.hid (sumB_take basis zs k (by rw [HL.out]; exact hlt))
      go_wp2_with (go_at_call 29; refine (put_any _ _ _).mono ?_; rintro e w' ⟨rfl, rfl⟩)
      go_round
      case rel => exact ⟨k + 1, by omega, by go_num, by rw [HS.out]; rfl⟩
      case measure => simp [intOf]; omega
    · clear hr
      go_wp2
      go_ret
      exact ⟨by rw [List.take_of_length_le (by rw [HL.out]; omega)]; rfl, rfl⟩

set_option maxHeartbeats 400000 in
theorem refBytes_any (a : Option Addr) (n cap : Nat) (zs : List Int) (w : World) (hn : n ≤ 9223372036854775807) (hr : RowAt .u8 w a n zs) :
    Calls Try.prog 25 #[.slice a n cap] w fun e w' => e = .returned (.int .u64 (sumB basis zs)) ∧ w = w' := by
  obtain ⟨hl, hr⟩ := hr
  have HL := Lib.hid hl
  clear hl
  go_enter Try.func25, Try.ntmps25
  go_wp2
  go_loop [3, 4] (fun h i => ∃ k : Nat, k ≤ n ∧ i = .int .i64 k ∧ h = .int .u64 (sumB basis (zs.take k))) (fun _ i => n - (intOf i).toNat)
  case atStart => exact ⟨0, Nat.zero_le _, rfl, rfl⟩
  case round =>
    obtain ⟨k, hk, rfl, rfl⟩ := hrel
    by_cases hlt : k < n
    · rcases hr with h0 | ⟨b, off, rfl, hc⟩
      · omega
      have hck := hc k hlt
      clear hc
      have HS := Lib.hid (sumB_take basis zs k (by rw [HL.out]; exact hlt))
      go_wp2
      go_round
      case rel => exact ⟨k + 1, by omega, by go_num, by rw [HS.out]; rfl⟩
      case measure => simp [intOf]; omega
    · clear hr
      go_wp2
      go_ret
      exact ⟨by rw [List.take_of_length_le (by rw [HL.out]; omega)]; rfl, rfl⟩

/-- The remainder of a sum. -/
def buck (h n : Int) : Int := if n < 1 then 0 else wrap64 (h.tmod n)

set_option maxHeartbeats 400000 in
theorem bucket_any (h n : Int) (w : World) (hn : -9223372036854775808 ≤ n ∧ n ≤ 9223372036854775807) :
    Calls Try.prog 26 #[.int .u64 h, .int .i64 n] w fun e w' => e = .returned (.int .i64 (buck h n)) ∧ w = w' := by
  obtain ⟨h1, h2⟩ := hn
  by_cases hlt : n < 1
  · have HB : Hid (buck h n = 0) := by unfold buck; rw [if_pos hlt]; rfl
    go_enter Try.func26, Try.ntmps26
    go_wp2
    go_ret
    exact ⟨by rw [HB.out]; rfl, rfl⟩
  · have HB : Hid (buck h n = wrap64 (h.tmod n)) := by unfold buck; rw [if_neg hlt]; rfl
    go_enter Try.func26, Try.ntmps26
    go_wp2
    go_ret
    exact ⟨by rw [HB.out]; rfl, rfl⟩

set_option maxHeartbeats 400000 in
theorem refBucket_any (h n : Int) (w : World) (hn : -9223372036854775808 ≤ n ∧ n ≤ 9223372036854775807) :
    Calls Try.prog 24 #[.int .u64 h, .int .i64 n] w fun e w' => e = .returned (.int .i64 (buck h n)) ∧ w = w' := by
  obtain ⟨h1, h2⟩ := hn
  by_cases hlt : n < 1
  · have HB : Hid (buck h n = 0) := by unfold buck; rw [if_pos hlt]; rfl
    go_enter Try.func24, Try.ntmps24
    go_wp2
    go_ret
    exact ⟨by rw [HB.out]; rfl, rfl⟩
  · have HB : Hid (buck h n = wrap64 (h.tmod n)) := by unfold buck; rw [if_neg hlt]; rfl
    go_enter Try.func24, Try.ntmps24
    go_wp2
    go_ret
    exact ⟨by rw [HB.out]; rfl, rfl⟩
end Go.Proofs.Ytflnddpbkaeaaaa
