/- Walks of the hash layer's functions that make no slice: put, number, Bytes, Ints, Mix, Bucket, their references, and the example. No conditions beyond the sizes of Go's own slices. -/
import Derived.Test.YtgjhdjbbmjldlaaChecked
import Derived.Test.YtgjhdjbbmjldlaaLib
import Derived.WalkKit
import Derived.WalkSpells
import Derived.WalkLawsBesides
import Derived.Handy
import Derived.Lib.Hide
import Derived.Lib.SlBytesConst
namespace Go.Proofs.Ytgjhdjbbmjldlaa
open Go.RowKit Go.Own

/-- One step of the sum, as the code's own operations give it. -/
def mixB (h b : Int) : Int := IntKind.u64.wrap (bits BinOp.xor IntKind.u64 h (IntKind.u64.wrap b) * 1099511628211)
def sumB (h : Int) (l : List Int) : Int := l.foldl mixB h
def basis : Int := 14695981039346656037
/-- The k-th byte of a number, as the code takes it. -/
def byteAt (n : Int) (k : Nat) : Int := n / 2 ^ (8 * k) % 256
def bytesOf (n : Int) : List Int := (List.range 8).map (byteAt n)
def num (h n : Int) : Int := sumB h (bytesOf n)
def sumN (h : Int) (l : List Int) : Int := l.foldl num h

theorem sumB_take (h : Int) (l : List Int) (k : Nat) (hk : k < l.length) : sumB h (l.take (k + 1)) = mixB (sumB h (l.take k)) (l.getD k 0) := by
  unfold sumB
  rw [List.take_succ_eq_append_getElem hk, List.foldl_append]
  simp [List.getD, hk]

theorem sumN_take (h : Int) (l : List Int) (k : Nat) (hk : k < l.length) : sumN h (l.take (k + 1)) = num (sumN h (l.take k)) (l.getD k 0) := by
  unfold sumN
  rw [List.take_succ_eq_append_getElem hk, List.foldl_append]
  simp [List.getD, hk]

theorem put_any (h b : Int) (w : World) :
    Calls Try.prog 17 #[.int .u64 h, .int .u8 b] w fun e w' => e = .returned (.int .u64 (mixB h b)) ∧ w = w' := by
  go_enter Try.func17, Try.ntmps17
  go_wp2
  go_ret
  exact ⟨rfl, rfl⟩

set_option maxHeartbeats 400000 in
theorem bytes_any (a : Option Addr) (n cap : Nat) (zs : List Int) (w : World) (hn : n ≤ 9223372036854775807) (hr : RowAt .u8 w a n zs) :
    Calls Try.prog 8 #[.slice a n cap] w fun e w' => e = .returned (.int .u64 (sumB basis zs)) ∧ w = w' := by
  obtain ⟨hl, hr⟩ := hr
  have HL := Lib.hid hl
  clear hl
  go_enter Try.func8, Try.ntmps8
  go_wp2
  go_loop [3, 5, 8] (fun h _ i => ∃ k : Nat, k ≤ n ∧ i = .int .i64 k ∧ h = .int .u64 (sumB basis (zs.take k))) (fun _ _ i => n - (intOf i).toNat)
  case atStart => exact ⟨0, Nat.zero_le _, rfl, rfl⟩
  case round =>
    obtain ⟨k, hk, rfl, rfl⟩ := hrel
    by_cases hlt : k < n
    · rcases hr with h0 | ⟨b, off, rfl, hc⟩
      · omega
      have hck := hc k hlt
      clear hc
      have HS := Lib.hid (sumB_take basis zs k (by rw [HL.out]; exact hlt))
      go_wp2_with (go_at_call 17; refine (put_any _ _ _).mono ?_; rintro e w' ⟨rfl, rfl⟩)
      go_round
      case rel => exact ⟨k + 1, by omega, by go_num, by rw [HS.out]; rfl⟩
      case measure => simp [intOf]; omega
    · clear hr
      go_wp2
      go_ret
      exact ⟨by rw [List.take_of_length_le (by rw [HL.out]; omega)]; rfl, rfl⟩

set_option maxHeartbeats 400000 in
theorem refBytes_any (a : Option Addr) (n cap : Nat) (zs : List Int) (w : World) (hn : n ≤ 9223372036854775807) (hr : RowAt .u8 w a n zs) :
    Calls Try.prog 9 #[.slice a n cap] w fun e w' => e = .returned (.int .u64 (sumB basis zs)) ∧ w = w' := by
  obtain ⟨hl, hr⟩ := hr
  have HL := Lib.hid hl
  clear hl
  go_enter Try.func9, Try.ntmps9
  go_wp2
  go_loop [3, 4] (fun h i => ∃ k : Nat, k ≤ n ∧ i = .int .i64 k ∧ h = .int .u64 (sumB basis (zs.take k))) (fun _ i => n - (intOf i).toNat)
  case atStart => exact ⟨0, Nat.zero_le _, rfl, rfl⟩
  case round =>
    obtain ⟨k, hk, rfl, rfl⟩ := hrel
    by_cases hlt : k < n
    · rcases hr with h0 | ⟨b, off, rfl, hc⟩
      · omega
      have hck := hc k hlt
      clear hc
      have HS := Lib.hid (sumB_take basis zs k (by rw [HL.out]; exact hlt))
      go_wp2
      go_round
      case rel => exact ⟨k + 1, by omega, by go_num, by rw [HS.out]; rfl⟩
      case measure => simp [intOf]; omega
    · clear hr
      go_wp2
      go_ret
      exact ⟨by rw [List.take_of_length_le (by rw [HL.out]; omega)]; rfl, rfl⟩

theorem bytesOf_take (n : Int) (h : Int) (k : Nat) (hk : k < 8) : sumB h ((bytesOf n).take (k + 1)) = mixB (sumB h ((bytesOf n).take k)) (byteAt n k) := by
  rw [sumB_take h (bytesOf n) k (by simpa [bytesOf] using hk)]
  simp [bytesOf, hk]

set_option maxHeartbeats 400000 in
theorem number_any (h n : Int) (w : World) :
    Calls Try.prog 18 #[.int .u64 h, .int .u64 n] w fun e w' => e = .returned (.int .u64 (num h n)) ∧ w = w' := by
  go_enter Try.func18, Try.ntmps18
  go_wp2
  go_loop [0, 5, 6] (fun v _ i => ∃ k : Nat, k ≤ 8 ∧ i = .int .i64 k ∧ v = .int .u64 (sumB h ((bytesOf n).take k))) (fun _ _ i => 8 - (intOf i).toNat)
  case atStart => exact ⟨0, Nat.zero_le _, rfl, rfl⟩
  case round =>
    obtain ⟨k, hk, rfl, rfl⟩ := hrel
    by_cases hlt : k < 8
    · have HS := Lib.hid (bytesOf_take n h k hlt)
      go_wp2_with (go_at_call 17; refine (put_any _ _ _).mono ?_; rintro e w' ⟨rfl, rfl⟩)
      go_round
      case rel => exact ⟨k + 1, by omega, by go_num, by rw [HS.out]; rfl⟩
      case measure => simp [intOf]; omega
    · go_wp2
      go_ret
      exact ⟨by rw [List.take_of_length_le (by simp [bytesOf]; omega)]; rfl, rfl⟩

set_option maxHeartbeats 400000 in
theorem mix_any (a b : Int) (w : World) :
    Calls Try.prog 14 #[.int .u64 a, .int .u64 b] w fun e w' => e = .returned (.int .u64 (num (num basis a) b)) ∧ w = w' := by
  go_enter Try.func14, Try.ntmps14
  go_wp2_with fail
  refine (number_any _ _ _).mono ?_
  rintro e w' ⟨rfl, rfl⟩
  go_wp2_with fail
  refine (number_any _ _ _).mono ?_
  rintro e w' ⟨rfl, rfl⟩
  go_wp2
  go_ret
  exact ⟨rfl, rfl⟩

/-- A number as an unsigned one. -/
def uns (n : Int) : Int := IntKind.u64.wrap n

theorem map_getD (l : List Int) (k : Nat) (hk : k < l.length) : (l.map uns).getD k 0 = uns (l.getD k 0) := by
  simp [List.getD, hk]

set_option maxHeartbeats 400000 in
theorem ints_any (a : Option Addr) (n cap : Nat) (zs : List Int) (w : World) (hn : n ≤ 9223372036854775807) (hr : RowAt .i64 w a n zs) :
    Calls Try.prog 11 #[.slice a n cap] w fun e w' => e = .returned (.int .u64 (sumN basis (zs.map uns))) ∧ w = w' := by
  obtain ⟨hl, hr⟩ := hr
  have HL := Lib.hid hl
  clear hl
  go_enter Try.func11, Try.ntmps11
  go_wp2
  go_loop [3, 5, 8] (fun h _ i => ∃ k : Nat, k ≤ n ∧ i = .int .i64 k ∧ h = .int .u64 (sumN basis ((zs.map uns).take k))) (fun _ _ i => n - (intOf i).toNat)
  case atStart => exact ⟨0, Nat.zero_le _, rfl, rfl⟩
  case round =>
    obtain ⟨k, hk, rfl, rfl⟩ := hrel
    by_cases hlt : k < n
    · rcases hr with h0 | ⟨b, off, rfl, hc⟩
      · omega
      have hck := hc k hlt
      clear hc
      have HS := Lib.hid (sumN_take basis (zs.map uns) k (by rw [List.length_map, HL.out]; exact hlt))
      have HG := Lib.hid (map_getD zs k (by rw [HL.out]; exact hlt))
      go_wp2_with (go_at_call 18; refine (number_any _ _ _).mono ?_; rintro e w' ⟨rfl, rfl⟩)
      go_round
      case rel => exact ⟨k + 1, by omega, by go_num, by rw [HS.out, HG.out]; rfl⟩
      case measure => simp [intOf]; omega
    · clear hr
      go_wp2
      go_ret
      exact ⟨by rw [List.take_of_length_le (by rw [List.length_map, HL.out]; omega)]; rfl, rfl⟩

theorem sumB_nil : sumB basis [] = basis := rfl
theorem sumB_a : sumB basis [97] = 12638187200555641996 := by decide +kernel

set_option maxHeartbeats 400000 in
theorem lives_any (w : World) :
    Calls Try.prog 10 #[] w fun e w' => e = .returned (.bool true) ∧ Below w.heap.size w w' := by
  have e0 : (sumB basis [] == 14695981039346656037) = true := by decide +kernel
  have e1 : (sumB basis [97] == 12638187200555641996) = true := by decide +kernel
  have kc := fun (w : World) (C : Array Value) (n c : Nat) => Lib.run_convert_bytes_const (P := Try.prog) w 22 5 C n c Try.underlying22 Try.underlying5
  go_enter Try.func10, Try.ntmps10
  go_wp2_with fail
  refine (bytes_any none 0 0 [] _ (by omega) ⟨rfl, .inl rfl⟩).mono ?_
  rintro e w' ⟨rfl, rfl⟩
  go_wp2_with fail
  refine (bytes_any _ 1 1 [97] _ (by omega) ⟨rfl, .inr ⟨w.heap.size, 0, rfl, ?_⟩⟩).mono ?_
  · intro i hi
    obtain rfl : i = 0 := by omega
    exact World.cell?_alloc_mark _ _ _ _ _
  rintro e w' ⟨rfl, rfl⟩
  go_wp2
  go_ret
  exact ⟨rfl, (Below.refl _ _).alloc (Nat.le_refl _) _⟩

/-- The remainder of a sum. -/
def buck (h n : Int) : Int := if n < 1 then 0 else wrap64 (h.tmod n)

set_option maxHeartbeats 400000 in
theorem bucket_any (h n : Int) (w : World) (hn : -9223372036854775808 ≤ n ∧ n ≤ 9223372036854775807) :
    Calls Try.prog 13 #[.int .u64 h, .int .i64 n] w fun e w' => e = .returned (.int .i64 (buck h n)) ∧ w = w' := by
  obtain ⟨h1, h2⟩ := hn
  by_cases hlt : n < 1
  · have HB : Hid (buck h n = 0) := by unfold buck; rw [if_pos hlt]; rfl
    go_enter Try.func13, Try.ntmps13
    go_wp2
    go_ret
    exact ⟨by rw [HB.out]; rfl, rfl⟩
  · have HB : Hid (buck h n = wrap64 (h.tmod n)) := by unfold buck; rw [if_neg hlt]; rfl
    go_enter Try.func13, Try.ntmps13
    go_wp2
    go_ret
    exact ⟨by rw [HB.out]; rfl, rfl⟩

set_option maxHeartbeats 400000 in
theorem refBucket_any (h n : Int) (w : World) (hn : -9223372036854775808 ≤ n ∧ n ≤ 9223372036854775807) :
    Calls Try.prog 16 #[.int .u64 h, .int .i64 n] w fun e w' => e = .returned (.int .i64 (buck h n)) ∧ w = w' := by
  obtain ⟨h1, h2⟩ := hn
  by_cases hlt : n < 1
  · have HB : Hid (buck h n = 0) := by unfold buck; rw [if_pos hlt]; rfl
    go_enter Try.func16, Try.ntmps16
    go_wp2
    go_ret
    exact ⟨by rw [HB.out]; rfl, rfl⟩
  · have HB : Hid (buck h n = wrap64 (h.tmod n)) := by unfold buck; rw [if_neg hlt]; rfl
    go_enter Try.func16, Try.ntmps16
    go_wp2
    go_ret
    exact ⟨by rw [HB.out]; rfl, rfl⟩
end Go.Proofs.Ytgjhdjbbmjldlaa
