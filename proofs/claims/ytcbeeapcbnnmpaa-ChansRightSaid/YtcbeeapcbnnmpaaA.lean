/- Walks of the chans layer's small functions: Fits, the library's IndexFunc and ContainsFunc at this layer's predicates, is, and the reference's is. -/
import Derived.Test.YtcbeeapcbnnmpaaChecked
import Derived.Test.YtcbeeapcbnnmpaaLib
import Derived.BigQuiet
import Derived.Deep.QuietTactic
namespace Go.Proofs.Ytcbeeapcbnnmpaa
open Go.RowKit Go.Own

/-- Where a list first has p; -1: nowhere. -/
def idx (p : Int → Bool) : List Int → Int
  | [] => -1
  | x :: r => if p x then 0 else if idx p r < 0 then -1 else idx p r + 1

theorem idx_lo (p : Int → Bool) (l : List Int) : -1 ≤ idx p l := by
  induction l with
  | nil => simp [idx]
  | cons x r ih => simp only [idx]; split <;> (try split) <;> omega
theorem idx_none (p : Int → Bool) (l : List Int) (h : ∀ k, k < l.length → p (l.getD k 0) = false) : idx p l = -1 := by
  induction l with
  | nil => rfl
  | cons x r ih =>
    have h0 : p x = false := h 0 (by simp)
    have := ih (fun k hk => by simpa using h (k + 1) (by simpa using hk))
    simp [idx, h0, this]
theorem idx_some (p : Int → Bool) (l : List Int) (k : Nat) (hk : k < l.length) (h : ∀ j, j < k → p (l.getD j 0) = false) (hp : p (l.getD k 0) = true) : idx p l = k := by
  induction l generalizing k with
  | nil => simp at hk
  | cons x r ih =>
    match k with
    | 0 => have : p x = true := hp; simp [idx, this]
    | k + 1 =>
      have h0 : p x = false := h 0 (by omega)
      have := ih k (by simpa using hk) (fun j hj => by simpa using h (j + 1) (by omega)) (by simpa using hp)
      simp [idx, h0, this]; omega
theorem idx_any (p : Int → Bool) (l : List Int) : decide (0 ≤ idx p l) = l.any p := by
  induction l with
  | nil => simp [idx]
  | cons x r ih =>
    by_cases hx : p x = true
    · simp [idx, hx]
    · have hx' : p x = false := by simpa using hx
      rw [List.any_cons, hx', Bool.false_or, ← ih]
      simp only [idx, hx']
      by_cases h : idx p r < 0 <;> simp [h] <;> omega

def notZero (n : Int) : Bool := n != 0

theorem isOne_any (x : Int) (w : World) : Calls Try.prog 28 #[.int .i64 x] w fun e w' => e = .returned (.bool (notZero x)) ∧ w = w' := by
  go_enter Try.func28, Try.ntmps28
  go_wp2
  go_ret
  exact ⟨rfl, rfl⟩

set_option maxHeartbeats 400000 in
theorem index28_any (a : Option Addr) (n cap : Nat) (zs : List Int) (w : World) (hn : n ≤ 9223372036854775807) (hr : RowAt .i64 w a n zs) :
    Calls Try.prog 29 #[.slice a n cap, .func (.func 28) #[] #[]] w fun e w' => e = .returned (.int .i64 (idx notZero zs)) ∧ w = w' := by
  obtain ⟨hl, hr⟩ := hr
  have HL := Lib.hid hl
  clear hl
  go_enter Try.func29, Try.ntmps29
  go_wp2
  go_loop [5, 8] (fun _ i => ∃ k : Nat, k ≤ n ∧ i = .int .i64 k ∧ Hid (∀ j, j < k → notZero (zs.getD j 0) = false)) (fun _ i => n - (intOf i).toNat)
  case atStart => exact ⟨0, Nat.zero_le _, rfl, fun j hj => by omega⟩
  case round =>
    obtain ⟨k, hk, rfl, hno⟩ := hrel
    by_cases hlt : k < n
    · rcases hr with h0 | ⟨b, off, rfl, hc⟩
      · omega
      have hck := hc k hlt
      clear hc
      cases hp : notZero (zs.getD k 0) with
      | true =>
        have HI := Lib.hid (idx_some notZero zs k (by rw [HL.out]; exact hlt) hno.out hp)
        have HC := fun w => isOne_any (zs.getD k 0) w
        simp only [hp] at HC
        have HC' := Lib.hid HC
        clear HC hp
        go_wp2_with fail
        refine (HC'.out _).mono ?_
        rintro e w' ⟨rfl, rfl⟩
        go_wp2
        go_ret
        exact ⟨by rw [HI.out]; rfl, rfl⟩
      | false =>
        have HC := fun w => isOne_any (zs.getD k 0) w
        simp only [hp] at HC
        have HC' := Lib.hid HC
        have HN : Hid (∀ j, j < k + 1 → notZero (zs.getD j 0) = false) := fun j hj => by
          rcases Nat.lt_succ_iff_lt_or_eq.1 hj with h | rfl
          · exact hno.out j h
          · exact hp
        clear HC hp
        go_wp2_with fail
        refine (HC'.out _).mono ?_
        rintro e w' ⟨rfl, rfl⟩
        go_wp2
        go_round
        case rel => exact ⟨k + 1, by omega, by go_num, HN⟩
        case measure => simp [intOf]; omega
    · obtain rfl : k = n := by omega
      have HI := Lib.hid (idx_none notZero zs (by rw [HL.out]; exact hno.out))
      clear hr
      go_wp2
      go_ret
      exact ⟨by rw [HI.out]; rfl, rfl⟩

theorem contains28_any (a : Option Addr) (n cap : Nat) (zs : List Int) (w : World) (hn : n ≤ 9223372036854775807) (hr : RowAt .i64 w a n zs) :
    Calls Try.prog 25 #[.slice a n cap, .func (.func 28) #[] #[]] w fun e w' => e = .returned (.bool (zs.any notZero)) ∧ w = w' := by
  have HI := Lib.hid (idx_any notZero zs)
  have HC := Lib.hid (index28_any a n cap zs w hn hr)
  clear hr
  go_enter Try.func25, Try.ntmps25
  go_wp2_with fail
  refine HC.out.mono ?_
  rintro e w' ⟨rfl, rfl⟩
  go_wp2
  go_ret
  exact ⟨by rw [← HI.out]; rfl, rfl⟩

/-- Fits, as the code tells it. -/
def fits (n lo hi : Int) : Bool := decide (lo ≤ n ∧ n ≤ hi)

theorem fits_any (n lo hi : Int) (w : World) : Calls Try.prog 27 #[.int .i64 n, .int .i64 lo, .int .i64 hi] w fun e w' => e = .returned (.bool (fits n lo hi)) ∧ w = w' := by
  by_cases h1 : lo ≤ n
  · by_cases h2 : n ≤ hi
    · have H : Hid (fits n lo hi = true) := decide_eq_true ⟨h1, h2⟩
      go_enter Try.func27, Try.ntmps27
      go_wp2
      go_ret
      exact ⟨by rw [H.out]; rfl, rfl⟩
    · have H : Hid (fits n lo hi = false) := decide_eq_false (fun h => h2 h.2)
      have d1 : decide (n ≤ hi) = false := decide_eq_false h2
      go_enter Try.func27, Try.ntmps27
      go_wp2
      go_ret
      exact ⟨by rw [H.out]; rfl, rfl⟩
  · have H : Hid (fits n lo hi = false) := decide_eq_false (fun h => h1 h.1)
    have d1 : decide (lo ≤ n) = false := decide_eq_false h1
    go_enter Try.func27, Try.ntmps27
    go_wp2
    go_ret
    exact ⟨by rw [H.out]; rfl, rfl⟩
end Go.Proofs.Ytcbeeapcbnnmpaa
