/- Walks of heavy, and of the reference's Find, Add and Longest. -/
import Derived.Test.YtflnddpbkaeaaaaL
namespace Go.Proofs.Ytflnddpbkaeaaaa
open Go.RowKit Go.Own

def heavyB (X : List (List Int)) : Bool := X.any (fun t => decide (100 < t.length)) || decide (100 < X.length)

theorem heavy_hit {X : List (List Int)} {k : Nat} (h : k < X.length) (e : 100 < (X.getD k []).length) : heavyB X = true := by
  unfold heavyB
  rw [Bool.or_eq_true]
  exact .inl (List.any_eq_true.2 ⟨_, getD_mem h, by simpa using e⟩)
theorem heavy_miss {X : List (List Int)} (h : ∀ k, k < X.length → ¬ 100 < (X.getD k []).length) : heavyB X = decide (100 < X.length) := by
  unfold heavyB
  have : X.any (fun t => decide (100 < t.length)) = false := by
    rw [List.any_eq_false]
    intro t ht
    obtain ⟨i, hi, rfl⟩ := List.getElem_of_mem ht
    have := h i hi
    rw [show X.getD i [] = X[i] by simp [List.getD, hi]] at this
    simpa using this
  rw [this, Bool.false_or]
theorem heavy_no {X : List (List Int)} (h : heavyB X = false) : X.length ≤ 100 ∧ ∀ t ∈ X, t.length ≤ 100 := by
  unfold heavyB at h
  rw [Bool.or_eq_false_iff] at h
  refine ⟨by have := h.2; simp at this; exact this, fun t ht => ?_⟩
  have := List.any_eq_false.1 h.1 t ht
  simpa using this

set_option maxHeartbeats 1000000 in
theorem heavy_any (S : Nat → Prop) (a : Option Addr) (n c : Nat) (X : List (List Int)) (w : World) (hr : Rows S w a n X) (hn : n ≤ 9223372036854775807) :
    Calls Try.prog 10 #[.slice a n c] w fun e w' => e = .returned (.bool (heavyB X)) ∧ w = w' := by
  have HR := Lib.hid hr
  have HL : Hid (X.length = n) := hr.1
  clear hr
  go_enter Try.func10, Try.ntmps10
  go_wp2
  go_loop [3] (fun i => ∃ k : Nat, k ≤ n ∧ i = .int .i64 k ∧ Hid (∀ j, j < k → ¬ 100 < (X.getD j []).length)) (fun i => n - (intOf i).toNat)
  case atStart => exact ⟨0, Nat.zero_le _, rfl, fun j hj => by omega⟩
  case round =>
    obtain ⟨k, hk, rfl, hno⟩ := hrel
    by_cases hlt : k < n
    · obtain ⟨b, off, ai, ci, rfl, hc, _, _⟩ := HR.out.at k hlt
      by_cases hbig : 100 < (X.getD k []).length
      · have HH := Lib.hid (heavy_hit (by rw [HL.out]; exact hlt) hbig)
        have t0 : decide ((100 : Int) < ((X.getD k []).length : Int)) = true := decide_eq_true (by omega)
        clear hbig
        generalize (X.getD k []).length = m at *
        go_wp2
        go_ret
        exact ⟨by rw [HH.out]; rfl, rfl⟩
      · have hno' : Hid (∀ j, j < k + 1 → ¬ 100 < (X.getD j []).length) := fun j hj => by
          rcases Nat.lt_succ_iff_lt_or_eq.1 hj with h | rfl
          · exact hno.out j h
          · exact hbig
        have t0 : decide ((100 : Int) < ((X.getD k []).length : Int)) = false := decide_eq_false (by omega)
        clear hbig
        generalize (X.getD k []).length = m at *
        go_wp2
        go_round
        case rel => exact ⟨k + 1, by omega, by go_num, hno'⟩
        case measure => simp [intOf]; omega
    · obtain rfl : k = n := by omega
      have HH := Lib.hid (heavy_miss (X := X) (fun j hj => hno.out j (by rw [← HL.out]; exact hj)))
      rw [HL.out] at HH
      have e0 : decide ((100 : Int) < (k : Int)) = decide (100 < k) := by by_cases h : 100 < k <;> simp [h] <;> omega
      have HE := Lib.hid e0
      clear e0
      go_wp2
      go_ret
      exact ⟨by rw [HH.out, ← HE.out]; rfl, rfl⟩

set_option maxHeartbeats 1000000 in
theorem refFind_any (S : Nat → Prop) (a : Option Addr) (n c : Nat) (X : List (List Int)) (b : Option Addr) (m d : Nat) (bs : List Int) (w : World) (hr : Rows S w a n X) (hX : ∀ t ∈ X, IsBytes t) (hnd : X.Nodup) (hn : n ≤ 9223372036854775807) (hb : RowAt .u8 w b m bs) (hbs : IsBytes bs) :
    Calls Try.prog 14 #[.slice a n c, .slice b m d] w fun e w' => e = .returned (.int .i64 (idx X bs)) ∧ Below w.heap.size w w' := by
  have HR := Lib.hid hr
  have HL : Hid (X.length = n) := hr.1
  have HB := Lib.hid hb
  have HX := Lib.hid hX
  have HN := Lib.hid hnd
  have HBS := Lib.hid hbs
  clear hr hb hX hnd hbs
  go_enter Try.func14, Try.ntmps14
  go_wp2
  go_loopw [5] (fun i wr => ∃ k : Nat, k ≤ n ∧ i = .int .i64 k ∧ Below w.heap.size w wr ∧ Hid (∀ j, j < k → X.getD j [] ≠ bs)) (fun i _ => n - (intOf i).toNat)
  case atStart => exact ⟨0, Nat.zero_le _, rfl, Below.refl _ _, fun j hj => by omega⟩
  case round =>
    obtain ⟨k, hk, rfl, hbel, hno⟩ := hrel
    have HB0 := Lib.hid hbel
    by_cases hlt : k < n
    · obtain ⟨b1, off, ai, ci, rfl, hc, hri, _⟩ := (HR.out.below hbel).at k hlt
      have hltI : (k : Int) < (n : Int) := by omega
      have hs1 : ∀ q, (convert 23 9 (.slice ai (X.getD k []).length ci)).run Try.prog (wr.drewN q) = .ok (.string (strOfNums (X.getD k []))) (wr.drewN q) := fun q => run_str (hri.below (below_drewN _ _))
      have hs2 : ∀ q, (convert 23 9 (.slice b m d)).run Try.prog (wr.drewN q) = .ok (.string (strOfNums bs)) (wr.drewN q) := fun q => run_str ((HB.out.below hbel).below (below_drewN _ _))
      have hq := str_beq (HX.out _ (getD_mem (by rw [HL.out]; exact hlt))) HBS.out
      clear hri hbel
      by_cases heq : X.getD k [] = bs
      · have HX' : Hid (idx X bs = (k : Int)) := idx_of_get HN.out (by rw [HL.out]; exact hlt) heq
        rw [decide_eq_true heq] at hq
        clear heq
        generalize X.getD k [] = ts at *
        go_wp2
        go_quiet (fail)
        go_wp2
        go_ret
        exact ⟨by rw [HX'.out]; rfl, below_then HB0.out (below_drewN _ _)⟩
      · rw [decide_eq_false heq] at hq
        have hno' : Hid (∀ j, j < k + 1 → X.getD j [] ≠ bs) := fun j hj => by
          rcases Nat.lt_succ_iff_lt_or_eq.1 hj with h | rfl
          · exact hno.out j h
          · exact heq
        clear heq
        generalize X.getD k [] = ts at *
        go_wp2
        go_quiet (fail)
        go_wp2
        go_roundw
        case rel => exact ⟨k + 1, by omega, by go_num, below_then HB0.out (below_drewN _ _), hno'⟩
        case measure => simp [intOf]; omega
    · obtain rfl : k = n := by omega
      have HX' : Hid (idx X bs = -1) := idx_none fun j hj => hno.out j (by rw [← HL.out]; exact hj)
      clear hbel
      go_wp2
      go_ret
      exact ⟨by rw [HX'.out]; rfl, HB0.out⟩
end Go.Proofs.Ytflnddpbkaeaaaa
