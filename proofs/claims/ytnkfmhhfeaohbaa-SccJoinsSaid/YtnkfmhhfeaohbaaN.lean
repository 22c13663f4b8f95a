/- The walk of Cyclic. -/
import Derived.Test.YtnkfmhhfeaohbaaM
namespace Go.Proofs.Ytnkfmhhfeaohbaa
open Go.RowKit Go.Own

/-- Whether a part has a circle: more than one node, or one with an edge to itself. -/
def cycScan (E : List (List Int)) (n : Nat) (one : Int) : List Int → Bool
  | [] => decide (0 ≤ one) && selfB E one.toNat
  | v :: r => if v < 0 ∨ (n : Int) ≤ v ∨ v = one then cycScan E n one r else if 0 ≤ one then true else cycScan E n v r
theorem cycScan_drop {E : List (List Int)} {n k : Nat} {one : Int} {zs : List Int} (hk : k < zs.length) : cycScan E n one (zs.drop k) = cycScan E n one (zs.getD k 0 :: zs.drop (k + 1)) := by
  rw [List.drop_eq_getElem_cons hk, List.getD_eq_getElem?_getD, List.getElem?_eq_getElem hk]; rfl

theorem cycScan_skip {E : List (List Int)} {n : Nat} {one v : Int} {r : List Int} (h : v < 0 ∨ (n : Int) ≤ v ∨ v = one) : cycScan E n one (v :: r) = cycScan E n one r := by
  conv => lhs; unfold cycScan
  rw [if_pos h]
theorem cycScan_hit {E : List (List Int)} {n : Nat} {one v : Int} {r : List Int} (h : ¬ (v < 0 ∨ (n : Int) ≤ v ∨ v = one)) (h2 : 0 ≤ one) : cycScan E n one (v :: r) = true := by
  conv => lhs; unfold cycScan
  rw [if_neg h, if_pos h2]
theorem cycScan_new {E : List (List Int)} {n : Nat} {one v : Int} {r : List Int} (h : ¬ (v < 0 ∨ (n : Int) ≤ v ∨ v = one)) (h2 : ¬ 0 ≤ one) : cycScan E n one (v :: r) = cycScan E n v r := by
  conv => lhs; unfold cycScan
  rw [if_neg h, if_neg h2]

set_option maxHeartbeats 2000000 in
theorem cyclic_any (vi vl : Value) (ae : Option Addr) (n ce : Nat) (E : List (List Int)) (ap : Option Addr) (m cp : Nat) (zs : List Int) (w : World) (hE : E.length = n) (he : EdgesAt w ae E) (hn : n ≤ 1000000) (hrow : ∀ i, i < E.length → (E.getD i []).length ≤ 1000000000) (hz : RowAt .i64 w ap m zs) (hm : m ≤ 9223372036854775807) :
    Calls Try.prog 15 #[.agg #[vi, .slice ae n ce, vl], .slice ap m cp] w fun e w' => e = .returned (.bool (cycScan E n (-1) zs)) ∧ Below w.heap.size w w' := by
  have HE := Lib.hid hE
  have HB : Hid (Below w.heap.size w (w.alloc (.cells #[vi, .slice ae n ce, vl] 26))) := (Below.refl _ w).alloc (Nat.le_refl _) _
  have HL := Lib.hid fun (v : Nat) (hv : v < n) => loops_any vi vl ae n ce E v (w.alloc (.cells #[vi, .slice ae n ce, vl] 26)) hE (he.below HB.out) hv hrow
  have HZ : Hid (RowAt .i64 (w.alloc (.cells #[vi, .slice ae n ce, vl] 26)) ap m zs) := hz.below HB.out
  have HZL : Hid (zs.length = m) := hz.1
  clear he hrow hE hz
  go_enter Try.func15, Try.ntmps15
  go_wp2_with fail
  go_loopw [5, 10] (fun o x wr => ∃ (k : Nat) (one : Int), k ≤ m ∧ x = .int .i64 k ∧ o = .int .i64 one ∧ -1 ≤ one ∧ one < n ∧ Hid (cycScan E n one (zs.drop k) = cycScan E n (-1) zs) ∧ wr = w.alloc (.cells #[vi, .slice ae n ce, vl] 26)) (fun _ x _ => m - (intOf x).toNat)
  case atStart => exact ⟨0, -1, Nat.zero_le _, rfl, rfl, by omega, by omega, rfl, rfl⟩
  case round =>
    obtain ⟨k, one, hk, rfl, rfl, ho1, ho2, hs, rfl⟩ := hrel
    by_cases hlt : k < m
    · have hltI : (k : Int) < (m : Int) := by omega
      obtain ⟨-, h0 | ⟨b, off, rfl, hc⟩⟩ := HZ.out
      · omega
      have c1 := hc k hlt
      have HS : Hid (cycScan E n one (zs.getD k 0 :: zs.drop (k + 1)) = cycScan E n (-1) zs) := (cycScan_drop (by rw [HZL.out]; exact hlt)).symm.trans hs.out
      generalize zs.getD k 0 = z at *
      clear hc hs
      by_cases hneg : z < 0
      · have t0 : decide (z < 0) = true := decide_eq_true hneg
        have HR : Hid (cycScan E n one (zs.drop (k + 1)) = cycScan E n (-1) zs) := (cycScan_skip (.inl hneg)).symm.trans HS.out
        clear HS
        go_wp2_with fail
        go_roundw
        case rel => exact ⟨k + 1, one, by omega, by go_num, rfl, ho1, ho2, HR, trivial⟩
        case measure => simp [intOf]; omega
      · have t0 : decide (z < 0) = false := decide_eq_false hneg
        by_cases hbig : (n : Int) ≤ z
        · have t1 : decide ((n : Int) ≤ z) = true := decide_eq_true hbig
          have HR : Hid (cycScan E n one (zs.drop (k + 1)) = cycScan E n (-1) zs) := (cycScan_skip (.inr (.inl hbig))).symm.trans HS.out
          clear HS
          go_wp2_with fail
          go_roundw
          case rel => exact ⟨k + 1, one, by omega, by go_num, rfl, ho1, ho2, HR, trivial⟩
          case measure => simp [intOf]; omega
        · have t1 : decide ((n : Int) ≤ z) = false := decide_eq_false hbig
          by_cases heq : z = one
          · have t2 : (z == one) = true := beq_iff_eq.2 heq
            have HR : Hid (cycScan E n one (zs.drop (k + 1)) = cycScan E n (-1) zs) := (cycScan_skip (.inr (.inr heq))).symm.trans HS.out
            clear HS
            go_wp2_with fail
            go_roundw
            case rel => exact ⟨k + 1, one, by omega, by go_num, rfl, ho1, ho2, HR, trivial⟩
            case measure => simp [intOf]; omega
          · have t2 : (z == one) = false := beq_eq_false_iff_ne.2 heq
            have hnot : ¬ (z < 0 ∨ (n : Int) ≤ z ∨ z = one) := by omega
            by_cases hone : 0 ≤ one
            · have t3 : decide (0 ≤ one) = true := decide_eq_true hone
              have HR : Hid (cycScan E n (-1) zs = true) := HS.out.symm.trans (cycScan_hit hnot hone)
              clear HS hnot
              go_wp2_with fail
              go_ret
              exact ⟨by rw [HR.out]; rfl, HB.out⟩
            · have t3 : decide (0 ≤ one) = false := decide_eq_false hone
              have HR : Hid (cycScan E n z (zs.drop (k + 1)) = cycScan E n (-1) zs) := (cycScan_new hnot hone).symm.trans HS.out
              clear HS hnot
              go_wp2_with fail
              go_roundw
              case rel => exact ⟨k + 1, z, by omega, by go_num, rfl, by omega, by omega, HR, trivial⟩
              case measure => simp [intOf]; omega
    · obtain rfl : m = k := by omega
      have HS : Hid ((decide (0 ≤ one) && selfB E one.toNat) = cycScan E n (-1) zs) := by
        have := hs.out
        rw [List.drop_of_length_le (by rw [HZL.out]; exact Nat.le_refl _)] at this
        exact this
      clear hs
      by_cases hone : 0 ≤ one
      · obtain ⟨y, rfl⟩ : ∃ y : Nat, one = (y : Int) := ⟨one.toNat, by omega⟩
        have t3 : decide (0 ≤ (y : Int)) = true := decide_eq_true hone
        have HC := Lib.hid (HL.out y (by omega))
        have HR : Hid (selfB E y = cycScan E n (-1) zs) := by have := HS.out; show selfB E y = _; simpa using this
        clear HS
        go_wp2_with (go_at_call 21; refine HC.out.mono ?_; rintro e w3 ⟨rfl, hb3⟩; have HB3 := Lib.hid hb3; clear hb3)
        go_ret
        exact ⟨by rw [← HR.out]; rfl, HB.out.trans (HB3.out.mono HB.out.size)⟩
      · have t3 : decide (0 ≤ one) = false := decide_eq_false hone
        have HR : Hid (cycScan E n (-1) zs = false) := by have := HS.out; rw [t3] at this; exact this.symm
        clear HS
        go_wp2_with fail
        go_ret
        exact ⟨by rw [HR.out]; rfl, HB.out⟩
end Go.Proofs.Ytnkfmhhfeaohbaa
