/- The walk of the reference's Longest. -/
import Derived.Test.YtflnddpbkaeaaaaN
namespace Go.Proofs.Ytflnddpbkaeaaaa
open Go.RowKit Go.Own

/-- How many of the first i are in each chain. -/
def cntsM (m : Nat) (X : List (List Int)) (i : Nat) : List Int := (List.range m).map fun k => ((chainN k (X.take i)).length : Int)
def cnts (X : List (List Int)) (i : Nat) : List Int := cntsM 1024 X i
theorem cntsM_len (m : Nat) (X : List (List Int)) (i : Nat) : (cntsM m X i).length = m := by simp [cntsM]
theorem cnts_len (X : List (List Int)) (i : Nat) : (cnts X i).length = 1024 := cntsM_len _ _ _
theorem cntsM_at (m : Nat) (X : List (List Int)) (i k : Nat) (h : k < (cntsM m X i).length) : (cntsM m X i)[k] = ((chainN k (X.take i)).length : Int) := by simp [cntsM]
theorem cntsM_zero (m : Nat) (X : List (List Int)) : cntsM m X 0 = List.replicate m 0 := by
  refine List.ext_getElem (by simp [cntsM]) fun k h1 h2 => ?_
  rw [cntsM_at, List.getElem_replicate]
  rfl
theorem cnts_zero (X : List (List Int)) : cnts X 0 = List.replicate 1024 0 := cntsM_zero _ _
theorem cntsM_getD (m : Nat) (X : List (List Int)) (i k : Nat) (hk : k < m) : (cntsM m X i).getD k 0 = ((chainN k (X.take i)).length : Int) := by
  simp [cntsM, List.getD, hk]
theorem cnts_getD (X : List (List Int)) (i k : Nat) (hk : k < 1024) : (cnts X i).getD k 0 = ((chainN k (X.take i)).length : Int) := cntsM_getD _ _ _ _ hk
theorem take_snoc (X : List (List Int)) (i : Nat) (h : i < X.length) : X.take (i + 1) = X.take i ++ [X.getD i []] := by
  rw [show X.getD i [] = X[i] by simp [List.getD, h]]; exact List.take_succ_eq_append_getElem h
theorem chain_grow (X : List (List Int)) (i : Nat) (h : i < X.length) : (chainN (bk (X.getD i [])) (X.take (i + 1))).length = (chainN (bk (X.getD i [])) (X.take i)).length + 1 := by
  rw [take_snoc X i h, chainN_snoc, if_pos rfl]; simp
theorem cntsM_step (m : Nat) (X : List (List Int)) (i : Nat) (h : i < X.length) : (cntsM m X i).set (bk (X.getD i [])) (((chainN (bk (X.getD i [])) (X.take i)).length : Int) + 1) = cntsM m X (i + 1) := by
  refine List.ext_getElem (by rw [List.length_set, cntsM_len, cntsM_len]) fun k h1 h2 => ?_
  rw [cntsM_at, List.getElem_set]
  by_cases e : bk (X.getD i []) = k
  · subst e
    rw [if_pos rfl, chain_grow X i h]; rfl
  · rw [if_neg e, cntsM_at, take_snoc X i h, chainN_snoc, if_neg e, List.append_nil]
theorem cnts_step (X : List (List Int)) (i : Nat) (h : i < X.length) : (cnts X i).set (bk (X.getD i [])) (((chainN (bk (X.getD i [])) (X.take i)).length : Int) + 1) = cnts X (i + 1) := cntsM_step _ _ _ h
theorem longN_step (X : List (List Int)) (i : Nat) (h : i < X.length) : max ((longN X i : Nat) : Int) (((chainN (bk (X.getD i [])) (X.take i)).length : Int) + 1) = ((longN X (i + 1) : Nat) : Int) := by
  conv => rhs; unfold longN
  rw [chain_grow X i h]; omega
theorem cnt_le (X : List (List Int)) (i k : Nat) : (chainN k (X.take i)).length ≤ X.length := by
  have := chainN_len k (X.take i)
  rw [List.length_take] at this; omega

theorem get_set_same {k : IntKind} {e : TypeId} {w w' : World} {g c n : Nat} {zs : List Int} (h : MadeInts k e w w' (.slice (some ⟨g, 0, none⟩) n c) zs) (hn : zs.length = n) (i : Nat) (hi : i < n) (x : Int) : (w'.setCell ⟨g, i, none⟩ (.int k x)).cell? ⟨g, i, none⟩ = some (.int k x) :=
  World.cell?_setCell_same _ _ _ (made_cell h hn i hi).1

set_option maxHeartbeats 2000000 in
theorem refLongest_any (S : Nat → Prop) (a : Option Addr) (n c : Nat) (X : List (List Int)) (w : World) (hr : Rows S w a n X) (hn : n ≤ 65536) (ht : ∀ t ∈ X, t.length ≤ 9223372036854775807) :
    Calls Try.prog 18 #[.slice a n c] w fun e w' => e = .returned (.int .i64 (longN X X.length : Nat)) ∧ Below w.heap.size w w' := by
  obtain ⟨i0, hi0, hz0, hz1, hz2⟩ := info_parts Try.info3
  have HL : Hid (X.length = n) := hr.1
  have HR := Lib.hid hr
  have HT := Lib.hid ht
  clear hr ht
  go_enter Try.func18, Try.ntmps18
  go_wp2_with (at_make; refine wpList_make_full _ rfl _ _ 40 rfl 0 3 i0 (.int .i64 0) 1 Try.underlying40 hi0 hz0 hz1 _ _ _ _ 1024 rfl rfl rfl rfl (by rw [hz2]; omega) (by unfold maxLen; omega) (Nat.zero_le _) ?_; intro w1 hs hg; have hmk := Lib.hid (made_of_make hs hg); clear hs hg)
  have HM0 : Hid (MadeInts .i64 3 w w1 (.slice (some ⟨w.heap.size, 0, none⟩) 1024 1024) (cnts X 0)) := by rw [cnts_zero]; exact hmk.out
  clear hmk
  go_loopw [4, 5, 6] (fun mo i _ wr => ∃ k : Nat, k ≤ n ∧ i = .int .i64 k ∧ mo = .int .i64 (longN X k : Nat) ∧ Hid (MadeInts .i64 3 w wr (.slice (some ⟨w.heap.size, 0, none⟩) 1024 1024) (cnts X k))) (fun _ i _ _ => n - (intOf i).toNat)
  case atStart => exact ⟨0, Nat.zero_le _, rfl, rfl, HM0⟩
  case round =>
    obtain ⟨k, hk, rfl, rfl, hmade⟩ := hrel
    by_cases hlt : k < n
    · have hkX : k < X.length := by rw [HL.out]; exact hlt
      have hltI : (k : Int) < (n : Int) := by omega
      obtain ⟨b1, off, ai, ci, rfl, hc, hri, _⟩ := (HR.out.below (made_below hmade.out)).at k hlt
      have HRI := Lib.hid hri
      have htl := HT.out _ (getD_mem hkX)
      have hbk := bk_lt (X.getD k [])
      have hbI : ((bk (X.getD k []) : Nat) : Int) < 1024 := by omega
      have cc := made_cell hmade.out (cnts_len X k) (bk (X.getD k [])) hbk
      rw [cnts_getD X k _ hbk] at cc
      obtain ⟨cc1, cc2⟩ := cc
      have hcl : (chainN (bk (X.getD k [])) (X.take k)).length ≤ 65536 := by have := cnt_le X k (bk (X.getD k [])); rw [HL.out] at this; omega
      have HST := Lib.hid (made_store hmade.out (cnts_len X k) (bk (X.getD k [])) (((chainN (bk (X.getD k [])) (X.take k)).length : Int) + 1))
      rw [cnts_step X k hkX] at HST
      have HLO := Lib.hid (longN_step X k hkX)
      have cc3 := get_set_same hmade.out (cnts_len X k) (bk (X.getD k [])) hbk (((chainN (bk (X.getD k [])) (X.take k)).length : Int) + 1)
      have HB1 := Lib.hid (refBytes_any ai _ ci (X.getD k []) wr htl hri)
      have HB2 := Lib.hid (refBucket_any (sumB basis (X.getD k [])) 1024 wr (by decide))
      rw [buck_bk] at HB2
      clear hri htl hkX hbk
      have hlk := longN_le X k
      rw [HL.out] at hlk
      generalize (chainN (bk (X.getD k [])) (X.take k)).length = cv at *
      generalize bk (X.getD k []) = kb at *
      generalize X.getD k [] = ts at *
      generalize longN X k = lo at *
      go_wp2_with fail
      refine HB1.out.mono ?_
      rintro e w2 ⟨rfl, rfl⟩
      go_wp2_with fail
      refine HB2.out.mono ?_
      rintro e w2 ⟨rfl, rfl⟩
      go_wp2
      go_roundw
      case rel => exact ⟨k + 1, by omega, by go_num, by rw [← HLO.out], HST⟩
      case measure => simp [intOf]; omega
    · obtain rfl : k = n := by omega
      go_wp2
      go_ret
      exact ⟨by rw [HL.out]; rfl, made_below hmade.out⟩
end Go.Proofs.Ytflnddpbkaeaaaa
