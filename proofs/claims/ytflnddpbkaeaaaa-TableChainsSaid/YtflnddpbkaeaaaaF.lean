/- Walks of look, Find, Len, Longest, Clone and Key. -/
import Derived.Test.YtflnddpbkaeaaaaE
namespace Go.Proofs.Ytflnddpbkaeaaaa
open Go.RowKit Go.Own

theorem chain_getD (k : Nat) (T : List (List Int)) (j : Nat) (h : j < (chainN k T).length) : (chain k T).getD j 0 = (((chainN k T).getD j 0 : Nat) : Int) := by
  unfold chain; simp [List.getD, h]
theorem chainN_at (k : Nat) (T : List (List Int)) (j : Nat) (h : j < (chainN k T).length) : (chainN k T).getD j 0 < T.length ∧ bk (T.getD ((chainN k T).getD j 0) []) = k := by
  have : (chainN k T).getD j 0 ∈ chainN k T := by rw [show (chainN k T).getD j 0 = (chainN k T)[j] by simp [List.getD, h]]; exact List.getElem_mem h
  exact chainN_mem.1 this
theorem idx_of_chain {T : List (List Int)} {bs : List Int} (h : ∀ j, j < (chainN (bk bs) T).length → T.getD ((chainN (bk bs) T).getD j 0) [] ≠ bs) : idx T bs = -1 := by
  refine idx_none fun i hi e => ?_
  have hm : i ∈ chainN (bk bs) T := chainN_mem.2 ⟨hi, by rw [e]⟩
  obtain ⟨j, hj, e'⟩ := List.getElem_of_mem hm
  refine h j hj ?_
  rw [show (chainN (bk bs) T).getD j 0 = (chainN (bk bs) T)[j] by simp [List.getD, hj], e', e]
theorem getD_mem {T : List (List Int)} {i : Nat} (h : i < T.length) : T.getD i [] ∈ T := by
  rw [show T.getD i [] = T[i] by simp [List.getD, h]]; exact List.getElem_mem h

set_option maxHeartbeats 1000000 in
theorem look_any (g : Nat) (mo : Int) (T : List (List Int)) (F : Nat → Prop) (w : World) (h : IsTab w g mo T F) (a : Option Addr) (n c : Nat) (bs : List Int) (hb : RowAt .u8 w a n bs) (hn : n ≤ 9223372036854775807) (hbs : IsBytes bs) :
    Calls Try.prog 20 #[.pointer (some ⟨g, 0, none⟩), .slice a n c] w fun e w' => e = .returned (.tuple #[.int .i64 (bk bs : Int), .int .i64 (idx T bs)]) ∧ Below w.heap.size w w' := by
  have H := Lib.hid h
  have HR := Lib.hid hb
  have HB := Lib.hid hbs
  have H1 := Lib.hid (bytes_any a n c bs w hn hb)
  have H2 := Lib.hid (bucket_any (sumB basis bs) 1024 w (by decide))
  rw [buck_bk] at H2
  have hk := bk_lt bs
  have HN : Hid (T.Nodup ∧ ∀ t ∈ T, IsBytes t) := by obtain ⟨C, X, h⟩ := h; exact ⟨h.nodup, h.bytes⟩
  obtain ⟨C, X, h⟩ := h
  obtain ⟨aH, cH, eH, rH, lH, mH, nH⟩ := tab_nums _ (h.tab.sl (bk bs) (.inl hk)) (h.heads (bk bs) hk)
  have cH' := h.tab.cell (bk bs) (by omega)
  rw [eH] at cH'
  rw [chain_len] at *
  have HC := Lib.hid rH
  have hI : Hid ((∀ j, j < (chainN (bk bs) T).length → T.getD ((chainN (bk bs) T).getD j 0) [] ≠ bs) → idx T bs = -1) := idx_of_chain
  have hJ : Hid (∀ j, j < (chainN (bk bs) T).length → (chainN (bk bs) T).getD j 0 < T.length) := fun j hj => (chainN_at _ _ _ hj).1
  have hG : Hid (∀ j, j < (chainN (bk bs) T).length → (chain (bk bs) T).getD j 0 = (((chainN (bk bs) T).getD j 0 : Nat) : Int)) := fun j hj => chain_getD _ _ _ hj
  have hm : (chainN (bk bs) T).length ≤ 9223372036854775807 := by simp only [maxLen] at mH; omega
  clear h hb hbs rH eH lH mH nH
  generalize chainN (bk bs) T = N at *
  generalize chain (bk bs) T = M at *
  generalize bk bs = kb at *
  have hkI : (kb : Int) < 1024 := by omega
  go_enter Try.func20, Try.ntmps20
  go_wp2_with fail
  refine H1.out.mono ?_
  rintro e w1 ⟨rfl, rfl⟩
  go_wp2_with fail
  refine H2.out.mono ?_
  rintro e w1 ⟨rfl, rfl⟩
  go_wp2
  go_loopw [8, 20] (fun _ i wr => ∃ k : Nat, k ≤ N.length ∧ i = .int .i64 k ∧ Below w.heap.size w wr ∧ Hid (∀ j, j < k → T.getD (N.getD j 0) [] ≠ bs)) (fun _ i _ => N.length - (intOf i).toNat)
  case atStart => exact ⟨0, Nat.zero_le _, rfl, Below.refl _ _, fun j hj => by omega⟩
  case round =>
    obtain ⟨k, hk', rfl, hbel, hno⟩ := hrel
    by_cases hlt : k < N.length
    · have hltI : (k : Int) < (N.length : Int) := by omega
      have hc0 := HC.out.below hbel
      obtain ⟨_, h0 | ⟨bH, oH, rfl, hc⟩⟩ := hc0
      · omega
      have hck := hc k hlt
      rw [hG.out k hlt] at hck
      have hv := hJ.out k hlt
      have hgb : Hid (IsBytes (T.getD (N.getD k 0) [])) := HN.out.2 _ (getD_mem hv)
      have HT := Lib.hid (text_any g mo T F wr (H.out.below hbel) (N.getD k 0) hv)
      have HRr := Lib.hid (HR.out.below hbel)
      have HB0 := Lib.hid hbel
      clear hc
      by_cases heq : T.getD (N.getD k 0) [] = bs
      · have HX : Hid (idx T bs = ((N.getD k 0 : Nat) : Int)) := idx_of_get HN.out.1 hv heq
        have HD : Hid (decide (T.getD (N.getD k 0) [] = bs) = true) := decide_eq_true heq
        clear heq hv
        generalize T.getD (N.getD k 0) [] = ts at *
        generalize N.getD k 0 = v at *
        go_wp2_with fail
        refine HT.out.mono ?_
        rintro e w1 ⟨a1, c1, rfl, hr1, hn1, hb1⟩
        go_wp2_with fail
        refine (equal_any a1 a _ _ _ _ ts bs w1 hr1 (HRr.out.below hb1) hgb.out HB.out).mono ?_
        rintro e w2 ⟨rfl, rfl⟩
        rw [HD.out]
        go_wp2
        go_ret2
        exact ⟨by rw [HX.out]; rfl, below_then HB0.out hb1⟩
      · have HD : Hid (decide (T.getD (N.getD k 0) [] = bs) = false) := decide_eq_false heq
        have hno' : Hid (∀ j, j < k + 1 → T.getD (N.getD j 0) [] ≠ bs) := fun j hj => by
          rcases Nat.lt_succ_iff_lt_or_eq.1 hj with h | rfl
          · exact hno.out j h
          · exact heq
        clear heq hv
        generalize T.getD (N.getD k 0) [] = ts at *
        generalize N.getD k 0 = v at *
        go_wp2_with fail
        refine HT.out.mono ?_
        rintro e w1 ⟨a1, c1, rfl, hr1, hn1, hb1⟩
        go_wp2_with fail
        refine (equal_any a1 a _ _ _ _ ts bs w1 hr1 (HRr.out.below hb1) hgb.out HB.out).mono ?_
        rintro e w2 ⟨rfl, rfl⟩
        rw [HD.out]
        go_wp2
        go_roundw
        case rel => exact ⟨k + 1, by omega, by go_num, below_then HB0.out hb1, hno'⟩
        case measure => simp [intOf]; omega
    · obtain rfl : k = N.length := by omega
      have HX := Lib.hid (hI.out hno.out)
      have HB0 := Lib.hid hbel
      go_wp2
      go_ret2
      exact ⟨by rw [HX.out]; rfl, HB0.out⟩
end Go.Proofs.Ytflnddpbkaeaaaa
