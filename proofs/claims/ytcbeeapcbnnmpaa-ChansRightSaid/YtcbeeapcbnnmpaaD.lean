/- Walks of cells, the program's and the reference's. -/
import Derived.Test.YtcbeeapcbnnmpaaC
namespace Go.Proofs.Ytcbeeapcbnnmpaa
open Go.RowKit Go.Own

/-- n cells of the values l: how many they are, they, and zeros. -/
def cellsOf (n : Nat) (l : List Int) : List Int := (l.length : Int) :: l ++ List.replicate (n - 1 - l.length) 0
theorem length_cellsOf (n : Nat) (l : List Int) (h : l.length + 1 ≤ n) : (cellsOf n l).length = n := by simp [cellsOf]; omega

theorem add_one (b off : Nat) : (⟨b, off, none⟩ : Addr).add 1 = ⟨b, off + 1, none⟩ := rfl

theorem splice_cells (n : Nat) (l : List Int) (h : l.length + 1 ≤ n) :
    splice (((List.replicate n (0 : Int)).set 0 (l.length : Int)).map (Value.int .i64)) 1 (l.map (Value.int .i64)) = (cellsOf n l).map (Value.int .i64) := by
  obtain ⟨k, rfl⟩ : ∃ k, n = k + 1 := ⟨n - 1, by omega⟩
  unfold splice cellsOf
  rw [List.replicate_succ, List.set_cons_zero]
  simp only [List.map_cons, List.length_map, List.map_replicate, List.map_append, List.take_succ_cons, List.take_zero, List.cons_append, List.nil_append]
  rw [Nat.add_comm 1 l.length, List.drop_succ_cons, List.drop_replicate]
  rw [show k + 1 - 1 - l.length = k - l.length by omega]

set_option maxHeartbeats 1000000 in
theorem cells_any (a : Option Addr) (n m c : Nat) (l : List Int) (w : World) (hn : n * 8 ≤ 140737488351232) (hm : m + 1 ≤ n) (hr : RowAt .i64 w a m l) :
    Calls Try.prog 21 #[.int .i64 n, .slice a m c] w fun e w' => ∃ v, e = .returned v ∧ MadeInts .i64 3 w w' v (cellsOf n l) := by
  obtain ⟨i0, hi0, hz0, hz1, hz2⟩ := info_parts Try.info3
  have hlen : Hid (l.length = m) := hr.1
  have HR := Lib.hid hr
  clear hr
  have hnI : (0 : Int) < (n : Int) := by omega
  have HSP := Lib.hid (splice_cells n l (by have := hlen.out; omega))
  have HLC := Lib.hid (length_cellsOf n l (by have := hlen.out; omega))
  by_cases h1 : n = 1
  · subst h1
    obtain rfl : m = 0 := by omega
    obtain rfl : l = [] := List.eq_nil_of_length_eq_zero hlen.out
    go_enter Try.func21, Try.ntmps21
    go_wp2_with (first | (at_make; refine wpList_make_full _ rfl _ _ 22 rfl 0 3 i0 (.int .i64 0) 1 Try.underlying22 hi0 hz0 hz1 _ _ _ _ 1 rfl rfl rfl rfl (by rw [hz2]; omega) (by unfold maxLen; omega) (Nat.zero_le _) ?_; intro w1 hs hg; have hmk := Lib.hid (made_of_make hs hg); have hfz := (made_cell hmk.out List.length_replicate 0 (by omega)).2; have hc0 := (made_cell hmk.out List.length_replicate 0 (by omega)).1; have hst := Lib.hid (made_store hmk.out List.length_replicate 0 0); clear hs hg) | (with_reducible refine wpList_copy_nothing rfl (.tmp 13) (.tmp 14) 22 22 rfl 3 Try.underlying22 Try.size3 _ _ _ _ _ _ rfl rfl rfl ?_))
    go_ret
    exact ⟨_, rfl, hst.out⟩
  · go_enter Try.func21, Try.ntmps21
    go_wp2_with (first | (at_make; refine wpList_make_full _ rfl _ _ 22 rfl 0 3 i0 (.int .i64 0) 1 Try.underlying22 hi0 hz0 hz1 _ _ _ _ n rfl rfl rfl rfl (by rw [hz2]; omega) (by unfold maxLen; omega) (Nat.zero_le _) ?_; intro w1 hs hg; have hmk := Lib.hid (made_of_make hs hg); have hfz := (made_cell hmk.out List.length_replicate 0 (by omega)).2; have hc0 := (made_cell hmk.out List.length_replicate 0 (by omega)).1; have hst := Lib.hid (made_store hmk.out List.length_replicate 0 m); have hblk := Lib.hid (sl_block (by have := hst.out.1; rwa [List.length_set, List.length_replicate] at this)); have hpos := Lib.hid (fun hp : 0 < m => row_src (HR.out.below hst.out.2.1) hp); clear hs hg) | (with_reducible refine wpList_copy_splice rfl (.tmp 13) (.tmp 14) 22 22 rfl 3 Try.underlying22 Try.size3 _ _ _ _ _ _ rfl rfl w.heap.size 1 _ 3 hblk.out (l.map (.int .i64)) (by rw [List.length_map, hlen.out]; exact (Nat.min_eq_left (by omega)).symm) (fun h => ⟨rfl, hpos.out (by rwa [List.length_map, hlen.out] at h)⟩) (by rw [List.length_map, List.length_map, List.length_set, List.length_replicate, hlen.out]; omega) (ints_oneCell _ _) w.heap.size w (made_below hst.out) (Nat.le_refl _) ?_; intro w2 hh hb; have hfin := Lib.hid (made_copied (Nat.le_refl _) (by have := hh.out; rwa [← hlen.out, HSP.out] at this) HLC.out (by unfold maxLen; omega) hb); clear hh hb))
    go_ret
    exact ⟨_, rfl, hfin.out⟩

theorem cellsOf_at (n : Nat) (l : List Int) (k : Nat) (h : l.length + 1 ≤ n) (hk : k + 1 < n) : (cellsOf n l).getD (k + 1) 0 = if k < l.length then l.getD k 0 else 0 := by
  unfold cellsOf
  rw [List.cons_append, List.getD_cons_succ]
  split
  · rename_i hlt; simp [List.getD, List.getElem?_append_left, hlt]
  · rename_i hge
    simp only [List.getD]
    rw [List.getElem?_append_right (by omega), List.getElem?_replicate]
    split <;> rfl

set_option maxHeartbeats 1000000 in
theorem refCells_any (a : Option Addr) (n m c : Nat) (l : List Int) (w : World) (hn : n * 8 ≤ 140737488351232) (hm : m + 1 ≤ n) (hr : RowAt .i64 w a m l) :
    Calls Try.prog 23 #[.int .i64 n, .slice a m c] w fun e w' => ∃ v, e = .returned v ∧ MadeInts .i64 3 w w' v (cellsOf n l) := by
  obtain ⟨i0, hi0, hz0, hz1, hz2⟩ := info_parts Try.info3
  have hlen : Hid (l.length = m) := hr.1
  have HR := Lib.hid hr
  clear hr
  have HLC := Lib.hid (length_cellsOf n l (by have := hlen.out; omega))
  have HS : Hid (MadeInts .i64 3 w (w.alloc (.cells #[.int .i64 m] 3)) (.slice (some ⟨w.heap.size, 0, none⟩) 1 1) ((cellsOf n l).take (0 + 1))) := by
    refine made_lit .i64 3 w _ _ 1 ?_ ?_ (by unfold maxLen; omega)
    · simp [cellsOf, hlen.out]
    · simp [cellsOf]
  go_enter Try.func23, Try.ntmps23
  go_wp2
  go_loopw [5, 6] (fun v i wr => ∃ k : Nat, k + 1 ≤ n ∧ i = .int .i64 k ∧ MadeInts .i64 3 w wr v ((cellsOf n l).take (k + 1))) (fun _ i _ => n - (intOf i).toNat)
  case atStart => exact ⟨0, by omega, rfl, HS.out⟩
  case round =>
    obtain ⟨k, hk, rfl, hmade⟩ := hrel
    by_cases hlt : k + 1 < n
    · have hL : Hid (((cellsOf n l).take (k + 1)).length = k + 1) := by show _ = _; rw [List.length_take, HLC.out]; exact Nat.min_eq_left hk
      have HT := Lib.hid (take_more (cellsOf n l) (k + 1) (by rw [HLC.out]; exact hlt))
      have HA := Lib.hid (cellsOf_at n l k (by have := hlen.out; omega) hlt)
      have HM := Lib.hid hmade
      have hown := hmade.1
      rw [hL.out] at hown
      have HO := Lib.hid hown
      have hltI : (k : Int) < (n : Int) - 1 := by omega
      by_cases hkm : k < m
      · obtain ⟨hl', h0 | ⟨b, off, rfl, hc⟩⟩ := HR.out.below hmade.2.1
        · omega
        have hck := hc k hkm
        have HX : Hid ((cellsOf n l).getD (k + 1) 0 = l.getD k 0) := by show _ = _; rw [HA.out, if_pos (by rw [hlen.out]; exact hkm)]
        rw [HX.out] at HT
        clear hc hl' hown hmade HS HX HA
        generalize l.getD k 0 = x at *
        go_wp2_with (at_builtin; refine wpList_append_one_pos rfl (.tmp 20) (.tmp 25) 22 rfl 3 i0 (.int .i64 0) 8 Try.underlying22 hi0 hz0 hz1 hz2 rfl (by decide) _ _ _ rfl HO.out _ rfl rfl (by omega) ?_; intro g1 c1 w3 hs hkp hmv; have HN := Lib.hid (made_step_pos HM.out hL.out hs hkp hmv); clear hs hkp hmv)
        go_roundw
        case rel => exact ⟨k + 1, by omega, by go_num, by rw [HT.out]; exact HN.out⟩
        case measure => simp [intOf]; omega
      · have HX : Hid ((cellsOf n l).getD (k + 1) 0 = 0) := by show _ = _; rw [HA.out, if_neg (by rw [hlen.out]; exact hkm)]
        rw [HX.out] at HT
        clear hown hmade HS HX HA
        go_wp2_with (at_builtin; refine wpList_append_one_pos rfl (.tmp 27) (.tmp 28) 22 rfl 3 i0 (.int .i64 0) 8 Try.underlying22 hi0 hz0 hz1 hz2 rfl (by decide) _ _ _ rfl HO.out _ rfl rfl (by omega) ?_; intro g1 c1 w3 hs hkp hmv; have HN := Lib.hid (made_step_pos HM.out hL.out hs hkp hmv); clear hs hkp hmv)
        go_roundw
        case rel => exact ⟨k + 1, by omega, by go_num, by rw [HT.out]; exact HN.out⟩
        case measure => simp [intOf]; omega
    · have HM : Hid (MadeInts .i64 3 w wr u5 (cellsOf n l)) := by
        rw [List.take_of_length_le (by rw [HLC.out]; omega)] at hmade
        exact hmade
      have hge : (n : Int) - 1 ≤ (k : Int) := by omega
      clear hmade
      go_wp2
      go_ret
      exact ⟨_, rfl, HM.out⟩
end Go.Proofs.Ytcbeeapcbnnmpaa
