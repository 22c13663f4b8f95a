/- Walks of Items and cells, the program's and the reference's, and of Len. -/
import Derived.Test.YtcbeeapcbnnmpaaB
import Derived.Test.YtcbeeapcbnnmpaaMade
import Derived.Test.YtcbeeapcbnnmpaaTail
namespace Go.Proofs.Ytcbeeapcbnnmpaa
open Go.RowKit Go.Own

theorem Try.info3 : (Try.prog.info? 3).map (fun i => (i.zero, i.size, i.bytes)) = some (some (.int .i64 0), 1, 8) := by kernel_rfl
theorem Try.size3 : (Try.prog.info? 3).map (·.size) = some 1 := by kernel_rfl

/-- The values of cells. -/
def items (zs : List Int) : List Int := if isC zs then zs.tail.take (zs.headD 0).toNat else []

theorem isC_form {zs : List Int} (h : isC zs = true) : ∃ (m : Nat) (r : List Int), zs = (m : Int) :: r ∧ m ≤ r.length ∧ r.drop m = List.replicate (r.length - m) 0 := by
  match zs, h with
  | [], h => simp [isC] at h
  | c :: r, h =>
    simp only [isC, Bool.and_eq_true] at h
    have hf := of_decide_eq_true h.1
    obtain ⟨m, rfl⟩ := Int.eq_ofNat_of_zero_le hf.1
    refine ⟨m, r, rfl, by omega, ?_⟩
    have h2 : (r.drop m).any notZero = false := by simpa using h.2
    rw [List.eq_replicate_iff]
    refine ⟨by simp, fun b hb => ?_⟩
    have := List.any_eq_false.1 h2 b hb
    simpa [notZero] using this

theorem items_yes {m : Nat} {r : List Int} (h : isC ((m : Int) :: r) = true) : items ((m : Int) :: r) = r.take m := by simp [items, h]
theorem items_no {zs : List Int} (h : isC zs = false) : items zs = [] := by simp [items, h]

set_option maxHeartbeats 1000000 in
theorem items_any (a : Option Addr) (n cap : Nat) (zs : List Int) (w : World) (hl : n ≤ cap) (hcm : cap ≤ 9223372036854775807) (hn : n * 8 ≤ 140737488351232) (hr : RowAt .i64 w a n zs) :
    Calls Try.prog 14 #[.slice a n cap] w fun e w' => ∃ v, e = .returned v ∧ MadeInts .i64 3 w w' v (items zs) := by
  obtain ⟨i0, hi0, hz0, hz1, hz2⟩ := info_parts Try.info3
  have HI := Lib.hid (is_any a n cap zs w hl (by omega) hr)
  cases hc : isC zs with
  | false =>
    rw [hc] at HI
    have HE : Hid (items zs = []) := items_no hc
    clear hc hr
    go_enter Try.func14, Try.ntmps14
    go_wp2_with fail
    refine HI.out.mono ?_
    rintro e w' ⟨rfl, rfl⟩
    go_wp2
    go_ret
    exact ⟨_, rfl, by rw [HE.out]; exact made_nil _ _ _⟩
  | true =>
    obtain ⟨m, r, rfl, hm, _⟩ := isC_form hc
    rw [hc] at HI
    have HE : Hid (items ((m : Int) :: r) = r.take m) := items_yes hc
    have hlen : Hid (r.length + 1 = n) := hr.1
    have hmn : m + 1 ≤ n := by have := hlen.out; omega
    obtain ⟨b, off, rfl, hcell⟩ : ∃ b off, a = some ⟨b, off, none⟩ ∧ ∀ i, i < n → w.cell? ⟨b, off + i, none⟩ = some (.int .i64 (((m : Int) :: r).getD i 0)) := hr.2.resolve_left (by omega)
    have hc0 : w.cell? ⟨b, off, none⟩ = some (.int .i64 m) := hcell 0 (by omega)
    have hpos : (0 : Int) < (n : Int) := by omega
    have HC := Lib.hid hcell
    clear hcell hr hc hm
    go_enter Try.func14, Try.ntmps14
    go_wp2_with (first | (go_at_call 20; refine HI.out.mono ?_; rintro e w' ⟨rfl, rfl⟩) | (at_make; refine wpList_make_full _ rfl _ _ 22 rfl 0 3 i0 (.int .i64 0) 1 Try.underlying22 hi0 hz0 hz1 _ _ _ _ m rfl rfl rfl rfl (by rw [hz2]; omega) (by unfold maxLen; omega) (Nat.zero_le _) ?_; intro w1 hs hg; have hc1 : w1.cell? ⟨b, off, none⟩ = some (.int .i64 m) := hg.cell hc0 (by simp)))
    refine wp_region_quiet_tail 11 (by kernel_rfl) (by kernel_rfl) ?_
    simp only [List.take_succ_cons, List.take_zero, List.drop_succ_cons, List.drop_zero]
    repeat (go_big_quiet_step (fail))
    refine wpQuiet_nil ?_
    obtain ⟨ad, e, had⟩ : ∃ ad, (if 1 + m = 1 then (some ⟨b, off, none⟩ : Option Addr) else some ⟨b, off + 1, none⟩) = ad ∧ (0 < m → ad = some ⟨b, off + 1, none⟩) := ⟨_, rfl, fun h => if_neg (by omega)⟩
    rw [e]
    clear e
    have hmk : MadeInts .i64 3 w w1 (.slice (some ⟨w.heap.size, 0, none⟩) m m) (List.replicate m 0) := made_of_make hs hg
    have hmr : m ≤ r.length := by have := hlen.out; omega
    have hsrc : ∀ j v, ((r.take m).map (Value.int .i64))[j]? = some v → w1.cell? ((⟨b, off + 1, none⟩ : Addr).add j) = some v := by
      intro j v hv
      have hj : j < m := by have := (List.getElem?_eq_some_iff.1 hv).1; simp at this; omega
      have := HC.out (1 + j) (by omega)
      rw [Addr.add_lit, Nat.add_assoc]
      refine hg.cell (this.trans ?_) (by simp)
      rw [Nat.add_comm 1 j, List.getD_cons_succ]
      have hj2 : j < r.length := by omega
      simp [hj, hj2] at hv
      simp [List.getD, hj2, hv]
    have hcl : ((r.take m).map (Value.int .i64)).length = m := by simp; omega
    refine wpList_copy_splice rfl (.tmp 11) (.tmp 21) 22 22 rfl 3 Try.underlying22 Try.size3 _ _ _ _ _ _ rfl rfl w.heap.size 0 (List.replicate m (.int .i64 0)) 3 (by have := hmk.1; rw [List.length_replicate, List.map_replicate] at this; exact sl_block this) ((r.take m).map (.int .i64)) (by rw [hcl]; simp) (fun h => ⟨rfl, ⟨b, off + 1, none⟩, had (by omega), hsrc⟩) (by rw [hcl]; simp) (ints_oneCell _ _) w.heap.size w hmk.2.1.drew (Nat.le_refl _) ?_
    intro w2 hh hb
    have hfin : MadeInts .i64 3 w w2 (.slice (some ⟨w.heap.size, 0, none⟩) m m) (r.take m) := by
      have h2 := hh.out
      rw [splice_all _ _ (by rw [hcl]; simp)] at h2
      have hl2 : (r.take m).length = m := by simp; omega
      refine ⟨by rw [hl2]; exact sl_of_block h2 hcl (by unfold maxLen; omega), hb, fun g h => ?_⟩
      have e' : some w.heap.size = some g := h
      cases e'; exact Nat.le_refl _
    have HF := Lib.hid hfin
    clear hh hb hfin hsrc hcl hmk hs hg
    go_wp2
    go_ret
    exact ⟨_, rfl, by rw [HE.out]; exact HF.out⟩

theorem items_len (zs : List Int) : (items zs).length ≤ zs.length := by
  unfold items
  split
  · simp; omega
  · simp

set_option maxHeartbeats 400000 in
theorem len_any (a : Option Addr) (n cap : Nat) (zs : List Int) (w : World) (hl : n ≤ cap) (hcm : cap ≤ 9223372036854775807) (hn : n * 8 ≤ 140737488351232) (hr : RowAt .i64 w a n zs) :
    Calls Try.prog 15 #[.slice a n cap] w fun e w' => e = .returned (.int .i64 (items zs).length) ∧ Below w.heap.size w w' := by
  have HI := Lib.hid (items_any a n cap zs w hl hcm hn hr)
  clear hr
  go_enter Try.func15, Try.ntmps15
  go_wp2_with fail
  refine HI.out.mono ?_
  rintro e w1 ⟨v, rfl, hm⟩
  obtain ⟨a', c', rfl, _⟩ := made_row hm
  have HB := Lib.hid hm.2.1
  clear hm
  go_wp2
  go_ret
  exact ⟨rfl, HB.out⟩

set_option maxHeartbeats 1000000 in
theorem refItems_any (a : Option Addr) (n cap : Nat) (zs : List Int) (w : World) (hl : n ≤ cap) (hcm : cap ≤ 9223372036854775807) (hn : n * 8 ≤ 140737488351232) (hr : RowAt .i64 w a n zs) :
    Calls Try.prog 17 #[.slice a n cap] w fun e w' => ∃ v, e = .returned v ∧ MadeInts .i64 3 w w' v (items zs) := by
  obtain ⟨i0, hi0, hz0, hz1, hz2⟩ := info_parts Try.info3
  have HI := Lib.hid (refIs_any a n cap zs w hl (by omega) hr)
  cases hc : isC zs with
  | false =>
    rw [hc] at HI
    have HE : Hid (items zs = []) := items_no hc
    clear hc hr
    go_enter Try.func17, Try.ntmps17
    go_wp2_with fail
    refine HI.out.mono ?_
    rintro e w' ⟨rfl, rfl⟩
    go_wp2
    go_ret
    exact ⟨_, rfl, by rw [HE.out]; exact made_nil _ _ _⟩
  | true =>
    obtain ⟨m, r, rfl, hm, _⟩ := isC_form hc
    rw [hc] at HI
    have HE : Hid (items ((m : Int) :: r) = r.take m) := items_yes hc
    have hlen : Hid (r.length + 1 = n) := hr.1
    have hmn : m + 1 ≤ n := by have := hlen.out; omega
    obtain ⟨b, off, rfl, hcell⟩ : ∃ b off, a = some ⟨b, off, none⟩ ∧ ∀ i, i < n → w.cell? ⟨b, off + i, none⟩ = some (.int .i64 (((m : Int) :: r).getD i 0)) := hr.2.resolve_left (by omega)
    have hc0 : w.cell? ⟨b, off, none⟩ = some (.int .i64 m) := hcell 0 (by omega)
    have hpos : (0 : Int) < (n : Int) := by omega
    have HC := Lib.hid hcell
    clear hcell hr hc hm
    go_enter Try.func17, Try.ntmps17
    go_wp2_with (go_at_call 22; refine HI.out.mono ?_; rintro e w' ⟨rfl, rfl⟩)
    go_loopw [3, 4] (fun v i wr => ∃ k : Nat, k ≤ m ∧ i = .int .i64 k ∧ MadeInts .i64 3 w wr v (r.take k)) (fun _ i _ => m - (intOf i).toNat)
    case atStart => exact ⟨0, Nat.zero_le _, rfl, made_nil _ _ _⟩
    case round =>
      obtain ⟨k, hk, rfl, hmade⟩ := hrel
      have hc0' : wr.cell? ⟨b, off, none⟩ = some (.int .i64 m) := (hmade.2.1.cell (World.block_lt_of_cell? w _ hc0)).trans hc0
      by_cases hlt : k < m
      · have hkr : k < r.length := by have := hlen.out; omega
        have hck : wr.cell? ⟨b, off + (1 + k), none⟩ = some (.int .i64 (r.getD k 0)) := by
          have h1 := HC.out (1 + k) (by omega)
          rw [Nat.add_comm 1 k, List.getD_cons_succ, Nat.add_comm k 1] at h1
          exact (hmade.2.1.cell (World.block_lt_of_cell? w _ h1)).trans h1
        have HT := Lib.hid (take_more r k hkr)
        have hL : Hid ((r.take k).length = k) := by show _ = _; simp; omega
        have hown := hmade.1
        rw [hL.out] at hown
        have HM := Lib.hid hmade
        have HO := Lib.hid hown
        generalize r.getD k 0 = x at *
        have hin : (1 : Int) + (k : Int) < (n : Int) := by omega
        clear hmade hown hkr
        go_wp2_with (at_builtin; refine wpList_append_one_pos rfl _ _ 22 rfl 3 i0 (.int .i64 0) 8 Try.underlying22 hi0 hz0 hz1 hz2 rfl (by decide) _ _ _ rfl HO.out _ rfl rfl (by omega) ?_; intro g1 c1 w3 hs hkp hmv; have HN := Lib.hid (made_step_pos HM.out hL.out hs hkp hmv); clear hs hkp hmv)
        go_roundw
        case rel => exact ⟨k + 1, by omega, by go_num, by rw [HT.out]; exact HN.out⟩
        case measure => simp [intOf]; omega
      · obtain rfl : k = m := by omega
        have HM := Lib.hid hmade
        clear hmade
        go_wp2
        go_ret
        exact ⟨_, rfl, by rw [HE.out]; exact HM.out⟩

set_option maxHeartbeats 400000 in
theorem refLen_any (a : Option Addr) (n cap : Nat) (zs : List Int) (w : World) (hl : n ≤ cap) (hcm : cap ≤ 9223372036854775807) (hn : n * 8 ≤ 140737488351232) (hr : RowAt .i64 w a n zs) :
    Calls Try.prog 16 #[.slice a n cap] w fun e w' => e = .returned (.int .i64 (items zs).length) ∧ Below w.heap.size w w' := by
  have HI := Lib.hid (refItems_any a n cap zs w hl hcm hn hr)
  clear hr
  go_enter Try.func16, Try.ntmps16
  go_wp2_with fail
  refine HI.out.mono ?_
  rintro e w1 ⟨v, rfl, hm⟩
  obtain ⟨a', c', rfl, _⟩ := made_row hm
  have HB := Lib.hid hm.2.1
  clear hm
  go_wp2
  go_ret
  exact ⟨rfl, HB.out⟩
end Go.Proofs.Ytcbeeapcbnnmpaa
