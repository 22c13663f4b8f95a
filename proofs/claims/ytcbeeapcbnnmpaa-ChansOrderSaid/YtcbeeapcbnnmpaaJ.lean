/- The walk of the law ChansOrder. -/
import Derived.Test.YtcbeeapcbnnmpaaI
import Derived.Test.YtcbeeapcbnnmpaaOff
import Derived.OpenShut
namespace Go.Proofs.Ytcbeeapcbnnmpaa
open Go.RowKit Go.Own

/-- The law's state: 'l' holds cells of the values 'row', and so does 'v', each in memory of the call's own. -/
def St (w wr : World) (R : Nat) (l v : Value) (nr : Nat) (row : List Int) : Prop :=
  Below w.heap.size w wr ∧ row.length = nr ∧ nr + 1 ≤ R ∧ Sl wr 3 l R ((cellsOf R row).map (Value.int .i64)) ∧ SlO wr 3 v nr (row.map (Value.int .i64)) ∧
    (∀ g, l.ownBlock = some g → w.heap.size ≤ g ∧ v.ownBlock ≠ some g) ∧ (∀ g, v.ownBlock = some g → w.heap.size ≤ g)

theorem st_row {w wr : World} {R nr cl : Nat} {al : Option Addr} {v : Value} {row : List Int} (h : St w wr R (.slice al R cl) v nr row) : RowAt .i64 wr al R (cellsOf R row) ∧ R ≤ cl ∧ cl ≤ 9223372036854775807 := by
  have h1 := h.2.2.2.1
  have hl := length_cellsOf R row (by have := h.2.1; have := h.2.2.1; omega)
  have hc := sl_cap h1
  refine ⟨?_, hc.1, hc.2.1⟩
  have : MadeInts .i64 3 ⟨#[], wr.tape, wr.drawn, wr.os, wr.output⟩ wr (.slice al R cl) (cellsOf R row) := ⟨by rw [hl]; exact h1, ⟨rfl, rfl, rfl, Nat.zero_le _, fun k hk => absurd hk (by simp)⟩, fun g _ => Nat.zero_le _⟩
  exact made_rowAt this

theorem st_head {w wr : World} {R nr cv : Nat} {l : Value} {av : Option Addr} {y : Int} {row : List Int} (h : St w wr R l (.slice av (nr + 1) cv) (nr + 1) (y :: row)) :
    ∃ g off, av = some ⟨g, off, none⟩ ∧ wr.cell? ⟨g, off, none⟩ = some (.int .i64 y) := by
  obtain ⟨a, c, e, _, _, hc⟩ := h.2.2.2.2.1.shape
  cases e
  obtain ⟨g, off, rfl, _, h2⟩ := hc 0 (by omega)
  exact ⟨g, off, rfl, h2⟩

theorem st_below {w wr w1 : World} {R nr : Nat} {l v : Value} {row : List Int} (h : St w wr R l v nr row) (hb : Below wr.heap.size wr w1) : St w w1 R l v nr row := by
  obtain ⟨h1, h2, h3, h4, h5, h6, h7⟩ := h
  exact ⟨below_then h1 hb, h2, h3, h4.kept (Kept.ofBelow hb) (fun g hg => by have := h4.lt g hg; omega), h5.kept (Kept.ofBelow hb) (fun g hg => by have := h5.lt g hg; omega), h6, h7⟩

/-- Put answered cells that hold one value more, and the value went behind the row. -/
theorem st_put {w wr w1 w2 : World} {R nr c1 c2 g off : Nat} {a1 : Option Addr} {l v : Value} {row : List Int} {x : Int} (h : St w wr R l v nr row) (hR : nr + 2 ≤ R) (hm : MadeInts .i64 3 wr w1 (.slice a1 R c1) (cellsOf R (row ++ [x])))
    (hs : SlO w2 3 (.slice (some ⟨g, off, none⟩) (nr + 1) c2) (nr + 1) (row.map (Value.int .i64) ++ [.int .i64 x])) (hk : Kept (fun k => v.ownBlock = some k) w1 w2) (hv : v.ownBlock = some g ∨ w1.heap.size ≤ g) :
    St w w2 R (.slice a1 R c1) (.slice (some ⟨g, off, none⟩) (nr + 1) c2) (nr + 1) (row ++ [x]) := by
  obtain ⟨h1, h2, h3, h4, h5, h6, h7⟩ := h
  have hsz := h1.size
  have hb1 := made_below hm
  have hs1 := hb1.size
  have hl : (cellsOf R (row ++ [x])).length = R := length_cellsOf R _ (by simp; omega)
  have hm1 := hm.1
  rw [hl] at hm1
  refine ⟨(below_then h1 hb1).trans (hk.below (by omega) (fun b hb e => by have := h7 b e; omega)), by simp [h2], by omega, hm1.kept hk (fun b e e' => ?_), by simpa using hs, fun b hb => ⟨?_, fun e => ?_⟩, fun b hb => ?_⟩
  · have := hm.2.2 b e; have := h5.lt b e'; omega
  · have := hm.2.2 b hb; omega
  · have e2 : some g = some b := e
    cases e2
    rcases hv with hv | hv
    · have := hm.2.2 g hb; have := h5.lt g hv; omega
    · have := hm1.lt g hb; omega
  · have e2 : some g = some b := hb
    cases e2
    rcases hv with hv | hv
    · exact h7 g hv
    · omega

/-- Take answered cells without the first value, and the row lost it. -/
theorem st_take {w wr w1 : World} {R nr c1 cv g off : Nat} {a1 ad : Option Addr} {l : Value} {row : List Int} {x : Int} (h : St w wr R l (.slice (some ⟨g, off, none⟩) (nr + 1) cv) (nr + 1) (x :: row)) (hm : MadeInts .i64 3 wr w1 (.slice a1 R c1) (cellsOf R row))
    (had : ad = if cv = 1 then some ⟨g, off, none⟩ else some ⟨g, off + 1, none⟩) :
    St w w1 R (.slice a1 R c1) (.slice ad nr (cv - 1)) nr row := by
  obtain ⟨h1, h2, h3, h4, h5, h6, h7⟩ := h
  have hsz := h1.size
  have hb1 := made_below hm
  have hrl : row.length = nr := by simpa using h2
  have hl : (cellsOf R row).length = R := length_cellsOf R _ (by omega)
  have hm1 := hm.1
  rw [hl] at hm1
  have h5' : SlO w1 3 (.slice (some ⟨g, off, none⟩) (nr + 1) cv) (nr + 1) (.int .i64 x :: row.map (Value.int .i64)) := h5.kept (Kept.ofBelow hb1) (fun b hb => by have := h5.lt b hb; omega)
  have hblk : ∀ b, (Value.slice ad nr (cv - 1)).ownBlock = some b → b = g := by
    intro b hb
    subst had
    split at hb
    · have e2 : some g = some b := hb
      cases e2; rfl
    · have e2 : some g = some b := hb
      cases e2; rfl
  have hgl := h5.lt g rfl
  refine ⟨below_then h1 hb1, hrl, by omega, hm1, h5'.tail ad (fun e => by rw [had, if_pos e]) (fun e => by rw [had, if_neg e]), fun b hb => ⟨?_, fun e => ?_⟩, fun b hb => ?_⟩
  · have := hm.2.2 b hb; omega
  · have := hm.2.2 b hb; have := hblk b e; omega
  · rw [hblk b hb]; exact h7 g rfl

set_option maxRecDepth 100000 in
set_option maxHeartbeats 4000000 in
theorem chansOrder_walk (room : Int) (ap : Option Addr) (n cp : Nat) (puts : List Int) (atk : Option Addr) (m ct : Nat) (takes : List Bool) (w : World) (hroom : 0 ≤ room ∧ room ≤ 255) (hn : n ≤ 200) (hm : m ≤ 9223372036854775807)
    (hp : RowAt .i64 w ap n puts) (ht : RowB w atk m takes) :
    Calls Try.prog 6 #[.int .u8 room, .slice ap n cp, .slice atk m ct] w fun e w' => e = .returned (.bool true) ∧ Below w.heap.size w w' := by
  obtain ⟨i0, hi0, hz0, hz1, hz2⟩ := info_parts Try.info3
  have HP := Lib.hid hp
  have HT := Lib.hid ht
  clear hp ht
  obtain ⟨r0, r1⟩ := hroom
  obtain ⟨R, hR⟩ : ∃ R : Nat, room % 6 + 1 = (R : Int) ∧ 1 ≤ R ∧ R ≤ 6 := ⟨(room % 6 + 1).toNat, by omega, by omega, by omega⟩
  obtain ⟨hRe, hR1, hR6⟩ := hR
  have hn2 : decide ((200 : Int) < (n : Int)) = false := by simp; omega
  have HC0 := Lib.hid (cellsOf_nil R hR1)
  go_enter Try.func6, Try.ntmps6
  go_wp2_with (at_make; refine wpList_make_full _ rfl _ _ 22 rfl 0 3 i0 (.int .i64 0) 1 Try.underlying22 hi0 hz0 hz1 _ _ _ _ R rfl rfl rfl rfl (by rw [hz2]; omega) (by unfold maxLen; omega) (Nat.zero_le _) ?_; intro w1 hs hg; have hmk := Lib.hid (made_of_make hs hg); clear hs hg)
  have hst : Hid (St w w1 R (.slice (some ⟨w.heap.size, 0, none⟩) R R) (.slice none 0 0) 0 []) := by
    have k1 := hmk.out.1
    rw [List.length_replicate, ← HC0.out] at k1
    exact ⟨made_below hmk.out, rfl, by omega, k1, SlO.nil _ _, fun g hg => ⟨hmk.out.2.2 g hg, by simp [Value.ownBlock]⟩, by simp [Value.ownBlock]⟩
  go_loopw [7, 8, 9, 10, 11, 12, 13, 14, 15, 27] (fun l v _ _ _ _ _ _ _ i wr => ∃ (k : Nat) (al : Option Addr) (cl : Nat) (av : Option Addr) (nr cv : Nat) (row : List Int), k ≤ n ∧ i = .int .i64 k ∧ l = .slice al R cl ∧ v = .slice av nr cv ∧ Hid (St w wr R (.slice al R cl) (.slice av nr cv) nr row)) (fun _ _ _ _ _ _ _ _ _ i _ => n - (intOf i).toNat)
  case atStart => exact ⟨0, _, _, _, 0, 0, [], Nat.zero_le _, rfl, rfl, rfl, hst⟩
  case round =>
    obtain ⟨k, al, cl, av, nr, cv, row, hk, rfl, rfl, rfl, hS⟩ := hrel
    by_cases hlt : k < n
    · obtain ⟨_, h0 | ⟨bp, op, rfl, hcp⟩⟩ := HP.out.below hS.out.1
      · omega
      have hckp := hcp k hlt
      have hltI : (k : Int) < (n : Int) := by omega
      clear hcp hst hmk HC0
      generalize puts.getD k 0 = x at *
      obtain ⟨hrow, hcl1, hcl2⟩ := st_row hS.out
      have hnrl : Hid (row.length = nr) := hS.out.2.1
      have hnr := hS.out.2.2.1
      have HPUT := Lib.hid (put_any al R cl (cellsOf R row) x wr hcl1 hcl2 (by omega) hrow)
      have HPB : Hid (putB (cellsOf R row) = decide (nr + 2 ≤ R)) := by show _ = _; rw [putB_cellsOf R row (by rw [hnrl.out]; exact hnr), hnrl.out]
      clear hrow
      have hway : m ≤ k ∨ (k < m ∧ takes.getD k false = false) ∨ (k < m ∧ takes.getD k false = true) := by
        rcases Nat.lt_or_ge k m with h | h
        · cases hb : takes.getD k false with
          | false => exact .inr (.inl ⟨h, rfl⟩)
          | true => exact .inr (.inr ⟨h, rfl⟩)
        · exact .inl h
      by_cases hP : nr + 2 ≤ R
      · rcases hway with hway | ⟨hkm, hflag⟩ | ⟨hkm, hflag⟩
        · have hge : decide ((m : Int) ≤ (k : Int)) = true := by simp; omega

          have HPB1 : Hid (putB (cellsOf R row) = true) := by show _ = _; rw [HPB.out]; exact decide_eq_true hP
          have HPL := Lib.hid (putL_cellsOf R row x (by rw [hnrl.out]; exact hP))
          have hd : decide ((nr : Int) < (R : Int) - 1) = true := by simp; omega
          have hl2 : Hid ((cellsOf R (row ++ [x])).length = R) := length_cellsOf R _ (by rw [List.length_append, hnrl.out, List.length_singleton]; omega)
          clear HPB
          go_wp2_with fail
          refine HPUT.out.mono ?_
          rintro e w2 ⟨v2, rfl, hm2⟩
          rw [HPL.out] at hm2
          rw [HPB1.out]
          obtain ⟨a2, c2, rfl, _⟩ := made_row hm2
          rw [hl2.out] at hm2
          have HM2 := Lib.hid hm2
          have hsv := Lib.hid (st_below hS.out (made_below hm2)).2.2.2.2.1
          rw [hl2.out]
          clear hm2 HPUT HPL
          go_wp2_with (at_builtin; refine wpList_append_one_off rfl (.tmp 47) (.tmp 49) 22 rfl 3 i0 (.int .i64 0) 8 Try.underlying22 hi0 hz0 hz1 hz2 rfl (by decide) _ nr _ rfl hsv.out _ rfl rfl (by omega) ?_; intro g off c' w3 hs hkp hmv; have HS1 := Lib.hid (st_put hS.out hP HM2.out hs hkp hmv); clear hs hkp hmv)

          go_roundw
          case rel => exact ⟨k + 1, _, _, _, _, _, _, by omega, by go_num, rfl, rfl, HS1⟩
          case measure => simp [intOf]; omega
        · obtain ⟨bt, ot, rfl, HTK⟩ : ∃ bt ot, atk = some ⟨bt, ot, none⟩ ∧ Hid (∀ wx, Below w.heap.size w wx → wx.cell? ⟨bt, ot + k, none⟩ = some (.bool false)) := by
            rcases HT.out.2 with h | ⟨bt, ot, e, hc⟩
            · omega
            · refine ⟨bt, ot, e, fun wx hb => ?_⟩
              have := hc k hkm
              rw [hflag] at this
              exact (hb.cell (World.block_lt_of_cell? w _ this)).trans this
          have hge : decide ((m : Int) ≤ (k : Int)) = false := by simp; omega
          have hkmI : (k : Int) < (m : Int) := by omega
          clear hflag

          have HPB1 : Hid (putB (cellsOf R row) = true) := by show _ = _; rw [HPB.out]; exact decide_eq_true hP
          have HPL := Lib.hid (putL_cellsOf R row x (by rw [hnrl.out]; exact hP))
          have hd : decide ((nr : Int) < (R : Int) - 1) = true := by simp; omega
          have hl2 : Hid ((cellsOf R (row ++ [x])).length = R) := length_cellsOf R _ (by rw [List.length_append, hnrl.out, List.length_singleton]; omega)
          clear HPB
          go_wp2_with fail
          refine HPUT.out.mono ?_
          rintro e w2 ⟨v2, rfl, hm2⟩
          rw [HPL.out] at hm2
          rw [HPB1.out]
          obtain ⟨a2, c2, rfl, _⟩ := made_row hm2
          rw [hl2.out] at hm2
          have HM2 := Lib.hid hm2
          have hsv := Lib.hid (st_below hS.out (made_below hm2)).2.2.2.2.1
          rw [hl2.out]
          clear hm2 HPUT HPL
          go_wp2_with (at_builtin; refine wpList_append_one_off rfl (.tmp 47) (.tmp 49) 22 rfl 3 i0 (.int .i64 0) 8 Try.underlying22 hi0 hz0 hz1 hz2 rfl (by decide) _ nr _ rfl hsv.out _ rfl rfl (by omega) ?_; intro g off c' w3 hs hkp hmv; have HS1 := Lib.hid (st_put hS.out hP HM2.out hs hkp hmv); have hck := HTK.out _ HS1.out.1; clear hs hkp hmv)

          go_roundw
          case rel => exact ⟨k + 1, _, _, _, _, _, _, by omega, by go_num, rfl, rfl, HS1⟩
          case measure => simp [intOf]; omega
        · obtain ⟨bt, ot, rfl, HTK⟩ : ∃ bt ot, atk = some ⟨bt, ot, none⟩ ∧ Hid (∀ wx, Below w.heap.size w wx → wx.cell? ⟨bt, ot + k, none⟩ = some (.bool true)) := by
            rcases HT.out.2 with h | ⟨bt, ot, e, hc⟩
            · omega
            · refine ⟨bt, ot, e, fun wx hb => ?_⟩
              have := hc k hkm
              rw [hflag] at this
              exact (hb.cell (World.block_lt_of_cell? w _ this)).trans this
          have hge : decide ((m : Int) ≤ (k : Int)) = false := by simp; omega
          have hkmI : (k : Int) < (m : Int) := by omega
          clear hflag

          obtain ⟨y, rest, hyr⟩ : ∃ y rest, row ++ [x] = y :: rest := by
            cases row with
            | nil => exact ⟨x, [], rfl⟩
            | cons y r => exact ⟨y, r ++ [x], rfl⟩
          have HYR := Lib.hid hyr
          clear hyr

          have HPB1 : Hid (putB (cellsOf R row) = true) := by show _ = _; rw [HPB.out]; exact decide_eq_true hP
          have HPL := Lib.hid (putL_cellsOf R row x (by rw [hnrl.out]; exact hP))
          have hd : decide ((nr : Int) < (R : Int) - 1) = true := by simp; omega
          have hl2 : Hid ((cellsOf R (row ++ [x])).length = R) := length_cellsOf R _ (by rw [List.length_append, hnrl.out, List.length_singleton]; omega)
          clear HPB
          go_wp2_with fail
          refine HPUT.out.mono ?_
          rintro e w2 ⟨v2, rfl, hm2⟩
          rw [HPL.out] at hm2
          rw [HPB1.out]
          obtain ⟨a2, c2, rfl, _⟩ := made_row hm2
          rw [hl2.out] at hm2
          have HM2 := Lib.hid hm2
          have hsv := Lib.hid (st_below hS.out (made_below hm2)).2.2.2.2.1
          rw [hl2.out]
          clear hm2 HPUT HPL
          go_wp2_with (at_builtin; refine wpList_append_one_off rfl (.tmp 47) (.tmp 49) 22 rfl 3 i0 (.int .i64 0) 8 Try.underlying22 hi0 hz0 hz1 hz2 rfl (by decide) _ nr _ rfl hsv.out _ rfl rfl (by omega) ?_; intro g off c' w3 hs hkp hmv; have HS1 := Lib.hid (st_put hS.out hP HM2.out hs hkp hmv); have hck := HTK.out _ HS1.out.1; clear hs hkp hmv)

          have HS2 : Hid (St w w3 R (.slice a2 R c2) (.slice (some ⟨g, off, none⟩) (nr + 1) c') (nr + 1) (y :: rest)) := by have := HS1.out; rw [HYR.out] at this; exact this

          obtain ⟨hrow2, hcl3, hcl4⟩ := st_row HS2.out
          have hl4 : Hid ((cellsOf R rest).length = R) := length_cellsOf R _ (by have h1 := HS2.out.2.1; have h2 := HS2.out.2.2.1; rw [List.length_cons] at h1; omega)
          have HTB : Hid (takeB (cellsOf R (y :: rest)) = true) := by show _ = _; rw [takeB_cellsOf]; rfl
          have HTX : Hid (takeX (cellsOf R (y :: rest)) = y) := takeX_cellsOf R y rest
          have HTL : Hid (takeL (cellsOf R (y :: rest)) = cellsOf R rest) := takeL_cellsOf R y rest (by have h1 := HS2.out.2.1; have h2 := HS2.out.2.2.1; rw [List.length_cons] at h1; omega)
          have HTK2 := Lib.hid (take_any a2 R c2 (cellsOf R (y :: rest)) w3 hcl3 hcl4 (by omega) hrow2)
          have hyy : (y != y) = false := by simp
          have hRR : ((R : Int) != (R : Int)) = false := by simp
          have hpos : decide ((0 : Int) < (nr : Int) + 1) = true := decide_eq_true (by omega)
          have hposI : (0 : Int) < (nr : Int) + 1 := by omega
          clear hrow2

          refine HTK2.out.mono ?_
          rintro e w4 ⟨v4, rfl, hm4⟩
          rw [HTL.out] at hm4
          rw [HTB.out, HTX.out]
          obtain ⟨a4, c4, rfl, _⟩ := made_row hm4
          rw [hl4.out] at hm4
          rw [hl4.out]
          obtain ⟨g4, off4, he4, hcell⟩ := st_head (st_below HS2.out (made_below hm4))
          cases he4
          have HS4 := Lib.hid (fun ad had => st_take (ad := ad) HS2.out hm4 had)
          clear hm4 HTK2 HTL
          go_wp2
          go_quiet (fail)
          go_wp2
          go_roundw
          case rel => exact ⟨k + 1, _, _, _, nr, _, rest, by omega, by go_num, rfl, rfl, st_below (HS4.out _ rfl) (below_drewN (Below.refl _ _) _)⟩
          case measure => simp [intOf]; omega
      · rcases hway with hway | ⟨hkm, hflag⟩ | ⟨hkm, hflag⟩
        · have hge : decide ((m : Int) ≤ (k : Int)) = true := by simp; omega

          have HPB1 : Hid (putB (cellsOf R row) = false) := by show _ = _; rw [HPB.out]; exact decide_eq_false hP
          have HPL : Hid (putL (cellsOf R row) x = []) := putL_no HPB1.out
          have hd : decide ((nr : Int) < (R : Int) - 1) = false := by simp; omega
          clear HPB
          go_wp2_with fail
          refine HPUT.out.mono ?_
          rintro e w3 ⟨v2, rfl, hm2⟩
          rw [HPL.out] at hm2
          rw [HPB1.out]
          obtain ⟨a2, c2, rfl, _⟩ := made_row hm2
          have HS1 := Lib.hid (st_below hS.out (made_below hm2))
          clear hm2 HPUT HPL
          go_wp2_with fail

          go_roundw
          case rel => exact ⟨k + 1, _, _, _, _, _, _, by omega, by go_num, rfl, rfl, HS1⟩
          case measure => simp [intOf]; omega
        · obtain ⟨bt, ot, rfl, HTK⟩ : ∃ bt ot, atk = some ⟨bt, ot, none⟩ ∧ Hid (∀ wx, Below w.heap.size w wx → wx.cell? ⟨bt, ot + k, none⟩ = some (.bool false)) := by
            rcases HT.out.2 with h | ⟨bt, ot, e, hc⟩
            · omega
            · refine ⟨bt, ot, e, fun wx hb => ?_⟩
              have := hc k hkm
              rw [hflag] at this
              exact (hb.cell (World.block_lt_of_cell? w _ this)).trans this
          have hge : decide ((m : Int) ≤ (k : Int)) = false := by simp; omega
          have hkmI : (k : Int) < (m : Int) := by omega
          clear hflag

          have HPB1 : Hid (putB (cellsOf R row) = false) := by show _ = _; rw [HPB.out]; exact decide_eq_false hP
          have HPL : Hid (putL (cellsOf R row) x = []) := putL_no HPB1.out
          have hd : decide ((nr : Int) < (R : Int) - 1) = false := by simp; omega
          clear HPB
          go_wp2_with fail
          refine HPUT.out.mono ?_
          rintro e w3 ⟨v2, rfl, hm2⟩
          rw [HPL.out] at hm2
          rw [HPB1.out]
          obtain ⟨a2, c2, rfl, _⟩ := made_row hm2
          have HS1 := Lib.hid (st_below hS.out (made_below hm2))
          have hck := HTK.out _ HS1.out.1
          clear hm2 HPUT HPL
          go_wp2_with fail

          go_roundw
          case rel => exact ⟨k + 1, _, _, _, _, _, _, by omega, by go_num, rfl, rfl, HS1⟩
          case measure => simp [intOf]; omega
        · obtain ⟨bt, ot, rfl, HTK⟩ : ∃ bt ot, atk = some ⟨bt, ot, none⟩ ∧ Hid (∀ wx, Below w.heap.size w wx → wx.cell? ⟨bt, ot + k, none⟩ = some (.bool true)) := by
            rcases HT.out.2 with h | ⟨bt, ot, e, hc⟩
            · omega
            · refine ⟨bt, ot, e, fun wx hb => ?_⟩
              have := hc k hkm
              rw [hflag] at this
              exact (hb.cell (World.block_lt_of_cell? w _ this)).trans this
          have hge : decide ((m : Int) ≤ (k : Int)) = false := by simp; omega
          have hkmI : (k : Int) < (m : Int) := by omega
          clear hflag

          have HPB1 : Hid (putB (cellsOf R row) = false) := by show _ = _; rw [HPB.out]; exact decide_eq_false hP
          have HPL : Hid (putL (cellsOf R row) x = []) := putL_no HPB1.out
          have hd : decide ((nr : Int) < (R : Int) - 1) = false := by simp; omega
          clear HPB
          go_wp2_with fail
          refine HPUT.out.mono ?_
          rintro e w3 ⟨v2, rfl, hm2⟩
          rw [HPL.out] at hm2
          rw [HPB1.out]
          obtain ⟨a2, c2, rfl, _⟩ := made_row hm2
          have HS1 := Lib.hid (st_below hS.out (made_below hm2))
          have hck := HTK.out _ HS1.out.1
          clear hm2 HPUT HPL
          go_wp2_with fail

          cases row with
          | nil =>
            obtain rfl : nr = 0 := by have := hnrl.out; simp at this; omega
            have HS2 := HS1
            obtain ⟨hrow2, hcl3, hcl4⟩ := st_row HS2.out
            have HTB : Hid (takeB (cellsOf R []) = false) := by show _ = _; rw [takeB_cellsOf]; rfl
            have HTL : Hid (takeL (cellsOf R []) = []) := takeL_cellsOf_nil R
            have HTK2 := Lib.hid (take_any al R cl (cellsOf R []) w3 hcl3 hcl4 (by omega) hrow2)
            clear hrow2
            refine HTK2.out.mono ?_
            rintro e w4 ⟨v4, rfl, hm4⟩
            rw [HTL.out] at hm4
            rw [HTB.out]
            obtain ⟨a4, c4, rfl, _⟩ := made_row hm4
            have HS4 := Lib.hid (st_below HS2.out (made_below hm4))
            clear hm4 HTK2 HTL
            go_wp2
            go_roundw
            case rel => exact ⟨k + 1, _, _, _, _, _, _, by omega, by go_num, rfl, rfl, HS4⟩
            case measure => simp [intOf]; omega
          | cons y rest =>
            obtain ⟨nr', rfl⟩ : ∃ nr', nr = nr' + 1 := ⟨rest.length, by have := hnrl.out; simp at this; omega⟩
            have HS2 := HS1
            obtain ⟨hrow2, hcl3, hcl4⟩ := st_row HS2.out
            have hl4 : Hid ((cellsOf R rest).length = R) := length_cellsOf R _ (by have h1 := HS2.out.2.1; have h2 := HS2.out.2.2.1; rw [List.length_cons] at h1; omega)
            have HTB : Hid (takeB (cellsOf R (y :: rest)) = true) := by show _ = _; rw [takeB_cellsOf]; rfl
            have HTX : Hid (takeX (cellsOf R (y :: rest)) = y) := takeX_cellsOf R y rest
            have HTL : Hid (takeL (cellsOf R (y :: rest)) = cellsOf R rest) := takeL_cellsOf R y rest (by have h1 := HS2.out.2.1; have h2 := HS2.out.2.2.1; rw [List.length_cons] at h1; omega)
            have HTK2 := Lib.hid (take_any al R cl (cellsOf R (y :: rest)) w3 hcl3 hcl4 (by omega) hrow2)
            have hyy : (y != y) = false := by simp
            have hRR : ((R : Int) != (R : Int)) = false := by simp
            have hpos : decide ((0 : Int) < (nr' : Int) + 1) = true := decide_eq_true (by omega)
            have hposI : (0 : Int) < (nr' : Int) + 1 := by omega
            clear hrow2

            refine HTK2.out.mono ?_
            rintro e w4 ⟨v4, rfl, hm4⟩
            rw [HTL.out] at hm4
            rw [HTB.out, HTX.out]
            obtain ⟨a4, c4, rfl, _⟩ := made_row hm4
            rw [hl4.out] at hm4
            rw [hl4.out]
            obtain ⟨g4, off4, he4, hcell⟩ := st_head (st_below HS2.out (made_below hm4))
            subst he4
            have HS4 := Lib.hid (fun ad had => st_take (ad := ad) HS2.out hm4 had)
            clear hm4 HTK2 HTL
            go_wp2
            go_quiet (fail)
            go_wp2
            go_roundw
            case rel => exact ⟨k + 1, _, _, _, nr', _, rest, by omega, by go_num, rfl, rfl, st_below (HS4.out _ rfl) (below_drewN (Below.refl _ _) _)⟩
            case measure => simp [intOf]; omega
    · obtain rfl : k = n := by omega
      obtain ⟨hrow, hcl1, hcl2⟩ := st_row hS.out
      have hnr := hS.out.2.2.1
      have hnrl : Hid (row.length = nr) := hS.out.2.1
      have HI := Lib.hid (items_any al R cl (cellsOf R row) wr hcl1 hcl2 (by omega) hrow)
      have HB := Lib.hid hS.out.1
      have HIE := Lib.hid (items_cellsOf R row)
      have HSS : Hid ((row == row) = true) := beq_self_eq_true _
      have hnn : ((nr : Int) == (nr : Int)) = true := beq_self_eq_true _
      have HRV := Lib.hid (SlO.rowAt hS.out.2.2.2.2.1)
      have HRL := Lib.hid hrow
      clear hrow hst hmk HC0 HP HT
      go_wp2_with fail
      refine HI.out.mono ?_
      rintro e w2 ⟨v2, rfl, hm2⟩
      rw [HIE.out] at hm2
      obtain ⟨a2, c2, rfl, _⟩ := made_row hm2
      have HM2 := Lib.hid hm2
      clear hm2
      rw [hnrl.out] at HM2 ⊢
      go_wp2_with fail
      refine (same_any _ _ nr nr c2 cv row row _ (by omega) (by omega) (made_rowAt HM2.out) (HRV.out.below (made_below HM2.out))).mono ?_
      rintro e w3 ⟨rfl, hb3⟩
      rw [HSS.out]
      have HB3 := Lib.hid (below_then (made_below HM2.out) hb3)
      clear hb3
      go_wp2_with fail
      refine (len_any al R cl (cellsOf R row) _ hcl1 hcl2 (by omega) (HRL.out.below HB3.out)).mono ?_
      rintro e w4 ⟨rfl, hb4⟩
      rw [HIE.out, hnrl.out]
      have HB4 := Lib.hid (below_then HB3.out hb4)
      clear hb4
      go_wp2_with fail
      refine (lives_any _).mono ?_
      rintro e w5 ⟨rfl, hb5⟩
      have HB5 := Lib.hid (below_then HB.out (below_then HB4.out hb5))
      clear hb5
      go_wp2
      go_ret
      exact ⟨rfl, HB5.out⟩

set_option maxHeartbeats 400000 in
theorem chansOrder_long (room : Int) (ap : Option Addr) (n cp : Nat) (atk : Option Addr) (m ct : Nat) (w : World) (hn : 200 < n) (hn2 : n ≤ 9223372036854775807) :
    Calls Try.prog 6 #[.int .u8 room, .slice ap n cp, .slice atk m ct] w fun e w' => e = .returned (.bool true) ∧ Below w.heap.size w w' := by
  have hn3 : decide ((200 : Int) < (n : Int)) = true := decide_eq_true (by omega)
  go_enter Try.func6, Try.ntmps6
  go_wp2_with fail
  refine (lives_any _).mono ?_
  rintro e w2 ⟨rfl, hb⟩
  go_wp2
  go_ret
  exact ⟨rfl, hb⟩

theorem chansOrder_law (room : Int) (ap : Option Addr) (n cp : Nat) (puts : List Int) (atk : Option Addr) (m ct : Nat) (takes : List Bool) (w : World) (hroom : (Lit.int .u8 room).wf = true)
    (hp : RowAt .i64 w ap n puts) (_ : ∀ z ∈ puts, (Lit.int .i64 z).wf = true) (hl : n ≤ cp) (hm : cp ≤ maxLen) (_ : cp * 8 ≤ 140737488351232) (_ : ap = none → n = 0 ∧ cp = 0)
    (ht : RowB w atk m takes) (hl2 : m ≤ ct) (hm2 : ct ≤ maxLen) (_ : ct * 1 ≤ 140737488351232) :
    Calls Try.prog 6 #[.int .u8 room, .slice ap n cp, .slice atk m ct] w fun e w' => e = .returned (.bool true) ∧ Below w.heap.size w w' := by
  unfold maxLen at hm hm2
  by_cases h : n ≤ 200
  · exact chansOrder_walk room ap n cp puts atk m ct takes w (bounds_u8 hroom) h (by omega) hp ht
  · exact chansOrder_long room ap n cp atk m ct w (by omega) (by omega)
end Go.Proofs.Ytcbeeapcbnnmpaa
