/- The walk of come. -/
import Derived.Test.YtnkfmhhfeaohbaaC
import Derived.Test.YtnkfmhhfeaohbaaPair
namespace Go.Proofs.Ytnkfmhhfeaohbaa
open Go.RowKit Go.Own

theorem Try.info3 : (Try.prog.info? 3).map (fun i => (i.zero, i.size, i.bytes)) = some (some (.int .i64 0), 1, 8) := by kernel_rfl

theorem tailSet {w : World} {p q : Addr} {v u : Value} (hne : q ≠ p) (h : w.cell? q = some u) (hf : w.frozen? q = false) : (w.setCell p v).cell? q = some u ∧ (w.setCell p v).frozen? q = false := by
  refine ⟨?_, by rw [World.frozen?_setCell]; exact hf⟩
  rw [World.cell?_setCell_other _ _ _ _ (Ne.symm hne)]; exact h

set_option maxHeartbeats 2000000 in
theorem come_any (g : Nat) (ev : Value) (n : Nat) (s : St) (F : Nat → Prop) (w : World) (h : IsS w g ev n s F) (y : Nat) (hy : y < n) (hn : n ≤ 1000000000) (hc : s.cnt ≤ 1000000000) (hst : s.stack.length ≤ 1000000000) (hw : s.way.length ≤ 1000000000) :
    Calls Try.prog 22 #[.pointer (some ⟨g, 0, none⟩), .int .i64 (y : Int)] w fun e w' => e = .returned (.tuple #[]) ∧ SDone g ev n (s.come y) F w w' := by
  obtain ⟨C, X, h⟩ := h
  obtain ⟨i0, hi0, hz0, hz1, hz2⟩ := info_parts Try.info3
  have c8 := h.str.cell 8 (by decide)
  rw [h.cnt] at c8
  have f8 := h.str.froz 8
  have h1 := h.setCnt (s.cnt + 1)
  have k1 : Kept F w (w.setCell ⟨g, 8, none⟩ (.int .i64 ((s.cnt + 1 : Nat) : Int))) := (Kept.refl F w).setCell (fun _ => h.foot g (.inl rfl)) _
  have H1 := Lib.hid h1
  have K1 := Lib.hid k1
  have HY := Lib.hid hy
  have hyI : (y : Int) < (n : Int) := by omega
  have e1 : Hid (((s.cnt + 1 : Nat) : Int) = (s.cnt : Int) + 1) := by show _ = _; omega
  rw [e1.out] at H1 K1
  clear h h1 k1
  go_enter Try.func22, Try.ntmps22
  go_wp2_with fail
  generalize w.setCell ⟨g, 8, none⟩ (.int .i64 ((s.cnt : Int) + 1)) = w1 at *
  clear c8 f8
  generalize up C 8 (.int .i64 ((s.cnt : Int) + 1)) = C1 at *
  have c8 := H1.out.str.cell 8 (by decide)
  rw [H1.out.cnt] at c8
  have c8' : w1.cell? ⟨g, 8, none⟩ = some (.int .i64 ((s.cnt : Int) + 1)) := by rw [c8]; rfl
  clear c8
  obtain ⟨b1, d1, E1, cc1, _⟩ := H1.out.arr 1 ⟨by decide, by decide⟩ (by rw [H1.out.num, numsOf_len]) (by have := HY.out; omega)
  obtain ⟨b2, d2, E2, cc2, _⟩ := H1.out.arr 2 ⟨by decide, by decide⟩ (by rw [H1.out.low, numsOf_len]) (by have := HY.out; omega)
  have c1 := H1.out.str.cell 1 (by decide)
  have c2 := H1.out.str.cell 2 (by decide)
  rw [E1] at c1
  rw [E2] at c2
  have y1 := cc1 y HY.out
  have y2 := cc2 y HY.out
  rw [H1.out.num, numsOf_at _ _ _ HY.out] at y1
  rw [H1.out.low, numsOf_at _ _ _ HY.out] at y2
  obtain ⟨y1a, y1b⟩ := y1
  obtain ⟨y2a, y2b⟩ := y2
  have hb12 : b1 ≠ b2 := fun e => by
    have := H1.out.str.apart 1 2 b1 ⟨by decide, by decide⟩ ⟨by decide, by decide⟩ (by rw [E1]; rfl) (by rw [E2, e]; rfl)
    omega
  obtain ⟨y2c, y2d⟩ := tailSet (v := .int .i64 ((s.cnt : Int) + 1)) (p := ⟨b1, y, none⟩) (fun e => hb12 (by cases e; rfl)) y2a y2b
  have HE1 := Lib.hid E1
  have HE2 := Lib.hid E2
  clear E1 E2 cc1 cc2 hb12
  refine wp_region_bar 19 (S := fun w' => w'.cell? ⟨g, 1, none⟩ = some (.slice (some ⟨b1, 0, none⟩) n d1) ∧ w'.cell? ⟨g, 2, none⟩ = some (.slice (some ⟨b2, 0, none⟩) n d2) ∧ w'.cell? ⟨g, 8, none⟩ = some (.int .i64 ((s.cnt : Int) + 1))) (by kernel_rfl) (⟨c1, c2, c8'⟩) (fun hHeld => ?_)
  refine' wpAnyB_take (i := 0) [0] (v := _) rfl (by kernel_rfl) (fun _ _ _ h => h) (Or.inl ⟨by rfl, ?hy0⟩) (by assumption) ?rest0
  case hy0 => (intro w' hSw; (try dsimp only at hSw); go_simp; (try with_reducible rfl))
  try simp only [Act.put, List.getElem_toArray, List.getElem_cons_zero, List.getElem_cons_succ, List.setIfInBounds_toArray, List.set_cons_zero, List.set_cons_succ]
  refine' wpAnyB_take (i := 1) [1] (v := _) rfl (by kernel_rfl) (fun _ _ _ h => h) (Or.inl ⟨by rfl, ?hy1⟩) (by assumption) ?rest1
  case hy1 => (intro w' hSw; (try dsimp only at hSw); go_simp; (try with_reducible rfl))
  try simp only [Act.put, List.getElem_toArray, List.getElem_cons_zero, List.getElem_cons_succ, List.setIfInBounds_toArray, List.set_cons_zero, List.set_cons_succ]
  refine' wpAnyB_take (i := 2) [2] (v := _) rfl (by kernel_rfl) (fun _ _ _ h => h) (Or.inl ⟨by rfl, ?hy2⟩) (by assumption) ?rest2
  case hy2 => (intro w' hSw; (try dsimp only at hSw); go_simp; (try with_reducible rfl))
  try simp only [Act.put, List.getElem_toArray, List.getElem_cons_zero, List.getElem_cons_succ, List.setIfInBounds_toArray, List.set_cons_zero, List.set_cons_succ]
  refine' wpAnyB_take (i := 3) [3] (v := _) rfl (by kernel_rfl) (fun _ _ _ h => h) (Or.inl ⟨by rfl, ?hy3⟩) (by assumption) ?rest3
  case hy3 => (intro w' hSw; (try dsimp only at hSw); go_simp; (try with_reducible rfl))
  try simp only [Act.put, List.getElem_toArray, List.getElem_cons_zero, List.getElem_cons_succ, List.setIfInBounds_toArray, List.set_cons_zero, List.set_cons_succ]
  refine' wpAnyB_take (i := 4) [4] (v := _) rfl (by kernel_rfl) (fun _ _ _ h => h) (Or.inl ⟨by rfl, ?hy4⟩) (by assumption) ?rest4
  case hy4 => (intro w' hSw; (try dsimp only at hSw); go_simp; (try with_reducible rfl))
  try simp only [Act.put, List.getElem_toArray, List.getElem_cons_zero, List.getElem_cons_succ, List.setIfInBounds_toArray, List.set_cons_zero, List.set_cons_succ]
  refine' wpAnyB_take (i := 5) [8, 7, 6, 5] (v := _) rfl (by kernel_rfl) (fun _ _ _ h => h) (Or.inl ⟨by rfl, ?hy5⟩) (by assumption) ?rest5
  case hy5 => (intro w' hSw; (try dsimp only at hSw); go_simp; (try with_reducible rfl))
  try simp only [Act.put, List.getElem_toArray, List.getElem_cons_zero, List.getElem_cons_succ, List.setIfInBounds_toArray, List.set_cons_zero, List.set_cons_succ]
  refine' wpAnyB_take (i := 6) [8, 7, 6] (v := _) rfl (by kernel_rfl) (fun _ _ _ h => h) (Or.inl ⟨by rfl, ?hy6⟩) (by assumption) ?rest6
  case hy6 => (intro w' hSw; (try dsimp only at hSw); go_simp; (try with_reducible rfl))
  try simp only [Act.put, List.getElem_toArray, List.getElem_cons_zero, List.getElem_cons_succ, List.setIfInBounds_toArray, List.set_cons_zero, List.set_cons_succ]
  refine' wpAnyB_take (i := 7) [8, 7] (v := _) rfl (by kernel_rfl) (fun _ _ _ h => h) (Or.inl ⟨by rfl, ?hy7⟩) (by assumption) ?rest7
  case hy7 => (intro w' hSw; (try dsimp only at hSw); go_simp; (try with_reducible rfl))
  try simp only [Act.put, List.getElem_toArray, List.getElem_cons_zero, List.getElem_cons_succ, List.setIfInBounds_toArray, List.set_cons_zero, List.set_cons_succ]
  refine' wpAnyB_take (i := 8) [8] (v := _) rfl (by kernel_rfl) (fun _ _ _ h => h) (Or.inl ⟨by rfl, ?hy8⟩) (by assumption) ?rest8
  case hy8 => (intro w' hSw; (try dsimp only at hSw); go_simp; (try with_reducible rfl))
  try simp only [Act.put, List.getElem_toArray, List.getElem_cons_zero, List.getElem_cons_succ, List.setIfInBounds_toArray, List.set_cons_zero, List.set_cons_succ]
  refine' wpAnyB_take0 (i := 9) (v := _) rfl (by kernel_rfl) (fun _ _ _ h => h) (Or.inl ⟨by rfl, ?hy9⟩) (by assumption) ?rest9
  case hy9 => (intro w' hSw; go_simp; (try with_reducible rfl))
  try simp only [Act.put, List.getElem_toArray, List.getElem_cons_zero, List.getElem_cons_succ, List.setIfInBounds_toArray, List.set_cons_zero, List.set_cons_succ]
  refine' wpAnyB_take (i := 10) [10] (v := _) rfl (by kernel_rfl) (fun _ _ _ h => h) (Or.inl ⟨by rfl, ?hy10⟩) (by assumption) ?rest10
  case hy10 => (intro w' hSw; (try dsimp only at hSw); go_simp; (try with_reducible rfl))
  try simp only [Act.put, List.getElem_toArray, List.getElem_cons_zero, List.getElem_cons_succ, List.setIfInBounds_toArray, List.set_cons_zero, List.set_cons_succ]
  refine' wpAnyB_take (i := 11) [11] (v := _) rfl (by kernel_rfl) (fun _ _ _ h => h) (Or.inl ⟨by rfl, ?hy11⟩) (by assumption) ?rest11
  case hy11 => (intro w' hSw; (try dsimp only at hSw); go_simp; (try with_reducible rfl))
  try simp only [Act.put, List.getElem_toArray, List.getElem_cons_zero, List.getElem_cons_succ, List.setIfInBounds_toArray, List.set_cons_zero, List.set_cons_succ]
  refine' wpAnyB_take (i := 12) [12] (v := _) rfl (by kernel_rfl) (fun _ _ _ h => h) (Or.inl ⟨by rfl, ?hy12⟩) (by assumption) ?rest12
  case hy12 => (intro w' hSw; (try dsimp only at hSw); go_simp; (try with_reducible rfl))
  try simp only [Act.put, List.getElem_toArray, List.getElem_cons_zero, List.getElem_cons_succ, List.setIfInBounds_toArray, List.set_cons_zero, List.set_cons_succ]
  refine' wpAnyB_take (i := 13) [13] (v := _) rfl (by kernel_rfl) (fun _ _ _ h => h) (Or.inl ⟨by rfl, ?hy13⟩) (by assumption) ?rest13
  case hy13 => (intro w' hSw; (try dsimp only at hSw); go_simp; (try with_reducible rfl))
  try simp only [Act.put, List.getElem_toArray, List.getElem_cons_zero, List.getElem_cons_succ, List.setIfInBounds_toArray, List.set_cons_zero, List.set_cons_succ]
  refine' wpAnyB_take (i := 14) [17, 16, 15, 14] (v := _) rfl (by kernel_rfl) (fun _ _ _ h => h) (Or.inl ⟨by rfl, ?hy14⟩) (by assumption) ?rest14
  case hy14 => (intro w' hSw; (try dsimp only at hSw); go_simp; (try with_reducible rfl))
  try simp only [Act.put, List.getElem_toArray, List.getElem_cons_zero, List.getElem_cons_succ, List.setIfInBounds_toArray, List.set_cons_zero, List.set_cons_succ]
  refine' wpAnyB_take (i := 15) [17, 16, 15] (v := _) rfl (by kernel_rfl) (fun _ _ _ h => h) (Or.inl ⟨by rfl, ?hy15⟩) (by assumption) ?rest15
  case hy15 => (intro w' hSw; (try dsimp only at hSw); go_simp; (try with_reducible rfl))
  try simp only [Act.put, List.getElem_toArray, List.getElem_cons_zero, List.getElem_cons_succ, List.setIfInBounds_toArray, List.set_cons_zero, List.set_cons_succ]
  refine' wpAnyB_take (i := 16) [17, 16] (v := _) rfl (by kernel_rfl) (fun _ _ _ h => h) (Or.inl ⟨by rfl, ?hy16⟩) (by assumption) ?rest16
  case hy16 => (intro w' hSw; (try dsimp only at hSw); go_simp; (try with_reducible rfl))
  try simp only [Act.put, List.getElem_toArray, List.getElem_cons_zero, List.getElem_cons_succ, List.setIfInBounds_toArray, List.set_cons_zero, List.set_cons_succ]
  refine' wpAnyB_take (i := 17) [17] (v := _) rfl (by kernel_rfl) (fun _ _ _ h => h) (Or.inl ⟨by rfl, ?hy17⟩) (by assumption) ?rest17
  case hy17 => (intro w' hSw; (try dsimp only at hSw); go_simp; (try with_reducible rfl))
  try simp only [Act.put, List.getElem_toArray, List.getElem_cons_zero, List.getElem_cons_succ, List.setIfInBounds_toArray, List.set_cons_zero, List.set_cons_succ]
  refine' wpAnyB_take (i := 18) [18] (v := _) rfl (by kernel_rfl) (fun _ _ _ h => h) (Or.inl ⟨by rfl, ?hy18⟩) (by assumption) ?rest18
  case hy18 => (intro w' hSw; (try dsimp only at hSw); go_simp; (try with_reducible rfl))
  try simp only [Act.put, List.getElem_toArray, List.getElem_cons_zero, List.getElem_cons_succ, List.setIfInBounds_toArray, List.set_cons_zero, List.set_cons_succ]
  refine wpAnyB_ready (rs := [19]) (by kernel_rfl) (by simp) (AllReadyB.cons rfl (fun K hK => ?_) AllReadyB.nil)
  go_simp
  refine hK.out _ _ (fun e => nomatch e) ?_
  clear hK K
  try simp only [Act.put, List.getElem_toArray, List.getElem_cons_zero, List.getElem_cons_succ, List.setIfInBounds_toArray, List.set_cons_zero, List.set_cons_succ]
  refine wpAnyB_ready (rs := [20]) (by kernel_rfl) (by simp) (AllReadyB.cons rfl (fun K hK => ?_) AllReadyB.nil)
  go_simp
  refine hK.out _ _ (fun e => nomatch e) ?_
  clear hK K
  try simp only [Act.put, List.getElem_toArray, List.getElem_cons_zero, List.getElem_cons_succ, List.setIfInBounds_toArray, List.set_cons_zero, List.set_cons_succ]
  refine wpAnyB_ready (rs := [21]) (by kernel_rfl) (by simp) (AllReadyB.cons rfl (fun K hK => ?_) AllReadyB.nil)
  go_simp
  refine hK.out _ _ (fun e => nomatch e) ?_
  clear hK K
  try simp only [Act.put, List.getElem_toArray, List.getElem_cons_zero, List.getElem_cons_succ, List.setIfInBounds_toArray, List.set_cons_zero, List.set_cons_succ]
  refine wpAnyB_done (by kernel_rfl) ?_
  have H2 : Hid (∃ X', Srch ((w1.setCell ⟨b1, y, none⟩ (.int .i64 ((s.cnt : Int) + 1))).setCell ⟨b2, y, none⟩ (.int .i64 ((s.cnt : Int) + 1))).drew g ev n { s with num := up s.num y (s.cnt + 1), low := up s.low y (s.cnt + 1), cnt := s.cnt + 1 } F C1 X') := by
    have a1 := H1.out.setNum HE1.out y (s.cnt + 1) HY.out
    have a2 := a1.setLow HE2.out y (s.cnt + 1) HY.out
    rw [e1.out] at a2
    exact ⟨_, a2.drew⟩
  have K2 : Hid (Kept F w1 ((w1.setCell ⟨b1, y, none⟩ (.int .i64 ((s.cnt : Int) + 1))).setCell ⟨b2, y, none⟩ (.int .i64 ((s.cnt : Int) + 1))).drew) :=
    (((Kept.refl F w1).setCell (fun _ => H1.out.foot b1 (.inr ⟨1, ⟨by decide, by decide⟩, by rw [HE1.out]; rfl⟩)) _).setCell (fun _ => H1.out.foot b2 (.inr ⟨2, ⟨by decide, by decide⟩, by rw [HE2.out]; rfl⟩)) _).drew
  clear hHeld c8' c1 c2 y1a y1b y2a y2b y2c y2d HE1 HE2 H1
  generalize ((w1.setCell ⟨b1, y, none⟩ (.int .i64 ((s.cnt : Int) + 1))).setCell ⟨b2, y, none⟩ (.int .i64 ((s.cnt : Int) + 1))).drew = w2 at *
  obtain ⟨X2, h2⟩ := H2.out
  have HS := Lib.hid h2
  clear h2 H2
  obtain ⟨a4, d4, E4, _, _, _, _⟩ := HS.out.str.val 4 ⟨by decide, by decide⟩
  obtain ⟨a5, d5, E5, _, _, _, _⟩ := HS.out.str.val 5 ⟨by decide, by decide⟩
  have o4 := HS.out.str.own 4 ⟨by decide, by decide⟩
  have o5 := HS.out.str.own 5 ⟨by decide, by decide⟩
  have c4 := HS.out.str.cell 4 (by decide)
  have c5 := HS.out.str.cell 5 (by decide)
  have l4 : (X2 4).length = s.stack.length := by rw [HS.out.stack, natsOf_len]
  have l5 : (X2 5).length = s.way.length := by rw [HS.out.way, natsOf_len]
  rw [E4] at c4 o4
  rw [E5] at c5 o5
  rw [l4] at c4
  rw [l5] at c5
  have hv4 : Hid (C1 4 = .slice a4 s.stack.length d4) := by rw [l4] at E4; exact E4
  have hv5 : Hid (C1 5 = .slice a5 s.way.length d5) := by rw [l5] at E5; exact E5
  have hap : Hid (∀ k, (Value.slice a4 s.stack.length d4).ownBlock = some k → (Value.slice a5 s.way.length d5).ownBlock ≠ some k) := fun k h1 h2 => by
    have := HS.out.str.apart 4 5 k ⟨by decide, by decide⟩ ⟨by decide, by decide⟩ (by rw [hv4.out]; exact h1) (by rw [hv5.out]; exact h2)
    omega
  have hof4 : Hid ((Value.slice a4 s.stack.length d4).ownBlock ≠ some g) := by rw [← hv4.out]; exact HS.out.str.off 4 ⟨by decide, by decide⟩
  have hof5 : Hid ((Value.slice a5 s.way.length d5).ownBlock ≠ some g) := by rw [← hv5.out]; exact HS.out.str.off 5 ⟨by decide, by decide⟩
  have HO4 : Hid (Sl w2 3 (.slice a4 s.stack.length d4) (natsOf s.stack).length (natsOf s.stack)) := by
    have := o4; rw [l4, HS.out.stack] at this; rw [natsOf_len]; exact this
  have HO5 : Hid (Sl w2 3 (.slice a5 s.way.length d5) (natsOf s.way).length (natsOf s.way)) := by
    have := o5; rw [l5, HS.out.way] at this; rw [natsOf_len]; exact this
  have hlt4 : Hid (∀ k, (Value.slice a4 s.stack.length d4).ownBlock = some k → k < w2.heap.size) := fun k e => HO4.out.lt k e
  have hlt5 : Hid (∀ k, (Value.slice a5 s.way.length d5).ownBlock = some k → k < w2.heap.size) := fun k e => HO5.out.lt k e
  clear o4 o5 l4 l5 E4 E5
  have HC4 := Lib.hid c4
  have HC5 := Lib.hid c5
  go_wp2_with fail
  refine wp_region_bar 18 (S := fun w' => w'.cell? ⟨g, 4, none⟩ = some (.slice a4 s.stack.length d4) ∧ w'.cell? ⟨g, 5, none⟩ = some (.slice a5 s.way.length d5)) (by kernel_rfl) (⟨c4, c5⟩) (fun hHeld => ?_)
  refine' wpAnyB_take (i := 0) [0] (v := _) rfl (by kernel_rfl) (fun _ _ _ h => h) (Or.inl ⟨by rfl, ?hyb0⟩) (by assumption) ?restb0
  case hyb0 => (intro w' hSw; (try dsimp only at hSw); go_simp; (try with_reducible rfl))
  try simp only [Act.put, List.getElem_toArray, List.getElem_cons_zero, List.getElem_cons_succ, List.setIfInBounds_toArray, List.set_cons_zero, List.set_cons_succ]
  refine' wpAnyB_take (i := 2) [2] (v := _) rfl (by kernel_rfl) (fun _ _ _ h => h) (Or.inl ⟨by rfl, ?hyb2⟩) (by assumption) ?restb2
  case hyb2 => (intro w' hSw; (try dsimp only at hSw); go_simp; (try with_reducible rfl))
  try simp only [Act.put, List.getElem_toArray, List.getElem_cons_zero, List.getElem_cons_succ, List.setIfInBounds_toArray, List.set_cons_zero, List.set_cons_succ]
  refine' wpAnyB_take (i := 3) [3] (v := _) rfl (by kernel_rfl) (fun _ _ _ h => h) (Or.inl ⟨by rfl, ?hyb3⟩) (by assumption) ?restb3
  case hyb3 => (intro w' hSw; (try dsimp only at hSw); go_simp; (try with_reducible rfl))
  try simp only [Act.put, List.getElem_toArray, List.getElem_cons_zero, List.getElem_cons_succ, List.setIfInBounds_toArray, List.set_cons_zero, List.set_cons_succ]
  refine' wpAnyB_take (i := 4) [4] (v := _) rfl (by kernel_rfl) (fun _ _ _ h => h) (Or.inl ⟨by rfl, ?hyb4⟩) (by assumption) ?restb4
  case hyb4 => (intro w' hSw; (try dsimp only at hSw); go_simp; (try with_reducible rfl))
  try simp only [Act.put, List.getElem_toArray, List.getElem_cons_zero, List.getElem_cons_succ, List.setIfInBounds_toArray, List.set_cons_zero, List.set_cons_succ]
  refine' wpAnyB_take (i := 5) [5] (v := _) rfl (by kernel_rfl) (fun _ _ _ h => h) (Or.inl ⟨by rfl, ?hyb5⟩) (by assumption) ?restb5
  case hyb5 => (intro w' hSw; (try dsimp only at hSw); go_simp; (try with_reducible rfl))
  try simp only [Act.put, List.getElem_toArray, List.getElem_cons_zero, List.getElem_cons_succ, List.setIfInBounds_toArray, List.set_cons_zero, List.set_cons_succ]
  refine' wpAnyB_take (i := 6) [6] (v := _) rfl (by kernel_rfl) (fun _ _ _ h => h) (Or.inl ⟨by rfl, ?hyb6⟩) (by assumption) ?restb6
  case hyb6 => (intro w' hSw; (try dsimp only at hSw); go_simp; (try with_reducible rfl))
  try simp only [Act.put, List.getElem_toArray, List.getElem_cons_zero, List.getElem_cons_succ, List.setIfInBounds_toArray, List.set_cons_zero, List.set_cons_succ]
  refine' wpAnyB_take (i := 9) [12, 11, 10, 9] (v := _) rfl (by kernel_rfl) (fun _ _ _ h => h) (Or.inl ⟨by rfl, ?hyb9⟩) (by assumption) ?restb9
  case hyb9 => (intro w' hSw; (try dsimp only at hSw); go_simp; (try with_reducible rfl))
  try simp only [Act.put, List.getElem_toArray, List.getElem_cons_zero, List.getElem_cons_succ, List.setIfInBounds_toArray, List.set_cons_zero, List.set_cons_succ]
  refine' wpAnyB_take (i := 10) [12, 11, 10] (v := _) rfl (by kernel_rfl) (fun _ _ _ h => h) (Or.inl ⟨by rfl, ?hyb10⟩) (by assumption) ?restb10
  case hyb10 => (intro w' hSw; (try dsimp only at hSw); go_simp; (try with_reducible rfl))
  try simp only [Act.put, List.getElem_toArray, List.getElem_cons_zero, List.getElem_cons_succ, List.setIfInBounds_toArray, List.set_cons_zero, List.set_cons_succ]
  refine' wpAnyB_take (i := 11) [12, 11] (v := _) rfl (by kernel_rfl) (fun _ _ _ h => h) (Or.inl ⟨by rfl, ?hyb11⟩) (by assumption) ?restb11
  case hyb11 => (intro w' hSw; (try dsimp only at hSw); go_simp; (try with_reducible rfl))
  try simp only [Act.put, List.getElem_toArray, List.getElem_cons_zero, List.getElem_cons_succ, List.setIfInBounds_toArray, List.set_cons_zero, List.set_cons_succ]
  refine' wpAnyB_take (i := 12) [12] (v := _) rfl (by kernel_rfl) (fun _ _ _ h => h) (Or.inl ⟨by rfl, ?hyb12⟩) (by assumption) ?restb12
  case hyb12 => (intro w' hSw; (try dsimp only at hSw); go_simp; (try with_reducible rfl))
  try simp only [Act.put, List.getElem_toArray, List.getElem_cons_zero, List.getElem_cons_succ, List.setIfInBounds_toArray, List.set_cons_zero, List.set_cons_succ]
  refine' wpAnyB_take (i := 13) [15, 14, 13] (v := _) rfl (by kernel_rfl) (fun _ _ _ h => h) (Or.inl ⟨by rfl, ?hyb13⟩) (by assumption) ?restb13
  case hyb13 => (intro w' hSw; (try dsimp only at hSw); go_simp; (try with_reducible rfl))
  try simp only [Act.put, List.getElem_toArray, List.getElem_cons_zero, List.getElem_cons_succ, List.setIfInBounds_toArray, List.set_cons_zero, List.set_cons_succ]
  refine' wpAnyB_take0 (i := 1) (v := _) rfl (by kernel_rfl) (fun _ _ _ h => h) (Or.inl ⟨by rfl, ?hyb1⟩) (by assumption) ?restb1
  case hyb1 => (intro w' hSw; go_simp; (try with_reducible rfl))
  try simp only [Act.put, List.getElem_toArray, List.getElem_cons_zero, List.getElem_cons_succ, List.setIfInBounds_toArray, List.set_cons_zero, List.set_cons_succ]
  refine wpAnyB_phase [7, 8, 14, 15] (fun i => if i = 7 then 38 else if i = 8 then 39 else if i = 14 then 45 else 46) #[true, true, true, true, true, true, true, true, true, true, true, true, true, true, true, true, false, false, false, false, false, false] 6
    (fun l V w => l.size = 22 ∧ PairJ 7 8 14 15 38 39 45 46 3 w2 (.slice a4 s.stack.length d4) (.slice a5 s.way.length d5) (natsOf s.stack) (natsOf s.way) (.int .i64 (y : Int)) l V w) (by kernel_rfl) (by kernel_rfl) rfl ?c1 ?c2 ?c3 ?c4
  case c1 => exact ⟨by kernel_rfl, PairJ.start (Kept.refl _ w2).drew HO4.out HO5.out (by kernel_rfl) (by kernel_rfl) (by kernel_rfl) (by kernel_rfl)⟩
  case c2 =>
    rintro l V w ⟨_, hJ⟩
    exact ⟨hJ.kept.cellSome HC4.out (fun e => e.elim hof4.out hof5.out), hJ.kept.cellSome HC5.out (fun e => e.elim hof4.out hof5.out)⟩
  case c3 =>
    rintro l V w i o hl hcl hi ho hr ⟨hl', hJ⟩ K hK
    clear hHeld c4 c5
    simp only [List.mem_cons, List.not_mem_nil, or_false] at hi
    rcases hi with rfl | rfl | rfl | rfl
    · simp only [List.getElem?_toArray, List.getElem?_cons_succ, List.getElem?_cons_zero, Option.some.injEq] at ho
      subst ho
      refine op_value (v := .slice (some ⟨w.heap.size, 0, none⟩) 1 1) (w' := w.alloc (.cells #[.int .i64 (y : Int)] 3)) ?_ (hK _ _ ⟨by rw [Array.size_setIfInBounds]; exact hl', hJ.laid hlt4.out hlt5.out (.inl ⟨rfl, rfl⟩) (by decide) (by decide) (by decide) (by decide) (by decide) (by decide)⟩)
      clear hK
      simp only [List.map_cons, List.map_nil, putAll, Act.put, List.setIfInBounds_toArray, List.set_cons_zero, List.set_cons_succ]
      go_simp
    · have hw7 := ready_waits (l := [5, 7]) (by kernel_rfl) hr
      have h8 := false_of (ready_new hr)
      obtain ⟨q, hq1, hq2, _⟩ := hJ.lit1 (hw7 7 (by simp)) h8
      have h15 : l.getD 15 false = false := by
        by_cases hb : l.getD 15 false = true
        · have := closed_path hcl [8] 15 (by kernel_rfl) hb
          rw [show lastOf 15 [8] = 8 from rfl, h8] at this; cases this
        · simpa using hb
      simp only [List.getElem?_toArray, List.getElem?_cons_succ, List.getElem?_cons_zero, Option.some.injEq] at ho
      subst ho
      refine op_append (.tmp 36) (.tmp 38) 22 rfl 3 i0 (.int .i64 0) 8 Try.underlying22 hi0 hz0 hz1 hz2 rfl (by decide) (.slice a4 s.stack.length d4) _ _ rfl (hJ.old1 h8) ⟨q, 0, none⟩ (.int .i64 (y : Int)) rfl ?_ hq2 (by rw [natsOf_len]; omega)
        (fun v' w' k1 k2 k3 => hK v' w' ⟨by rw [Array.size_setIfInBounds]; exact hl', hJ.first hlt4.out hap.out (by rw [hl']; decide) h15 (by decide) (by decide) (by decide) (by decide) (by decide) k1 k2 k3⟩)
      rw [← hq1]; rfl
    · simp only [List.getElem?_toArray, List.getElem?_cons_succ, List.getElem?_cons_zero, Option.some.injEq] at ho
      subst ho
      refine op_value (v := .slice (some ⟨w.heap.size, 0, none⟩) 1 1) (w' := w.alloc (.cells #[.int .i64 (y : Int)] 3)) ?_ (hK _ _ ⟨by rw [Array.size_setIfInBounds]; exact hl', hJ.laid hlt4.out hlt5.out (.inr ⟨rfl, rfl⟩) (by decide) (by decide) (by decide) (by decide) (by decide) (by decide)⟩)
      clear hK
      simp only [List.map_cons, List.map_nil, putAll, Act.put, List.setIfInBounds_toArray, List.set_cons_zero, List.set_cons_succ]
      go_simp
    · have hw7 := ready_waits (l := [8, 14]) (by kernel_rfl) hr
      have h15 := false_of (ready_new hr)
      obtain ⟨q, hq1, hq2, _⟩ := hJ.lit2 (hw7 14 (by simp)) h15
      simp only [List.getElem?_toArray, List.getElem?_cons_succ, List.getElem?_cons_zero, Option.some.injEq] at ho
      subst ho
      refine op_append (.tmp 43) (.tmp 45) 22 rfl 3 i0 (.int .i64 0) 8 Try.underlying22 hi0 hz0 hz1 hz2 rfl (by decide) (.slice a5 s.way.length d5) _ _ rfl (hJ.old2 h15) ⟨q, 0, none⟩ (.int .i64 (y : Int)) rfl ?_ hq2 (by rw [natsOf_len]; omega)
        (fun v' w' k1 k2 k3 => hK v' w' ⟨by rw [Array.size_setIfInBounds]; exact hl', hJ.second hlt5.out hap.out (by rw [hl']; decide) (hw7 8 (by simp)) (by decide) (by decide) (by decide) (by decide) k1 k2 k3⟩)
      rw [← hq1]; rfl
  case c4 =>
    rintro V wz ⟨_, hJ⟩
    change wpAnyB _ _ _ _ _ _ _ _ (putAll _ [38, 39, 45, 46] V) wz
    simp only [List.map_cons, List.map_nil, putAll, Act.put, List.setIfInBounds_toArray, List.set_cons_zero, List.set_cons_succ]
    obtain ⟨n1, m1⟩ := hJ.new1 rfl
    obtain ⟨n2, m2, hne⟩ := hJ.new2 rfl
    have q4 := hJ.kept.cellSome HC4.out (fun e => e.elim hof4.out hof5.out)
    have q5 := hJ.kept.cellSome HC5.out (fun e => e.elim hof4.out hof5.out)
    have p4 := (World.frozen?_of_block (hJ.kept.block g HS.out.str.lt (fun e => e.elim hof4.out hof5.out))).trans (HS.out.str.froz 4)
    have p5 := (World.frozen?_of_block (hJ.kept.block g HS.out.str.lt (fun e => e.elim hof4.out hof5.out))).trans (HS.out.str.froz 5)
    have HK := Lib.hid hJ.kept
    clear hHeld c4 c5 hJ
    generalize V 39 = v39 at *
    generalize V 46 = v46 at *
    generalize V 38 = v38 at *
    generalize V 45 = v45 at *
    obtain ⟨a39, d39, rfl, _⟩ := n1.shape
    obtain ⟨a46, d46, rfl, _⟩ := n2.shape
    have HD := Lib.hid (HS.out.pair (by rw [hv4.out, hv5.out]; exact HK.out) n1 (by rw [hv4.out]; exact m1) n2 (by rw [hv5.out]; exact m2) hne)
    clear n1 m1 n2 m2 hne
    have hHeld := And.intro q4 q5
    refine' wpAnyB_take0 (i := 16) (v := _) rfl (by kernel_rfl) (fun _ _ _ h => h) (Or.inl ⟨by rfl, ?hyc16⟩) (by assumption) ?restc16
    case hyc16 => (intro w' hSw; go_simp; (try with_reducible rfl))
    try simp only [Act.put, List.getElem_toArray, List.getElem_cons_zero, List.getElem_cons_succ, List.setIfInBounds_toArray, List.set_cons_zero, List.set_cons_succ]
    refine' wpAnyB_take0 (i := 17) (v := _) rfl (by kernel_rfl) (fun _ _ _ h => h) (Or.inl ⟨by rfl, ?hyc17⟩) (by assumption) ?restc17
    case hyc17 => (intro w' hSw; go_simp; (try with_reducible rfl))
    try simp only [Act.put, List.getElem_toArray, List.getElem_cons_zero, List.getElem_cons_succ, List.setIfInBounds_toArray, List.set_cons_zero, List.set_cons_succ]
    refine wpAnyB_ready (rs := [18]) (by kernel_rfl) (by simp) (AllReadyB.cons rfl (fun K hK => ?_) AllReadyB.nil)
    go_simp
    refine hK.out _ _ (fun e => nomatch e) ?_
    clear hK K
    try simp only [Act.put, List.getElem_toArray, List.getElem_cons_zero, List.getElem_cons_succ, List.setIfInBounds_toArray, List.set_cons_zero, List.set_cons_succ]
    refine wpAnyB_ready (rs := [19]) (by kernel_rfl) (by simp) (AllReadyB.cons rfl (fun K hK => ?_) AllReadyB.nil)
    go_simp
    refine hK.out _ _ (fun e => nomatch e) ?_
    clear hK K
    try simp only [Act.put, List.getElem_toArray, List.getElem_cons_zero, List.getElem_cons_succ, List.setIfInBounds_toArray, List.set_cons_zero, List.set_cons_succ]
    refine wpAnyB_ready (rs := [20]) (by kernel_rfl) (by simp) (AllReadyB.cons rfl (fun K hK => ?_) AllReadyB.nil)
    go_simp
    refine hK.out _ _ (fun e => nomatch e) ?_
    clear hK K
    try simp only [Act.put, List.getElem_toArray, List.getElem_cons_zero, List.getElem_cons_succ, List.setIfInBounds_toArray, List.set_cons_zero, List.set_cons_succ]
    refine wpAnyB_ready (rs := [21]) (by kernel_rfl) (by simp) (AllReadyB.cons rfl (fun K hK => ?_) AllReadyB.nil)
    go_simp
    refine hK.out _ _ (fun e => nomatch e) ?_
    clear hK K
    try simp only [Act.put, List.getElem_toArray, List.getElem_cons_zero, List.getElem_cons_succ, List.setIfInBounds_toArray, List.set_cons_zero, List.set_cons_succ]
    refine wpAnyB_done (by kernel_rfl) ?_
    clear hHeld q4 q5 p4 p5 HK HC4 HC5 HO4 HO5 hof4 hof5 hlt4 hlt5 hap hv4 hv5 HS
    generalize (wz.setCell ⟨g, 4, none⟩ (.slice a39 ((natsOf s.stack).length + 1) d39)).setCell ⟨g, 5, none⟩ (.slice a46 ((natsOf s.way).length + 1) d46) = w3 at *
    obtain ⟨F3, ⟨C3, X3, h3⟩, k3, f3⟩ := HD.out
    clear HD
    obtain ⟨b6, d6, E6, cc6, _⟩ := h3.arr 6 ⟨by decide, by decide⟩ (by rw [h3.inn, boolsOf_len]) (by have := HY.out; omega)
    have c6 := h3.str.cell 6 (by decide)
    rw [E6] at c6
    have y6 := cc6 y HY.out
    rw [h3.inn, boolsOf_at _ _ _ HY.out] at y6
    obtain ⟨y6a, y6b⟩ := y6
    have h4 := h3.setInn E6 y true HY.out
    have HF : Hid (SDone g ev n (s.come y) F w (w3.setCell ⟨b6, y, none⟩ (.bool true))) := by
      have k12 := K1.out.trans K2.out
      have hs := k12.size
      refine ⟨F3, ⟨_, _, h4⟩, (k12.trans k3).setCell (fun hlt => ?_) _, fun b hb => (f3 b hb).imp id (fun hle => by omega)⟩
      exact (f3 b6 (h3.foot b6 (.inr ⟨6, ⟨by decide, by decide⟩, by rw [E6]; rfl⟩))).elim id (fun hle => by have : b6 < w.heap.size := hlt; omega)
    clear h3 h4 E6 cc6 k3 f3 K1 K2
    go_wp2
    go_end0
    exact ⟨rfl, HF.out⟩
end Go.Proofs.Ytnkfmhhfeaohbaa
