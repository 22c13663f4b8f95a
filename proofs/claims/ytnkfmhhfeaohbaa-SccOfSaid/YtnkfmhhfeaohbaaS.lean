/- The walk of the law SccOf. -/
import Derived.Test.YtnkfmhhfeaohbaaR
import Derived.Test.YtnkfmhhfeaohbaaK
import Derived.Test.YtnkfmhhfeaohbaaB
namespace Go.Proofs.Ytnkfmhhfeaohbaa
open Go.RowKit Go.Own

set_option maxHeartbeats 2000000 in
theorem sccOf_law (vi vl : Value) (ae : Option Addr) (n ce : Nat) (E : List (List Int)) (w : World) (hE : E.length = n) (he : EdgesAt w ae E) (hn : n ≤ 9223372036854775807) (hrow : ∀ i, i < E.length → (E.getD i []).length ≤ 140737488355328) :
    Calls Try.prog 3 #[.agg #[vi, .slice ae n ce, vl]] w fun e w' => e = .returned (.bool true) ∧ Below w.heap.size w w' := by
  have HE := Lib.hid hE
  have HED : Hid (∀ W, Below w.heap.size w W → EdgesAt W ae E) := fun W h => he.below h
  have HF : Hid (∀ W, Below w.heap.size w W → Calls Try.prog 8 #[.agg #[vi, .slice ae n ce, vl]] W (FarDone E W)) := fun W h => far_any vi vl ae n ce E W hE (he.below h) hn hrow
  have HB : Hid (∀ W, W = w.alloc (.cells #[vi, .slice ae n ce, vl] 26) → Below w.heap.size w W ∧ W.cell? ⟨w.heap.size, 0, none⟩ = some vi ∧ W.cell? ⟨w.heap.size, 1, none⟩ = some (.slice ae n ce) ∧ W.cell? ⟨w.heap.size, 2, none⟩ = some vl) := by
    rintro W rfl
    exact ⟨(Below.refl _ w).alloc (Nat.le_refl _) _, World.cell?_alloc_at (w := w) _ 26 w.heap.size 0 rfl, World.cell?_alloc_at (w := w) _ 26 w.heap.size 1 rfl, World.cell?_alloc_at (w := w) _ 26 w.heap.size 2 rfl⟩
  clear he hrow hE
  go_enter Try.func3, Try.ntmps3
  go_upto_region 1 with (fail)
  obtain ⟨hB1, c0, c1, c2⟩ := HB.out _ rfl
  have HB1 := Lib.hid hB1
  clear HB hB1
  generalize w.alloc (.cells #[vi, .slice ae n ce, vl] 26) = w1 at *
  have HC : Hid (∀ W, Below w1.heap.size w1 W → W.cell? ⟨w.heap.size, 0, none⟩ = some vi ∧ W.cell? ⟨w.heap.size, 1, none⟩ = some (.slice ae n ce) ∧ W.cell? ⟨w.heap.size, 2, none⟩ = some vl) := fun W h => ⟨(h.cell (World.block_lt_of_cell? w1 _ c0)).trans c0, (h.cell (World.block_lt_of_cell? w1 _ c1)).trans c1, (h.cell (World.block_lt_of_cell? w1 _ c2)).trans c2⟩
  go_wp2_with (go_at_call 8; refine (HF.out w1 HB1.out).mono ?_; rintro e w2 ⟨b, rfl, hb, hbel⟩; have HFB := Lib.hid hb; have HBX := Lib.hid hbel; have HB2 := Lib.hid (HB1.out.trans (hbel.mono HB1.out.size)); clear hb hbel)
  · clear c0 c1 c2
    refine (lives_any w2).mono ?_
    rintro e w3 ⟨rfl, hb⟩
    have HB3 := Lib.hid hb
    clear hb
    go_wp2_with fail
    go_ret
    exact ⟨rfl, HB2.out.trans (HB3.out.mono HB2.out.size)⟩
  · have hbf : b = false := by first | assumption | simp_all
    subst hbf
    obtain ⟨h60, hr2⟩ := HFB.out rfl
    have hn60 : n ≤ 1000000 := by rw [← HE.out]; omega
    have HOF : Hid (∀ W, Below w.heap.size w W → Calls Try.prog 11 #[.agg #[vi, .slice ae n ce, vl]] W (OfDone E W)) := fun W h => of_any vi vl ae n ce E W HE.out (HED.out W h) hn60 (fun i hi => by have := hr2 i hi; omega)
    have HRF : Hid (∀ W, Below w.heap.size w W → Calls Try.prog 12 #[.agg #[vi, .slice ae n ce, vl]] W (OfDone E W)) := fun W h => refOf_any vi vl ae n ce E W HE.out (HED.out W h) hn60 (fun i hi => by have := hr2 i hi; omega)
    have hle : Hid (E.length ≤ 9223372036854775807) := by show _ ≤ _; omega
    have hB2 := HB2.out.drew
    obtain ⟨e0, e1, e2⟩ := HC.out w2 HBX.out
    clear c0 c1 c2 h60 hr2 HFB
    refine wp_region_held_drew (S := fun W => W.cell? ⟨w.heap.size, 0, none⟩ = some vi ∧ W.cell? ⟨w.heap.size, 1, none⟩ = some (.slice ae n ce) ∧ W.cell? ⟨w.heap.size, 2, none⟩ = some vl) (by kernel_rfl) (⟨e0, e1, e2⟩) (fun hHeld => ?_)
    refine' wpAnyH_take (i := 0) (v := _) rfl (by kernel_rfl) (by kernel_rfl) (by kernel_rfl) (fun _ _ _ h => h) (Or.inl ⟨by rfl, ?hy0⟩) (by assumption) ?rest0
    case hy0 => (intro w' hSw; (try dsimp only at hSw); go_simp; (try with_reducible rfl))
    try simp only [Act.put, List.getElem_toArray, List.getElem_cons_zero, List.getElem_cons_succ, List.setIfInBounds_toArray, List.set_cons_zero, List.set_cons_succ]
    refine' wpAnyH_take (i := 2) (v := _) rfl (by kernel_rfl) (by kernel_rfl) (by kernel_rfl) (fun _ _ _ h => h) (Or.inl ⟨by rfl, ?hy2⟩) (by assumption) ?rest2
    case hy2 => (intro w' hSw; (try dsimp only at hSw); go_simp; (try with_reducible rfl))
    try simp only [Act.put, List.getElem_toArray, List.getElem_cons_zero, List.getElem_cons_succ, List.setIfInBounds_toArray, List.set_cons_zero, List.set_cons_succ]
    refine wpAnyH_ready (rs := [1]) (by kernel_rfl) (by simp) (AllReadyH.cons rfl (fun K hK => ?_) AllReadyH.nil)
    go_simp
    refine (HOF.out _ hB2).mono ?_; rintro e w3 ⟨a3, c3, rfl, h3⟩; have hB3 := hB2.trans ((made_below h3).mono hB2.size); have S3 := HC.out w3 (HBX.out.drew.trans ((made_below h3).mono HBX.out.drew.size))
    refine hK.out _ _ (S3) (fun hHeld => ?_)
    clear hK K
    try simp only [Act.put, List.getElem_toArray, List.getElem_cons_zero, List.getElem_cons_succ, List.setIfInBounds_toArray, List.set_cons_zero, List.set_cons_succ]
    refine wpAnyH_ready (rs := [3]) (by kernel_rfl) (by simp) (AllReadyH.cons rfl (fun K hK => ?_) AllReadyH.nil)
    go_simp
    refine (HRF.out _ hB3).mono ?_; rintro e w4 ⟨a4, c4, rfl, h4⟩; have hB4 := hB3.trans ((made_below h4).mono hB3.size); have S4 := HC.out w4 ((HBX.out.drew.trans ((made_below h3).mono HBX.out.drew.size)).trans ((made_below h4).mono (Nat.le_trans HBX.out.drew.size (made_below h3).size)))
    refine hK.out _ _ (S4) (fun hHeld => ?_)
    clear hK K
    try simp only [Act.put, List.getElem_toArray, List.getElem_cons_zero, List.getElem_cons_succ, List.setIfInBounds_toArray, List.set_cons_zero, List.set_cons_succ]
    have B4 := (HBX.out.drew.trans ((made_below h3).mono HBX.out.drew.size)).trans ((made_below h4).mono (Nat.le_trans HBX.out.drew.size (made_below h3).size))
    have HSM := Lib.hid (same_any a3 a4 E.length c3 E.length c4 (sccOf E) (sccOf E) w4 ((made_rowAt h3).below (made_below h4)) (made_rowAt h4) hle.out hle.out)
    rw [decide_eq_true rfl] at HSM
    refine wpAnyH_ready (rs := [4]) (by kernel_rfl) (by simp) (AllReadyH.cons rfl (fun K hK => ?_) AllReadyH.nil)
    go_simp
    refine HSM.out.mono ?_; rintro e w5 ⟨rfl, h5⟩; have B5 := B4.trans (h5.mono B4.size); have hB5 := hB4.trans (h5.mono hB4.size); have S5 := HC.out w5 B5
    refine hK.out _ _ (S5) (fun hHeld => ?_)
    clear hK K
    try simp only [Act.put, List.getElem_toArray, List.getElem_cons_zero, List.getElem_cons_succ, List.setIfInBounds_toArray, List.set_cons_zero, List.set_cons_succ]
    refine' wpAnyH_take (i := 5) (v := _) rfl (by kernel_rfl) (by kernel_rfl) (by kernel_rfl) (fun _ _ _ h => h) (Or.inl ⟨by rfl, ?hyz5⟩) (by assumption) ?restz5
    case hyz5 => (intro w' hSw; (try dsimp only at hSw); go_simp; (try with_reducible rfl))
    try simp only [Act.put, List.getElem_toArray, List.getElem_cons_zero, List.getElem_cons_succ, List.setIfInBounds_toArray, List.set_cons_zero, List.set_cons_succ]
    refine wpAnyH_ready (rs := [6]) (by kernel_rfl) (by simp) (AllReadyH.cons rfl (fun K hK => ?_) AllReadyH.nil)
    go_simp
    refine (lives_any w5).mono ?_; rintro e w6 ⟨rfl, h6⟩; have B6 := B5.trans (h6.mono B5.size); have hB6 := hB5.trans (h6.mono hB5.size); have S6 := HC.out w6 B6
    refine hK.out _ _ (S6) (fun hHeld => ?_)
    clear hK K
    try simp only [Act.put, List.getElem_toArray, List.getElem_cons_zero, List.getElem_cons_succ, List.setIfInBounds_toArray, List.set_cons_zero, List.set_cons_succ]
    refine' wpAnyH_take (i := 7) (v := _) rfl (by kernel_rfl) (by kernel_rfl) (by kernel_rfl) (fun _ _ _ h => h) (Or.inl ⟨by rfl, ?hyy7⟩) (by assumption) ?resty7
    case hyy7 => (intro w' hSw; (try dsimp only at hSw); go_simp; (try with_reducible rfl))
    try simp only [Act.put, List.getElem_toArray, List.getElem_cons_zero, List.getElem_cons_succ, List.setIfInBounds_toArray, List.set_cons_zero, List.set_cons_succ]
    refine wpAnyH_ready (rs := [8]) (by kernel_rfl) (by simp) (AllReadyH.cons rfl (fun K hK => ?_) AllReadyH.nil)
    go_simp
    
    refine hK.out _ _ (S6) (fun hHeld => ?_)
    clear hK K
    try simp only [Act.put, List.getElem_toArray, List.getElem_cons_zero, List.getElem_cons_succ, List.setIfInBounds_toArray, List.set_cons_zero, List.set_cons_succ]
    refine wpAnyH_done (by kernel_rfl) ?_ _
    clear HOF HRF HSM
    go_wp2_with fail
    go_ret
    exact ⟨rfl, hB6⟩
end Go.Proofs.Ytnkfmhhfeaohbaa
