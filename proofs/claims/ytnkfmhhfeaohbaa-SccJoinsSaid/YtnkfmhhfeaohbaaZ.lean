/- The walk of the law SccParts. -/
import Derived.Test.YtnkfmhhfeaohbaaR
import Derived.Test.YtnkfmhhfeaohbaaY
import Derived.Test.YtnkfmhhfeaohbaaB
import Derived.Deep.RegionHeld3
namespace Go.Proofs.Ytnkfmhhfeaohbaa
open Go.RowKit Go.Own

theorem ps_rd {w2 w : World} {aV : Value} {a : Option Addr} {c : Nat} {V : Nat → Value} {n R : Nat} {A : Nat → Nat} {X : Nat → List Int} (h : PS w2 w aV (.slice a R c) V n R A X) (k : Nat) (hk : k < R) :
    ∃ g ar cr, a = some ⟨g, 0, none⟩ ∧ w.cell? ⟨g, k, none⟩ = some (.slice ar (X k).length cr) ∧ RowAt .i64 w ar (X k).length (X k) := by
  obtain ⟨g, c', e, hc⟩ := h.at (by omega)
  cases e
  have h1 := h.row k hk
  obtain ⟨ar, cr, e, _⟩ := h1.shape
  refine ⟨g, ar, cr, rfl, by rw [(hc k hk).1, e], ?_⟩
  rw [e] at h1
  exact (SlO.of h1).rowAt

set_option maxHeartbeats 2000000 in
theorem sccParts_law (vi vl : Value) (ae : Option Addr) (n ce : Nat) (E : List (List Int)) (w : World) (hE : E.length = n) (he : EdgesAt w ae E) (hn : n ≤ 9223372036854775807) (hrow : ∀ i, i < E.length → (E.getD i []).length ≤ 140737488355328) :
    Calls Try.prog 4 #[.agg #[vi, .slice ae n ce, vl]] w fun e w' => e = .returned (.bool true) ∧ Below w.heap.size w w' := by
  have HE := Lib.hid hE
  have HED : Hid (∀ W, Below w.heap.size w W → EdgesAt W ae E) := fun W h => he.below h
  have HF : Hid (∀ W, Below w.heap.size w W → Calls Try.prog 8 #[.agg #[vi, .slice ae n ce, vl]] W (FarDone E W)) := fun W h => far_any vi vl ae n ce E W hE (he.below h) hn hrow
  have HB : Hid (∀ W, W = w.alloc (.cells #[vi, .slice ae n ce, vl] 26) → Below w.heap.size w W ∧ W.cell? ⟨w.heap.size, 0, none⟩ = some vi ∧ W.cell? ⟨w.heap.size, 1, none⟩ = some (.slice ae n ce) ∧ W.cell? ⟨w.heap.size, 2, none⟩ = some vl) := by
    rintro W rfl
    exact ⟨(Below.refl _ w).alloc (Nat.le_refl _) _, World.cell?_alloc_at (w := w) _ 26 w.heap.size 0 rfl, World.cell?_alloc_at (w := w) _ 26 w.heap.size 1 rfl, World.cell?_alloc_at (w := w) _ 26 w.heap.size 2 rfl⟩
  clear he hrow hE
  go_enter Try.func4, Try.ntmps4
  go_upto_region 1 with (fail)
  obtain ⟨hB1, c0, c1, c2⟩ := HB.out _ rfl
  have HB1 := Lib.hid hB1
  clear HB hB1
  generalize w.alloc (.cells #[vi, .slice ae n ce, vl] 26) = w1 at *
  have HC : Hid (∀ W, Hid (Below w1.heap.size w1 W) → W.cell? ⟨w.heap.size, 0, none⟩ = some vi ∧ W.cell? ⟨w.heap.size, 1, none⟩ = some (.slice ae n ce) ∧ W.cell? ⟨w.heap.size, 2, none⟩ = some vl ∧ Hid (Below w1.heap.size w1 W)) := fun W h => ⟨(h.out.cell (World.block_lt_of_cell? w1 _ c0)).trans c0, (h.out.cell (World.block_lt_of_cell? w1 _ c1)).trans c1, (h.out.cell (World.block_lt_of_cell? w1 _ c2)).trans c2, h⟩
  go_wp2_with (go_at_call 8; refine (HF.out w1 HB1.out).mono ?_; rintro e w2 ⟨b, rfl, hb, hbel⟩; have HFB := Lib.hid hb; have HBX := Lib.hid hbel; clear hb hbel)
  · clear c0 c1 c2
    refine (lives_any w2).mono ?_
    rintro e w3 ⟨rfl, hb⟩
    have HB3 := Lib.hid hb
    clear hb
    go_wp2_with fail
    go_ret
    exact ⟨rfl, HB1.out.trans ((HBX.out.trans (HB3.out.mono HBX.out.size)).mono HB1.out.size)⟩
  · have hbf : b = false := by first | assumption | simp_all
    subst hbf
    obtain ⟨h60, hr2⟩ := HFB.out rfl
    have hn60 : n ≤ 1000000 := by rw [← HE.out]; omega
    have HPA : Hid (∀ W, Below w.heap.size w W → Calls Try.prog 13 #[.agg #[vi, .slice ae n ce, vl]] W (PartsDone E n W)) := fun W h => parts_any vi vl ae n ce E W HE.out (HED.out W h) hn60 (fun i hi => by have := hr2 i hi; omega)
    have HRP : Hid (∀ W, Below w.heap.size w W → Calls Try.prog 14 #[.agg #[vi, .slice ae n ce, vl]] W (RefPartsDone E n W)) := fun W h => refParts_any vi vl ae n ce E W HE.out (HED.out W h) hn60 (fun i hi => by have := hr2 i hi; omega)
    have HTR : Hid (∀ W, Hid (Below w1.heap.size w1 W) → Below w.heap.size w W) := fun W h => HB1.out.trans (h.out.mono HB1.out.size)
    have H0 : Hid (Below w1.heap.size w1 w2.drew) := HBX.out.drew
    have hgl : Hid (∀ i, (grpRow (lead E) n i).length ≤ n) := fun i => grp_len _ _ _
    have hcn := cntL_le (lead E) n
    clear c0 c1 c2 h60 hr2 HFB HED HF
    unfold PartsDone at HPA
    unfold RefPartsDone at HRP
    generalize cntL (lead E) n = R at *
    generalize grpRow (lead E) n = X at *
    go_region_held3 (fun W => W.cell? ⟨w.heap.size, 0, none⟩ = some vi ∧ W.cell? ⟨w.heap.size, 1, none⟩ = some (.slice ae n ce) ∧ W.cell? ⟨w.heap.size, 2, none⟩ = some vl ∧ Hid (Below w1.heap.size w1 W))
      (first | exact HC.out _ H0 | exact HC.out _ (by assumption))
      (first
        | (go_at_call 13; refine (HPA.out _ (HTR.out _ H0)).mono ?_; rintro e w3 ⟨a3, c3, aV, V3, A3, rfl, h3⟩; have H3 : Hid (Below w1.heap.size w1 w3) := H0.out.trans (h3.old.mono H0.out.size); have HA3 := Lib.hid h3; clear h3)
        | (go_at_call 14; refine (HRP.out _ (HTR.out _ H3)).mono ?_; rintro e w4 ⟨a4, c4, V4, rfl, h4⟩; have H4 : Hid (Below w1.heap.size w1 w4) := H3.out.trans (h4.old.mono H3.out.size); have HA4 := Lib.hid (HA3.out.below h4.old); have HA5 := Lib.hid h4; clear h4))
    clear HPA HRP H0 H3 HA3
    go_wp2_with fail
    go_loopw [20] (fun x wr => ∃ k : Nat, k ≤ R ∧ x = .int .i64 k ∧ Hid (Below w4.heap.size w4 wr)) (fun x _ => R - (intOf x).toNat)
    case atStart => exact ⟨0, Nat.zero_le _, rfl, Below.refl _ _⟩
    case round =>
      obtain ⟨k, hk, rfl, hb⟩ := hrel
      by_cases hlt : k < R
      · have hltI : (k : Int) < (R : Int) := by omega
        obtain ⟨g, ar, cr, rfl, k0, hr0⟩ := ps_rd (HA4.out.below hb.out) k hlt
        obtain ⟨g', ar', cr', rfl, k1, hr1⟩ := ps_rd (HA5.out.below hb.out) k hlt
        have hml := hgl.out k
        have HSM := Lib.hid fun (W : World) (h : Below wr.heap.size wr W) => same_any ar ar' (X k).length cr (X k).length cr' (X k) (X k) W (hr0.below h) (hr1.below h) (by omega) (by omega)
        rw [decide_eq_true rfl] at HSM
        generalize (X k).length = m at *
        have H5 : Hid (Below wr.heap.size wr wr.drew) := (Below.refl _ _).drew
        have HC2 : Hid (∀ W, Hid (Below wr.heap.size wr W) → W.cell? ⟨g, k, none⟩ = some (.slice ar m cr) ∧ W.cell? ⟨g', k, none⟩ = some (.slice ar' m cr') ∧ Hid (Below wr.heap.size wr W)) := fun W h => ⟨(h.out.cell (World.block_lt_of_cell? wr _ k0)).trans k0, (h.out.cell (World.block_lt_of_cell? wr _ k1)).trans k1, h⟩
        clear hr0 hr1 HA4 HA5
        go_upto_region 9 with (fail)
        go_region_held3 (fun W => W.cell? ⟨g, k, none⟩ = some (.slice ar m cr) ∧ W.cell? ⟨g', k, none⟩ = some (.slice ar' m cr') ∧ Hid (Below wr.heap.size wr W))
          (first | exact HC2.out _ H5 | exact HC2.out _ (by assumption))
          (first | (go_at_call 10; refine (HSM.out _ H5.out).mono ?_; rintro e w6 ⟨rfl, h6⟩; have H6 : Hid (Below wr.heap.size wr w6) := H5.out.trans (h6.mono H5.out.size); clear h6))
        go_wp2_with fail
        go_roundw
        case rel => exact ⟨k + 1, by omega, by go_num, hb.out.trans (H6.out.mono hb.out.size)⟩
        case measure => simp [intOf]; omega
      · obtain rfl : R = k := by omega
        go_wp2_with (go_at_call 9; refine (lives_any wr).mono ?_; rintro e w5 ⟨rfl, hb5⟩; have HB5 := Lib.hid hb5; clear hb5)
        go_ret
        have h1 := H4.out.trans (hb.out.mono H4.out.size)
        have h2 := h1.trans (HB5.out.mono h1.size)
        exact ⟨rfl, HB1.out.trans (h2.mono HB1.out.size)⟩
end Go.Proofs.Ytnkfmhhfeaohbaa
