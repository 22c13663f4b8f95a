/- The walk of the law SccJoins. -/
import Derived.Test.YtnkfmhhfeaohbaaR
import Derived.Test.YtnkfmhhfeaohbaaZ
import Derived.Test.YtnkfmhhfeaohbaaW
import Derived.Test.YtnkfmhhfeaohbaaAd
import Derived.Test.YtnkfmhhfeaohbaaAg
import Derived.Test.YtnkfmhhfeaohbaaB
import Derived.Deep.RegionHeld3
namespace Go.Proofs.Ytnkfmhhfeaohbaa
open Go.RowKit Go.Own

theorem Try.info38 : (Try.prog.info? 38).map (fun i => (i.zero, i.size, i.bytes)) = some (some (.slice none 0 0), 1, 24) := by kernel_rfl
theorem Try.info40 : (Try.prog.info? 40).map (fun i => (i.zero, i.size, i.bytes)) = some (some (.agg #[.int .i64 0, .int .i64 0]), 2, 16) := by kernel_rfl

set_option maxRecDepth 100000 in
set_option maxHeartbeats 8000000 in
theorem sccJoins_law (vi vl : Value) (ae : Option Addr) (n ce : Nat) (E : List (List Int)) (w : World) (hE : E.length = n) (he : EdgesAt w ae E) (hn : n ≤ 9223372036854775807) (hrow : ∀ i, i < E.length → (E.getD i []).length ≤ 140737488355328) :
    Calls Try.prog 7 #[.agg #[vi, .slice ae n ce, vl]] w fun e w' => e = .returned (.bool true) ∧ Below w.heap.size w w' := by
  have HE := Lib.hid hE
  have HED : Hid (∀ W, Below w.heap.size w W → EdgesAt W ae E) := fun W h => he.below h
  have HF : Hid (∀ W, Below w.heap.size w W → Calls Try.prog 8 #[.agg #[vi, .slice ae n ce, vl]] W (FarDone E W)) := fun W h => far_any vi vl ae n ce E W hE (he.below h) hn hrow
  have HB : Hid (∀ W, W = w.alloc (.cells #[vi, .slice ae n ce, vl] 26) → Below w.heap.size w W ∧ W.cell? ⟨w.heap.size, 0, none⟩ = some vi ∧ W.cell? ⟨w.heap.size, 1, none⟩ = some (.slice ae n ce) ∧ W.cell? ⟨w.heap.size, 2, none⟩ = some vl) := by
    rintro W rfl
    exact ⟨(Below.refl _ w).alloc (Nat.le_refl _) _, World.cell?_alloc_at (w := w) _ 26 w.heap.size 0 rfl, World.cell?_alloc_at (w := w) _ 26 w.heap.size 1 rfl, World.cell?_alloc_at (w := w) _ 26 w.heap.size 2 rfl⟩
  clear he hrow hE
  obtain ⟨i38, hi38, hz38, hs38, hb38⟩ := info_parts Try.info38
  obtain ⟨i40, hi40, hz40, hs40, hb40⟩ := info_parts Try.info40
  have hmm := @run_makeMap Try.prog
  go_enter Try.func7, Try.ntmps7
  go_upto_region 1 with (fail)
  obtain ⟨hB1, c0, c1, c2⟩ := HB.out _ rfl
  have HB1 := Lib.hid hB1
  clear HB hB1
  generalize w.alloc (.cells #[vi, .slice ae n ce, vl] 26) = w1 at *
  have HC : Hid (∀ W, Hid (Below w1.heap.size w1 W) → W.cell? ⟨w.heap.size, 0, none⟩ = some vi ∧ W.cell? ⟨w.heap.size, 1, none⟩ = some (.slice ae n ce) ∧ W.cell? ⟨w.heap.size, 2, none⟩ = some vl ∧ Hid (Below w1.heap.size w1 W)) := fun W h => ⟨(h.out.cell (World.block_lt_of_cell? w1 _ c0)).trans c0, (h.out.cell (World.block_lt_of_cell? w1 _ c1)).trans c1, (h.out.cell (World.block_lt_of_cell? w1 _ c2)).trans c2, h⟩
  go_wp2_with (go_at_call 8; refine (HF.out w1 HB1.out).mono ?_; rintro e w2 ⟨b, rfl, hb, hbel⟩; have HFB := Lib.hid hb; have HBX := Lib.hid hbel; clear hb hbel)
  · clear c0 c1 c2
    refine (lives_any w2).mono ?_
    rintro e w3 ⟨rfl, hb⟩
    have HB3 := Lib.hid hb
    clear hb
    go_wp2_with fail
    go_ret
    exact ⟨rfl, HB1.out.trans ((HBX.out.trans (HB3.out.mono HBX.out.size)).mono HB1.out.size)⟩
  · have hbf : b = false := by first | assumption | simp_all
    subst hbf
    obtain ⟨h60, hr2⟩ := HFB.out rfl
    have hn60 : n ≤ 1000000 := by rw [← HE.out]; omega
    have HOF : Hid (∀ W, Below w.heap.size w W → Calls Try.prog 11 #[.agg #[vi, .slice ae n ce, vl]] W fun e w' => ∃ a c, e = .returned (.slice a n c) ∧ RowAt .i64 w' a n (sccOf E) ∧ Below W.heap.size W w') := fun W h => by
      have h1 := of_any vi vl ae n ce E W HE.out (HED.out W h) hn60 (fun i hi => by have := hr2 i hi; omega)
      have hE := HE.out
      subst hE
      exact h1.mono fun e w' ⟨a, c, h2, h3⟩ => ⟨a, c, h2, made_rowAt h3, made_below h3⟩
    have HLV : Hid (∀ W, Below w.heap.size w W → Calls Try.prog 17 #[.agg #[vi, .slice ae n ce, vl]] W fun e w' => ∃ a c, e = .returned (.slice a n c) ∧ Sl w' 4 (.slice a n c) n (boolsOf n (liveB E n)) ∧ Below W.heap.size W w') := fun W h =>
      live_any vi vl ae n ce E W HE.out (HED.out W h) hn60 (fun i hi => by have := hr2 i hi; omega)
    have HPA : Hid (∀ W, Below w.heap.size w W → Calls Try.prog 13 #[.agg #[vi, .slice ae n ce, vl]] W (PartsDone E n W)) := fun W h => parts_any vi vl ae n ce E W HE.out (HED.out W h) hn60 (fun i hi => by have := hr2 i hi; omega)
    have HCY : Hid (∀ W ap m cp zs, Below w.heap.size w W → RowAt .i64 W ap m zs → m ≤ 9223372036854775807 → Calls Try.prog 15 #[.agg #[vi, .slice ae n ce, vl], .slice ap m cp] W fun e w' => e = .returned (.bool (cycScan E n (-1) zs)) ∧ Below W.heap.size W w') :=
      fun W ap m cp zs h hz hm => cyclic_any vi vl ae n ce E ap m cp zs W HE.out (HED.out W h) hn60 (fun i hi => by have := hr2 i hi; omega) hz hm
    have HROWS : Hid (∀ i, i < E.length → (E.getD i []).length ≤ 2000) := fun i hi => by have := hr2 i hi; omega
    have HTR : Hid (∀ W, Hid (Below w1.heap.size w1 W) → Below w.heap.size w W) := fun W h => HB1.out.trans (h.out.mono HB1.out.size)
    have H0 : Hid (Below w1.heap.size w1 w2.drew) := HBX.out.drew
    clear c0 c1 c2 hr2 HFB HF
    unfold PartsDone at HPA
    go_region_held3 (fun W => W.cell? ⟨w.heap.size, 0, none⟩ = some vi ∧ W.cell? ⟨w.heap.size, 1, none⟩ = some (.slice ae n ce) ∧ W.cell? ⟨w.heap.size, 2, none⟩ = some vl ∧ Hid (Below w1.heap.size w1 W))
      (first | exact HC.out _ H0 | exact HC.out _ (by assumption))
      (first
        | (go_at_call 11; refine (HOF.out _ (HTR.out _ H0)).mono ?_; rintro e w3 ⟨a3, c3, rfl, h3, hb3⟩; have H3 : Hid (Below w1.heap.size w1 w3) := H0.out.trans (hb3.mono H0.out.size); have HA3 := Lib.hid h3; clear hb3 h3)
        | (go_at_call 17; refine (HLV.out _ (HTR.out _ H3)).mono ?_; rintro e w4 ⟨a4, c4, rfl, h4, hb4⟩; have H4 : Hid (Below w1.heap.size w1 w4) := H3.out.trans (hb4.mono H3.out.size); have HA3' := Lib.hid (HA3.out.below hb4); have HA4 := Lib.hid h4; clear hb4 h4)
        | (go_at_call 13; refine (HPA.out _ (HTR.out _ H4)).mono ?_; rintro e w5 ⟨a5, c5, aV, V5, A5, rfl, h5⟩; have H5 : Hid (Below w1.heap.size w1 w5) := H4.out.trans (h5.old.mono H4.out.size); have HA3'' := Lib.hid (HA3'.out.below h5.old); have HA4' := Lib.hid (sl_below HA4.out h5.old); have HA5 := Lib.hid h5; clear h5))
    clear HOF HLV HPA H0 H3 HA3 HA3' HA4 H4
    obtain ⟨b0, b1, b2, -⟩ := HC.out _ H5
    go_upto_region 8 with (fail)
    have HCYR : Hid (∀ k y, k < cntL (lead E) n → lead E y = (leads (lead E) n).getD k 0 → cycScan E n (-1) (grpRow (lead E) n k) = liveB E n y) := fun k y _ hl => by unfold liveB grpRow; rw [hl]
    have hM0 : MapI (w5.alloc (.map #[] 0)) w5.heap.size n (fun _ => none) := MapI.start w5 n
    have hB6 : Below w5.heap.size w5 (w5.alloc (.map #[] 0)) := (Below.refl _ _).alloc (Nat.le_refl _) _
    have HM0 := Lib.hid hM0
    have HB6 := Lib.hid hB6
    clear hM0 hB6 hmm
    have hcn := cntL_le (lead E) n
    have hgl : Hid (∀ i, (grpRow (lead E) n i).length ≤ n) := fun i => grp_len _ _ _
    obtain ⟨bm, hbm⟩ : ∃ b, w5.heap.size = b := ⟨_, rfl⟩
    rw [hbm] at HM0 ⊢
    have HBM := Lib.hid hbm
    clear hbm
    generalize w5.alloc (.map #[] 0) = w6 at *
    generalize hR : cntL (lead E) n = R at *
    have HRR := Lib.hid hR
    clear hR
    go_upto_region 9 with (fail)
    go_loopw [46] (fun x wr => ∃ k : Nat, k ≤ R ∧ x = .int .i64 k ∧ ∃ f, Hid (JInv E n k 0 f) ∧ Hid (MapI wr bm n f) ∧ Hid (Below w5.heap.size w5 wr)) (fun x _ => R - (intOf x).toNat)
    case atStart => exact ⟨0, Nat.zero_le _, rfl, _, JInv.start E n, HM0, HB6⟩
    case round =>
      clear HM0 HB6
      obtain ⟨k, hk, rfl, f, hj, hmap, hb⟩ := hrel
      by_cases hlt : k < R
      · have hltI : (k : Int) < (R : Int) := by omega
        obtain ⟨g, ar, cr, rfl, k0, hr0⟩ := ps_rd HA5.out k hlt
        have k0' := (hb.out.cell (World.block_lt_of_cell? w5 _ k0)).trans k0
        have HROW := Lib.hid hr0
        have hml := hgl.out k
        have hhead := row_head (E := E) (n := n) (k := k) (by rw [HRR.out]; exact hlt)
        have HHEAD := Lib.hid hhead.1
        have hmpos := hhead.2
        clear hr0 k0 hhead
        obtain ⟨m, hm⟩ : ∃ m, (grpRow (lead E) n k).length = m := ⟨_, rfl⟩
        rw [hm] at hml k0' HROW hmpos
        have HM := Lib.hid hm
        have hmposI : (0 : Int) < (m : Int) := by omega
        clear hm
        go_upto_region 12 with (fail)
        go_loopw [53] (fun x wr => ∃ j : Nat, j ≤ m ∧ x = .int .i64 j ∧ ∃ f, Hid (JInv E n k j f) ∧ Hid (MapI wr bm n f) ∧ Hid (Below w5.heap.size w5 wr)) (fun x _ => m - (intOf x).toNat)
        case atStart => exact ⟨0, Nat.zero_le _, rfl, f, hj, hmap, hb⟩
        case round =>
          clear hj hmap hb k0'
          obtain ⟨j, hjm, rfl, f, hj, hmap, hb⟩ := hrel
          by_cases hlt2 : j < m
          · have hlt2I : (j : Int) < (m : Int) := by omega
            obtain ⟨y, hy, hpy, ey, hly⟩ := row_mem (E := E) (n := n) (k := k) (j := j) (by rw [HRR.out]; exact hlt) (by rw [HM.out]; exact hlt2)
            have HFR := Lib.hid (hj.out.fresh (by rw [HM.out]; exact hlt2) hy hpy ey)
            have HJ2 := Lib.hid (hj.out.set (by rw [HM.out]; exact hlt2) hpy ey)
            have L14 := hmap.out.look_ok hy hn60
            rw [HFR.out] at L14
            have L14 : (Instr.lookup 36 (.map (some bm)) (.int .i64 (y : Int)) true).run Try.prog wr = .ok (.tuple #[.int .i64 0, .bool false]) wr := L14
            obtain ⟨-, h0 | ⟨br, orr, rfl, hcr⟩⟩ := HROW.out
            · omega
            obtain ⟨-, h0 | ⟨bo, oo, rfl, hco⟩⟩ := HA3''.out
            · omega
            obtain ⟨gl, rfl, d3⟩ := sl_boolAt HA4'.out y hy
            have d1 := hcr j hlt2
            rw [ey] at d1
            have d2 := hcr 0 hmpos
            rw [HHEAD.out, ← hly] at d2
            have d4 := hco y hy
            rw [sccOf_at (by rw [HE.out]; exact hy)] at d4
            have d4 : w5.cell? ⟨bo, oo + y, none⟩ = some (.int .i64 ((lead E y : Nat) : Int)) := d4
            have HCR := Lib.hid (HCYR.out k y hlt hly)
            have d1' := (hb.out.cell (World.block_lt_of_cell? w5 _ d1)).trans d1
            have HCB : Hid (∀ W, Hid (Below wr.heap.size wr W) → Below w5.heap.size w5 W) := fun W h => hb.out.trans (h.out.mono hb.out.size)
            have HCY2 : Hid (∀ W, Hid (Below wr.heap.size wr W) → Calls Try.prog 15 #[.agg #[vi, .slice ae n ce, vl], .slice (some ⟨br, orr, none⟩) m cr] W fun e w' => e = .returned (.bool (liveB E n y)) ∧ Hid (Below wr.heap.size wr w')) := fun W h => by
              have h1 := HCY.out W (some ⟨br, orr, none⟩) m cr (grpRow (lead E) n k) (HTR.out W (H5.out.trans ((HCB.out W h).mono H5.out.size))) (HROW.out.below (HCB.out W h)) (by omega)
              rw [HCR.out] at h1
              exact h1.mono fun e w' ⟨h2, h3⟩ => ⟨h2, h.out.trans (h3.mono h.out.size)⟩
            have HC2 : Hid (∀ W, Hid (Below wr.heap.size wr W) → W.cell? ⟨bo, oo + y, none⟩ = some (.int .i64 ((lead E y : Nat) : Int)) ∧ W.cell? ⟨br, orr, none⟩ = some (.int .i64 ((lead E y : Nat) : Int)) ∧ W.cell? ⟨gl, y, none⟩ = some (.bool (liveB E n y)) ∧
                W.cell? ⟨w.heap.size, 0, none⟩ = some vi ∧ W.cell? ⟨w.heap.size, 1, none⟩ = some (.slice ae n ce) ∧ W.cell? ⟨w.heap.size, 2, none⟩ = some vl ∧ Hid (Below wr.heap.size wr W)) := fun W h =>
              ⟨((HCB.out W h).cell (World.block_lt_of_cell? w5 _ d4)).trans d4, ((HCB.out W h).cell (World.block_lt_of_cell? w5 _ d2)).trans d2, ((HCB.out W h).cell (World.block_lt_of_cell? w5 _ d3)).trans d3,
                ((HCB.out W h).cell (World.block_lt_of_cell? w5 _ b0)).trans b0, ((HCB.out W h).cell (World.block_lt_of_cell? w5 _ b1)).trans b1, ((HCB.out W h).cell (World.block_lt_of_cell? w5 _ b2)).trans b2, h⟩
            have hyI : (y : Int) < (n : Int) := by omega
            have t1 : decide ((y : Int) < 0) = false := decide_eq_false (by omega)
            have t2 : decide ((n : Int) ≤ (y : Int)) = false := decide_eq_false (by omega)
            have t3 : decide (n ≤ y) = false := decide_eq_false (by omega)
            have t4 : ¬ n ≤ y := by omega
            have H0 : Hid (Below wr.heap.size wr wr.drew) := (Below.refl _ _).drew
            clear hcr hco ey hly d2 d3 d4 HCB HCR HHEAD
            generalize lead E y = ly at *
            generalize liveB E n y = lb at *
            have e1 : ((ly : Int) == (ly : Int)) = true := beq_self_eq_true _
            have e2 : (lb == lb) = true := beq_self_eq_true _
            go_upto_region 15 with (fail)
            clear d1' L14
            go_region_held3 (fun W => W.cell? ⟨bo, oo + y, none⟩ = some (.int .i64 (ly : Int)) ∧ W.cell? ⟨br, orr, none⟩ = some (.int .i64 (ly : Int)) ∧ W.cell? ⟨gl, y, none⟩ = some (.bool lb) ∧
                W.cell? ⟨w.heap.size, 0, none⟩ = some vi ∧ W.cell? ⟨w.heap.size, 1, none⟩ = some (.slice ae n ce) ∧ W.cell? ⟨w.heap.size, 2, none⟩ = some vl ∧ Hid (Below wr.heap.size wr W))
              (first | exact HC2.out _ H0 | exact HC2.out _ (by assumption))
              (first | (go_at_call 15; refine (HCY2.out _ H0).mono ?_; rintro e w7 ⟨rfl, H7⟩))
            obtain ⟨w8, hrun, hM8, hk8⟩ := (hmap.out.below H7.out).put hy hn60 HFR.out (x := k) (by omega)
            have HM8 := Lib.hid hM8
            have HB8 : Hid (Below w5.heap.size w5 w8) := by
              have h1 := hb.out.trans (H7.out.mono hb.out.size)
              exact h1.trans (hk8.below h1.size (fun q hq e => by have := HBM.out; omega))
            clear hM8 hk8 HCY2 HC2
            go_wp2_with fail
            go_roundw
            case rel => exact ⟨j + 1, by omega, by go_num, _, HJ2, HM8, HB8⟩
            case measure => simp [intOf]; omega
          · obtain rfl : m = j := by omega
            have HJ2 : Hid (JInv E n (k + 1) 0 f) := by
              have := hj.out
              rw [← HM.out] at this
              exact this.next
            go_wp2_with fail
            go_roundw
            case rel => exact ⟨k + 1, by omega, by go_num, f, HJ2, hmap, hb⟩
            case measure => simp [intOf]; omega
      · obtain rfl : R = k := by omega
        have HALL : Hid (∀ v, v < n → f v = some (pid E v)) := fun v hv => by
          have h := hj.out
          rw [← HRR.out] at h
          exact h.end v hv
        have hlen := hmap.out.len 3
        rw [cntF_all n (fun v hv => by rw [HALL.out v hv]; rfl)] at hlen
        go_upto_region 22 with (fail)
        clear hlen
        have HML : Hid (∀ W, Below wr.heap.size wr W → ∀ v : Nat, v < n → (Instr.lookup 36 (.map (some bm)) (.int .i64 (v : Int)) false).run Try.prog W = .ok (.int .i64 ((pid E v : Nat) : Int)) W) := fun W h v hv => by
          have h1 := (hmap.out.below h).look hv hn60
          rw [HALL.out v hv] at h1
          exact h1
        generalize wr = w8 at *
        have HG : Hid (Below w.heap.size w w8) := HTR.out _ (H5.out.trans (hb.out.mono H5.out.size))
        have b1' := (hb.out.cell (World.block_lt_of_cell? w5 _ b1)).trans b1
        have HE8 := Lib.hid (HED.out _ HG.out)
        clear hmap hj HALL HED HTR H5 HA3'' HA4' HA5 HC HCY HCYR b0 b1 b2 hb HBM HB1
        go_upto_region 23 with (at_make; refine wpList_make_full _ rfl _ _ 23 rfl 0 38 i38 (.slice none 0 0) 1 Try.underlying23 hi38 hz38 hs38 _ _ _ _ R rfl rfl rfl rfl (by rw [hb38]; omega) (by unfold maxLen; omega) (Nat.zero_le _) ?_; intro w9 hs hg; have HW0 := Lib.hid (HW.start hs hg); clear hs hg)
        generalize w9.alloc (.cells #[.slice none 0 0, .slice (some ⟨w8.heap.size, 0, none⟩) R R, .slice none 0 0] 26) = w10 at *
        generalize w9.heap.size = gh at *
        obtain ⟨g, hg⟩ : ∃ g, w8.heap.size = g := ⟨_, rfl⟩
        rw [hg] at HW0 ⊢
        clear hg
        have b1'' := (HW0.out.old.cell (World.block_lt_of_cell? w8 _ b1')).trans b1'
        have hn60' : n ≤ 60 := by rw [← HE.out]; exact h60
        go_upto_region 24 with (fail)
        go_loopw [109] (fun q wr => ∃ x : Nat, x ≤ n ∧ q = .int .i64 x ∧ ∃ V C, Hid (HW w8 wr gh g V R C) ∧ Hid (Cond E C R) ∧ Hid (∀ i, i < R → (C i).length ≤ x * 2000)) (fun q _ => n - (intOf q).toNat)
        case atStart => exact ⟨0, Nat.zero_le _, rfl, _, _, HW0, Cond.start E R, fun i _ => Nat.zero_le _⟩
        case round =>
          clear HW0 b1''
          obtain ⟨x, hx, rfl, V, C, hw, hcd, hcl⟩ := hrel
          by_cases hxn : x < n
          · have hxnI : (x : Int) < (n : Int) := by omega
            obtain ⟨b, off, ai, ci, rfl, cr1, hr⟩ := HE8.out.at x (by rw [HE.out]; exact hxn)
            have cr1' := (hw.out.old.cell (World.block_lt_of_cell? w8 _ cr1)).trans cr1
            have HRE : Hid (RowE w8 ai (E.getD x [])) := hr
            have hdl := HROWS.out x (by rw [HE.out]; exact hxn)
            have HADJ : Hid (∀ (k t : Nat), k < (E.getD x []).length → (E.getD x []).getD k 0 = (t : Int) → t < n → adj E x t) := fun k t hk e ht => by
              refine ⟨by rw [HE.out]; exact hxn, by rw [HE.out]; exact ht, ?_⟩
              rw [← e]
              exact getD_mem hk
            clear hr cr1
            generalize E.getD x [] = row at *
            obtain ⟨d, hd⟩ : ∃ d, row.length = d := ⟨_, rfl⟩
            have HD := Lib.hid hd
            rw [hd] at hdl cr1'
            clear hd
            have hcl2 : Hid (∀ i, i < R → (C i).length ≤ x * 2000 + 0) := hcl
            go_upto_region 27 with (fail)
            clear hcl cr1'
            go_loopw [116] (fun q wr => ∃ k : Nat, k ≤ d ∧ q = .int .i64 k ∧ ∃ V C, Hid (HW w8 wr gh g V R C) ∧ Hid (Cond E C R) ∧ Hid (∀ i, i < R → (C i).length ≤ x * 2000 + k)) (fun q _ => d - (intOf q).toNat)
            case atStart => exact ⟨0, Nat.zero_le _, rfl, V, C, hw, hcd, hcl2⟩
            case round =>
              clear hw hcd hcl2
              obtain ⟨k, hk, rfl, V, C, hw, hcd, hcl⟩ := hrel
              by_cases hkd : k < d
              · have hkdI : (k : Int) < (d : Int) := by omega
                obtain ⟨b', off', rfl, ck, act, ck2⟩ := (HRE.out.below hw.out.old) k (by rw [HD.out]; exact hkd)
                have HADJ2 : Hid (∀ t : Nat, row.getD k 0 = (t : Int) → t < n → adj E x t) := fun t e ht => HADJ.out k t (by rw [HD.out]; exact hkd) e ht
                generalize row.getD k 0 = z at *
                have hBq : Below wr.heap.size wr (wr.alloc (.cells #[.int .i64 z, .int .i64 act] 40)) := (Below.refl _ _).alloc (Nat.le_refl _) _
                have cq : (wr.alloc (.cells #[.int .i64 z, .int .i64 act] 40)).cell? ⟨wr.heap.size, 0, none⟩ = some (.int .i64 z) := World.cell?_alloc_at (w := wr) _ 40 wr.heap.size 0 rfl
                have HWQ := Lib.hid (hw.out.below hBq)
                have HVQ0 : Hid (∀ i, i < R → (V i).ownBlock ≠ some wr.heap.size) := fun i hi e => by
                  have := own_lt (hw.out.es.row i hi) _ e
                  omega
                go_upto_region 29 with (fail)
                clear hBq ck ck2 hw
                generalize wr.alloc (.cells #[.int .i64 z, .int .i64 act] 40) = wq at *
                generalize wr.heap.size = q at *
                by_cases hneg : z < 0
                · have t0 : decide ((0 : Int) ≤ z) = false := decide_eq_false (by omega)
                  go_wp2_with fail
                  go_roundw
                  case rel => exact ⟨k + 1, by omega, by go_num, V, C, HWQ, hcd, fun i hi => by have := hcl.out i hi; omega⟩
                  case measure => simp [intOf]; omega
                · have t0 : decide ((0 : Int) ≤ z) = true := decide_eq_true (by omega)
                  by_cases hbig : (n : Int) ≤ z
                  · have t1 : decide (z < (n : Int)) = false := decide_eq_false (by omega)
                    go_wp2_with fail
                    go_roundw
                    case rel => exact ⟨k + 1, by omega, by go_num, V, C, HWQ, hcd, fun i hi => by have := hcl.out i hi; omega⟩
                    case measure => simp [intOf]; omega
                  · obtain ⟨t, rfl⟩ : ∃ t : Nat, z = (t : Int) := ⟨z.toNat, by omega⟩
                    have htn : t < n := by omega
                    have htnI : (t : Int) < (n : Int) := by omega
                    have hadj := HADJ2.out t rfl htn
                    have LT := HML.out wq HWQ.out.old t htn
                    have LX := HML.out wq HWQ.out.old x hxn
                    have HLX : Hid (∀ W, Below w8.heap.size w8 W → (Instr.lookup 36 (.map (some bm)) (.int .i64 (x : Int)) false).run Try.prog W = .ok (.int .i64 ((pid E x : Nat) : Int)) W) := fun W h => HML.out W h x hxn
                    have HLT : Hid (∀ W, Below w8.heap.size w8 W → (Instr.lookup 36 (.map (some bm)) (.int .i64 (t : Int)) false).run Try.prog W = .ok (.int .i64 ((pid E t : Nat) : Int)) W) := fun W h => HML.out W h t htn
                    by_cases hp : pid E t = pid E x
                    · rw [hp] at LT
                      generalize pid E x = i at *
                      have e1 : ((i : Int) == (i : Int)) = true := beq_self_eq_true _
                      go_wp2_with fail
                      go_roundw
                      case rel => exact ⟨k + 1, by omega, by go_num, V, C, HWQ, hcd, fun i hi => by have := hcl.out i hi; omega⟩
                      case measure => simp [intOf]; omega
                    · have HC2 := Lib.hid (hcd.out.push hadj hp)
                      have hi : pid E x < R := by have := pid_lt (E := E) hxn; rw [HRR.out] at this; exact this
                      clear hadj hcd
                      generalize pid E x = i at *
                      generalize pid E t = j at *
                      have hiI : (i : Int) < (R : Int) := by omega
                      have e1 : ((j : Int) == (i : Int)) = false := beq_eq_false_iff_ne.2 (by omega)
                      have e2 : (j == i) = false := beq_eq_false_iff_ne.2 hp
                      go_upto_region 30 with (fail)
                      clear LT LX t0
                      obtain ⟨ar, cr, hv⟩ := own_shape (HWQ.out.es.row i hi)
                      have hcli := hcl.out i hi
                      obtain ⟨lr, hlr⟩ : ∃ lr, (C i).length = lr := ⟨_, rfl⟩
                      rw [hlr] at hv hcli
                      have HLR := Lib.hid hlr
                      obtain ⟨q1, HSR, HFR, HPU⟩ := r30_facts HWQ.out hi hv hlr
                      have q2 := HWQ.out.c1
                      have q3 := cq
                      have HVQ : Hid ((Value.slice ar lr cr).ownBlock ≠ some q) := by have := HVQ0.out i hi; rw [hv] at this; exact this
                      have HP := HWQ
                      clear hv hlr HWQ cq HVQ0
                      refine wp_region_bar 19 (S := fun w' => w'.cell? ⟨gh, 1, none⟩ = some (.slice (some ⟨g, 0, none⟩) R R) ∧ w'.cell? ⟨g, i, none⟩ = some (.slice ar lr cr) ∧ w'.cell? ⟨q, 0, none⟩ = some (.int .i64 (t : Int)) ∧ (Instr.lookup 36 (.map (some bm)) (.int .i64 (x : Int)) false).run Try.prog w' = .ok (.int .i64 (i : Int)) w' ∧ (Instr.lookup 36 (.map (some bm)) (.int .i64 (t : Int)) false).run Try.prog w' = .ok (.int .i64 (j : Int)) w') (by kernel_rfl) (⟨q2, q1, q3, HLX.out _ HP.out.old.drew, HLT.out _ HP.out.old.drew⟩) (fun hHeld => ?_)
                      refine' wpAnyB_take (i := 0) [0] (v := _) rfl (by kernel_rfl) (fun _ _ _ h => h) (Or.inl ⟨by rfl, ?hy0⟩) (by assumption) ?rest0
                      case hy0 => (intro w' hSw; (try dsimp only at hSw); go_simp; (try with_reducible rfl))
                      try simp only [Act.put, List.getElem_toArray, List.getElem_cons_zero, List.getElem_cons_succ, List.setIfInBounds_toArray, List.set_cons_zero, List.set_cons_succ]
                      refine' wpAnyB_take (i := 1) [1] (v := _) rfl (by kernel_rfl) (fun _ _ _ h => h) (Or.inl ⟨by rfl, ?hy1⟩) (by assumption) ?rest1
                      case hy1 => (intro w' hSw; (try dsimp only at hSw); go_simp; (try with_reducible rfl))
                      try simp only [Act.put, List.getElem_toArray, List.getElem_cons_zero, List.getElem_cons_succ, List.setIfInBounds_toArray, List.set_cons_zero, List.set_cons_succ]
                      refine' wpAnyB_take (i := 2) [2] (v := _) rfl (by kernel_rfl) (fun _ _ _ h => h) (Or.inl ⟨by rfl, ?hy2⟩) (by assumption) ?rest2
                      case hy2 => (intro w' hSw; (try dsimp only at hSw); go_simp; (try with_reducible rfl))
                      try simp only [Act.put, List.getElem_toArray, List.getElem_cons_zero, List.getElem_cons_succ, List.setIfInBounds_toArray, List.set_cons_zero, List.set_cons_succ]
                      refine' wpAnyB_take (i := 3) [3] (v := _) rfl (by kernel_rfl) (fun _ _ _ h => h) (Or.inl ⟨by rfl, ?hy3⟩) (by assumption) ?rest3
                      case hy3 => (intro w' hSw; (try dsimp only at hSw); go_simp; (try with_reducible rfl))
                      try simp only [Act.put, List.getElem_toArray, List.getElem_cons_zero, List.getElem_cons_succ, List.setIfInBounds_toArray, List.set_cons_zero, List.set_cons_succ]
                      refine' wpAnyB_take (i := 4) [4] (v := _) rfl (by kernel_rfl) (fun _ _ _ h => h) (Or.inl ⟨by rfl, ?hy4⟩) (by assumption) ?rest4
                      case hy4 => (intro w' hSw; (try dsimp only at hSw); go_simp; (try with_reducible rfl))
                      try simp only [Act.put, List.getElem_toArray, List.getElem_cons_zero, List.getElem_cons_succ, List.setIfInBounds_toArray, List.set_cons_zero, List.set_cons_succ]
                      refine' wpAnyB_take (i := 5) [5] (v := _) rfl (by kernel_rfl) (fun _ _ _ h => h) (Or.inl ⟨by rfl, ?hy5⟩) (by assumption) ?rest5
                      case hy5 => (intro w' hSw; (try dsimp only at hSw); go_simp; (try with_reducible rfl))
                      try simp only [Act.put, List.getElem_toArray, List.getElem_cons_zero, List.getElem_cons_succ, List.setIfInBounds_toArray, List.set_cons_zero, List.set_cons_succ]
                      refine' wpAnyB_take (i := 6) [6] (v := _) rfl (by kernel_rfl) (fun _ _ _ h => h) (Or.inl ⟨by rfl, ?hy6⟩) (by assumption) ?rest6
                      case hy6 => (intro w' hSw; (try dsimp only at hSw); go_simp; (try with_reducible rfl))
                      try simp only [Act.put, List.getElem_toArray, List.getElem_cons_zero, List.getElem_cons_succ, List.setIfInBounds_toArray, List.set_cons_zero, List.set_cons_succ]
                      refine' wpAnyB_take (i := 7) [7] (v := _) rfl (by kernel_rfl) (fun _ _ _ h => h) (Or.inl ⟨by rfl, ?hy7⟩) (by assumption) ?rest7
                      case hy7 => (intro w' hSw; (try dsimp only at hSw); go_simp; (try with_reducible rfl))
                      try simp only [Act.put, List.getElem_toArray, List.getElem_cons_zero, List.getElem_cons_succ, List.setIfInBounds_toArray, List.set_cons_zero, List.set_cons_succ]
                      refine' wpAnyB_take (i := 8) [8] (v := _) rfl (by kernel_rfl) (fun _ _ _ h => h) (Or.inl ⟨by rfl, ?hy8⟩) (by assumption) ?rest8
                      case hy8 => (intro w' hSw; (try dsimp only at hSw); go_simp; (try with_reducible rfl))
                      try simp only [Act.put, List.getElem_toArray, List.getElem_cons_zero, List.getElem_cons_succ, List.setIfInBounds_toArray, List.set_cons_zero, List.set_cons_succ]
                      refine' wpAnyB_take (i := 9) [9] (v := _) rfl (by kernel_rfl) (fun _ _ _ h => h) (Or.inl ⟨by rfl, ?hy9⟩) (by assumption) ?rest9
                      case hy9 => (intro w' hSw; (try dsimp only at hSw); go_simp; (try with_reducible rfl))
                      try simp only [Act.put, List.getElem_toArray, List.getElem_cons_zero, List.getElem_cons_succ, List.setIfInBounds_toArray, List.set_cons_zero, List.set_cons_succ]
                      refine' wpAnyB_take (i := 10) [10] (v := _) rfl (by kernel_rfl) (fun _ _ _ h => h) (Or.inl ⟨by rfl, ?hy10⟩) (by assumption) ?rest10
                      case hy10 => (intro w' hSw; (try dsimp only at hSw); go_simp; (try with_reducible rfl))
                      try simp only [Act.put, List.getElem_toArray, List.getElem_cons_zero, List.getElem_cons_succ, List.setIfInBounds_toArray, List.set_cons_zero, List.set_cons_succ]
                      refine' wpAnyB_take (i := 11) [11] (v := _) rfl (by kernel_rfl) (fun _ _ _ h => h) (Or.inl ⟨by rfl, ?hy11⟩) (by assumption) ?rest11
                      case hy11 => (intro w' hSw; (try dsimp only at hSw); go_simp; (try with_reducible rfl))
                      try simp only [Act.put, List.getElem_toArray, List.getElem_cons_zero, List.getElem_cons_succ, List.setIfInBounds_toArray, List.set_cons_zero, List.set_cons_succ]
                      refine' wpAnyB_take (i := 12) [12] (v := _) rfl (by kernel_rfl) (fun _ _ _ h => h) (Or.inl ⟨by rfl, ?hy12⟩) (by assumption) ?rest12
                      case hy12 => (intro w' hSw; (try dsimp only at hSw); go_simp; (try with_reducible rfl))
                      try simp only [Act.put, List.getElem_toArray, List.getElem_cons_zero, List.getElem_cons_succ, List.setIfInBounds_toArray, List.set_cons_zero, List.set_cons_succ]
                      refine' wpAnyB_take (i := 13) [13] (v := _) rfl (by kernel_rfl) (fun _ _ _ h => h) (Or.inl ⟨by rfl, ?hy13⟩) (by assumption) ?rest13
                      case hy13 => (intro w' hSw; (try dsimp only at hSw); go_simp; (try with_reducible rfl))
                      try simp only [Act.put, List.getElem_toArray, List.getElem_cons_zero, List.getElem_cons_succ, List.setIfInBounds_toArray, List.set_cons_zero, List.set_cons_succ]
                      refine' wpAnyB_take (i := 14) [14] (v := _) rfl (by kernel_rfl) (fun _ _ _ h => h) (Or.inl ⟨by rfl, ?hy14⟩) (by assumption) ?rest14
                      case hy14 => (intro w' hSw; (try dsimp only at hSw); go_simp; (try with_reducible rfl))
                      try simp only [Act.put, List.getElem_toArray, List.getElem_cons_zero, List.getElem_cons_succ, List.setIfInBounds_toArray, List.set_cons_zero, List.set_cons_succ]
                      refine' wpAnyB_take (i := 15) [15] (v := _) rfl (by kernel_rfl) (fun _ _ _ h => h) (Or.inl ⟨by rfl, ?hy15⟩) (by assumption) ?rest15
                      case hy15 => (intro w' hSw; (try dsimp only at hSw); go_simp; (try with_reducible rfl))
                      try simp only [Act.put, List.getElem_toArray, List.getElem_cons_zero, List.getElem_cons_succ, List.setIfInBounds_toArray, List.set_cons_zero, List.set_cons_succ]
                      refine' wpAnyB_take (i := 16) [16] (v := _) rfl (by kernel_rfl) (fun _ _ _ h => h) (Or.inl ⟨by rfl, ?hy16⟩) (by assumption) ?rest16
                      case hy16 => (intro w' hSw; (try dsimp only at hSw); go_simp; (try with_reducible rfl))
                      try simp only [Act.put, List.getElem_toArray, List.getElem_cons_zero, List.getElem_cons_succ, List.setIfInBounds_toArray, List.set_cons_zero, List.set_cons_succ]
                      have HB5 : Hid (Below wq.heap.size wq (((wq).alloc (.cells #[.int .i64 (j : Int), .int .i64 0] 40)).drew)) := ((Below.refl _ _).alloc (Nat.le_refl _) _).drew
                      have c5 : ((wq).alloc (.cells #[.int .i64 (j : Int), .int .i64 0] 40)).drew.cell? ⟨wq.heap.size, 0, none⟩ = some (.int .i64 (j : Int)) := World.cell?_alloc_at (w := wq) _ 40 wq.heap.size 0 rfl
                      have c5' : ((wq).alloc (.cells #[.int .i64 (j : Int), .int .i64 0] 40)).drew.cell? ⟨wq.heap.size, 1, none⟩ = some (.int .i64 0) := World.cell?_alloc_at (w := wq) _ 40 wq.heap.size 1 rfl
                      have q1' := (HB5.out.cell (World.block_lt_of_cell? _ _ q1)).trans q1
                      have q2' := (HB5.out.cell (World.block_lt_of_cell? _ _ q2)).trans q2
                      have q3' := (HB5.out.cell (World.block_lt_of_cell? _ _ q3)).trans q3
                      have HP5 := Lib.hid (HP.out.below HB5.out)
                      refine wpAnyB_ready (rs := [17]) (by kernel_rfl) (by simp) (AllReadyB.cons rfl (fun K hK => ?_) AllReadyB.nil)
                      go_simp
                      refine hK.out _ _ (fun _ => ⟨q2', q1', q3', HLX.out _ HP5.out.old, HLT.out _ HP5.out.old⟩) ?_
                      clear hK K
                      try simp only [Act.put, List.getElem_toArray, List.getElem_cons_zero, List.getElem_cons_succ, List.setIfInBounds_toArray, List.set_cons_zero, List.set_cons_succ]
                      clear hHeld q1 q2 q3 HP HB5
                      generalize ((wq).alloc (.cells #[.int .i64 (j : Int), .int .i64 0] 40)).drew = w15 at *
                      generalize wq.heap.size = h5 at *
                      refine wpAnyB_ready (rs := [18]) (by kernel_rfl) (by simp) (AllReadyB.cons rfl (fun K hK => ?_) AllReadyB.nil)
                      rw [if_pos (by rfl)]
                      apply OpGoal.out
                      refine op_appendE (.tmp 150) (.tmp 156) rfl i40 _ hi40 hz40 hs40 hb40 rfl (.slice ar lr cr) lr (C i) HLR.out rfl (HSR.out _ HP5.out) h5 (j : Int) rfl c5 c5' (by omega) (fun v6 w6 hs6 hk6 hm6 => ?_)
                      obtain ⟨f6, q1, q2, ho6⟩ := HFR.out _ _ HP5.out hk6
                      have q3 := hk6.cellSome q3' (fun e => HVQ.out e)
                      have HP6 := Lib.hid (HPU.out _ _ _ _ HP5.out hs6 hk6 hm6)
                      obtain ⟨a6, l6, c6, e6⟩ : ∃ a l c, v6 = .slice a l c := own_slice hs6
                      clear hs6 hm6 hk6 q1' q2' q3' c5 c5' HP5
                      subst e6
                      have hHeld := And.intro q2 (And.intro q1 (And.intro q3 (And.intro (HLX.out _ ho6) (HLT.out _ ho6))))
                      refine hK.out _ _ (fun _ => hHeld) ?_
                      clear hK K
                      try simp only [Act.put, List.getElem_toArray, List.getElem_cons_zero, List.getElem_cons_succ, List.setIfInBounds_toArray, List.set_cons_zero, List.set_cons_succ]
                      refine wpAnyB_ready (rs := [19]) (by kernel_rfl) (by simp) (AllReadyB.cons rfl (fun K hK => ?_) AllReadyB.nil)
                      go_simp
                      refine hK.out _ _ (fun e => nomatch e) ?_
                      clear hK K
                      try simp only [Act.put, List.getElem_toArray, List.getElem_cons_zero, List.getElem_cons_succ, List.setIfInBounds_toArray, List.set_cons_zero, List.set_cons_succ]
                      refine wpAnyB_ready (rs := [20]) (by kernel_rfl) (by simp) (AllReadyB.cons rfl (fun K hK => ?_) AllReadyB.nil)
                      go_simp
                      refine hK.out _ _ (fun e => nomatch e) ?_
                      clear hK K
                      try simp only [Act.put, List.getElem_toArray, List.getElem_cons_zero, List.getElem_cons_succ, List.setIfInBounds_toArray, List.set_cons_zero, List.set_cons_succ]
                      refine wpAnyB_done (by kernel_rfl) ?_
                      generalize w6.setCell ⟨g, i, none⟩ (.slice a6 l6 c6) = w7 at *
                      go_wp2_with fail
                      go_roundw
                      case rel => exact ⟨k + 1, by omega, by go_num, _, _, HP6, HC2, fun i' hi' => by
                        by_cases e : i' = i
                        · subst e; rw [up_same, List.length_append, HLR.out]; show lr + 1 ≤ _; omega
                        · rw [up_other _ _ _ _ e]; have := hcl.out i' hi'; omega⟩
                      case measure => simp [intOf]; omega
              · obtain rfl : d = k := by omega
                go_wp2_with fail
                go_roundw
                case rel => exact ⟨x + 1, by omega, by go_num, V, C, hw, hcd, fun i hi => by have := hcl.out i hi; omega⟩
                case measure => simp [intOf]; omega
          · obtain rfl : n = x := by omega
            have HLV2 := Lib.hid (live_any (.slice none 0 0) (.slice none 0 0) (some ⟨g, 0, none⟩) R R (condE C R) wr (condE_len C R) hw.out.es.edges (by omega) (fun i hi => by
              rw [condE_len] at hi
              rw [condE_at C hi]
              have := hcl.out i hi
              omega))
            have HDD : Hid (∀ v, v < R → liveB (condE C R) R v = false) := fun v hv => cond_dead hcd.out v hv
            have c0 := hw.out.c0
            have c1 := hw.out.c1
            have c2 := hw.out.c2
            have HGW : Hid (Below w.heap.size w wr) := HG.out.trans (hw.out.old.mono HG.out.size)
            clear hw hcd hcl
            go_upto_region 34 with (go_at_call 17; refine HLV2.out.mono ?_; rintro e w11 ⟨a11, c11, rfl, h11, hb11⟩; have H11 := Lib.hid h11; have HG2 : Hid (Below w.heap.size w w11) := HGW.out.trans (hb11.mono HGW.out.size); clear h11 hb11)
            clear c0 c1 c2
            go_loopw [164] (fun q wr => ∃ k : Nat, k ≤ R ∧ q = .int .i64 k ∧ wr = w11) (fun q _ => R - (intOf q).toNat)
            case atStart => exact ⟨0, Nat.zero_le _, rfl, rfl⟩
            case round =>
              obtain ⟨k, hk, rfl, rfl⟩ := hrel
              by_cases hkR : k < R
              · have hkRI : (k : Int) < (R : Int) := by omega
                obtain ⟨g', rfl, ck⟩ := sl_boolAt H11.out k hkR
                rw [HDD.out k hkR] at ck
                go_wp2_with fail
                go_roundw
                case rel => exact ⟨k + 1, by omega, by go_num, trivial⟩
                case measure => simp [intOf]; omega
              · obtain rfl : R = k := by omega
                go_wp2_with (go_at_call 9; refine (lives_any wr).mono ?_; rintro e w12 ⟨rfl, h12⟩)
                go_ret
                exact ⟨rfl, HG2.out.trans (h12.mono HG2.out.size)⟩
end Go.Proofs.Ytnkfmhhfeaohbaa
