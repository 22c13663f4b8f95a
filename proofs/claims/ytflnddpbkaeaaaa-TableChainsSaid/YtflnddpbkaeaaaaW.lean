/- The walk of TableApart. -/
import Derived.Test.YtflnddpbkaeaaaaV
namespace Go.Proofs.Ytflnddpbkaeaaaa
open Go.RowKit Go.Own

set_option maxRecDepth 100000 in
set_option maxHeartbeats 8000000 in
theorem apart_any (a1 : Option Addr) (n1 c1 : Nat) (X : List (List Int)) (y : Int) (w : World)
    (hr1 : Rows (fun b => b < w.heap.size) w a1 n1 X) (hX : ∀ t ∈ X, IsBytes t) (l1 : n1 ≤ c1) (m1 : c1 ≤ maxLen) (s1 : c1 * 24 ≤ 140737488351232) (nil1 : a1 = none → n1 = 0 ∧ c1 = 0) (wy : (Lit.int .u8 y).wf = true) :
    Calls Try.prog 5 #[.slice a1 n1 c1, .int .u8 y] w fun e w' => e = .returned (.bool true) ∧ Below w.heap.size w w' := by
  have HA := Lib.hid awake_any
  have HR1 := Lib.hid hr1
  have HX := Lib.hid hX
  have HL1 : Hid (X.length = n1) := hr1.1
  have hn1 : n1 ≤ 9223372036854775807 := by omega
  have HH := Lib.hid (heavy_any _ a1 n1 c1 X w hr1 hn1)
  clear hr1 hX l1 m1 s1 nil1 wy
  cases hhv : heavyB X with
  | true =>
    rw [hhv] at HH
    clear hhv
    go_enter Try.func5, Try.ntmps5
    go_wp2_with fail
    refine HH.out.mono ?_
    rintro e w2 ⟨rfl, rfl⟩
    go_wp2_with fail
    refine (HA.out w).mono ?_
    rintro e w2 ⟨rfl, hb1⟩
    have HB := Lib.hid hb1
    clear hb1
    go_wp2
    go_ret
    exact ⟨rfl, HB.out⟩
  | false =>
    rw [hhv] at HH
    have hv := heavy_no hhv
    have HV1 : Hid (n1 ≤ 100) := by rw [← HL1.out]; exact hv.1
    have HV2 := Lib.hid hv.2
    clear hhv hv
    have HN := Lib.hid (new_yes 100 w (by decide) (by decide))
    have HT0 := Lib.hid (Two.new w 100)
    obtain ⟨i0, hi0, hz0, hz1, hz2⟩ := info_parts Try.info5
    go_enter Try.func5, Try.ntmps5
    go_wp2_with fail
    refine HH.out.mono ?_
    rintro e w2 ⟨rfl, rfl⟩
    go_wp2_with fail
    refine HN.out.mono ?_
    rintro e w1 ⟨rfl, rfl⟩
    generalize w.alloc (.cells (new49 100) 49) = w1 at *
    clear HN HH
    go_wp2
    go_loopw [6, 7] (fun x i wr => ∃ k : Nat, k ≤ n1 ∧ i = .int .i64 k ∧ ∃ a' c', x = .slice a' (playT 100 X k).length c' ∧ Hid (Two w wr w.heap.size 100 (playT 100 X k) (playT 100 X k) a' c')) (fun _ i _ => n1 - (intOf i).toNat)
    case atStart => exact ⟨0, Nat.zero_le _, rfl, none, 0, rfl, HT0⟩
    case round =>
      obtain ⟨k, hk, rfl, a', c', rfl, H⟩ := hrel
      by_cases hlt : k < n1
      · have hltI : (k : Int) < (n1 : Int) := by omega
        obtain ⟨b, off, ai, ci, rfl, hc, hri, hni⟩ := HR1.out.at k hlt
        have HC := Lib.hid hc
        have HRI := Lib.hid hri
        have hmem : X.getD k [] ∈ X := getD_mem (by rw [HL1.out]; exact hlt)
        have hlen := HV2.out _ hmem
        have HBY := Lib.hid (HX.out _ hmem)
        have hT1 := playT_len 100 X k
        have hT2 : Hid ((playT 100 X k).flatten.length ≤ 10000) := by
          have h1 := flat_bound (T := playT 100 X k) (B := 100) (fun t ht => HV2.out t (playT_mem 100 X k (by rw [HL1.out]; exact hk) t ht))
          have h2 := HV1.out
          show _ ≤ _
          omega
        have HP : Hid (playT 100 X (k + 1) = addT (playT 100 X k) 100 (X.getD k [])) := rfl
        have hcr := (H.out.old.cell (World.block_lt_of_cell? w _ hc)).trans hc
        have hcr2 : (wr.alloc (.cells #[] 5)).cell? ⟨b, off + k, none⟩ = some (.slice ai (X.getD k []).length ci) := by rw [World.cell?_alloc_lt _ _ _ (World.block_lt_of_cell? wr _ hcr)]; exact hcr
        have HRF := Lib.hid fun w' v (h : Tri w w' w.heap.size 100 (playT 100 X k) (playT 100 X k) a' c' v (X.getD k [])) =>
          ref_tri h H.out.bytes H.out.nodup (by have := HV1.out; omega) ai _ ci _ (HRI.out.below h.two.old) hni (by omega) HBY.out
        have HAD := Lib.hid fun w' Y a2 c2 av cv (h : Tri w w' w.heap.size 100 (playT 100 X k) Y a2 c2 (.slice av (X.getD k []).length cv) (X.getD k [])) =>
          add_tri h rfl HBY.out (by have := hT2.out; omega) (by have := HV1.out; omega)
        have HRW : Hid (RowAt .u8 wr ai (X.getD k []).length (X.getD k [])) := hri.below H.out.old
        have HNI := Lib.hid hni
        clear hri hmem hc hni
        generalize addN (playT 100 X k) 100 (X.getD k []) = vN at *
        generalize addP (playT 100 X k) 100 (X.getD k []) = vP at *
        generalize addE (playT 100 X k) 100 (X.getD k []) = vE at *
        generalize addT (playT 100 X k) 100 (X.getD k []) = T' at *
        generalize playT 100 X k = T at *
        generalize X.getD k [] = ts at *
        have HTL : Hid (ts.length = ts.length) := rfl
        generalize hm : ts.length = m at *
        have HM := Lib.hid hm
        clear hm
        go_wp2_with (at_builtin; refine wpList_clone rfl (.tmp 31) (.tmp 35) 23 rfl .u8 5 i0 (.int .u8 0) 1 Try.underlying23 hi0 hz0 hz1 hz2 rfl (by decide) rfl ai m ci ts rfl HRW.out HNI.out (by omega) ?_; intro ab cb w2 hmade; have hcr3 := (hmade.2.1.cell (World.block_lt_of_cell? wr _ hcr)).trans hcr; have HT2 := Lib.hid (tri_made H.out hmade); clear hmade)
        refine (HRF.out w2 _ HT2.out).mono ?_
        rintro e w3 ⟨a3, c3, rfl, h3⟩
        clear hcr2 hcr3 hcr HRF HRW HT2
        go_wp2_with fail
        refine (HAD.out _ _ _ _ _ _ h3.out).mono ?_
        rintro e w4 ⟨rfl, h4⟩
        clear h3 HAD
        go_wp2
        go_loopw [13] (fun jv wx => ∃ j : Nat, j ≤ m ∧ jv = .int .i64 j ∧ ∃ zs, Hid (zs.length = m) ∧ Hid (Tri w wx w.heap.size 100 T' T' a3 c3 (.slice ab m cb) zs)) (fun jv _ => m - (intOf jv).toNat)
        case atStart => exact ⟨0, Nat.zero_le _, rfl, _, HM, h4⟩
        case round =>
          obtain ⟨j, hj, rfl, zs, hzs, Hx⟩ := hrel
          by_cases hjm : j < m
          · have hjI : (j : Int) < (m : Int) := by omega
            obtain ⟨gb, rfl, hcb, hfb⟩ := tri_cell Hx.out hzs.out j hjm
            have HST := Lib.hid fun v => tri_store Hx.out j v
            generalize zs.getD j 0 = zv at *
            go_wp2
            go_roundw
            case rel => exact ⟨j + 1, by omega, by go_num, zs.set j _, (by have := hzs.out; show _ = _; rw [List.length_set]; exact this), HST.out _⟩
            case measure => simp [intOf]; omega
          · have HTW := Lib.hid Hx.out.two
            go_wp2
            go_roundw
            case rel => exact ⟨k + 1, by omega, by go_num, a3, c3, by rw [HP.out], by rw [HP.out]; exact HTW⟩
            case measure => simp [intOf]; omega
      · obtain rfl : k = n1 := by omega
        have hTl : (playT 100 X k).length ≤ 100 := Nat.le_trans (playT_len 100 X k) HV1.out
        have hTt : Hid (∀ t ∈ playT 100 X k, t.length ≤ 100) := fun t ht => HV2.out t (playT_mem 100 X k (by rw [HL1.out]; exact Nat.le_refl _) t ht)
        clear HR1 HL1 HX HV1 HV2 HT0
        generalize playT 100 X k = T at *
        go_wp2
        go_loopw [14] (fun jv wx => ∃ j : Nat, j ≤ T.length ∧ jv = .int .i64 j ∧ Hid (Two w wx w.heap.size 100 T T a' c')) (fun jv _ => T.length - (intOf jv).toNat)
        case atStart => exact ⟨0, Nat.zero_le _, rfl, H⟩
        case round =>
          obtain ⟨j, hj, rfl, H⟩ := hrel
          by_cases hlt : j < T.length
          · obtain ⟨bx, ox, ax, cx, rfl, hc, hrx, _⟩ := H.out.rows.at j hlt
            have hltI : (j : Int) < (T.length : Int) := by omega
            have hml : (T.getD j []).length ≤ 100 := hTt.out _ (getD_mem hlt)
            have hq : ((strOfNums (T.getD j [])).toList == (strOfNums (T.getD j [])).toList) = true := by rw [str_beq (H.out.bytes _ (getD_mem hlt)) (H.out.bytes _ (getD_mem hlt))]; simp
            have HBY := Lib.hid (H.out.bytes _ (getD_mem hlt))
            have HK := Lib.hid fun w' (h : Two w w' w.heap.size 100 T T (some ⟨bx, ox, none⟩) c') => key_two h j hlt (by omega)
            have HIX : Hid (idx T (T.getD j []) = (j : Int)) := idx_of_get H.out.nodup hlt rfl
            have HRO := Lib.hid fun w' (h : Two w w' w.heap.size 100 T T (some ⟨bx, ox, none⟩) c') => h.rows.at j hlt
            have e1 : Hid (max (j : Int) 0 = (j : Int)) := by show _ = _; omega
            have e2 : Hid (decide ((0 : Int) ≤ (j : Int)) = true) := decide_eq_true (by omega)
            have HC := Lib.hid hc
            have HRX := Lib.hid hrx
            clear hrx
            generalize T.getD j [] = ts at *
            generalize hm : ts.length = m at *
            have HM := Lib.hid hm
            clear hm
            go_wp2_with fail
            refine (HK.out _ H.out).mono ?_
            rintro e w4 ⟨a4, c4, rfl, hm4⟩
            have hc4 := (hm4.out.2.1.cell (World.block_lt_of_cell? wr _ HC.out)).trans HC.out
            have hs1 : ∀ q, (convert 23 9 (.slice a4 m c4)).run Try.prog (w4.drewN q) = .ok (.string (strOfNums ts)) (w4.drewN q) := by
              intro q
              have := run_str (c := c4) ((made_rowAt hm4.out).below (below_drewN _ q))
              exact this
            have hs2 : ∀ q, (convert 23 9 (.slice ax m cx)).run Try.prog (w4.drewN q) = .ok (.string (strOfNums ts)) (w4.drewN q) := fun q => run_str ((HRX.out.below hm4.out.2.1).below (below_drewN _ _))
            have HT4 : Hid (∀ q, Tri w (w4.drewN q) w.heap.size 100 T T (some ⟨bx, ox, none⟩) c' (.slice a4 m c4) ts) := by
              intro q
              have := (tri_made H.out (zs := ts) (v := .slice a4 m c4) (by have := hm4.out; exact this)).keep (below_drewN _ q)
              exact this
            clear hc hm4
            go_wp2_with fail
            go_quiet (fail)
            clear hs1 hs2 hc4
            go_wp2
            go_loopw [16] (fun jv wx => ∃ i : Nat, i ≤ m ∧ jv = .int .i64 i ∧ ∃ zs, Hid (zs.length = m) ∧ Hid (Tri w wx w.heap.size 100 T T (some ⟨bx, ox, none⟩) c' (.slice a4 m c4) zs)) (fun jv _ => m - (intOf jv).toNat)
            case atStart => exact ⟨0, Nat.zero_le _, rfl, _, HM, HT4.out _⟩
            case round =>
              obtain ⟨i, hi, rfl, zs, hzs, Hx⟩ := hrel
              by_cases him : i < m
              · have hiI : (i : Int) < (m : Int) := by omega
                obtain ⟨gb, rfl, hcb, hfb⟩ := tri_cell Hx.out hzs.out i him
                have HST := Lib.hid fun v => tri_store Hx.out i v
                generalize zs.getD i 0 = zv at *
                clear hq
                go_wp2
                go_roundw
                case rel => exact ⟨i + 1, by omega, by go_num, zs.set i _, (by have := hzs.out; show _ = _; rw [List.length_set]; exact this), HST.out _⟩
                case measure => simp [intOf]; omega
              · obtain ⟨bx', ox', ax6, cx6, hbb, hc6, hrx6, _⟩ := HRO.out _ Hx.out.two
                cases hbb
                have HF := Lib.hid (find_two Hx.out.two ax6 m cx6 ts hrx6 (by omega) HBY.out)
                rw [HIX.out, e1.out, e2.out] at HF
                have HC6 := Lib.hid hc6
                have HRX6 := Lib.hid hrx6
                clear hrx6
                go_wp2_with fail
                refine HF.out.mono ?_
                rintro e w6 ⟨rfl, h6⟩
                obtain ⟨bx', ox', ax7, cx7, hbb, hc7, hrx7, _⟩ := HRO.out _ h6.out
                cases hbb
                have HC7 := Lib.hid hc7
                have HRX7 := Lib.hid hrx7
                have HK7 := Lib.hid (HK.out _ (h6.out.below (Below.refl _ w6).drew))
                clear hrx7 hc6 HC6 HRX6 HF
                go_wp2_with fail
                refine wp_region_held_drew (S := fun w' => w'.cell? ⟨bx, ox + j, none⟩ = some (.slice ax7 m cx7) ∧ (convert 23 9 (.slice ax7 m cx7)).run Try.prog w' = .ok (.string (strOfNums ts)) w' ∧ Hid (Below w6.heap.size w6 w')) (by kernel_rfl) (heldS_first HC7.out HRX7.out) (fun hHeld => ?_)
                refine' wpAnyH_take (i := 0) (v := _) rfl (by kernel_rfl) (by kernel_rfl) (by kernel_rfl) (fun _ _ _ h => h) (Or.inl ⟨by rfl, ?hy0⟩) (by assumption) ?rest0
                case hy0 => (intro w' hSw; (try dsimp only at hSw); go_simp; (try with_reducible rfl))
                try simp only [Act.put, List.getElem_toArray, List.getElem_cons_zero, List.getElem_cons_succ, List.setIfInBounds_toArray, List.set_cons_zero, List.set_cons_succ]
                refine' wpAnyH_take (i := 1) (v := _) rfl (by kernel_rfl) (by kernel_rfl) (by kernel_rfl) (fun _ _ _ h => h) (Or.inl ⟨by rfl, ?hy1⟩) (by assumption) ?rest1
                case hy1 => (intro w' hSw; (try dsimp only at hSw); go_simp; (try with_reducible rfl))
                try simp only [Act.put, List.getElem_toArray, List.getElem_cons_zero, List.getElem_cons_succ, List.setIfInBounds_toArray, List.set_cons_zero, List.set_cons_succ]
                refine' wpAnyH_take (i := 2) (v := _) rfl (by kernel_rfl) (by kernel_rfl) (by kernel_rfl) (fun _ _ _ h => h) (Or.inl ⟨by rfl, ?hy2⟩) (by assumption) ?rest2
                case hy2 => (intro w' hSw; (try dsimp only at hSw); go_simp; (try with_reducible rfl))
                try simp only [Act.put, List.getElem_toArray, List.getElem_cons_zero, List.getElem_cons_succ, List.setIfInBounds_toArray, List.set_cons_zero, List.set_cons_succ]
                refine' wpAnyH_take (i := 3) (v := _) rfl (by kernel_rfl) (by kernel_rfl) (by kernel_rfl) (fun _ _ _ h => h) (Or.inl ⟨by rfl, ?hy3⟩) (by assumption) ?rest3
                case hy3 => (intro w' hSw; (try dsimp only at hSw); go_simp; (try with_reducible rfl))
                try simp only [Act.put, List.getElem_toArray, List.getElem_cons_zero, List.getElem_cons_succ, List.setIfInBounds_toArray, List.set_cons_zero, List.set_cons_succ]
                refine' wpAnyH_take (i := 4) (v := _) rfl (by kernel_rfl) (by kernel_rfl) (by kernel_rfl) (fun _ _ _ h => h) (Or.inl ⟨by rfl, ?hy4⟩) (by assumption) ?rest4
                case hy4 => (intro w' hSw; (try dsimp only at hSw); go_simp; (try with_reducible rfl))
                try simp only [Act.put, List.getElem_toArray, List.getElem_cons_zero, List.getElem_cons_succ, List.setIfInBounds_toArray, List.set_cons_zero, List.set_cons_succ]
                refine' wpAnyH_take (i := 5) (v := _) rfl (by kernel_rfl) (by kernel_rfl) (by kernel_rfl) (fun _ _ _ h => h) (Or.inl ⟨by rfl, ?hy5⟩) (by assumption) ?rest5
                case hy5 => (intro w' hSw; (try dsimp only at hSw); go_simp; (try with_reducible rfl))
                try simp only [Act.put, List.getElem_toArray, List.getElem_cons_zero, List.getElem_cons_succ, List.setIfInBounds_toArray, List.set_cons_zero, List.set_cons_succ]
                refine' wpAnyH_take (i := 6) (v := _) rfl (by kernel_rfl) (by kernel_rfl) (by kernel_rfl) (fun _ _ _ h => h) (Or.inl ⟨by rfl, ?hy6⟩) (by assumption) ?rest6
                case hy6 => (intro w' hSw; (try dsimp only at hSw); go_simp; (try with_reducible rfl))
                try simp only [Act.put, List.getElem_toArray, List.getElem_cons_zero, List.getElem_cons_succ, List.setIfInBounds_toArray, List.set_cons_zero, List.set_cons_succ]
                refine' wpAnyH_take (i := 7) (v := _) rfl (by kernel_rfl) (by kernel_rfl) (by kernel_rfl) (fun _ _ _ h => h) (Or.inl ⟨by rfl, ?hy7⟩) (by assumption) ?rest7
                case hy7 => (intro w' hSw; (try dsimp only at hSw); go_simp; (try with_reducible rfl))
                try simp only [Act.put, List.getElem_toArray, List.getElem_cons_zero, List.getElem_cons_succ, List.setIfInBounds_toArray, List.set_cons_zero, List.set_cons_succ]
                refine' wpAnyH_take (i := 8) (v := _) rfl (by kernel_rfl) (by kernel_rfl) (by kernel_rfl) (fun _ _ _ h => h) (Or.inl ⟨by rfl, ?hy8⟩) (by assumption) ?rest8
                case hy8 => (intro w' hSw; (try dsimp only at hSw); go_simp; (try with_reducible rfl))
                try simp only [Act.put, List.getElem_toArray, List.getElem_cons_zero, List.getElem_cons_succ, List.setIfInBounds_toArray, List.set_cons_zero, List.set_cons_succ]
                refine' wpAnyH_take (i := 9) (v := _) rfl (by kernel_rfl) (by kernel_rfl) (by kernel_rfl) (fun _ _ _ h => h) (Or.inl ⟨by rfl, ?hy9⟩) (by assumption) ?rest9
                case hy9 => (intro w' hSw; (try dsimp only at hSw); go_simp; (try with_reducible rfl))
                try simp only [Act.put, List.getElem_toArray, List.getElem_cons_zero, List.getElem_cons_succ, List.setIfInBounds_toArray, List.set_cons_zero, List.set_cons_succ]
                refine' wpAnyH_take (i := 12) (v := _) rfl (by kernel_rfl) (by kernel_rfl) (by kernel_rfl) (fun _ _ _ h => h) (Or.inl ⟨by rfl, ?hy12⟩) (by assumption) ?rest12
                case hy12 => (intro w' hSw; (try dsimp only at hSw); go_simp; (try with_reducible rfl))
                try simp only [Act.put, List.getElem_toArray, List.getElem_cons_zero, List.getElem_cons_succ, List.setIfInBounds_toArray, List.set_cons_zero, List.set_cons_succ]
                refine' wpAnyH_take (i := 13) (v := _) rfl (by kernel_rfl) (by kernel_rfl) (by kernel_rfl) (fun _ _ _ h => h) (Or.inl ⟨by rfl, ?hy13⟩) (by assumption) ?rest13
                case hy13 => (intro w' hSw; (try dsimp only at hSw); go_simp; (try with_reducible rfl))
                try simp only [Act.put, List.getElem_toArray, List.getElem_cons_zero, List.getElem_cons_succ, List.setIfInBounds_toArray, List.set_cons_zero, List.set_cons_succ]
                refine' wpAnyH_take (i := 14) (v := _) rfl (by kernel_rfl) (by kernel_rfl) (by kernel_rfl) (fun _ _ _ h => h) (Or.inl ⟨by rfl, ?hy14⟩) (by assumption) ?rest14
                case hy14 => (intro w' hSw; (try dsimp only at hSw); go_simp; (try with_reducible rfl))
                try simp only [Act.put, List.getElem_toArray, List.getElem_cons_zero, List.getElem_cons_succ, List.setIfInBounds_toArray, List.set_cons_zero, List.set_cons_succ]
                refine' wpAnyH_take (i := 15) (v := _) rfl (by kernel_rfl) (by kernel_rfl) (by kernel_rfl) (fun _ _ _ h => h) (Or.inl ⟨by rfl, ?hy15⟩) (by assumption) ?rest15
                case hy15 => (intro w' hSw; (try dsimp only at hSw); go_simp; (try with_reducible rfl))
                try simp only [Act.put, List.getElem_toArray, List.getElem_cons_zero, List.getElem_cons_succ, List.setIfInBounds_toArray, List.set_cons_zero, List.set_cons_succ]
                refine' wpAnyH_take (i := 16) (v := _) rfl (by kernel_rfl) (by kernel_rfl) (by kernel_rfl) (fun _ _ _ h => h) (Or.inl ⟨by rfl, ?hy16⟩) (by assumption) ?rest16
                case hy16 => (intro w' hSw; (try dsimp only at hSw); go_simp; (try with_reducible rfl))
                try simp only [Act.put, List.getElem_toArray, List.getElem_cons_zero, List.getElem_cons_succ, List.setIfInBounds_toArray, List.set_cons_zero, List.set_cons_succ]
                refine wpAnyH_ready (rs := [10]) (by kernel_rfl) (by simp) (AllReadyH.cons rfl (fun K hK => ?_) AllReadyH.nil)
                go_simp
                go_at_call 16; refine HK7.out.mono ?_; rintro e w8 ⟨a8, c8, rfl, hm8⟩; have sk : (convert 23 9 (.slice a8 m c8)).run Try.prog w8 = .ok (.string (strOfNums ts)) w8 := run_str (made_rowAt hm8.out)
                refine hK.out _ _ (heldS_then HC7.out HRX7.out ((Below.refl _ w6).drew) hm8) (fun hHeld => ?_)
                clear hK K
                try simp only [Act.put, List.getElem_toArray, List.getElem_cons_zero, List.getElem_cons_succ, List.setIfInBounds_toArray, List.set_cons_zero, List.set_cons_succ]
                obtain ⟨hc8, sx8, hb8⟩ := hHeld
                refine wpAnyH_rest (S := fun w' => w'.cell? ⟨bx, ox + j, none⟩ = some (.slice ax7 m cx7) ∧ (convert 23 9 (.slice ax7 m cx7)).run Try.prog w' = .ok (.string (strOfNums ts)) w' ∧ Hid (Below w6.heap.size w6 w')) ⟨hc8, sx8, hb8⟩ ?_
                refine' wpAnyH_take (i := 11) (v := _) rfl (by kernel_rfl) (by kernel_rfl) (by kernel_rfl) (fun _ _ _ h => h) (Or.inl ⟨by rfl, ?hy11⟩) rfl ?rest11
                case hy11 => (rintro w' rfl; go_simp; (try with_reducible rfl))
                try simp only [Act.put, List.getElem_toArray, List.getElem_cons_zero, List.getElem_cons_succ, List.setIfInBounds_toArray, List.set_cons_zero, List.set_cons_succ]
                refine' wpAnyH_take (i := 17) (v := _) rfl (by kernel_rfl) (by kernel_rfl) (by kernel_rfl) (fun _ _ _ h => h) (Or.inl ⟨by rfl, ?hy17⟩) rfl ?rest17
                case hy17 => (rintro w' rfl; go_simp; (try with_reducible rfl))
                try simp only [Act.put, List.getElem_toArray, List.getElem_cons_zero, List.getElem_cons_succ, List.setIfInBounds_toArray, List.set_cons_zero, List.set_cons_succ]
                refine' wpAnyH_take (i := 18) (v := _) rfl (by kernel_rfl) (by kernel_rfl) (by kernel_rfl) (fun _ _ _ h => h) (Or.inl ⟨by rfl, ?hy18⟩) rfl ?rest18
                case hy18 => (rintro w' rfl; go_simp; (try with_reducible rfl))
                try simp only [Act.put, List.getElem_toArray, List.getElem_cons_zero, List.getElem_cons_succ, List.setIfInBounds_toArray, List.set_cons_zero, List.set_cons_succ]
                refine wpAnyH_done (by kernel_rfl) ?_ _
                have HT8 := Lib.hid (h6.out.below hb8.out)
                clear hc8 sx8 sk hm8 hb8
                go_wp2
                go_roundw
                case rel => exact ⟨j + 1, by omega, by go_num, HT8⟩
                case measure => simp [intOf]; omega
          · obtain rfl : j = T.length := by omega
            go_wp2_with fail
            refine (len_two H.out).mono ?_
            rintro e w4 ⟨rfl, rfl⟩
            go_wp2_with fail
            refine (HA.out _).mono ?_
            rintro e w4 ⟨rfl, hb4⟩
            have HB4 := Lib.hid hb4
            clear hb4
            go_wp2
            go_ret
            exact ⟨rfl, below_then H.out.old HB4.out⟩
end Go.Proofs.Ytflnddpbkaeaaaa
