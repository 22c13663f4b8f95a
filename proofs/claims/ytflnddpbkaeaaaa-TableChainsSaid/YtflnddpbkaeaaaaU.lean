/- The walk of TableOnce. -/
import Derived.Test.YtflnddpbkaeaaaaS
import Derived.Test.YtflnddpbkaeaaaaHeld
import Derived.Outline
namespace Go.Proofs.Ytflnddpbkaeaaaa
open Go.RowKit Go.Own
set_option maxRecDepth 100000 in
set_option maxHeartbeats 8000000 in



theorem once_any (a1 : Option Addr) (n1 c1 : Nat) (X : List (List Int)) (w : World)
    (hr1 : Rows (fun b => b < w.heap.size) w a1 n1 X) (hX : ∀ t ∈ X, IsBytes t) (l1 : n1 ≤ c1) (m1 : c1 ≤ maxLen) (s1 : c1 * 24 ≤ 140737488351232) (nil1 : a1 = none → n1 = 0 ∧ c1 = 0) :
    Calls Try.prog 4 #[.slice a1 n1 c1] w fun e w' => e = .returned (.bool true) ∧ Below w.heap.size w w' := by
  have HA := Lib.hid awake_any
  have HR1 := Lib.hid hr1
  have HX := Lib.hid hX
  have HL1 : Hid (X.length = n1) := hr1.1
  have hn1 : n1 ≤ 9223372036854775807 := by omega
  have HH := Lib.hid (heavy_any _ a1 n1 c1 X w hr1 hn1)
  clear hr1 hX l1 m1 s1 nil1
  cases hhv : heavyB X with
  | true =>
    rw [hhv] at HH
    clear hhv
    go_enter Try.func4, Try.ntmps4
    go_wp2_with fail
    refine HH.out.mono ?_
    rintro e w2 ⟨rfl, rfl⟩
    go_wp2_with fail
    refine (HA.out w).mono ?_
    rintro e w2 ⟨rfl, hb1⟩
    have HB := Lib.hid hb1
    clear hb1
    go_wp2
    go_ret
    exact ⟨rfl, HB.out⟩
  | false =>
    rw [hhv] at HH
    have hv := heavy_no hhv
    have HV1 : Hid (n1 ≤ 100) := by rw [← HL1.out]; exact hv.1
    have HV2 := Lib.hid hv.2
    clear hhv hv
    have HN := Lib.hid (new_yes 100 w (by decide) (by decide))
    have HT0 := Lib.hid (Once.new w 100)
    obtain ⟨i0, hi0, hz0, hz1, hz2⟩ := info_parts Try.info3
    go_enter Try.func4, Try.ntmps4
    go_wp2_with fail
    refine HH.out.mono ?_
    rintro e w2 ⟨rfl, rfl⟩
    go_wp2_with fail
    refine HN.out.mono ?_
    rintro e w1 ⟨rfl, rfl⟩
    generalize w.alloc (.cells (new49 100) 49) = w1 at *
    clear HN HH
    go_wp2
    go_loopw [4, 5] (fun v i wr => ∃ k : Nat, k ≤ n1 ∧ i = .int .i64 k ∧ ∃ a' c', v = .slice a' k c' ∧ Hid (Once w wr w.heap.size 100 (playT 100 X k) (.slice a' k c') (nums X (playT 100 X k) k))) (fun _ i _ => n1 - (intOf i).toNat)
    case atStart => exact ⟨0, Nat.zero_le _, rfl, none, 0, rfl, HT0⟩
    case round =>
      obtain ⟨k, hk, rfl, a', c', rfl, H⟩ := hrel
      by_cases hlt : k < n1
      · have hltI : (k : Int) < (n1 : Int) := by omega
        obtain ⟨b, off, ai, ci, rfl, hc, hri, hni⟩ := HR1.out.at k hlt
        have HC := Lib.hid hc
        have HRI := Lib.hid hri
        have hkX : k < X.length := by rw [HL1.out]; exact hlt
        have hmem : X.getD k [] ∈ X := getD_mem hkX
        have hlen := HV2.out _ hmem
        have HBY := Lib.hid (HX.out _ hmem)
        have hT1 := playT_len 100 X k
        have hroom : ((playT 100 X k).length : Int) < 100 := by have := HV1.out; omega
        have hT2 : Hid ((playT 100 X k).flatten.length ≤ 10000) := by
          have h1 := flat_bound (T := playT 100 X k) (B := 100) (fun t ht => HV2.out t (playT_mem 100 X k (by omega) t ht))
          have h2 := HV1.out
          show _ ≤ _
          omega
        have hnd := addT_nodup (mo := 100) (bs := X.getD k []) H.out.nodup
        have hall : ∀ j, j < k → X.getD j [] ∈ playT 100 X k := playT_all k (by have := HV1.out; omega) (by omega)
        have HP : Hid (playT 100 X (k + 1) = addT (playT 100 X k) 100 (X.getD k [])) := rfl
        obtain ⟨p, hp, hpe, hpx⟩ := idx_pos (addT_room (bs := X.getD k []) hroom)
        have HNS := Lib.hid (nums_step hkX hnd hall (p : Int) hpx.symm)
        have HNL := Lib.hid (nums_len X (playT 100 X k) k (by omega))
        have HNA : Hid (∀ j, j < k → ∃ r : Nat, (nums X (playT 100 X k) k).getD j 0 = (r : Int) ∧ ((r : Int) == (p : Int)) = decide (X.getD j [] = X.getD k [])) := fun j hj => by
          obtain ⟨r, hr, _, hrx⟩ := idx_pos (hall j hj)
          refine ⟨r, by rw [nums_at X _ k j (by omega) hj, hrx], ?_⟩
          rw [← hrx, ← idx_add hnd (hall j hj), ← hpx]
          exact idx_inj (addT_sub (hall j hj)) (addT_room hroom)
        have HST : Hid (∀ j, j < k → ((strOfNums (X.getD j [])).toList == (strOfNums (X.getD k [])).toList) = decide (X.getD j [] = X.getD k [])) := fun j hj =>
          str_beq (HX.out _ (getD_mem (by omega))) HBY.out
        have hq : ((strOfNums (X.getD k [])).toList == (strOfNums (X.getD k [])).toList) = true := by rw [str_beq HBY.out HBY.out]; simp
        have hcr := (H.out.old.cell (World.block_lt_of_cell? w _ hc)).trans hc
        have HAD := Lib.hid (add_once H.out ai _ ci _ (hri.below H.out.old) hni HBY.out (by have := hT2.out; omega) (by have := HV1.out; omega))
        rw [addN_room hnd hroom, hpx, addE_room hroom] at HAD
        have HKE := Lib.hid fun w' (h : Once w w' w.heap.size 100 (addT (playT 100 X k) 100 (X.getD k [])) (.slice a' k c') (nums X (playT 100 X k) k)) => key_once h p hp (X.getD k []) hpe (by omega)
        have t0 : decide ((p : Int) < 0) = false := decide_eq_false (by omega)
        have t1 : decide ((addT (playT 100 X k) 100 (X.getD k [])).length ≤ p) = false := decide_eq_false (by omega)
        clear hri hmem hc hni hnd hall hroom hpe hpx hp hT1 hT2
        generalize addP (playT 100 X k) 100 (X.getD k []) = vP at *
        generalize addT (playT 100 X k) 100 (X.getD k []) = T' at *
        generalize nums X (playT 100 X k) k = ns at *
        generalize playT 100 X k = T at *
        generalize X.getD k [] = ts at *
        go_wp2_with fail
        refine HAD.out.mono ?_
        rintro e w2 ⟨rfl, h2⟩
        have hc2 := (h2.out.old.cell (World.block_lt_of_cell? w _ HC.out)).trans HC.out
        have HC2 := Lib.hid hc2
        have HLE := Lib.hid fun w' (h : Below w2.heap.size w2 w') => len_once (h2.out.below h)
        have HK := Lib.hid fun w' (h : Below w2.heap.size w2 w') => HKE.out _ (h2.out.below h)
        have HRX := Lib.hid (HRI.out.below h2.out.old)
        clear hcr HAD HKE
        go_wp2_with fail
        refine wp_region_held_drew (S := fun w' => w'.cell? ⟨b, off + k, none⟩ = some (.slice ai ts.length ci) ∧ (convert 23 9 (.slice ai ts.length ci)).run Try.prog w' = .ok (.string (strOfNums ts)) w' ∧ Hid (Below w2.heap.size w2 w')) (by kernel_rfl) (heldS_first HC2.out HRX.out) (fun hHeld => ?_)
        refine' wpAnyH_take (i := 0) (v := _) rfl (by kernel_rfl) (by kernel_rfl) (by kernel_rfl) (fun _ _ _ h => h) (Or.inl ⟨by rfl, ?hy0⟩) (by assumption) ?rest0
        case hy0 => (intro w' hSw; (try dsimp only at hSw); go_simp; (try with_reducible rfl))
        try simp only [Act.put, List.getElem_toArray, List.getElem_cons_zero, List.getElem_cons_succ, List.setIfInBounds_toArray, List.set_cons_zero, List.set_cons_succ]
        refine' wpAnyH_take (i := 1) (v := _) rfl (by kernel_rfl) (by kernel_rfl) (by kernel_rfl) (fun _ _ _ h => h) (Or.inl ⟨by rfl, ?hy1⟩) (by assumption) ?rest1
        case hy1 => (intro w' hSw; (try dsimp only at hSw); go_simp; (try with_reducible rfl))
        try simp only [Act.put, List.getElem_toArray, List.getElem_cons_zero, List.getElem_cons_succ, List.setIfInBounds_toArray, List.set_cons_zero, List.set_cons_succ]
        refine' wpAnyH_take (i := 2) (v := _) rfl (by kernel_rfl) (by kernel_rfl) (by kernel_rfl) (fun _ _ _ h => h) (Or.inl ⟨by rfl, ?hy2⟩) (by assumption) ?rest2
        case hy2 => (intro w' hSw; (try dsimp only at hSw); go_simp; (try with_reducible rfl))
        try simp only [Act.put, List.getElem_toArray, List.getElem_cons_zero, List.getElem_cons_succ, List.setIfInBounds_toArray, List.set_cons_zero, List.set_cons_succ]
        refine' wpAnyH_take (i := 3) (v := _) rfl (by kernel_rfl) (by kernel_rfl) (by kernel_rfl) (fun _ _ _ h => h) (Or.inl ⟨by rfl, ?hy3⟩) (by assumption) ?rest3
        case hy3 => (intro w' hSw; (try dsimp only at hSw); go_simp; (try with_reducible rfl))
        try simp only [Act.put, List.getElem_toArray, List.getElem_cons_zero, List.getElem_cons_succ, List.setIfInBounds_toArray, List.set_cons_zero, List.set_cons_succ]
        refine' wpAnyH_take (i := 4) (v := _) rfl (by kernel_rfl) (by kernel_rfl) (by kernel_rfl) (fun _ _ _ h => h) (Or.inl ⟨by rfl, ?hy4⟩) (by assumption) ?rest4
        case hy4 => (intro w' hSw; (try dsimp only at hSw); go_simp; (try with_reducible rfl))
        try simp only [Act.put, List.getElem_toArray, List.getElem_cons_zero, List.getElem_cons_succ, List.setIfInBounds_toArray, List.set_cons_zero, List.set_cons_succ]
        refine' wpAnyH_take (i := 5) (v := _) rfl (by kernel_rfl) (by kernel_rfl) (by kernel_rfl) (fun _ _ _ h => h) (Or.inl ⟨by rfl, ?hy5⟩) (by assumption) ?rest5
        case hy5 => (intro w' hSw; (try dsimp only at hSw); go_simp; (try with_reducible rfl))
        try simp only [Act.put, List.getElem_toArray, List.getElem_cons_zero, List.getElem_cons_succ, List.setIfInBounds_toArray, List.set_cons_zero, List.set_cons_succ]
        refine' wpAnyH_take (i := 6) (v := _) rfl (by kernel_rfl) (by kernel_rfl) (by kernel_rfl) (fun _ _ _ h => h) (Or.inl ⟨by rfl, ?hy6⟩) (by assumption) ?rest6
        case hy6 => (intro w' hSw; (try dsimp only at hSw); go_simp; (try with_reducible rfl))
        try simp only [Act.put, List.getElem_toArray, List.getElem_cons_zero, List.getElem_cons_succ, List.setIfInBounds_toArray, List.set_cons_zero, List.set_cons_succ]
        refine' wpAnyH_take (i := 7) (v := _) rfl (by kernel_rfl) (by kernel_rfl) (by kernel_rfl) (fun _ _ _ h => h) (Or.inl ⟨by rfl, ?hy7⟩) (by assumption) ?rest7
        case hy7 => (intro w' hSw; (try dsimp only at hSw); go_simp; (try with_reducible rfl))
        try simp only [Act.put, List.getElem_toArray, List.getElem_cons_zero, List.getElem_cons_succ, List.setIfInBounds_toArray, List.set_cons_zero, List.set_cons_succ]
        refine' wpAnyH_take (i := 8) (v := _) rfl (by kernel_rfl) (by kernel_rfl) (by kernel_rfl) (fun _ _ _ h => h) (Or.inl ⟨by rfl, ?hy8⟩) (by assumption) ?rest8
        case hy8 => (intro w' hSw; (try dsimp only at hSw); go_simp; (try with_reducible rfl))
        try simp only [Act.put, List.getElem_toArray, List.getElem_cons_zero, List.getElem_cons_succ, List.setIfInBounds_toArray, List.set_cons_zero, List.set_cons_succ]
        refine wpAnyH_ready (rs := [9]) (by kernel_rfl) (by simp) (AllReadyH.cons rfl (fun K hK => ?_) AllReadyH.nil)
        go_simp
        go_at_call 13; refine (HLE.out _ ((Below.refl _ w2).drew)).mono ?_; rintro e w3 ⟨rfl, rfl⟩
        refine hK.out _ _ (hHeld) (fun hHeld => ?_)
        clear hK K
        try simp only [Act.put, List.getElem_toArray, List.getElem_cons_zero, List.getElem_cons_succ, List.setIfInBounds_toArray, List.set_cons_zero, List.set_cons_succ]
        refine' wpAnyH_take (i := 10) (v := _) rfl (by kernel_rfl) (by kernel_rfl) (by kernel_rfl) (fun _ _ _ h => h) (Or.inl ⟨by rfl, ?hy10⟩) (by assumption) ?rest10
        case hy10 => (intro w' hSw; (try dsimp only at hSw); go_simp; (try with_reducible rfl))
        try simp only [Act.put, List.getElem_toArray, List.getElem_cons_zero, List.getElem_cons_succ, List.setIfInBounds_toArray, List.set_cons_zero, List.set_cons_succ]
        refine' wpAnyH_take (i := 11) (v := _) rfl (by kernel_rfl) (by kernel_rfl) (by kernel_rfl) (fun _ _ _ h => h) (Or.inl ⟨by rfl, ?hy11⟩) (by assumption) ?rest11
        case hy11 => (intro w' hSw; (try dsimp only at hSw); go_simp; (try with_reducible rfl))
        try simp only [Act.put, List.getElem_toArray, List.getElem_cons_zero, List.getElem_cons_succ, List.setIfInBounds_toArray, List.set_cons_zero, List.set_cons_succ]
        refine' wpAnyH_take (i := 12) (v := _) rfl (by kernel_rfl) (by kernel_rfl) (by kernel_rfl) (fun _ _ _ h => h) (Or.inl ⟨by rfl, ?hy12⟩) (by assumption) ?rest12
        case hy12 => (intro w' hSw; (try dsimp only at hSw); go_simp; (try with_reducible rfl))
        try simp only [Act.put, List.getElem_toArray, List.getElem_cons_zero, List.getElem_cons_succ, List.setIfInBounds_toArray, List.set_cons_zero, List.set_cons_succ]
        refine' wpAnyH_take (i := 13) (v := _) rfl (by kernel_rfl) (by kernel_rfl) (by kernel_rfl) (fun _ _ _ h => h) (Or.inl ⟨by rfl, ?hy13⟩) (by assumption) ?rest13
        case hy13 => (intro w' hSw; (try dsimp only at hSw); go_simp; (try with_reducible rfl))
        try simp only [Act.put, List.getElem_toArray, List.getElem_cons_zero, List.getElem_cons_succ, List.setIfInBounds_toArray, List.set_cons_zero, List.set_cons_succ]
        refine' wpAnyH_take (i := 14) (v := _) rfl (by kernel_rfl) (by kernel_rfl) (by kernel_rfl) (fun _ _ _ h => h) (Or.inl ⟨by rfl, ?hy14⟩) (by assumption) ?rest14
        case hy14 => (intro w' hSw; (try dsimp only at hSw); go_simp; (try with_reducible rfl))
        try simp only [Act.put, List.getElem_toArray, List.getElem_cons_zero, List.getElem_cons_succ, List.setIfInBounds_toArray, List.set_cons_zero, List.set_cons_succ]
        refine' wpAnyH_take (i := 17) (v := _) rfl (by kernel_rfl) (by kernel_rfl) (by kernel_rfl) (fun _ _ _ h => h) (Or.inl ⟨by rfl, ?hy17⟩) (by assumption) ?rest17
        case hy17 => (intro w' hSw; (try dsimp only at hSw); go_simp; (try with_reducible rfl))
        try simp only [Act.put, List.getElem_toArray, List.getElem_cons_zero, List.getElem_cons_succ, List.setIfInBounds_toArray, List.set_cons_zero, List.set_cons_succ]
        refine' wpAnyH_take (i := 18) (v := _) rfl (by kernel_rfl) (by kernel_rfl) (by kernel_rfl) (fun _ _ _ h => h) (Or.inl ⟨by rfl, ?hy18⟩) (by assumption) ?rest18
        case hy18 => (intro w' hSw; (try dsimp only at hSw); go_simp; (try with_reducible rfl))
        try simp only [Act.put, List.getElem_toArray, List.getElem_cons_zero, List.getElem_cons_succ, List.setIfInBounds_toArray, List.set_cons_zero, List.set_cons_succ]
        refine' wpAnyH_take (i := 19) (v := _) rfl (by kernel_rfl) (by kernel_rfl) (by kernel_rfl) (fun _ _ _ h => h) (Or.inl ⟨by rfl, ?hy19⟩) (by assumption) ?rest19
        case hy19 => (intro w' hSw; (try dsimp only at hSw); go_simp; (try with_reducible rfl))
        try simp only [Act.put, List.getElem_toArray, List.getElem_cons_zero, List.getElem_cons_succ, List.setIfInBounds_toArray, List.set_cons_zero, List.set_cons_succ]
        refine' wpAnyH_take (i := 20) (v := _) rfl (by kernel_rfl) (by kernel_rfl) (by kernel_rfl) (fun _ _ _ h => h) (Or.inl ⟨by rfl, ?hy20⟩) (by assumption) ?rest20
        case hy20 => (intro w' hSw; (try dsimp only at hSw); go_simp; (try with_reducible rfl))
        try simp only [Act.put, List.getElem_toArray, List.getElem_cons_zero, List.getElem_cons_succ, List.setIfInBounds_toArray, List.set_cons_zero, List.set_cons_succ]
        refine' wpAnyH_take (i := 21) (v := _) rfl (by kernel_rfl) (by kernel_rfl) (by kernel_rfl) (fun _ _ _ h => h) (Or.inl ⟨by rfl, ?hy21⟩) (by assumption) ?rest21
        case hy21 => (intro w' hSw; (try dsimp only at hSw); go_simp; (try with_reducible rfl))
        try simp only [Act.put, List.getElem_toArray, List.getElem_cons_zero, List.getElem_cons_succ, List.setIfInBounds_toArray, List.set_cons_zero, List.set_cons_succ]
        refine wpAnyH_ready (rs := [15]) (by kernel_rfl) (by simp) (AllReadyH.cons rfl (fun K hK => ?_) AllReadyH.nil)
        go_simp
        go_at_call 16; refine (HK.out _ ((Below.refl _ w2).drew)).mono ?_; rintro e w4 ⟨a4, c4, rfl, hm4⟩; have sk := run_str (c := c4) (made_rowAt hm4.out)
        refine hK.out _ _ (heldS_then HC2.out HRX.out ((Below.refl _ w2).drew) hm4) (fun hHeld => ?_)
        clear hK K
        try simp only [Act.put, List.getElem_toArray, List.getElem_cons_zero, List.getElem_cons_succ, List.setIfInBounds_toArray, List.set_cons_zero, List.set_cons_succ]
        obtain ⟨hc4, sx4, hb4⟩ := hHeld
        refine wpAnyH_rest (S := fun w' => w'.cell? ⟨b, off + k, none⟩ = some (.slice ai ts.length ci) ∧ (convert 23 9 (.slice ai ts.length ci)).run Try.prog w' = .ok (.string (strOfNums ts)) w' ∧ Hid (Below w2.heap.size w2 w')) ⟨hc4, sx4, hb4⟩ ?_
        refine' wpAnyH_take (i := 16) (v := _) rfl (by kernel_rfl) (by kernel_rfl) (by kernel_rfl) (fun _ _ _ h => h) (Or.inl ⟨by rfl, ?hy16⟩) rfl ?rest16
        case hy16 => (rintro w' rfl; go_simp; (try with_reducible rfl))
        try simp only [Act.put, List.getElem_toArray, List.getElem_cons_zero, List.getElem_cons_succ, List.setIfInBounds_toArray, List.set_cons_zero, List.set_cons_succ]
        refine' wpAnyH_take (i := 22) (v := _) rfl (by kernel_rfl) (by kernel_rfl) (by kernel_rfl) (fun _ _ _ h => h) (Or.inl ⟨by rfl, ?hy22⟩) rfl ?rest22
        case hy22 => (rintro w' rfl; go_simp; (try with_reducible rfl))
        try simp only [Act.put, List.getElem_toArray, List.getElem_cons_zero, List.getElem_cons_succ, List.setIfInBounds_toArray, List.set_cons_zero, List.set_cons_succ]
        refine' wpAnyH_take (i := 23) (v := _) rfl (by kernel_rfl) (by kernel_rfl) (by kernel_rfl) (fun _ _ _ h => h) (Or.inl ⟨by rfl, ?hy23⟩) rfl ?rest23
        case hy23 => (rintro w' rfl; go_simp; (try with_reducible rfl))
        try simp only [Act.put, List.getElem_toArray, List.getElem_cons_zero, List.getElem_cons_succ, List.setIfInBounds_toArray, List.set_cons_zero, List.set_cons_succ]
        refine wpAnyH_done (by kernel_rfl) ?_ _
        have Hx0 := Lib.hid (h2.out.below hb4.out)
        clear hc4 sx4 sk hm4 hq HK HLE HC2 hc2 hb4
        go_wp2
        go_loopw [9] (fun jv wx => ∃ m : Nat, m ≤ k ∧ jv = .int .i64 m ∧ Hid (Once w wx w.heap.size 100 T' (.slice a' k c') ns)) (fun jv _ => k - (intOf jv).toNat)
        case atStart => exact ⟨0, Nat.zero_le _, rfl, Hx0⟩
        case round =>
          obtain ⟨m, hm, rfl, Hx⟩ := hrel
          by_cases hmk : m < k
          · have hmI : (m : Int) < (k : Int) := by omega
            have hmn : (m : Int) < (n1 : Int) := by omega
            have hkn : (k : Int) < (n1 : Int) := by omega
            obtain ⟨gb, rfl, hcn⟩ := once_num Hx.out HNL.out m hmk
            obtain ⟨r, hr, hrp⟩ := HNA.out m hmk
            rw [hr] at hcn
            obtain ⟨bb, oo, am, cm, hbb, hcm, hrm, _⟩ := HR1.out.at m (by omega)
            cases hbb
            have hcm' := (Hx.out.old.cell (World.block_lt_of_cell? w _ hcm)).trans hcm
            have hck' := (Hx.out.old.cell (World.block_lt_of_cell? w _ HC.out)).trans HC.out
            have hs1 : ∀ q, (convert 23 9 (.slice am (X.getD m []).length cm)).run Try.prog (wr.drewN q) = .ok (.string (strOfNums (X.getD m []))) (wr.drewN q) := fun q => run_str ((hrm.below Hx.out.old).below (below_drewN _ _))
            have hs2 : ∀ q, (convert 23 9 (.slice ai ts.length ci)).run Try.prog (wr.drewN q) = .ok (.string (strOfNums ts)) (wr.drewN q) := fun q => run_str ((HRI.out.below Hx.out.old).below (below_drewN _ _))
            have hq := HST.out m hmk
            have Hx1 := Lib.hid fun q => Hx.out.below (below_drewN _ q)
            clear hr hcm hrm
            by_cases heq : X.getD m [] = ts
            · rw [decide_eq_true heq] at hrp hq
              obtain rfl : r = p := by have := eq_of_beq hrp; omega
              clear heq hrp
              generalize X.getD m [] = tm at *
              go_wp2_with fail
              go_quiet (fail)
              go_wp2
              go_roundw
              case rel => exact ⟨m + 1, by omega, by go_num, Hx1.out _⟩
              case measure => simp [intOf]; omega
            · rw [decide_eq_false heq] at hrp hq
              have hrp2 : (r == p) = false := beq_eq_false_iff_ne.2 (fun e => by rw [e] at hrp; simp at hrp)
              clear heq
              generalize X.getD m [] = tm at *
              go_wp2_with fail
              go_quiet (fail)
              go_wp2
              go_roundw
              case rel => exact ⟨m + 1, by omega, by go_num, Hx1.out _⟩
              case measure => simp [intOf]; omega
          · obtain rfl : m = k := by omega
            have hv1 := HV1.out
            have HSL : Hid (Sl wr 3 (.slice a' m c') m (ns.map (Value.int .i64))) := by have := Hx.out.sl; rw [HNL.out] at this; exact this
            go_wp2_with (at_builtin; refine wpList_append_one_pos rfl (.tmp 79) (.tmp 81) 40 rfl 3 i0 (.int .i64 0) 8 Try.underlying40 hi0 hz0 hz1 hz2 rfl (by decide) (.slice a' m c') m _ rfl HSL.out (.int .i64 (p : Int)) rfl rfl (by omega) ?_; intro g5 c5 w5 hs5 hk5 hm5; have HP5 := Lib.hid (Once.push Hx.out HNL.out hs5 hk5 hm5); clear hs5 hk5 hm5)
            go_roundw
            case rel => exact ⟨m + 1, by omega, by go_num, _, c5, rfl, by rw [HP.out, HNS.out]; exact HP5.out⟩
            case measure => simp [intOf]; omega
      · obtain rfl : k = n1 := by omega
        go_wp2_with fail
        refine (HA.out _).mono ?_
        rintro e w4 ⟨rfl, hb4⟩
        have HB4 := Lib.hid hb4
        clear hb4
        go_wp2
        go_ret
        exact ⟨rfl, below_then H.out.old HB4.out⟩
end Go.Proofs.Ytflnddpbkaeaaaa
