/- The walk of TablePlays. -/
import Derived.Test.YtflnddpbkaeaaaaQ
import Derived.Test.YtflnddpbkaeaaaaK
import Derived.Deep.RegionHeld3
namespace Go.Proofs.Ytflnddpbkaeaaaa
open Go.RowKit Go.Own

theorem held_at {wr w' : World} {b o : Nat} {v : Value} (hc : wr.cell? ⟨b, o, none⟩ = some v) (hb : Below wr.heap.size wr w') : w'.cell? ⟨b, o, none⟩ = some v ∧ Hid (Below wr.heap.size wr w') :=
  ⟨(hb.cell (World.block_lt_of_cell? wr _ hc)).trans hc, hb⟩

set_option maxRecDepth 100000 in
set_option maxHeartbeats 4000000 in
theorem plays_any (mo : Int) (a1 : Option Addr) (n1 c1 : Nat) (X : List (List Int)) (a2 : Option Addr) (n2 c2 : Nat) (os : List Int) (w : World) (wm : (Lit.int .i64 mo).wf = true)
    (hr1 : Rows (fun b => b < w.heap.size) w a1 n1 X) (hX : ∀ t ∈ X, IsBytes t) (l1 : n1 ≤ c1) (m1 : c1 ≤ maxLen) (s1 : c1 * 24 ≤ 140737488351232) (nil1 : a1 = none → n1 = 0 ∧ c1 = 0)
    (hr2 : RowAt .u8 w a2 n2 os) (hz2 : ∀ z ∈ os, (Lit.int .u8 z).wf = true) (l2 : n2 ≤ c2) (m2 : c2 ≤ maxLen) (s2 : c2 * 1 ≤ 140737488351232) (nil2 : a2 = none → n2 = 0 ∧ c2 = 0) :
    Calls Try.prog 3 #[.int .i64 mo, .slice a1 n1 c1, .slice a2 n2 c2] w fun e w' => e = .returned (.bool true) ∧ Below w.heap.size w w' := by
  have HA := Lib.hid awake_any
  have HR1 := Lib.hid hr1
  have HR2 := Lib.hid hr2
  have HX := Lib.hid hX
  have HL1 : Hid (X.length = n1) := hr1.1
  have HO : Hid (IsBytes os) := fun z hz => by have := wf_u8_bd (hz2 z hz); omega
  have hn1 : n1 ≤ 9223372036854775807 := by omega
  have hn2 : n2 ≤ 9223372036854775807 := by omega
  clear hr1 hr2 hX hz2 l1 m1 s1 nil1 l2 m2 s2 nil2 wm
  by_cases hout : mo < 0 ∨ 65536 < mo
  · have HN := Lib.hid (new_no mo w hout)
    have t0 : (decide (mo < 0) || decide (65536 < mo)) = true := by
      rcases hout with h | h <;> simp [h]
    rcases Int.lt_or_le mo 0 with h0 | h0
    · have t1 : decide (mo < 0) = true := decide_eq_true h0
      clear hout t0 h0
      go_enter Try.func3, Try.ntmps3
      go_wp2_with fail
      refine HN.out.mono ?_
      rintro e w1 ⟨rfl, rfl⟩
      go_wp2_with fail
      refine (HA.out w).mono ?_
      rintro e w1 ⟨rfl, hb1⟩
      have HB := Lib.hid hb1
      clear hb1
      go_wp2
      go_ret
      exact ⟨rfl, HB.out⟩
    · have t1 : decide (mo < 0) = false := decide_eq_false (by omega)
      have t2 : decide (65536 < mo) = true := decide_eq_true (by omega)
      clear hout t0 h0
      go_enter Try.func3, Try.ntmps3
      go_wp2_with fail
      refine HN.out.mono ?_
      rintro e w1 ⟨rfl, rfl⟩
      go_wp2_with fail
      refine (HA.out w).mono ?_
      rintro e w1 ⟨rfl, hb1⟩
      have HB := Lib.hid hb1
      clear hb1
      go_wp2
      go_ret
      exact ⟨rfl, HB.out⟩
  have HN := Lib.hid (new_yes mo w (by omega) (by omega))
  have t1 : decide (mo < 0) = false := decide_eq_false (by omega)
  have t2 : decide (65536 < mo) = false := decide_eq_false (by omega)
  have HT0 := Lib.hid (Two.new w mo)
  clear hout
  have HH := Lib.hid fun w' (h : Below w.heap.size w w') => heavy_any _ a1 n1 c1 X w' (HR1.out.below h) hn1
  cases hhv : heavyB X with
  | true =>
    rw [hhv] at HH
    clear hhv
    go_enter Try.func3, Try.ntmps3
    go_wp2_with fail
    refine HN.out.mono ?_
    rintro e w1 ⟨rfl, rfl⟩
    generalize w.alloc (.cells (new49 mo) 49) = w1 at *
    go_wp2_with fail
    refine (HH.out w1 HT0.out.old).mono ?_
    rintro e w2 ⟨rfl, rfl⟩
    go_wp2_with fail
    refine (HA.out w1).mono ?_
    rintro e w2 ⟨rfl, hb1⟩
    have HB := Lib.hid hb1
    clear hb1
    go_wp2
    go_ret
    exact ⟨rfl, below_then HT0.out.old HB.out⟩
  | false =>
    rw [hhv] at HH
    by_cases hbig : 100 < n2
    · have t3 : decide ((100 : Int) < (n2 : Int)) = true := decide_eq_true (by omega)
      clear hhv hbig
      go_enter Try.func3, Try.ntmps3
      go_wp2_with fail
      refine HN.out.mono ?_
      rintro e w1 ⟨rfl, rfl⟩
      generalize w.alloc (.cells (new49 mo) 49) = w1 at *
      go_wp2_with fail
      refine (HH.out w1 HT0.out.old).mono ?_
      rintro e w2 ⟨rfl, rfl⟩
      go_wp2_with fail
      refine (HA.out w1).mono ?_
      rintro e w2 ⟨rfl, hb1⟩
      have HB := Lib.hid hb1
      clear hb1
      go_wp2
      go_ret
      exact ⟨rfl, below_then HT0.out.old HB.out⟩
    have t3 : decide ((100 : Int) < (n2 : Int)) = false := decide_eq_false (by omega)
    have hv := heavy_no hhv
    have HV1 : Hid (n1 ≤ 100) := by rw [← HL1.out]; exact hv.1
    have HV2 := Lib.hid hv.2
    clear hhv hbig hv
    go_enter Try.func3, Try.ntmps3
    go_wp2_with fail
    refine HN.out.mono ?_
    rintro e w1 ⟨rfl, rfl⟩
    generalize w.alloc (.cells (new49 mo) 49) = w1 at *
    go_wp2_with fail
    refine (HH.out w1 HT0.out.old).mono ?_
    rintro e w2 ⟨rfl, rfl⟩
    clear HN HH
    go_wp2
    go_loopw [8, 9] (fun x i wr => ∃ k : Nat, k ≤ n1 ∧ i = .int .i64 k ∧ ∃ a' c', x = .slice a' (playT mo X k).length c' ∧ Hid (Two w wr w.heap.size mo (playT mo X k) (playT mo X k) a' c')) (fun _ i _ => n1 - (intOf i).toNat)
    case atStart => exact ⟨0, Nat.zero_le _, rfl, none, 0, rfl, HT0⟩
    case round =>
      obtain ⟨k, hk, rfl, a', c', rfl, H⟩ := hrel
      by_cases hlt : k < n1
      · have hltI : (k : Int) < (n1 : Int) := by omega
        obtain ⟨b, off, ai, ci, rfl, hc, hri, hni⟩ := HR1.out.at k hlt
        have HC := Lib.hid hc
        have HRI := Lib.hid hri
        have hmem : X.getD k [] ∈ X := getD_mem (by rw [HL1.out]; exact hlt)
        have hlen := HV2.out _ hmem
        have HBY := Lib.hid (HX.out _ hmem)
        have hT1 := playT_len mo X k
        have hT2 : Hid ((playT mo X k).flatten.length ≤ 10000) := by
          have h1 := flat_bound (T := playT mo X k) (B := 100) (fun t ht => HV2.out t (playT_mem mo X k (by rw [HL1.out]; exact hk) t ht))
          have h2 := HV1.out
          show _ ≤ _
          omega
        have HP : Hid (playT mo X (k + 1) = addT (playT mo X k) mo (X.getD k [])) := rfl
        have hcr := (H.out.old.cell (World.block_lt_of_cell? w _ hc)).trans hc
        have HAD := Lib.hid (add_two H.out ai _ ci _ (hri.below H.out.old) hni HBY.out (by have := hT2.out; omega) (by have := HV1.out; omega))
        have HRF := Lib.hid fun w' (h : Two w w' w.heap.size mo (addT (playT mo X k) mo (X.getD k [])) (playT mo X k) a' c') =>
          ref_two h H.out.bytes H.out.nodup (by have := HV1.out; omega) ai _ ci _ (HRI.out.below h.old) hni (by omega) HBY.out
        clear hri hmem hc hni hlen
        generalize addN (playT mo X k) mo (X.getD k []) = vN at *
        generalize addP (playT mo X k) mo (X.getD k []) = vP at *
        generalize addE (playT mo X k) mo (X.getD k []) = vE at *
        generalize addT (playT mo X k) mo (X.getD k []) = T' at *
        generalize playT mo X k = T at *
        generalize (X.getD k []).length = m at *
        go_wp2_with fail
        refine HAD.out.mono ?_
        rintro e w2 ⟨rfl, h2⟩
        have hc2 := (h2.out.old.cell (World.block_lt_of_cell? w _ HC.out)).trans HC.out
        go_wp2_with fail
        refine (HRF.out w2 h2.out).mono ?_
        rintro e w3 ⟨a3, c3, rfl, h3⟩
        go_wp2_with fail
        refine (len_two h3.out).mono ?_
        rintro e w4 ⟨rfl, rfl⟩
        go_wp2
        go_roundw
        case rel => exact ⟨k + 1, by omega, by go_num, a3, c3, by rw [HP.out], by rw [HP.out]; exact h3⟩
        case measure => simp [intOf]; omega
      · obtain rfl : k = n1 := by omega
        have hTl : (playT mo X k).length ≤ 100 := Nat.le_trans (playT_len mo X k) HV1.out
        have hTt : Hid (∀ t ∈ playT mo X k, t.length ≤ 100) := fun t ht => HV2.out t (playT_mem mo X k (by rw [HL1.out]; exact Nat.le_refl _) t ht)
        clear HR1 HL1 HX HV1 HV2 HT0
        generalize playT mo X k = T at *
        go_wp2_with fail
        refine (refFind_two H.out H.out.bytes H.out.nodup (by omega) a2 n2 c2 os (HR2.out.below H.out.old) HO.out).mono ?_
        rintro e w2 ⟨rfl, h2⟩
        go_wp2_with fail
        refine (find_two h2.out a2 n2 c2 os (HR2.out.below h2.out.old) hn2 HO.out).mono ?_
        rintro e w3 ⟨rfl, h3⟩
        clear HR2 HO H h2 t3 hn2
        generalize idx T os = v at *
        go_wp2
        go_loopw [20] (fun i wr => ∃ j : Nat, j ≤ T.length ∧ i = .int .i64 j ∧ Hid (Two w wr w.heap.size mo T T a' c')) (fun i _ => T.length - (intOf i).toNat)
        case atStart => exact ⟨0, Nat.zero_le _, rfl, h3⟩
        case round =>
          obtain ⟨j, hj, rfl, H⟩ := hrel
          by_cases hlt : j < T.length
          · have hltI : (j : Int) < (T.length : Int) := by omega
            obtain ⟨bx, ox, ax, cx, rfl, hc, hrx, _⟩ := H.out.rows.at j hlt
            have hml : (T.getD j []).length ≤ 100 := hTt.out _ (getD_mem hlt)
            have hq : ((strOfNums (T.getD j [])).toList == (strOfNums (T.getD j [])).toList) = true := by rw [str_beq (H.out.bytes _ (getD_mem hlt)) (H.out.bytes _ (getD_mem hlt))]; simp
            have HK := Lib.hid (key_two (H.out.below (Below.refl _ wr).drew) j hlt (by omega))
            have sx : (convert 23 9 (.slice ax (T.getD j []).length cx)).run Try.prog wr.drew = .ok (.string (strOfNums (T.getD j []))) wr.drew := run_str (hrx.below (Below.refl _ wr).drew)
            have HC := Lib.hid hc
            have HRX := Lib.hid hrx
            clear hrx
            generalize T.getD j [] = ts at *
            go_wp2_with fail
            go_region_law (first | (go_simp; go_at_call 16; refine HK.out.mono ?_; rintro e w4 ⟨a4, c4, rfl, hm4⟩; have hb4 : Hid (Below wr.heap.size wr w4) := below_then ((Below.refl _ wr).drew) (made_below hm4.out); have hc4 := (held_at HC.out hb4.out).1; have sk := run_str (c := c4) (made_rowAt hm4.out); have sx4 := run_str (c := cx) (HRX.out.below hb4.out); clear hm4))
            all_goals (
              go_wp2
              go_roundw
              case rel => exact ⟨j + 1, by omega, by go_num, H.out.below hb4.out⟩
              case measure => simp [intOf]; omega)
          · obtain rfl : j = T.length := by omega
            have HLT := Lib.hid (fun w' (h : Two w w' w.heap.size mo T T a' c') => refLongest_two h (by omega) (fun t ht => by have := hTt.out t ht; omega))
            have HKL := Lib.hid (fun w' (h : Two w w' w.heap.size mo T T a' c') => keyout_two (T.length : Int) h (.inr (Int.le_refl _)))
            have HLG := Lib.hid (longest_two H.out)
            generalize longN T T.length = lo at *
            go_wp2_with fail
            refine HLG.out.mono ?_
            rintro e w4 ⟨rfl, rfl⟩
            go_wp2_with fail
            refine (HLT.out wr H.out).mono ?_
            rintro e w5 ⟨rfl, h5⟩
            go_wp2_with fail
            refine (keyout_two (-1) h5.out (.inl (by decide))).mono ?_
            rintro e w6 ⟨a6, c6, rfl, h6⟩
            go_wp2_with fail
            refine (HKL.out w6 h6.out).mono ?_
            rintro e w7 ⟨a7, c7, rfl, h7⟩
            go_wp2_with fail
            refine (HA.out w7).mono ?_
            rintro e w8 ⟨rfl, hb8⟩
            have HB8 := Lib.hid hb8
            clear hb8
            go_wp2
            go_ret
            exact ⟨rfl, below_then h7.out.old HB8.out⟩
end Go.Proofs.Ytflnddpbkaeaaaa
