/- The walk of TableChains. -/
import Derived.Test.YtflnddpbkaeaaaaX
namespace Go.Proofs.Ytflnddpbkaeaaaa
open Go.RowKit Go.Own

set_option maxRecDepth 100000 in
set_option maxHeartbeats 4000000 in
theorem chains_any (n : Int) (w : World) (wn : (Lit.int .u16 n).wf = true) :
    Calls Try.prog 6 #[.int .u16 n] w fun e w' => e = .returned (.bool true) ∧ Below w.heap.size w w' := by
  have HA := Lib.hid awake_any
  have hn : 0 ≤ n ∧ n ≤ 65535 := bounds_u16 wn
  obtain ⟨hn0, hn1⟩ := hn
  clear wn
  obtain ⟨M, hM⟩ : ∃ M : Nat, 1 + n % 3000 = (M : Int) := ⟨(1 + n % 3000).toNat, by omega⟩
  have hM1 : 1 ≤ M ∧ M ≤ 3000 := by omega
  obtain ⟨hM1, hM2⟩ := hM1
  have HM := Lib.hid hM
  clear hM
  have HN := Lib.hid (new_yes (M : Int) w (by omega) (by omega))
  have HT0 := Lib.hid (Chn.new w (M : Int))
  obtain ⟨i0, hi0, hz0, hz1, hz2⟩ := info_parts Try.info23
  go_enter Try.func6, Try.ntmps6
  go_wp2_with fail
  rw [HM.out]
  refine HN.out.mono ?_
  rintro e w1 ⟨rfl, rfl⟩
  generalize w.alloc (.cells (new49 (M : Int)) 49) = w1 at *
  clear HN
  go_wp2
  go_loopw [5, 6] (fun x i wr => ∃ k : Nat, k ≤ M + 1 ∧ i = .int .i64 k ∧ ∃ a' c', x = .slice a' (min k M) c' ∧ Hid (Chn w wr w.heap.size M (txs (min k M)) (.slice a' (min k M) c') (txs (min k M)))) (fun _ i _ => M + 1 - (intOf i).toNat)
  case atStart => exact ⟨0, Nat.zero_le _, rfl, none, 0, by rw [Nat.zero_min], by rw [Nat.zero_min]; exact HT0⟩
  case round =>
    obtain ⟨k, hk, rfl, a', c', rfl, H⟩ := hrel
    have etx : [(k : Int) % 256, (k : Int) / 256] = tx k := by unfold tx; simp
    have hbs : IsBytes [(k : Int) % 256, (k : Int) / 256] := by rw [etx]; exact tx_bytes k (by omega)
    by_cases hlt : k < M
    · have hltI : (k : Int) ≤ (M : Int) := by omega
      have hmin : min k M = k := by omega
      have hmin1 : Hid (min (k + 1) M = k + 1) := by show _ = _; omega
      rw [hmin] at H ⊢
      clear hmin
      have HAD := Lib.hid (chn_add H.out _ _ hbs (by rw [txs_flat]; omega) (by rw [txs_len]; omega))
      rw [etx, addT_tx hlt, addN_tx hlt, addP_tx hlt, addE_tx hlt] at HAD
      have t0 : decide (k < M) = true := decide_eq_true hlt
      have t1 : ((k : Int) == (M : Int)) = false := beq_eq_false_iff_ne.2 (by omega)
      have t2 : (k == M) = false := beq_eq_false_iff_ne.2 (by omega)
      have hln := Lib.hid (txs_len k)
      have HSU := Lib.hid (txs_succ k)
      clear etx hbs
      go_wp2_with fail
      refine HAD.out.mono ?_
      rintro e w2 ⟨rfl, h2⟩
      obtain ⟨us, hsl, hpush⟩ := h2.out.push hln.out
      have HSL := Lib.hid hsl
      have HPU := Lib.hid hpush
      clear hsl hpush
      go_wp2_with (at_builtin; refine wpList_append_one_pos rfl (.tmp 64) (.tmp 66) 22 rfl 23 i0 (.slice none 0 0) 24 Try.underlying22 hi0 hz0 hz1 hz2 rfl (by decide) (.slice a' k c') k _ rfl HSL.out (.slice (some ⟨wr.heap.size, 0, none⟩) 2 2) rfl rfl (by omega) ?_; intro g5 c5 w5 hs5 hk5 hm5; have HP5 := Lib.hid (HPU.out g5 c5 w5 hs5 hk5 hm5); clear hs5 hk5 hm5)
      go_roundw
      case rel => exact ⟨k + 1, by omega, by go_num, _, c5, by rw [hmin1.out], by rw [hmin1.out]; have := HP5.out; rw [← HSU.out] at this; exact this⟩
      case measure => simp [intOf]; omega
    · have hmin : min k M = M := by omega
      rw [hmin] at H ⊢
      clear hmin
      by_cases hkM : k = M
      · subst hkM
        have hmin1 : Hid (min (k + 1) k = k) := by show _ = _; omega
        have HAD := Lib.hid (chn_add H.out _ _ hbs (by rw [txs_flat]; omega) (by rw [txs_len]; omega))
        rw [etx, addT_full, addN_full, addP_full, addE_full] at HAD
        clear etx hbs hlt
        go_wp2_with fail
        refine HAD.out.mono ?_
        rintro e w2 ⟨rfl, h2⟩
        have HD := Lib.hid h2.out.drop
        go_wp2
        go_roundw
        case rel => exact ⟨k + 1, by omega, by go_num, a', c', by rw [hmin1.out], by rw [hmin1.out]; exact HD.out⟩
        case measure => simp [intOf]
      · have hgt : (M : Int) < (k : Int) := by omega
        clear etx hbs hlt hkM
        have hMm : M - 1 < (txs M).length := by rw [txs_len]; omega
        obtain ⟨bx, ox, ax, cx, rfl, hc, hrx, _⟩ := H.out.rows.at (M - 1) hMm
        rw [txs_get M (M - 1) (by omega), tx_len] at hc hrx
        obtain ⟨F, hF⟩ := H.out.tab
        have HL := Lib.hid (txs_len M)
        have hidx : idx (txs M) (tx (M - 1)) = (M : Int) - 1 := by
          have hnd : (txs M).Nodup := by obtain ⟨C, X, h⟩ := hF; exact h.nodup
          rw [idx_of_get hnd hMm (txs_get M (M - 1) (by omega))]; omega
        have HF := Lib.hid (find_any w.heap.size (M : Int) (txs M) F wr hF ax 2 cx _ hrx (by omega) (tx_bytes (M - 1) (by omega)))
        unfold FindDone at HF
        rw [hidx, show max ((M : Int) - 1) 0 = (M : Int) - 1 by omega, show decide ((0 : Int) ≤ (M : Int) - 1) = true from decide_eq_true (by omega)] at HF
        have HLN : Hid (∀ w', Below wr.heap.size wr w' → Calls Try.prog 13 #[.pointer (some ⟨w.heap.size, 0, none⟩)] w' fun e w2 => e = .returned (.int .i64 (M : Int)) ∧ w' = w2) := fun w' h => by
          have := len_any w.heap.size (M : Int) (txs M) F w' (hF.below h)
          rw [txs_len] at this; exact this
        have HLG : Hid (∀ w', Below wr.heap.size wr w' → Calls Try.prog 17 #[.pointer (some ⟨w.heap.size, 0, none⟩)] w' fun e w2 => e = .returned (.int .i64 (longN (txs M) M : Nat)) ∧ w' = w2) := fun w' h => by
          have := longest_any w.heap.size (M : Int) (txs M) F w' (hF.below h)
          rw [txs_len] at this; exact this
        have HRL : Hid (∀ w', Below wr.heap.size wr w' → Calls Try.prog 18 #[.slice (some ⟨bx, ox, none⟩) M c'] w' fun e w2 => e = .returned (.int .i64 (longN (txs M) M : Nat)) ∧ Below w'.heap.size w' w2) := fun w' h => by
          have hr := (H.out.below h).rows
          have := refLongest_any _ _ _ c' (txs M) w' hr (by rw [txs_len]; omega) (fun t ht => by rw [txs_mem ht]; omega)
          rw [txs_len] at this; exact this
        have hidx2 : (((M : Int) - 1) == ((M : Int) - 1)) = true := by simp
        clear hidx hrx hF hMm
        generalize longN (txs M) M = lo at *
        go_wp2_with fail
        refine HF.out.mono ?_
        rintro e w2 ⟨rfl, hb2⟩
        have HB2 := Lib.hid hb2
        clear hb2
        go_wp2_with fail
        refine (HLN.out _ HB2.out).mono ?_
        rintro e w3 ⟨rfl, rfl⟩
        go_wp2_with fail
        refine (HLG.out _ HB2.out).mono ?_
        rintro e w3 ⟨rfl, rfl⟩
        go_wp2_with fail
        refine (HRL.out _ HB2.out).mono ?_
        rintro e w4 ⟨rfl, hb4⟩
        have HB4 := Lib.hid (below_then HB2.out hb4)
        clear hb4
        go_wp2_with fail
        refine (HA.out _).mono ?_
        rintro e w5 ⟨rfl, hb5⟩
        have HB5 := Lib.hid (below_then H.out.old (below_then HB4.out hb5))
        clear hb5
        go_wp2
        go_ret
        exact ⟨rfl, HB5.out⟩
end Go.Proofs.Ytflnddpbkaeaaaa
