/- Walks of the reference's functions that make bytes: bits64, Ints, Mix. A made slice is told by what it owns. -/
import Derived.Test.YtgjhdjbbmjldlaaA
import Derived.Test.YtgjhdjbbmjldlaaLib
namespace Go.Proofs.Ytgjhdjbbmjldlaa
open Go.RowKit Go.Own

theorem Try.info5 : (Try.prog.info? 5).map (fun i => (i.zero, i.size, i.bytes)) = some (some (.int .u8 0), 1, 1) := by kernel_rfl
theorem Try.info3 : (Try.prog.info? 3).map (fun i => (i.zero, i.size, i.bytes)) = some (some (.int .i64 0), 1, 8) := by kernel_rfl

/-- The number that is left when k bytes have been taken. -/
def leftOf (n : Int) (k : Nat) : Int := n / 256 ^ k
theorem leftOf_zero (n : Int) : leftOf n 0 = n := by simp [leftOf]
theorem leftOf_succ (n : Int) (k : Nat) : leftOf n k / 256 = leftOf n (k + 1) := by
  unfold leftOf
  rw [Int.pow_succ, Int.ediv_ediv_of_nonneg (Int.pow_nonneg (by decide))]
theorem leftOf_mod (n : Int) (k : Nat) : leftOf n k % 256 = byteAt n k := by
  unfold leftOf byteAt
  rw [show (256 : Int) ^ k = 2 ^ (8 * k) by rw [Int.pow_mul]; rfl]
theorem leftOf_bd (n : Int) (k : Nat) (h0 : 0 ≤ n) (h1 : n ≤ 18446744073709551615) : 0 ≤ leftOf n k ∧ leftOf n k ≤ 18446744073709551615 := by
  unfold leftOf
  exact ⟨Int.ediv_nonneg h0 (Int.pow_nonneg (by decide)), Int.le_trans (Int.ediv_le_self _ h0) h1⟩
theorem bytes_take (n : Int) (k : Nat) (hk : k < 8) : (bytesOf n).take (k + 1) = (bytesOf n).take k ++ [byteAt n k] := by
  rw [List.take_succ_eq_append_getElem (by simpa [bytesOf] using hk)]
  simp [bytesOf]
theorem length_bytesOf (n : Int) : (bytesOf n).length = 8 := by simp [bytesOf]

/-- A call has made 'v', which holds 'zs' in a block of its own; nothing that was there has turned. -/
def MadeInts (k : IntKind) (e : TypeId) (w w' : World) (v : Value) (zs : List Int) : Prop :=
  Sl w' e v zs.length (zs.map (Value.int k)) ∧ Below w.heap.size w w' ∧ ∀ g, v.ownBlock = some g → w.heap.size ≤ g

/-- One round's append of a number, to a slice of the call's own. -/
theorem made_step {k : IntKind} {e : TypeId} {w wr w1 : World} {v v' : Value} {zs : List Int} {x : Int} (h : MadeInts k e w wr v zs)
    (hs : Sl w1 e v' (zs.length + 1) (zs.map (Value.int k) ++ [.int k x])) (hk : Kept (fun b => v.ownBlock = some b) wr w1) (hm : Moved wr v v') : MadeInts k e w w1 v' (zs ++ [x]) := by
  obtain ⟨h1, h2, h3⟩ := h
  refine ⟨by simpa using hs, h2.trans (hk.below h2.size (fun b hb e => by have := h3 b e; omega)), fun g hg => ?_⟩
  rcases hm with hm | ⟨g', hm, hg'⟩
  · exact h3 g (hm ▸ hg)
  · have := h2.size
    rw [hm] at hg; cases hg; omega

theorem made_row {k : IntKind} {e : TypeId} {w w' : World} {v : Value} {zs : List Int} (h : MadeInts k e w w' v zs) : ∃ a cap, v = .slice a zs.length cap ∧ RowAt k w' a zs.length zs := by
  obtain ⟨a, cap, rfl, hc⟩ := h.1.shape
  refine ⟨a, cap, rfl, rfl, ?_⟩
  rcases Nat.eq_zero_or_pos zs.length with h0 | h0
  · exact .inl h0
  · obtain ⟨g, rfl, _, _⟩ := hc 0 h0
    refine .inr ⟨g, 0, rfl, fun i hi => ?_⟩
    obtain ⟨g', e, _, h2⟩ := hc i hi
    simp at e; subst e
    rw [Nat.zero_add, h2]
    simp [List.getD, hi]

set_option maxHeartbeats 1000000 in
theorem bits_any (n : Int) (w : World) (h0 : 0 ≤ n) (h1 : n ≤ 18446744073709551615) :
    Calls Try.prog 19 #[.int .u64 n] w fun e w' => ∃ v, e = .returned v ∧ MadeInts .u8 5 w w' v (bytesOf n) := by
  obtain ⟨i0, hi, hz0, hz1, hz2⟩ := info_parts Try.info5
  go_enter Try.func19, Try.ntmps19
  go_wp2
  go_loopw [0, 3, 4] (fun m v i wr => ∃ k : Nat, k ≤ 8 ∧ i = .int .i64 k ∧ m = .int .u64 (leftOf n k) ∧ MadeInts .u8 5 w wr v ((bytesOf n).take k)) (fun _ _ i _ => 8 - (intOf i).toNat)
  case atStart => exact ⟨0, Nat.zero_le _, rfl, by rw [leftOf_zero], World.ownsRow_nil _ _ _ _, Below.refl _ _, by simp [Value.ownBlock]⟩
  case round =>
    obtain ⟨k, hk, rfl, rfl, hmade⟩ := hrel
    by_cases hlt : k < 8
    · obtain ⟨b0, b1⟩ := leftOf_bd n k h0 h1
      have M1 := Lib.hid (leftOf_mod n k)
      have M2 := Lib.hid (leftOf_succ n k)
      have M3 := Lib.hid (bytes_take n k hlt)
      have hlen : Hid (((bytesOf n).take k).length = k) := by rw [List.length_take, length_bytesOf]; exact Nat.min_eq_left hk
      generalize leftOf n k = m at *
      have hown := hmade.1
      rw [hlen.out] at hown
      go_wp2_with (at_builtin; refine wpList_append_one rfl _ _ 22 rfl 5 i0 (.int .u8 0) 1 Try.underlying22 hi hz0 hz1 hz2 rfl (by decide) _ _ _ rfl hown _ rfl rfl (by omega) ?_; intro v' w1 hs hkp hmv)
      have hnew := made_step hmade (by rw [hlen.out]; exact hs) hkp hmv
      clear hs hkp hmv hmade hown
      go_wp2
      go_roundw
      case rel => exact ⟨k + 1, by omega, by go_num, by rw [M2.out], by rw [M3.out, ← M1.out]; exact hnew⟩
      case measure => simp [intOf]; omega
    · obtain rfl : k = 8 := by omega
      go_wp2
      go_ret
      rw [List.take_of_length_le (by simp [bytesOf])] at hmade
      exact ⟨_, rfl, hmade⟩

theorem made_pos {k : IntKind} {e : TypeId} {w w' : World} {v : Value} {zs : List Int} {n : Nat} (h : MadeInts k e w w' v zs) (hn : zs.length = n) (hp : 0 < n) :
    ∃ g cap, v = .slice (some ⟨g, 0, none⟩) n cap ∧ ∀ (j : Nat) u, (zs.map (Value.int k))[j]? = some u → w'.cell? ((⟨g, 0, none⟩ : Addr).add j) = some u := by
  subst hn
  obtain ⟨a, cap, rfl, hc⟩ := h.1.shape
  obtain ⟨g, rfl, _, _⟩ := hc 0 hp
  refine ⟨g, cap, rfl, fun j u hu => ?_⟩
  have hj : j < zs.length := by simpa using (List.getElem?_eq_some_iff.1 hu).1
  obtain ⟨g', e, _, h2⟩ := hc j hj
  simp at e; subst e
  rw [Addr.add_lit, Nat.zero_add, h2, hu]

/-- What one round of the reference's loop does: a number's bytes go behind what was gathered. -/
theorem made_more {k : IntKind} {e : TypeId} {w wr w1 w2 : World} {v v2 v' : Value} {zs ys : List Int} (h : MadeInts k e w wr v zs) (h2 : MadeInts k e wr w1 v2 ys)
    (hs : Sl w2 e v' (zs.length + ys.length) (zs.map (Value.int k) ++ ys.map (Value.int k))) (hk : Kept (fun b => v.ownBlock = some b) w1 w2) (hm : Moved w1 v v') : MadeInts k e w w2 v' (zs ++ ys) := by
  obtain ⟨a1, a2, a3⟩ := h
  obtain ⟨_, b2, _⟩ := h2
  have s1 := a2.size
  have s2 := b2.size
  refine ⟨by simpa using hs, (a2.trans (b2.mono s1)).trans (hk.below (by omega) (fun b hb e => by have := a3 b e; omega)), fun g hg => ?_⟩
  rcases hm with hm | ⟨g', hm, hg'⟩
  · exact a3 g (hm ▸ hg)
  · rw [hm] at hg; cases hg; omega

theorem made_still {k : IntKind} {e : TypeId} {w wr w1 : World} {v v2 : Value} {zs ys : List Int} (h : MadeInts k e w wr v zs) (h2 : MadeInts k e wr w1 v2 ys) : Sl w1 e v zs.length (zs.map (Value.int k)) :=
  h.1.kept (Kept.ofBelow h2.2.1) (fun g hg => by have := h.1.lt g hg; omega)

/-- The bytes of the first k numbers. -/
def gather (zs : List Int) (k : Nat) : List Int := ((zs.map uns).take k).flatMap bytesOf
theorem gather_succ (zs : List Int) (k : Nat) (hk : k < zs.length) : gather zs (k + 1) = gather zs k ++ bytesOf (uns (zs.getD k 0)) := by
  unfold gather
  rw [List.take_succ_eq_append_getElem (by simpa using hk), List.flatMap_append]
  simp [List.getD, hk]
theorem gather_len (zs : List Int) (k : Nat) (hk : k ≤ zs.length) : (gather zs k).length = 8 * k := by
  induction k with
  | zero => simp [gather]
  | succ k ih => rw [gather_succ zs k (by omega), List.length_append, ih (by omega), length_bytesOf]; omega
theorem sumB_append (h : Int) (a b : List Int) : sumB h (a ++ b) = sumB (sumB h a) b := List.foldl_append
theorem sumB_gather (zs : List Int) (k : Nat) (hk : k ≤ zs.length) : sumB basis (gather zs k) = sumN basis ((zs.map uns).take k) := by
  induction k with
  | zero => simp [gather, sumB, sumN]
  | succ k ih =>
    rw [gather_succ zs k (by omega), sumB_append, ih (by omega), sumN_take _ _ _ (by rw [List.length_map]; omega), map_getD _ _ (by omega)]
    rfl
theorem uns_bd (n : Int) : 0 ≤ uns n ∧ uns n ≤ 18446744073709551615 := by
  unfold uns
  rw [IntKind.wrap_u64]; omega

set_option maxHeartbeats 1000000 in
theorem refInts_any (a : Option Addr) (n cap : Nat) (zs : List Int) (w : World) (hn : n * 8 ≤ 140737488351232) (hr : RowAt .i64 w a n zs) :
    Calls Try.prog 12 #[.slice a n cap] w fun e w' => e = .returned (.int .u64 (sumN basis (zs.map uns))) ∧ Below w.heap.size w w' := by
  obtain ⟨i0, hi, hz0, hz1, hz2⟩ := info_parts Try.info5
  have HL := Lib.hid hr.1
  have HR := Lib.hid hr
  clear hr
  go_enter Try.func12, Try.ntmps12
  go_wp2
  go_loopw [3, 4] (fun v i wr => ∃ k : Nat, k ≤ n ∧ i = .int .i64 k ∧ MadeInts .u8 5 w wr v (gather zs k)) (fun _ i _ => n - (intOf i).toNat)
  case atStart => exact ⟨0, Nat.zero_le _, rfl, World.ownsRow_nil _ _ _ _, Below.refl _ _, by simp [Value.ownBlock]⟩
  case round =>
    obtain ⟨k, hk, rfl, hmade⟩ := hrel
    have hlen : Hid ((gather zs k).length = 8 * k) := gather_len zs k (by rw [HL.out]; exact hk)
    by_cases hlt : k < n
    · obtain ⟨hl', h0 | ⟨b, off, rfl, hc⟩⟩ := HR.out.below hmade.2.1
      · omega
      have hck := hc k hlt
      clear hc hl'
      obtain ⟨b0, b1⟩ := uns_bd (zs.getD k 0)
      have HS := Lib.hid (gather_succ zs k (by rw [HL.out]; exact hlt))
      have HM := Lib.hid hmade
      clear hmade
      generalize zs.getD k 0 = x at *
      go_wp2_with fail
      refine (bits_any _ _ b0 b1).mono ?_
      rintro e w1 ⟨v2, rfl, hm2⟩
      have hown := made_still HM.out hm2
      rw [hlen.out] at hown
      have HM2 := Lib.hid hm2
      obtain ⟨g, c2, rfl, hnews⟩ := made_pos hm2 (length_bytesOf _) (by decide)
      clear hm2
      go_wp2_with (at_builtin; refine wpList_append_strong rfl _ _ 22 rfl 5 i0 (.int .u8 0) 1 Try.underlying22 hi hz0 hz1 hz2 rfl (by decide) _ _ _ rfl hown _ 8 c2 ((bytesOf (uns x)).map (Value.int .u8)) rfl (by rw [List.length_map, length_bytesOf]) hnews (ints_oneCell _ _) (by omega) ?_; intro v' w2 hs hkp hmv)
      have hnew := made_more HM.out HM2.out (by rw [hlen.out, length_bytesOf]; exact hs) hkp hmv
      rw [← HS.out] at hnew
      clear hs hkp hmv hown hnews
      go_wp2
      go_roundw
      case rel => exact ⟨k + 1, by omega, by go_num, hnew⟩
      case measure => simp [intOf]; omega
    · obtain rfl : k = n := by omega
      have HM := Lib.hid hmade
      clear hmade
      obtain ⟨a', c', rfl, hra⟩ := made_row HM.out
      have HF := Lib.hid (sumB_gather zs k (by rw [HL.out]; exact Nat.le_refl _))
      have HT : Hid ((zs.map uns).take k = zs.map uns) := List.take_of_length_le (by rw [List.length_map, HL.out]; exact Nat.le_refl _)
      generalize gather zs k = G at *
      have hG : Hid (G.length ≤ 9223372036854775807) := by rw [hlen.out]; show _ ≤ _; omega
      have HR2 := Lib.hid hra
      clear hra
      go_wp2_with fail
      refine (refBytes_any _ _ _ _ _ hG.out HR2.out).mono ?_
      rintro e w1 ⟨rfl, rfl⟩
      have HB := HM.out.2.1
      clear HM HR2 hG hlen
      go_wp2
      go_ret
      exact ⟨by rw [← HT.out, ← HF.out]; rfl, HB⟩

set_option maxHeartbeats 1000000 in
theorem refMix_any (x y : Int) (w : World) (x0 : 0 ≤ x) (x1 : x ≤ 18446744073709551615) (y0 : 0 ≤ y) (y1 : y ≤ 18446744073709551615) :
    Calls Try.prog 15 #[.int .u64 x, .int .u64 y] w fun e w' => e = .returned (.int .u64 (num (num basis x) y)) ∧ Below w.heap.size w w' := by
  obtain ⟨i0, hi, hz0, hz1, hz2⟩ := info_parts Try.info5
  have start : MadeInts .u8 5 w w (.slice none 0 0) [] := ⟨World.ownsRow_nil _ _ _ _, Below.refl _ _, by simp [Value.ownBlock]⟩
  have S0 := Lib.hid start
  clear start
  go_enter Try.func15, Try.ntmps15
  go_wp2_with fail
  refine (bits_any _ _ x0 x1).mono ?_
  rintro e w1 ⟨v2, rfl, hm2⟩
  have hown := made_still S0.out hm2
  have HM2 := Lib.hid hm2
  obtain ⟨g, c2, rfl, hnews⟩ := made_pos hm2 (length_bytesOf _) (by decide)
  clear hm2
  go_wp2_with (at_builtin; refine wpList_append_strong rfl _ _ 22 rfl 5 i0 (.int .u8 0) 1 Try.underlying22 hi hz0 hz1 hz2 rfl (by decide) _ 0 [] rfl hown _ 8 c2 ((bytesOf x).map (Value.int .u8)) rfl (by rw [List.length_map, length_bytesOf]) hnews (ints_oneCell _ _) (by omega) ?_; intro v' w2 hs hkp hmv)
  have S1 := Lib.hid (made_more S0.out HM2.out (by rw [length_bytesOf]; exact hs) hkp hmv)
  clear hs hkp hmv hown hnews S0 HM2
  go_wp2_with fail
  refine (bits_any _ _ y0 y1).mono ?_
  rintro e w3 ⟨v3, rfl, hm2⟩
  have hown := made_still S1.out hm2
  rw [List.nil_append, length_bytesOf] at hown
  have HM2 := Lib.hid hm2
  obtain ⟨g, c2, rfl, hnews⟩ := made_pos hm2 (length_bytesOf _) (by decide)
  clear hm2
  go_wp2_with (at_builtin; refine wpList_append_strong rfl _ _ 22 rfl 5 i0 (.int .u8 0) 1 Try.underlying22 hi hz0 hz1 hz2 rfl (by decide) _ 8 _ rfl hown _ 8 c2 ((bytesOf y).map (Value.int .u8)) rfl (by rw [List.length_map, length_bytesOf]) hnews (ints_oneCell _ _) (by omega) ?_; intro v'' w4 hs hkp hmv)
  have S2 := made_more S1.out HM2.out (by rw [List.nil_append, length_bytesOf, length_bytesOf]; exact hs) hkp hmv
  rw [List.nil_append] at S2
  clear hs hkp hmv hown hnews S1 HM2
  have HB := S2.2.1
  obtain ⟨a', c', rfl, hra⟩ := made_row S2
  have HR2 := Lib.hid hra
  clear hra S2
  have HS : Hid (sumB basis (bytesOf x ++ bytesOf y) = num (num basis x) y) := sumB_append _ _ _
  have hG : Hid ((bytesOf x ++ bytesOf y).length ≤ 9223372036854775807) := by show _ ≤ _; rw [List.length_append, length_bytesOf, length_bytesOf]; decide
  generalize bytesOf x ++ bytesOf y = G at *
  go_wp2_with fail
  refine (refBytes_any _ _ _ _ _ hG.out HR2.out).mono ?_
  rintro e w5 ⟨rfl, rfl⟩
  clear HR2 hG
  go_wp2
  go_ret
  exact ⟨by rw [← HS.out]; rfl, HB⟩
end Go.Proofs.Ytgjhdjbbmjldlaa
