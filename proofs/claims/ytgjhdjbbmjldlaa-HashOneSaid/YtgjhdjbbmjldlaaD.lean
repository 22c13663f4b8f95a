/- The plain law behind HashOne: one step of the sum is injective in the sum and in the byte; so sums of lists that differ in one byte alone differ. -/
import Derived.Test.YtgjhdjbbmjldlaaA
import Derived.Laws.Bits64
namespace Go.Proofs.Ytgjhdjbbmjldlaa
open Go.RowKit Go.Own

/-- The step over natural numbers. -/
def mixN (h b : Nat) : Nat := (h ^^^ b) * 1099511628211 % 18446744073709551616

theorem mixB_nat (h b : Nat) (hh : h < 18446744073709551616) (hb : b < 256) : mixB (h : Int) (b : Int) = ((mixN h b : Nat) : Int) := by
  unfold mixB mixN
  rw [show IntKind.u64.wrap (b : Int) = (b : Int) from IntWalk.u64_in _ (by omega), bits_xor_u64_nat h b hh (by omega), IntKind.wrap_u64, Int.natCast_emod, Int.natCast_mul]
  rfl

theorem mixN_lt (h b : Nat) : mixN h b < 18446744073709551616 := Nat.mod_lt _ (by decide)

theorem mul_inj (x y : Nat) (hx : x < 18446744073709551616) (hy : y < 18446744073709551616) (h : x * 1099511628211 % 18446744073709551616 = y * 1099511628211 % 18446744073709551616) : x = y := by
  have key : ∀ z : Nat, z < 18446744073709551616 → (z * 1099511628211 % 18446744073709551616) * 14886173955864302971 % 18446744073709551616 = z := by
    intro z hz
    rw [Nat.mod_mul_mod, Nat.mul_assoc]
    have e : 1099511628211 * 14886173955864302971 = 18446744073709551616 * 887285111055 + 1 := by decide
    rw [e, Nat.mul_add, Nat.mul_one, ← Nat.mul_assoc, Nat.mul_comm z, Nat.mul_assoc, Nat.mul_add_mod]
    exact Nat.mod_eq_of_lt hz
  rw [← key x hx, h, key y hy]

theorem xor_lt (h b : Nat) (hh : h < 18446744073709551616) (hb : b < 256) : h ^^^ b < 18446744073709551616 :=
  Nat.xor_lt_two_pow (n := 64) hh (by omega)

theorem xor_back (h b : Nat) : (h ^^^ b) ^^^ b = h := by rw [Nat.xor_assoc, Nat.xor_self, Nat.xor_zero]
theorem mixN_inj_h (h h' b : Nat) (hh : h < 18446744073709551616) (hh' : h' < 18446744073709551616) (hb : b < 256) (e : mixN h b = mixN h' b) : h = h' := by
  have := mul_inj _ _ (xor_lt h b hh hb) (xor_lt h' b hh' hb) e
  rw [← xor_back h b, this, xor_back]

theorem mixN_inj_b (h b b' : Nat) (hh : h < 18446744073709551616) (hb : b < 256) (hb' : b' < 256) (e : mixN h b = mixN h b') : b = b' := by
  have := mul_inj _ _ (xor_lt h b hh hb) (xor_lt h b' hh hb') e
  rw [← xor_back b h, Nat.xor_comm b h, this, Nat.xor_comm h b', xor_back]

def IsSum (h : Int) : Prop := 0 ≤ h ∧ h < 18446744073709551616
def IsByte (b : Int) : Prop := 0 ≤ b ∧ b < 256

theorem nat_of {h : Int} {m : Nat} (h0 : 0 ≤ h) (h1 : h < m) : ∃ n : Nat, h = n ∧ n < m := by
  obtain ⟨n, rfl⟩ := Int.eq_ofNat_of_zero_le h0
  exact ⟨n, rfl, by omega⟩

theorem isSum_mix {h b : Int} (hh : IsSum h) (hb : IsByte b) : IsSum (mixB h b) := by
  obtain ⟨n, rfl, hn⟩ := nat_of (m := 18446744073709551616) hh.1 hh.2
  obtain ⟨m, rfl, hm⟩ := nat_of (m := 256) hb.1 hb.2
  rw [mixB_nat n m hn hm]
  have := mixN_lt n m
  exact ⟨by omega, by omega⟩

theorem mix_inj_h {h h' b : Int} (hh : IsSum h) (hh' : IsSum h') (hb : IsByte b) (e : mixB h b = mixB h' b) : h = h' := by
  obtain ⟨n, rfl, hn⟩ := nat_of (m := 18446744073709551616) hh.1 hh.2
  obtain ⟨n', rfl, hn'⟩ := nat_of (m := 18446744073709551616) hh'.1 hh'.2
  obtain ⟨m, rfl, hm⟩ := nat_of (m := 256) hb.1 hb.2
  rw [mixB_nat n m hn hm, mixB_nat n' m hn' hm] at e
  have := mixN_inj_h n n' m hn hn' hm (Int.ofNat.inj e)
  omega

theorem mix_inj_b {h b b' : Int} (hh : IsSum h) (hb : IsByte b) (hb' : IsByte b') (e : mixB h b = mixB h b') : b = b' := by
  obtain ⟨n, rfl, hn⟩ := nat_of (m := 18446744073709551616) hh.1 hh.2
  obtain ⟨m, rfl, hm⟩ := nat_of (m := 256) hb.1 hb.2
  obtain ⟨m', rfl, hm'⟩ := nat_of (m := 256) hb'.1 hb'.2
  rw [mixB_nat n m hn hm, mixB_nat n m' hn hm'] at e
  have := mixN_inj_b n m m' hn hm hm' (Int.ofNat.inj e)
  omega

theorem isSum_sum {h : Int} {l : List Int} (hh : IsSum h) (hl : ∀ b ∈ l, IsByte b) : IsSum (sumB h l) := by
  induction l generalizing h with
  | nil => exact hh
  | cons b l ih => exact ih (isSum_mix hh (hl b (by simp))) (fun x hx => hl x (by simp [hx]))

theorem sum_inj {h h' : Int} {l : List Int} (hh : IsSum h) (hh' : IsSum h') (hl : ∀ b ∈ l, IsByte b) (e : sumB h l = sumB h' l) : h = h' := by
  induction l generalizing h h' with
  | nil => exact e
  | cons b l ih =>
    have hb := hl b (by simp)
    have hl' : ∀ x ∈ l, IsByte x := fun x hx => hl x (by simp [hx])
    exact mix_inj_h hh hh' hb (ih (isSum_mix hh hb) (isSum_mix hh' hb) hl' e)

theorem isSum_basis : IsSum basis := ⟨by decide, by decide⟩

/-- Lists that differ in one byte alone have unlike sums. -/
theorem sumB_ne (l1 l2 : List Int) (a b : Int) (h1 : ∀ x ∈ l1, IsByte x) (h2 : ∀ x ∈ l2, IsByte x) (ha : IsByte a) (hb : IsByte b) (hne : a ≠ b) :
    sumB basis (l1 ++ a :: l2) ≠ sumB basis (l1 ++ b :: l2) := by
  intro e
  unfold sumB at e
  rw [List.foldl_append, List.foldl_append, List.foldl_cons, List.foldl_cons] at e
  have hs : IsSum (l1.foldl mixB basis) := isSum_sum isSum_basis h1
  exact hne (mix_inj_b hs ha hb (sum_inj (isSum_mix hs ha) (isSum_mix hs hb) h2 e))

theorem isByte_byteAt (n : Int) (k : Nat) : IsByte (byteAt n k) := by unfold byteAt IsByte; omega
theorem isByte_bytesOf (n : Int) : ∀ b ∈ bytesOf n, IsByte b := by
  intro b hb
  obtain ⟨k, _, rfl⟩ := List.mem_map.1 hb
  exact isByte_byteAt n k
theorem isSum_num {h n : Int} (hh : IsSum h) : IsSum (num h n) := isSum_sum hh (isByte_bytesOf n)
theorem num_inj_h {h h' n : Int} (hh : IsSum h) (hh' : IsSum h') (e : num h n = num h' n) : h = h' := sum_inj hh hh' (isByte_bytesOf n) e
theorem bytesOf_small (n : Int) (hn : IsByte n) : bytesOf n = [n, 0, 0, 0, 0, 0, 0, 0] := by
  obtain ⟨h0, h1⟩ := hn
  have e0 : byteAt n 0 = n := by unfold byteAt; simp; omega
  have ek : ∀ k, 0 < k → byteAt n k = 0 := by
    intro k hk
    unfold byteAt
    rw [Int.ediv_eq_zero_of_lt h0 ?_]; rfl
    obtain ⟨j, rfl⟩ : ∃ j, k = j + 1 := ⟨k - 1, by omega⟩
    rw [Nat.mul_add, Int.pow_add]
    have : (1 : Int) ≤ 2 ^ (8 * j) := by have : (0 : Int) < 2 ^ (8 * j) := Int.pow_pos (by decide); omega
    have e : (2 : Int) ^ (8 * 1) = 256 := by decide
    rw [e]; omega
  simp [bytesOf, List.range, List.range.loop, e0, ek]

theorem num_inj_b {h a b : Int} (hh : IsSum h) (ha : IsByte a) (hb : IsByte b) (e : num h a = num h b) : a = b := by
  unfold num at e
  rw [bytesOf_small a ha, bytesOf_small b hb] at e
  have z : ∀ x ∈ [(0 : Int), 0, 0, 0, 0, 0, 0], IsByte x := by intro x hx; simp at hx; subst hx; exact ⟨by decide, by decide⟩
  generalize [(0 : Int), 0, 0, 0, 0, 0, 0] = l at *
  have e' : sumB (mixB h a) l = sumB (mixB h b) l := e
  exact mix_inj_b hh ha hb (sum_inj (isSum_mix hh ha) (isSum_mix hh hb) z e')

theorem isSum_sumN {h : Int} {l : List Int} (hh : IsSum h) : IsSum (sumN h l) := by
  induction l generalizing h with
  | nil => exact hh
  | cons b l ih => exact ih (isSum_num hh)

theorem sumN_inj {h h' : Int} {l : List Int} (hh : IsSum h) (hh' : IsSum h') (e : sumN h l = sumN h' l) : h = h' := by
  induction l generalizing h h' with
  | nil => exact e
  | cons b l ih => exact num_inj_h hh hh' (ih (isSum_num hh) (isSum_num hh') e)

theorem sumN_ne (l1 l2 : List Int) (a b : Int) (ha : IsByte a) (hb : IsByte b) (hne : a ≠ b) : sumN basis (l1 ++ a :: l2) ≠ sumN basis (l1 ++ b :: l2) := by
  intro e
  unfold sumN at e
  rw [List.foldl_append, List.foldl_append, List.foldl_cons, List.foldl_cons] at e
  have hs : IsSum (l1.foldl num basis) := isSum_sumN isSum_basis
  exact hne (num_inj_b hs ha hb (sumN_inj (isSum_num hs) (isSum_num hs) e))

theorem uns_byte {b : Int} (h : IsByte b) : uns b = b := by unfold uns; exact IntWalk.u64_in _ (by have := h.1; have := h.2; omega)

/-- The two lists of the law: one byte at place i is turned. -/
theorem split_at (zs : List Int) (i : Nat) (x : Int) (hi : i < zs.length) : zs = zs.take i ++ zs.getD i 0 :: zs.drop (i + 1) ∧ zs.set i x = zs.take i ++ x :: zs.drop (i + 1) := by
  refine ⟨?_, ?_⟩
  · rw [show zs.getD i 0 = zs[i] by simp [List.getD, hi], List.getElem_cons_drop, List.take_append_drop]
  · rw [List.set_eq_take_append_cons_drop, if_pos hi]

theorem one_bytes (zs : List Int) (i : Nat) (x : Int) (hi : i < zs.length) (hz : ∀ b ∈ zs, IsByte b) (hx : IsByte x) (hne : zs.getD i 0 ≠ x) : sumB basis zs ≠ sumB basis (zs.set i x) := by
  obtain ⟨e1, e2⟩ := split_at zs i x hi
  rw [e2]
  conv => lhs; rw [e1]
  refine sumB_ne _ _ _ _ (fun b hb => hz b (List.mem_of_mem_take hb)) (fun b hb => hz b (List.mem_of_mem_drop hb)) (hz _ ?_) hx hne
  rw [show zs.getD i 0 = zs[i] by simp [List.getD, hi]]; exact List.getElem_mem hi

theorem one_ints (zs : List Int) (i : Nat) (x : Int) (hi : i < zs.length) (hz : ∀ b ∈ zs, IsByte b) (hx : IsByte x) (hne : zs.getD i 0 ≠ x) : sumN basis (zs.map uns) ≠ sumN basis ((zs.set i x).map uns) := by
  have m1 : zs.map uns = zs := by rw [List.map_congr_left fun b hb => uns_byte (hz b hb), List.map_id']
  have m2 : (zs.set i x).map uns = zs.set i x := by
    rw [List.map_congr_left fun b hb => uns_byte (show IsByte b from ?_), List.map_id']
    rcases List.mem_or_eq_of_mem_set hb with h | rfl
    · exact hz b h
    · exact hx
  rw [m1, m2]
  obtain ⟨e1, e2⟩ := split_at zs i x hi
  rw [e2]
  conv => lhs; rw [e1]
  refine sumN_ne _ _ _ _ (hz _ ?_) hx hne
  rw [show zs.getD i 0 = zs[i] by simp [List.getD, hi]]; exact List.getElem_mem hi
end Go.Proofs.Ytgjhdjbbmjldlaa
