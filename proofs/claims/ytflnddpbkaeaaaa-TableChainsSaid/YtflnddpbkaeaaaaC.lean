/- The plain side of a table: its texts, their chains, the longest one, a text's number. -/
import Derived.Test.YtflnddpbkaeaaaaB
import Derived.Laws.StructEq
import Derived.MapKept
namespace Go.Proofs.Ytflnddpbkaeaaaa
open Go.RowKit Go.Own

def IsBytes (l : List Int) : Prop := ∀ z ∈ l, 0 ≤ z ∧ z < 256
/-- A text's chain. -/
def bk (zs : List Int) : Nat := ((sumB basis zs).tmod 1024).toNat
/-- The numbers of a chain, in order. -/
def chainN (k : Nat) (T : List (List Int)) : List Nat := (List.range T.length).filter fun i => bk (T.getD i []) == k
def chain (k : Nat) (T : List (List Int)) : List Int := (chainN k T).map Int.ofNat
/-- The longest chain of the first n. -/
def longN (T : List (List Int)) : Nat → Nat
  | 0 => 0
  | n + 1 => max (longN T n) (chainN (bk (T.getD n [])) (T.take (n + 1))).length
def ends (T : List (List Int)) : List Int := (List.range T.length).map fun n => ((T.take (n + 1)).flatten.length : Int)
/-- A text's number; -1: it is not there. -/
def idx (T : List (List Int)) (b : List Int) : Int := if b ∈ T then (T.idxOf b : Int) else -1

theorem mixB_sum (h b : Int) : 0 ≤ mixB h b ∧ mixB h b < 18446744073709551616 := by
  unfold mixB; rw [IntKind.wrap_u64]; omega
theorem sumB_sum (l : List Int) : ∀ h, 0 ≤ h ∧ h < 18446744073709551616 → 0 ≤ sumB h l ∧ sumB h l < 18446744073709551616 := by
  induction l with
  | nil => intro h hh; exact hh
  | cons b l ih => intro h _; exact ih _ (mixB_sum h b)
theorem buck_bk (zs : List Int) : buck (sumB basis zs) 1024 = (bk zs : Int) := by
  have h := sumB_sum zs basis (by decide)
  unfold buck bk
  rw [if_neg (by decide)]
  have : 0 ≤ (sumB basis zs).tmod 1024 ∧ (sumB basis zs).tmod 1024 < 1024 := ⟨Int.tmod_nonneg _ h.1, Int.tmod_lt_of_pos _ (by decide)⟩
  rw [Int.toNat_of_nonneg this.1]
  unfold wrap64
  omega
theorem bk_lt (zs : List Int) : bk zs < 1024 := by
  have h := sumB_sum zs basis (by decide)
  have : 0 ≤ (sumB basis zs).tmod 1024 ∧ (sumB basis zs).tmod 1024 < 1024 := ⟨Int.tmod_nonneg _ h.1, Int.tmod_lt_of_pos _ (by decide)⟩
  unfold bk; omega

theorem getD_append_lt {α : Type} (T : List α) (b d : α) (i : Nat) (h : i < T.length) : (T ++ [b]).getD i d = T.getD i d := by
  simp [List.getD, List.getElem?_append_left h]
theorem getD_append_len {α : Type} (T : List α) (b d : α) : (T ++ [b]).getD T.length d = b := by simp [List.getD]

theorem chainN_snoc (k : Nat) (T : List (List Int)) (b : List Int) : chainN k (T ++ [b]) = chainN k T ++ (if bk b = k then [T.length] else []) := by
  unfold chainN
  rw [List.length_append, List.length_singleton, List.range_succ, List.filter_append]
  congr 1
  · refine List.filter_congr fun i hi => ?_
    rw [getD_append_lt _ _ _ _ (by simpa using hi)]
  · simp only [List.filter_cons, List.filter_nil, getD_append_len]
    by_cases h : bk b = k <;> simp [h]
theorem chain_same (T : List (List Int)) (b : List Int) : chain (bk b) (T ++ [b]) = chain (bk b) T ++ [(T.length : Int)] := by
  unfold chain; rw [chainN_snoc, if_pos rfl]; simp
theorem chain_other (k : Nat) (T : List (List Int)) (b : List Int) (h : bk b ≠ k) : chain k (T ++ [b]) = chain k T := by
  unfold chain; rw [chainN_snoc, if_neg h]; simp
theorem chainN_mem {k : Nat} {T : List (List Int)} {i : Nat} : i ∈ chainN k T ↔ i < T.length ∧ bk (T.getD i []) = k := by
  unfold chainN; simp
theorem chainN_len (k : Nat) (T : List (List Int)) : (chainN k T).length ≤ T.length := by
  unfold chainN
  exact Nat.le_trans (List.length_filter_le _ _) (by simp)
theorem chain_len (k : Nat) (T : List (List Int)) : (chain k T).length = (chainN k T).length := by unfold chain; simp

theorem longN_snoc (T : List (List Int)) (b : List Int) : ∀ n, n ≤ T.length → longN (T ++ [b]) n = longN T n
  | 0, _ => rfl
  | n + 1, h => by
    unfold longN
    rw [longN_snoc T b n (by omega), getD_append_lt _ _ _ _ (by omega), List.take_append_of_le_length h]
theorem longN_new (T : List (List Int)) (b : List Int) : longN (T ++ [b]) (T ++ [b]).length = max (longN T T.length) ((chain (bk b) T).length + 1) := by
  rw [List.length_append, List.length_singleton]
  conv => lhs; unfold longN
  rw [longN_snoc T b _ (Nat.le_refl _), getD_append_len, List.take_of_length_le (by simp), chainN_snoc, if_pos rfl, chain_len]
  simp
theorem longN_le (T : List (List Int)) : ∀ n, longN T n ≤ T.length
  | 0 => Nat.zero_le _
  | n + 1 => by
    unfold longN
    have := longN_le T n
    have h2 := chainN_len (bk (T.getD n [])) (T.take (n + 1))
    rw [List.length_take] at h2
    omega

theorem ends_snoc (T : List (List Int)) (b : List Int) : ends (T ++ [b]) = ends T ++ [((T.flatten.length + b.length : Nat) : Int)] := by
  unfold ends
  rw [List.length_append, List.length_singleton, List.range_succ, List.map_append]
  congr 1
  · refine List.map_congr_left fun n hn => ?_
    rw [List.take_append_of_le_length (by have := List.mem_range.1 hn; omega)]
  · simp [List.take_of_length_le]
theorem ends_len (T : List (List Int)) : (ends T).length = T.length := by unfold ends; simp
theorem ends_getD (T : List (List Int)) (n : Nat) (h : n < T.length) : (ends T).getD n 0 = ((T.take (n + 1)).flatten.length : Int) := by
  unfold ends; simp [List.getD, h]
theorem take_flat (T : List (List Int)) (n : Nat) (h : n < T.length) : (T.take (n + 1)).flatten = (T.take n).flatten ++ T.getD n [] := by
  have e : T.getD n [] = T[n] := by simp [List.getD, h]
  rw [e, List.take_succ_eq_append_getElem h, List.flatten_append]
  congr 1
  exact List.append_nil _
theorem flat_take_drop (T : List (List Int)) (n : Nat) (h : n < T.length) : ((T.flatten).drop (T.take n).flatten.length).take (T.getD n []).length = T.getD n [] := by
  have e : T.flatten = (T.take n).flatten ++ (T.getD n [] ++ (T.drop (n + 1)).flatten) := by
    conv => lhs; rw [← List.take_append_drop (n + 1) T, List.flatten_append, take_flat T n h]
    rw [List.append_assoc]
  rw [e, List.drop_left, List.take_left]
theorem flat_le (T : List (List Int)) (n : Nat) : (T.take n).flatten.length ≤ T.flatten.length := by
  conv => rhs; rw [← List.take_append_drop n T, List.flatten_append, List.length_append]
  omega

theorem idx_of_get {T : List (List Int)} {b : List Int} (hn : T.Nodup) {i : Nat} (h : i < T.length) (e : T.getD i [] = b) : idx T b = (i : Int) := by
  have e' : T[i] = b := by simpa [List.getD, h] using e
  unfold idx
  rw [if_pos (by rw [← e']; exact List.getElem_mem h)]
  congr 1
  rw [← e']
  exact hn.idxOf_getElem i h
theorem idx_none {T : List (List Int)} {b : List Int} (h : ∀ i, i < T.length → T.getD i [] ≠ b) : idx T b = -1 := by
  unfold idx
  rw [if_neg]
  intro hm
  obtain ⟨i, hi, e⟩ := List.getElem_of_mem hm
  exact h i hi (by simpa [List.getD, hi] using e)
theorem idx_pos {T : List (List Int)} {b : List Int} (h : b ∈ T) : ∃ i, i < T.length ∧ T.getD i [] = b ∧ idx T b = (i : Int) := by
  refine ⟨T.idxOf b, List.idxOf_lt_length_of_mem h, ?_, by unfold idx; rw [if_pos h]⟩
  have := List.idxOf_lt_length_of_mem h
  simp [List.getD, this]
theorem idx_neg {T : List (List Int)} {b : List Int} (h : b ∉ T) : idx T b = -1 := by unfold idx; rw [if_neg h]

/-- Texts are the same if their strings are. -/
theorem str_inj {xs ys : List Int} (hx : IsBytes xs) (hy : IsBytes ys) (h : strOfNums xs = strOfNums ys) : xs = ys := by
  have h2 : (strOfNums xs).data.toList = (strOfNums ys).data.toList := by rw [h]
  rw [strOfNums_data, strOfNums_data] at h2
  have hl : xs.length = ys.length := by simpa using congrArg List.length h2
  refine List.ext_getElem hl fun i h1 h2' => ?_
  have hi : (xs.map fun x => UInt8.ofNat x.toNat)[i]? = (ys.map fun x => UInt8.ofNat x.toNat)[i]? := by rw [h2]
  simp only [List.getElem?_map, List.getElem?_eq_getElem h1, List.getElem?_eq_getElem h2', Option.map_some, Option.some.injEq] at hi
  have hxi := hx _ (List.getElem_mem h1)
  have hyi := hy _ (List.getElem_mem h2')
  have := congrArg UInt8.toNat hi
  simp at this
  omega
theorem str_beq {xs ys : List Int} (hx : IsBytes xs) (hy : IsBytes ys) : ((strOfNums xs).toList == (strOfNums ys).toList) = decide (xs = ys) := by
  rw [← Go.beq_toListBytes]
  by_cases h : xs = ys
  · subst h
    rw [decide_eq_true rfl]
    exact (Go.MapKept.bytes_beq _ _).2 rfl
  · rw [decide_eq_false h]
    exact Bool.eq_false_iff.2 fun e => h (str_inj hx hy ((Go.MapKept.bytes_beq _ _).1 e))
end Go.Proofs.Ytflnddpbkaeaaaa
