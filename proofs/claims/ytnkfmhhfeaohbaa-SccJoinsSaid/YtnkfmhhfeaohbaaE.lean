/- Walks of the closure lower, and of slices.Min. -/
import Derived.Test.YtnkfmhhfeaohbaaD
namespace Go.Proofs.Ytnkfmhhfeaohbaa
open Go.RowKit Go.Own

set_option maxHeartbeats 1000000 in
theorem lower_any (g q : Nat) (ev : Value) (n : Nat) (s : St) (F : Nat → Prop) (w : World) (h : IsS w g ev n s F) (hq : w.cell? ⟨q, 0, none⟩ = some (.pointer (some ⟨g, 0, none⟩))) (x m : Nat) (hx : x < n) :
    Calls Try.prog 23 #[.int .i64 (x : Int), .int .i64 (m : Int), .pointer (some ⟨q, 0, none⟩)] w fun e w' => e = .returned (.tuple #[]) ∧ SDone g ev n (s.lower x m) F w w' := by
  obtain ⟨C, X, h⟩ := h
  obtain ⟨b2, d2, E2, cc2, _⟩ := h.arr 2 ⟨by decide, by decide⟩ (by rw [h.low, numsOf_len]) (by omega)
  have c2 := h.str.cell 2 (by decide)
  rw [E2] at c2
  have x2 := cc2 x hx
  rw [h.low, numsOf_at _ _ _ hx] at x2
  obtain ⟨x2a, x2b⟩ := x2
  have hxI : (x : Int) < (n : Int) := by omega
  have key : Hid (∀ v : Nat, min (s.low x) m = v → SDone g ev n (s.lower x m) F w (w.setCell ⟨b2, x, none⟩ (.int .i64 (v : Int))).drew) := by
    rintro v rfl
    have h2 := h.setLow E2 x (min (s.low x) m) hx
    exact SDone.of h h2.drew ((Kept.refl F w).setCell (fun _ => h.foot b2 (.inr ⟨2, ⟨by decide, by decide⟩, by rw [E2]; rfl⟩)) _).drew
  clear h E2 cc2
  rcases Nat.lt_or_ge m (s.low x) with hlt | hle
  · have HF := Lib.hid (key.out m (by omega))
    have hI : (m : Int) < (s.low x : Int) := by omega
    have hI2 : (m : Int) ≤ (s.low x : Int) := by omega
    clear hlt
    generalize s.low x = lx at *
    go_enter Try.func23, Try.ntmps23
    go_wp2_with fail
    refine wp_region_quiet_tail 14 (by kernel_rfl) (by kernel_rfl) ?_
    simp only [List.take_succ_cons, List.take_zero, List.drop_succ_cons, List.drop_zero]
    repeat (go_big_quiet_step (fail))
    refine wpQuiet_nil ?_
    go_wp2
    go_end0
    exact ⟨rfl, HF.out⟩
  · have HF := Lib.hid (key.out (s.low x) (by omega))
    have hI : (s.low x : Int) ≤ (m : Int) := by omega
    clear hle
    generalize s.low x = lx at *
    go_enter Try.func23, Try.ntmps23
    go_wp2_with fail
    refine wp_region_quiet_tail 14 (by kernel_rfl) (by kernel_rfl) ?_
    simp only [List.take_succ_cons, List.take_zero, List.drop_succ_cons, List.drop_zero]
    repeat (go_big_quiet_step (fail))
    refine wpQuiet_nil ?_
    go_wp2
    go_end0
    exact ⟨rfl, HF.out⟩

/-- The least of a list. -/
def minL : List Nat → Nat
  | [] => 0
  | x :: l => l.foldl min x
theorem foldl_min : ∀ (l : List Nat) (x : Nat), (l.foldl min x = x ∨ l.foldl min x ∈ l) ∧ l.foldl min x ≤ x ∧ ∀ v ∈ l, l.foldl min x ≤ v
  | [], x => ⟨.inl rfl, Nat.le_refl _, fun v hv => by cases hv⟩
  | y :: l, x => by
    obtain ⟨h1, h2, h3⟩ := foldl_min l (min x y)
    rw [List.foldl_cons]
    refine ⟨?_, by omega, fun v hv => ?_⟩
    · rcases h1 with h1 | h1
      · rw [h1]
        rcases Nat.le_total x y with h | h
        · left; omega
        · right; rw [Nat.min_eq_right h]; exact List.mem_cons_self
      · exact .inr (List.mem_cons_of_mem _ h1)
    · rcases List.mem_cons.1 hv with rfl | hv
      · omega
      · exact h3 v hv
theorem minL_mem (x : Nat) (l : List Nat) : minL (x :: l) ∈ x :: l := by
  rcases (foldl_min l x).1 with h | h
  · show l.foldl min x ∈ x :: l
    rw [h]; exact List.mem_cons_self
  · exact List.mem_cons_of_mem _ h
theorem minL_le (x : Nat) (l : List Nat) : ∀ v ∈ x :: l, minL (x :: l) ≤ v := by
  intro v hv
  rcases List.mem_cons.1 hv with rfl | hv
  · exact (foldl_min l v).2.1
  · exact (foldl_min l x).2.2 v hv
theorem minL_take (l : List Nat) (k : Nat) (h0 : 0 < k) (h : k < l.length) : minL (l.take (k + 1)) = min (minL (l.take k)) (l.getD k 0) := by
  match l, k with
  | x :: l, k + 1 =>
    have hk : k < l.length := by simpa using h
    show (l.take (k + 1)).foldl min x = min ((l.take k).foldl min x) _
    rw [List.take_succ_eq_append_getElem hk, List.foldl_append]
    simp [List.getD, hk]

set_option maxHeartbeats 1000000 in
theorem min_any (b off n c : Nat) (l : List Nat) (w : World) (hl : l.length = n) (h0 : 0 < n) (hn : n ≤ 9223372036854775807) (hc : ∀ i, i < n → w.cell? ⟨b, off + i, none⟩ = some (.int .i64 ((l.getD i 0 : Nat) : Int))) :
    Calls Try.prog 27 #[.slice (some ⟨b, off, none⟩) n c] w fun e w' => e = .returned (.int .i64 ((minL l : Nat) : Int)) ∧ w = w' := by
  have HL := Lib.hid hl
  have HC := Lib.hid hc
  have hc0 := hc 0 h0
  rw [Nat.add_zero] at hc0
  have hnI : (1 : Int) ≤ (n : Int) := by omega
  have hnI2 : (0 : Int) < (n : Int) := by omega
  have hM1 : Hid (minL (l.take 1) = l.getD 0 0) := by
    show _ = _
    cases l with
    | nil => simp at hl; omega
    | cons x l => rfl
  clear hl hc
  generalize l.getD 0 0 = z0 at *
  go_enter Try.func27, Try.ntmps27
  go_wp2
  go_loop [3, 4] (fun m i => ∃ k : Nat, 1 ≤ k ∧ k ≤ n ∧ i = .int .i64 k ∧ m = .int .i64 ((minL (l.take k) : Nat) : Int)) (fun _ i => n - (intOf i).toNat)
  case atStart => exact ⟨1, Nat.le_refl _, by omega, rfl, by rw [hM1.out]⟩
  case round =>
    obtain ⟨k, hk1, hk, rfl, rfl⟩ := hrel
    clear hc0
    by_cases hlt : k < n
    · have hltI : (k : Int) < (n : Int) := by omega
      have hck := HC.out k hlt
      have HS := Lib.hid (minL_take l k (by omega) (by rw [HL.out]; exact hlt))
      generalize l.getD k 0 = z at *
      generalize minL (l.take k) = mk at *
      go_wp2
      go_round
      case rel => exact ⟨k + 1, by omega, by omega, by go_num, by rw [HS.out]; go_num⟩
      case measure => simp [intOf]; omega
    · obtain rfl : k = n := by omega
      have HT : Hid (l.take k = l) := List.take_of_length_le (by rw [HL.out]; exact Nat.le_refl _)
      go_wp2
      go_ret
      exact ⟨by rw [HT.out]; rfl, rfl⟩
end Go.Proofs.Ytnkfmhhfeaohbaa
