/- Walks of text, Equal and Clone. -/
import Derived.Test.YtflnddpbkaeaaaaD
import Derived.BigQuiet
namespace Go.Proofs.Ytflnddpbkaeaaaa
open Go.RowKit Go.Own

theorem run_str {w : World} {a : Option Addr} {n c : Nat} {zs : List Int} (h : RowAt .u8 w a n zs) : (convert 23 9 (.slice a n c)).run Try.prog w = .ok (.string (strOfNums zs)) w := by
  rcases h.2 with h0 | ⟨b, off, rfl, hc⟩
  · subst h0
    obtain rfl : zs = [] := List.eq_nil_of_length_eq_zero h.1
    rw [run_convert_bytes_string w 23 9 5 a 0 c Try.underlying23 Try.underlying5 Try.underlying9]
    cases a with
    | none => simp [Conv.bytesToString]; rfl
    | some ad =>
      simp [Conv.bytesToString, loadCells]
      rfl
  · exact run_convert_bytes_arg w 23 5 Try.underlying23 Try.underlying5 b off n c zs h.1 hc 9 Try.underlying9

theorem equal_any (a b : Option Addr) (n c m d : Nat) (xs ys : List Int) (w : World) (hx : RowAt .u8 w a n xs) (hy : RowAt .u8 w b m ys) (bx : IsBytes xs) (by' : IsBytes ys) :
    Calls Try.prog 28 #[.slice a n c, .slice b m d] w fun e w' => e = .returned (.bool (decide (xs = ys))) ∧ w = w' := by
  have h1 := run_str (c := c) hx
  have h2 := run_str (c := d) hy
  have h3 := Lib.hid (str_beq bx by')
  clear hx hy bx by'
  go_enter Try.func28, Try.ntmps28
  go_wp2
  go_ret
  exact ⟨by rw [h3.out]; rfl, rfl⟩

/-- What text answers. -/
def TextDone (zs : List Int) (w : World) (e : Ending) (w' : World) : Prop :=
  ∃ a c, e = .returned (.slice a zs.length c) ∧ RowAt .u8 w' a zs.length zs ∧ (a = none → zs.length = 0 ∧ c = 0) ∧ Below w.heap.size w w'

theorem run_cut {w : World} {a : Option Addr} {n c lo hi : Nat} {zs : List Int} (h : RowAt .u8 w a n zs) (hl : lo ≤ hi) (hh : hi ≤ n) (hc : n ≤ c) (hnil : a = none → n = 0 ∧ c = 0) :
    ∃ a', (∀ W, (Instr.sliceAt 23 (.slice a n c) (some (.int .i64 (lo : Int))) (some (.int .i64 (hi : Int))) (some (.int .i64 (hi : Int)))).run Try.prog W = .ok (.slice a' (hi - lo) (hi - lo)) W) ∧ RowAt .u8 w a' (hi - lo) ((zs.drop lo).take (hi - lo)) ∧ (a' = none → hi - lo = 0) := by
  obtain ⟨i, h1, h2, h3, h4⟩ := info_parts Try.info5
  have he : Try.prog.elem 23 = 5 := by simp [Program.elem, Try.underlying23]
  have hs : ∀ W, (sizeOf 5).run Try.prog W = .ok 1 W := fun W => by simp [sizeOf, typeInfo, h1, h3]
  have ht : Try.prog.underlying 23 = some (.slice (Try.prog.elem 23)) := by rw [he]; exact Try.underlying23
  refine ⟨if hi = lo then a else a.map (·.add (lo * 1)), ?_, ⟨?_, ?_⟩, ?_⟩
  · intro W
    rw [run_sliceAt_slice W 23 _ _ _ _ ht, run_slice_lhm W 23 a n c ht .i64 .i64 .i64 lo hi hi (by omega) (by omega) (by omega) (by omega), he, hs]
    simp [Result.andThen, sliced]
  · rw [List.length_take, List.length_drop, h.1]; omega
  · by_cases e : hi = lo
    · left; omega
    · right
      rw [if_neg e]
      rcases h.2 with h0 | ⟨b, off, rfl, hcell⟩
      · omega
      · refine ⟨b, off + lo, by simp [Addr.add_lit], fun j hj => ?_⟩
        rw [Nat.add_assoc, hcell (lo + j) (by omega)]
        congr 2
        simp [List.getD, List.getElem?_take, hj]
  · by_cases e : hi = lo
    · intro _; omega
    · rw [if_neg e]
      intro hn
      cases a with
      | none => have := hnil rfl; omega
      | some ad => simp at hn

/-- What a table's slice is, and a cell of it. -/
theorem tab_nums {k : IntKind} {w : World} {e : TypeId} {v : Value} {xs : List Value} (zs : List Int) (h : Sl w e v xs.length xs) (hx : xs = zs.map (Value.int k)) :
    ∃ a c, v = .slice a zs.length c ∧ RowAt k w a zs.length zs ∧ zs.length ≤ c ∧ c ≤ maxLen ∧ (a = none → zs.length = 0 ∧ c = 0) := by
  subst hx
  rw [List.length_map] at h
  obtain ⟨a, c, rfl, hc⟩ := h.shape
  have hcap := sl_cap h
  refine ⟨a, c, rfl, ⟨rfl, ?_⟩, hcap.1, hcap.2.1, fun hn => ?_⟩
  · rcases Nat.eq_zero_or_pos zs.length with h0 | h0
    · exact .inl h0
    · obtain ⟨b, rfl, _, _⟩ := hc 0 h0
      refine .inr ⟨b, 0, rfl, fun i hi => ?_⟩
      obtain ⟨b', e', _, h2⟩ := hc i hi
      cases e'
      rw [Nat.zero_add, h2]
      simp [List.getD, hi]
  · subst hn
    rcases h.2 with ⟨h1, h2⟩ | ⟨b, cap, cur, h1, _⟩
    · exact ⟨h2, by injection h1⟩
    · injection h1 with e _ _; cases e

theorem below_drewN (w : World) (q : Nat) : Below w.heap.size w (w.drewN q) := ⟨rfl, rfl, rfl, Nat.le_refl _, fun _ _ => rfl⟩

theorem text_walk (g : Nat) (n : Nat) (aA : Option Addr) (L cA : Nat) (bE oE N cE : Nat) (lo hi : Nat) (w : World) (a' : Option Addr)
    (c26 : w.cell? ⟨g, 1026, none⟩ = some (.slice aA L cA)) (c27 : w.cell? ⟨g, 1027, none⟩ = some (.slice (some ⟨bE, oE, none⟩) N cE))
    (hn : n < N) (hN : N ≤ 9223372036854775807) (hcut : ∀ W, (Instr.sliceAt 23 (.slice aA L cA) (some (.int .i64 (lo : Int))) (some (.int .i64 (hi : Int))) (some (.int .i64 (hi : Int)))).run Try.prog W = .ok (.slice a' (hi - lo) (hi - lo)) W)
    (h0 : n = 0 → lo = 0) (h1 : ∀ m, n = m + 1 → w.cell? ⟨bE, oE + m, none⟩ = some (.int .i64 (lo : Int))) (h2 : w.cell? ⟨bE, oE + n, none⟩ = some (.int .i64 (hi : Int))) :
    Calls Try.prog 23 #[.pointer (some ⟨g, 0, none⟩), .int .i64 (n : Int)] w fun e w' => e = .returned (.slice a' (hi - lo) (hi - lo)) ∧ Below w.heap.size w w' := by
  match n with
  | 0 =>
    obtain rfl := h0 rfl
    clear h0 h1
    rw [Nat.add_zero] at h2
    have hcut' : ∀ W, (Instr.sliceAt 23 (.slice aA L cA) (some (.int .i64 0)) (some (.int .i64 (hi : Int))) (some (.int .i64 (hi : Int)))).run Try.prog W = .ok (.slice a' hi hi) W := hcut
    clear hcut
    have hn' : (0 : Int) < (N : Int) := by omega
    go_enter Try.func23, Try.ntmps23
    go_wp2
    go_quiet (fail)
    go_wp2
    go_ret
    exact ⟨rfl, below_drewN _ _⟩
  | m + 1 =>
    have h3 := h1 m rfl
    clear h0 h1
    have hn' : (m : Int) + 1 < (N : Int) := by omega
    have hm' : (m : Int) < (N : Int) := by omega
    have hz' : (0 : Int) ≤ (m : Int) + 1 := by omega
    have hz2 : ((m : Int) + 1).toNat = m + 1 := by omega
    have hw : wrap64 (m : Int) = (m : Int) := by unfold wrap64; omega
    go_enter Try.func23, Try.ntmps23
    go_wp2
    go_quiet (fail)
    go_wp2
    go_ret
    exact ⟨rfl, below_drewN _ _⟩

theorem text_any (g : Nat) (mo : Int) (T : List (List Int)) (F : Nat → Prop) (w : World) (h : IsTab w g mo T F) (n : Nat) (hn : n < T.length) :
    Calls Try.prog 23 #[.pointer (some ⟨g, 0, none⟩), .int .i64 (n : Int)] w (TextDone (T.getD n []) w) := by
  obtain ⟨C, X, h⟩ := h
  have s26 : Sl w 5 (C 1026) (X 1026).length (X 1026) := h.tab.sl 1026 (by unfold isSl; omega)
  have s27 : Sl w 3 (C 1027) (X 1027).length (X 1027) := h.tab.sl 1027 (by unfold isSl; omega)
  obtain ⟨aA, cA, eA, rA, lA, mA, nA⟩ := tab_nums _ s26 h.all
  obtain ⟨aE, cE, eE, rE, lE, mE, nE⟩ := tab_nums _ s27 h.ends
  have c26 := h.tab.cell 1026 (by decide)
  have c27 := h.tab.cell 1027 (by decide)
  rw [eA] at c26
  rw [eE] at c27
  rw [ends_len] at *
  rcases rE.2 with h0 | ⟨bE, oE, rfl, hc⟩
  · omega
  have e1 := ends_getD T n hn
  have e2 := take_flat T n hn
  have hle := flat_le T (n + 1)
  have hhi : (T.take (n + 1)).flatten.length = (T.take n).flatten.length + (T.getD n []).length := by rw [e2, List.length_append]
  obtain ⟨a', hcut, hrow, hnone⟩ := run_cut rA (lo := (T.take n).flatten.length) (hi := (T.take (n + 1)).flatten.length) (by omega) (by omega) lA nA
  have hsub : (T.take (n + 1)).flatten.length - (T.take n).flatten.length = (T.getD n []).length := by omega
  refine (text_walk g n aA _ cA bE oE _ cE (T.take n).flatten.length (T.take (n + 1)).flatten.length w a' c26 c27 hn (by simp only [maxLen] at mE; omega) hcut (fun e => by subst e; rfl) (fun m hm => ?_) ?_).mono ?_
  · subst hm
    have := hc m (by omega)
    rw [ends_getD T m (by omega)] at this
    exact this
  · rw [hc n hn, e1]
  · rintro e w' ⟨rfl, hb⟩
    rw [hsub] at hrow ⊢
    rw [flat_take_drop T n hn] at hrow
    exact ⟨a', _, rfl, hrow.below hb, fun hz => ⟨by have := hnone hz; omega, by have := hnone hz; omega⟩, hb⟩
end Go.Proofs.Ytflnddpbkaeaaaa
