/- Walks of Find, Len, Longest, Clone and Key; of all at a table that is not there, or that no call made. -/
import Derived.Test.YtflnddpbkaeaaaaF
import Derived.Lib.SliceRun
namespace Go.Proofs.Ytflnddpbkaeaaaa
open Go.RowKit Go.Own

theorem IsTab.made {w : World} {g : Nat} {mo : Int} {T : List (List Int)} {F : Nat → Prop} (h : IsTab w g mo T F) : w.cell? ⟨g, 1028, none⟩ = some (.bool true) := by
  obtain ⟨C, X, h⟩ := h
  have := h.tab.cell 1028 (by decide)
  rw [h.made] at this; exact this
theorem IsTab.longC {w : World} {g : Nat} {mo : Int} {T : List (List Int)} {F : Nat → Prop} (h : IsTab w g mo T F) : w.cell? ⟨g, 1024, none⟩ = some (.int .i64 (longN T T.length : Nat)) := by
  obtain ⟨C, X, h⟩ := h
  have := h.tab.cell 1024 (by decide)
  rw [h.long] at this; exact this
theorem IsTab.endsC {w : World} {g : Nat} {mo : Int} {T : List (List Int)} {F : Nat → Prop} (h : IsTab w g mo T F) : ∃ a c, w.cell? ⟨g, 1027, none⟩ = some (.slice a T.length c) ∧ T.length ≤ 9223372036854775807 := by
  obtain ⟨C, X, h⟩ := h
  have s27 : Sl w 3 (C 1027) (X 1027).length (X 1027) := h.tab.sl 1027 (by unfold isSl; omega)
  obtain ⟨aE, cE, eE, rE, lE, mE, nE⟩ := tab_nums _ s27 h.ends
  have := h.tab.cell 1027 (by decide)
  rw [eE] at this
  rw [ends_len] at *
  exact ⟨aE, cE, this, by simp only [maxLen] at mE; omega⟩

theorem len_any (g : Nat) (mo : Int) (T : List (List Int)) (F : Nat → Prop) (w : World) (h : IsTab w g mo T F) :
    Calls Try.prog 13 #[.pointer (some ⟨g, 0, none⟩)] w fun e w' => e = .returned (.int .i64 (T.length : Int)) ∧ w = w' := by
  obtain ⟨a, c, c27, _⟩ := h.endsC
  have HI := Lib.hid (is_any g true w h.made)
  clear h
  go_enter Try.func13, Try.ntmps13
  go_wp2_with fail
  refine HI.out.mono ?_
  rintro e w1 ⟨rfl, rfl⟩
  go_wp2
  go_ret
  exact ⟨rfl, rfl⟩

theorem longest_any (g : Nat) (mo : Int) (T : List (List Int)) (F : Nat → Prop) (w : World) (h : IsTab w g mo T F) :
    Calls Try.prog 17 #[.pointer (some ⟨g, 0, none⟩)] w fun e w' => e = .returned (.int .i64 (longN T T.length : Nat)) ∧ w = w' := by
  have c24 := h.longC
  have HI := Lib.hid (is_any g true w h.made)
  clear h
  generalize longN T T.length = z at *
  go_enter Try.func17, Try.ntmps17
  go_wp2_with fail
  refine HI.out.mono ?_
  rintro e w1 ⟨rfl, rfl⟩
  go_wp2
  go_ret
  exact ⟨rfl, rfl⟩

/-- What Find answers. -/
def FindDone (T : List (List Int)) (bs : List Int) (w : World) (e : Ending) (w' : World) : Prop :=
  e = .returned (.tuple #[.int .i64 (max (idx T bs) 0), .bool (decide (0 ≤ idx T bs))]) ∧ Below w.heap.size w w'

theorem find_any (g : Nat) (mo : Int) (T : List (List Int)) (F : Nat → Prop) (w : World) (h : IsTab w g mo T F) (a : Option Addr) (n c : Nat) (bs : List Int) (hb : RowAt .u8 w a n bs) (hn : n ≤ 9223372036854775807) (hbs : IsBytes bs) :
    Calls Try.prog 15 #[.pointer (some ⟨g, 0, none⟩), .slice a n c] w (FindDone T bs w) := by
  have HI := Lib.hid (is_any g true w h.made)
  have HL := Lib.hid (look_any g mo T F w h a n c bs hb hn hbs)
  have hcase : (∃ i : Nat, idx T bs = (i : Int)) ∨ idx T bs = -1 := by
    by_cases hm : bs ∈ T
    · obtain ⟨i, _, _, e⟩ := idx_pos hm; exact .inl ⟨i, e⟩
    · exact .inr (idx_neg hm)
  have HX : Hid (FindDone T bs w = fun e w' => e = .returned (.tuple #[.int .i64 (max (idx T bs) 0), .bool (decide (0 ≤ idx T bs))]) ∧ Below w.heap.size w w') := rfl
  clear h hb hbs
  rcases hcase with ⟨i, hi⟩ | hi
  · rw [hi] at HL HX
    have e1 : Hid (max (i : Int) 0 = (i : Int)) := by show _ = _; omega
    have e2 : Hid (decide ((0 : Int) ≤ (i : Int)) = true) := decide_eq_true (by omega)
    clear hi
    rw [HX.out, e1.out, e2.out]
    clear HX
    go_enter Try.func15, Try.ntmps15
    go_wp2_with fail
    refine HI.out.mono ?_
    rintro e w1 ⟨rfl, rfl⟩
    go_wp2_with fail
    refine HL.out.mono ?_
    rintro e w2 ⟨rfl, hb2⟩
    have HB := Lib.hid hb2
    go_wp2
    go_ret2
    exact ⟨rfl, HB.out⟩
  · rw [hi] at HL HX
    clear hi
    rw [HX.out]
    clear HX
    go_enter Try.func15, Try.ntmps15
    go_wp2_with fail
    refine HI.out.mono ?_
    rintro e w1 ⟨rfl, rfl⟩
    go_wp2_with fail
    refine HL.out.mono ?_
    rintro e w2 ⟨rfl, hb2⟩
    have HB := Lib.hid hb2
    go_wp2
    go_ret2
    exact ⟨rfl, HB.out⟩

/-- What Key answers: a row of its own. -/
def KeyDone (zs : List Int) (w : World) (e : Ending) (w' : World) : Prop :=
  ∃ a c, e = .returned (.slice a zs.length c) ∧ MadeInts .u8 5 w w' (.slice a zs.length c) zs

theorem eql_nil (w : World) (a : Option Addr) (l c : Nat) : (binOp .eql 23 (.slice a l c) (.slice none 0 0)).run Try.prog w = .ok (.bool a.isNone) w :=
  Lib.run_eql_slice_nil w 23 5 a l c 0 0 Try.underlying23
theorem clone_any (a : Option Addr) (n c : Nat) (zs : List Int) (w : World) (hr : RowAt .u8 w a n zs) (hnil : a = none → n = 0 ∧ c = 0) (hn : n ≤ 140737488351232) :
    Calls Try.prog 22 #[.slice a n c] w (KeyDone zs w) := by
  obtain ⟨i0, hi0, hz0, hz1, hz2⟩ := info_parts Try.info5
  cases a with
  | none =>
    have ke := fun (w : World) (l c : Nat) => eql_nil w none l c
    obtain ⟨rfl, rfl⟩ := hnil rfl
    obtain rfl : zs = [] := List.eq_nil_of_length_eq_zero hr.1
    clear hr hnil
    go_enter Try.func22, Try.ntmps22
    go_wp2
    go_ret
    exact ⟨none, 0, rfl, made_nil _ _ _⟩
  | some ad =>
    have ke := fun (w : World) (l c : Nat) => eql_nil w (some ad) l c
    have HR := Lib.hid hr
    have hl : Hid (zs.length = n) := hr.1
    clear hr hnil
    go_enter Try.func22, Try.ntmps22
    go_wp2_with (at_builtin; refine wpList_clone rfl (.tmp 5) (.tmp 6) 23 rfl .u8 5 i0 (.int .u8 0) 1 Try.underlying23 hi0 hz0 hz1 hz2 rfl (by decide) rfl (some ad) n c zs rfl HR.out (fun h => by cases h) (by omega) ?_; intro a' c' w' hm; have HM := Lib.hid hm; clear hm)
    go_ret
    refine ⟨a', c', by rw [hl.out]; rfl, ?_⟩
    rw [hl.out]; exact HM.out

theorem key_out (g : Nat) (mo : Int) (T : List (List Int)) (F : Nat → Prop) (w : World) (h : IsTab w g mo T F) (n : Int) (hn : n < 0 ∨ (T.length : Int) ≤ n) :
    Calls Try.prog 16 #[.pointer (some ⟨g, 0, none⟩), .int .i64 n] w (KeyDone [] w) := by
  have HL := Lib.hid (len_any g mo T F w h)
  clear h
  by_cases h0 : n < 0
  · have t0 : decide (n < 0) = true := decide_eq_true h0
    clear hn h0
    go_enter Try.func16, Try.ntmps16
    go_wp2
    go_ret
    exact ⟨none, 0, rfl, made_nil _ _ _⟩
  · have h1 : (T.length : Int) ≤ n := by omega
    have t0 : decide (n < 0) = false := decide_eq_false h0
    have t1 : decide ((T.length : Int) ≤ n) = true := decide_eq_true h1
    clear hn
    go_enter Try.func16, Try.ntmps16
    go_wp2_with (go_at_call 13; refine HL.out.mono ?_; rintro e w1 ⟨rfl, rfl⟩)
    go_ret
    exact ⟨none, 0, rfl, made_nil _ _ _⟩

theorem key_any (g : Nat) (mo : Int) (T : List (List Int)) (F : Nat → Prop) (w : World) (h : IsTab w g mo T F) (n : Nat) (hn : n < T.length) (hb : (T.getD n []).length ≤ 140737488351232) :
    Calls Try.prog 16 #[.pointer (some ⟨g, 0, none⟩), .int .i64 (n : Int)] w (KeyDone (T.getD n []) w) := by
  have HL := Lib.hid (len_any g mo T F w h)
  have HT := Lib.hid (text_any g mo T F w h n hn)
  have t0 : decide ((n : Int) < 0) = false := decide_eq_false (by omega)
  have t1 : decide ((T.length : Int) ≤ (n : Int)) = false := decide_eq_false (by omega)
  clear h
  generalize T.getD n [] = zs at *
  go_enter Try.func16, Try.ntmps16
  go_wp2_with (go_at_call 13; refine HL.out.mono ?_; rintro e w1 ⟨rfl, rfl⟩)
  refine HT.out.mono ?_
  rintro e w1 ⟨a1, c1, rfl, hr1, hn1, hb1⟩
  go_wp2_with fail
  refine (clone_any a1 _ c1 zs w1 hr1 hn1 hb).mono ?_
  rintro e w2 ⟨a2, c2, rfl, hm⟩
  have HM := Lib.hid (made_from hb1 hm)
  clear hm hr1 hn1 hb1
  go_wp2
  go_ret
  exact ⟨a2, c2, rfl, HM.out⟩

/-- A table that is not there. -/
theorem add_nil (a : Option Addr) (n c : Nat) (w : World) : Calls Try.prog 11 #[.pointer none, .slice a n c] w fun e w' => e = .returned (.tuple #[.int .i64 0, .bool false, .int .i64 1]) ∧ w = w' := by
  go_enter Try.func11, Try.ntmps11
  go_wp2_with fail
  refine (is_nil w).mono ?_
  rintro e w1 ⟨rfl, rfl⟩
  go_wp2
  go_ret3
  exact ⟨rfl, rfl⟩
theorem find_nil (a : Option Addr) (n c : Nat) (w : World) : Calls Try.prog 15 #[.pointer none, .slice a n c] w fun e w' => e = .returned (.tuple #[.int .i64 0, .bool false]) ∧ w = w' := by
  go_enter Try.func15, Try.ntmps15
  go_wp2_with fail
  refine (is_nil w).mono ?_
  rintro e w1 ⟨rfl, rfl⟩
  go_wp2
  go_ret2
  exact ⟨rfl, rfl⟩
theorem len_nil (w : World) : Calls Try.prog 13 #[.pointer none] w fun e w' => e = .returned (.int .i64 0) ∧ w = w' := by
  go_enter Try.func13, Try.ntmps13
  go_wp2_with fail
  refine (is_nil w).mono ?_
  rintro e w1 ⟨rfl, rfl⟩
  go_wp2
  go_ret
  exact ⟨rfl, rfl⟩
theorem longest_nil (w : World) : Calls Try.prog 17 #[.pointer none] w fun e w' => e = .returned (.int .i64 0) ∧ w = w' := by
  go_enter Try.func17, Try.ntmps17
  go_wp2_with fail
  refine (is_nil w).mono ?_
  rintro e w1 ⟨rfl, rfl⟩
  go_wp2
  go_ret
  exact ⟨rfl, rfl⟩
/-- One that no call made. -/
theorem add_zero (g : Nat) (a : Option Addr) (n c : Nat) (w : World) (h : w.cell? ⟨g, 1028, none⟩ = some (.bool false)) : Calls Try.prog 11 #[.pointer (some ⟨g, 0, none⟩), .slice a n c] w fun e w' => e = .returned (.tuple #[.int .i64 0, .bool false, .int .i64 1]) ∧ w = w' := by
  have HI := Lib.hid (is_any g false w h)
  clear h
  go_enter Try.func11, Try.ntmps11
  go_wp2_with fail
  refine HI.out.mono ?_
  rintro e w1 ⟨rfl, rfl⟩
  go_wp2
  go_ret3
  exact ⟨rfl, rfl⟩
theorem find_zero (g : Nat) (a : Option Addr) (n c : Nat) (w : World) (h : w.cell? ⟨g, 1028, none⟩ = some (.bool false)) : Calls Try.prog 15 #[.pointer (some ⟨g, 0, none⟩), .slice a n c] w fun e w' => e = .returned (.tuple #[.int .i64 0, .bool false]) ∧ w = w' := by
  have HI := Lib.hid (is_any g false w h)
  clear h
  go_enter Try.func15, Try.ntmps15
  go_wp2_with fail
  refine HI.out.mono ?_
  rintro e w1 ⟨rfl, rfl⟩
  go_wp2
  go_ret2
  exact ⟨rfl, rfl⟩
theorem len_zero (g : Nat) (w : World) (h : w.cell? ⟨g, 1028, none⟩ = some (.bool false)) : Calls Try.prog 13 #[.pointer (some ⟨g, 0, none⟩)] w fun e w' => e = .returned (.int .i64 0) ∧ w = w' := by
  have HI := Lib.hid (is_any g false w h)
  clear h
  go_enter Try.func13, Try.ntmps13
  go_wp2_with fail
  refine HI.out.mono ?_
  rintro e w1 ⟨rfl, rfl⟩
  go_wp2
  go_ret
  exact ⟨rfl, rfl⟩
theorem longest_zero (g : Nat) (w : World) (h : w.cell? ⟨g, 1028, none⟩ = some (.bool false)) : Calls Try.prog 17 #[.pointer (some ⟨g, 0, none⟩)] w fun e w' => e = .returned (.int .i64 0) ∧ w = w' := by
  have HI := Lib.hid (is_any g false w h)
  clear h
  go_enter Try.func17, Try.ntmps17
  go_wp2_with fail
  refine HI.out.mono ?_
  rintro e w1 ⟨rfl, rfl⟩
  go_wp2
  go_ret
  exact ⟨rfl, rfl⟩
/-- Key where Len tells 0. -/
theorem key_none (p : Option Addr) (n : Int) (w : World) (HL : Calls Try.prog 13 #[.pointer p] w fun e w' => e = .returned (.int .i64 0) ∧ w = w') :
    Calls Try.prog 16 #[.pointer p, .int .i64 n] w fun e w' => e = .returned (.slice none 0 0) ∧ w = w' := by
  by_cases h0 : n < 0
  · have t0 : decide (n < 0) = true := decide_eq_true h0
    clear h0
    go_enter Try.func16, Try.ntmps16
    go_wp2
    go_ret
    exact ⟨rfl, rfl⟩
  · have h1 : 0 ≤ n := by omega
    have t0 : decide (n < 0) = false := decide_eq_false h0
    have t1 : decide (0 ≤ n) = true := decide_eq_true h1
    clear h0
    go_enter Try.func16, Try.ntmps16
    go_wp2_with (go_at_call 13; refine HL.mono ?_; rintro e w1 ⟨rfl, rfl⟩)
    go_ret
    exact ⟨rfl, rfl⟩
end Go.Proofs.Ytflnddpbkaeaaaa
