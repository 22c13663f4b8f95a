/- The walk of the example, awake. -/
import Derived.Test.YtflnddpbkaeaaaaI
namespace Go.Proofs.Ytflnddpbkaeaaaa
open Go.RowKit Go.Own

/-- A table made since w0, and nothing that was there has turned. -/
def St (w0 w : World) (g : Nat) (mo : Int) (T : List (List Int)) : Prop := ∃ F, IsTab w g mo T F ∧ (∀ b, F b → w0.heap.size ≤ b) ∧ Below w0.heap.size w0 w

theorem St.tab {w0 w : World} {g : Nat} {mo : Int} {T : List (List Int)} (h : St w0 w g mo T) : ∃ F, IsTab w g mo T F := h.imp fun _ h => h.1
theorem St.old {w0 w : World} {g : Nat} {mo : Int} {T : List (List Int)} (h : St w0 w g mo T) : Below w0.heap.size w0 w := by obtain ⟨F, _, _, h⟩ := h; exact h
theorem St.below {w0 w w' : World} {g : Nat} {mo : Int} {T : List (List Int)} (h : St w0 w g mo T) (hb : Below w.heap.size w w') : St w0 w' g mo T := by
  obtain ⟨F, h1, h2, h3⟩ := h
  exact ⟨F, h1.below hb, h2, h3.trans (hb.mono h3.size)⟩
theorem St.new (w : World) (m : Int) : St w (w.alloc (.cells (new49 m) 49)) w.heap.size m [] :=
  ⟨_, isTab_new w m, fun b e => by rw [e]; exact Nat.le_refl _, (Below.refl _ w).alloc (Nat.le_refl _) _⟩

theorem add_st {w0 w : World} {g : Nat} {mo : Int} {T : List (List Int)} (h : St w0 w g mo T) (a : Option Addr) (n c : Nat) (bs : List Int) (hb : RowAt .u8 w a n bs) (hnil : a = none → n = 0 ∧ c = 0) (hbs : IsBytes bs)
    (hsz : T.flatten.length + n ≤ 1099511627776) (hT : T.length ≤ 65536) :
    Calls Try.prog 11 #[.pointer (some ⟨g, 0, none⟩), .slice a n c] w fun e w' => e = .returned (.tuple #[.int .i64 (addN T mo bs), .bool (addP T mo bs), .int .i64 (addE T mo bs)]) ∧ St w0 w' g mo (addT T mo bs) := by
  obtain ⟨F, h1, h2, h3⟩ := h
  refine (add_any g mo T F w h1 a n c bs hb hnil hbs hsz hT).mono ?_
  rintro e w' ⟨rfl, F', h4, h5, h6⟩
  refine ⟨rfl, F', h4, fun b hb => (h6 b hb).elim (h2 b) (fun hle => Nat.le_trans h3.size hle), h3.trans (h5.below h3.size (fun k hk hF => ?_))⟩
  have := h2 k hF; omega

theorem lit_row (w : World) (z : Int) : RowAt .u8 (w.alloc (.cells #[.int .u8 z] 5 (1, 2))) (some ⟨w.heap.size, 0, none⟩) 1 [z] := by
  refine ⟨rfl, .inr ⟨w.heap.size, 0, rfl, fun i hi => ?_⟩⟩
  obtain rfl : i = 0 := by omega
  exact World.cell?_alloc_mark _ _ _ _ _
theorem lit_bytes (z : Int) (h : 0 ≤ z ∧ z < 256) : IsBytes [z] := by intro x hx; simp at hx; subst hx; exact h

theorem add_lit {w0 w : World} {g : Nat} {mo : Int} {T T' : List (List Int)} {n e : Int} {p : Bool} (z : Int) (hz : 0 ≤ z ∧ z < 256) (h : St w0 w g mo T) (hN : addN T mo [z] = n) (hP : addP T mo [z] = p) (hE : addE T mo [z] = e) (hT' : addT T mo [z] = T')
    (hsz : T.flatten.length ≤ 1099511627775) (hT : T.length ≤ 65536) :
    Calls Try.prog 11 #[.pointer (some ⟨g, 0, none⟩), .slice (some ⟨w.heap.size, 0, none⟩) 1 1] (w.alloc (.cells #[.int .u8 z] 5 (1, 2))) fun e' w' => e' = .returned (.tuple #[.int .i64 n, .bool p, .int .i64 e]) ∧ Hid (St w0 w' g mo T') := by
  subst hN hP hE hT'
  exact add_st (h.below ((Below.refl _ w).alloc (Nat.le_refl _) _)) _ _ _ [z] (lit_row w z) (fun h => by cases h) (lit_bytes z hz) (by omega) hT

theorem find_lit {w0 w : World} {g : Nat} {mo : Int} {T : List (List Int)} {n : Int} {p : Bool} (z : Int) (hz : 0 ≤ z ∧ z < 256) (h : St w0 w g mo T) (hN : max (idx T [z]) 0 = n) (hP : decide (0 ≤ idx T [z]) = p) :
    Calls Try.prog 15 #[.pointer (some ⟨g, 0, none⟩), .slice (some ⟨w.heap.size, 0, none⟩) 1 1] (w.alloc (.cells #[.int .u8 z] 5 (1, 2))) fun e' w' => e' = .returned (.tuple #[.int .i64 n, .bool p]) ∧ Hid (St w0 w' g mo T) := by
  subst hN hP
  have h' := h.below ((Below.refl _ w).alloc (Nat.le_refl _) (.cells #[.int .u8 z] 5 (1, 2)))
  obtain ⟨F, hF⟩ := h'.tab
  refine (find_any g mo T F _ hF _ _ _ [z] (lit_row w z) (by omega) (lit_bytes z hz)).mono ?_
  rintro e w' ⟨rfl, hb⟩
  exact ⟨rfl, h'.below hb⟩
theorem len_st {w0 w : World} {g : Nat} {mo : Int} {T : List (List Int)} {n : Int} (h : St w0 w g mo T) (hn : (T.length : Int) = n) : Calls Try.prog 13 #[.pointer (some ⟨g, 0, none⟩)] w fun e w' => e = .returned (.int .i64 n) ∧ w = w' := by
  subst hn; obtain ⟨F, hF⟩ := h.tab; exact len_any g mo T F w hF
theorem longest_st {w0 w : World} {g : Nat} {mo : Int} {T : List (List Int)} {n : Int} (h : St w0 w g mo T) (hn : ((longN T T.length : Nat) : Int) = n) : Calls Try.prog 17 #[.pointer (some ⟨g, 0, none⟩)] w fun e w' => e = .returned (.int .i64 n) ∧ w = w' := by
  subst hn; obtain ⟨F, hF⟩ := h.tab; exact longest_any g mo T F w hF
theorem key_st {w0 w : World} {g : Nat} {mo : Int} {T : List (List Int)} {n : Int} {zs : List Int} (h : St w0 w g mo T) (k : Nat) (hn : (k : Int) = n) (hk : k < T.length) (hz : T.getD k [] = zs) (hl : zs.length ≤ 140737488351232) : Calls Try.prog 16 #[.pointer (some ⟨g, 0, none⟩), .int .i64 n] w (KeyDone zs w) := by
  subst hn hz; obtain ⟨F, hF⟩ := h.tab; exact key_any g mo T F w hF k hk hl
theorem keyout_st {w0 w : World} {g : Nat} {mo : Int} {T : List (List Int)} (n : Int) (h : St w0 w g mo T) (hn : n < 0 ∨ (T.length : Int) ≤ n) : Calls Try.prog 16 #[.pointer (some ⟨g, 0, none⟩), .int .i64 n] w (KeyDone [] w) := by
  obtain ⟨F, hF⟩ := h.tab; exact key_out g mo T F w hF n hn

theorem long2 : longN [[97], [98]] 2 = 1 := by decide +kernel
theorem str98 : (strOfNums [98]).toList = [98] := by decide +kernel

set_option maxRecDepth 100000 in
set_option maxHeartbeats 4000000 in
theorem awake_any (w : World) : Calls Try.prog 9 #[] w fun e w' => e = .returned (.bool true) ∧ Below w.heap.size w w' := by
  have kc := fun (w : World) (C : Array Value) (n c : Nat) => Lib.run_convert_bytes_const (P := Try.prog) w 23 5 C n c Try.underlying23 Try.underlying5
  have hstr := str98
  have HN1 := Lib.hid fun (w : World) => new_yes 2 w (by decide) (by decide)
  have HN2 := Lib.hid fun (w : World) => new_no (-1) w (.inl (by decide))
  have HN3 := Lib.hid fun (w : World) => new_no 65537 w (.inr (by decide))
  have HS := Lib.hid (St.new w 2)
  have ha : Hid (∀ (w' : World), St w w' w.heap.size 2 [] → Calls Try.prog 11 #[.pointer (some ⟨w.heap.size, 0, none⟩), .slice (some ⟨w'.heap.size, 0, none⟩) 1 1] (w'.alloc (.cells #[.int .u8 97] 5 (1, 2))) fun e' w2 => e' = .returned (.tuple #[.int .i64 0, .bool true, .int .i64 0]) ∧ Hid (St w w2 w.heap.size 2 [[97]])) :=
    fun w' h => add_lit 97 (by decide) h (by decide) (by decide) (by decide) (by decide) (by decide) (by decide)
  have hb : Hid (∀ (w' : World), St w w' w.heap.size 2 [[97]] → Calls Try.prog 11 #[.pointer (some ⟨w.heap.size, 0, none⟩), .slice (some ⟨w'.heap.size, 0, none⟩) 1 1] (w'.alloc (.cells #[.int .u8 98] 5 (1, 2))) fun e' w2 => e' = .returned (.tuple #[.int .i64 1, .bool true, .int .i64 0]) ∧ Hid (St w w2 w.heap.size 2 [[97], [98]])) :=
    fun w' h => add_lit 98 (by decide) h (by decide) (by decide) (by decide) (by decide) (by decide) (by decide)
  have hc : Hid (∀ (w' : World), St w w' w.heap.size 2 [[97], [98]] → Calls Try.prog 11 #[.pointer (some ⟨w.heap.size, 0, none⟩), .slice (some ⟨w'.heap.size, 0, none⟩) 1 1] (w'.alloc (.cells #[.int .u8 97] 5 (1, 2))) fun e' w2 => e' = .returned (.tuple #[.int .i64 0, .bool false, .int .i64 0]) ∧ Hid (St w w2 w.heap.size 2 [[97], [98]])) :=
    fun w' h => add_lit 97 (by decide) h (by decide) (by decide) (by decide) (by decide) (by decide) (by decide)
  have hd : Hid (∀ (w' : World), St w w' w.heap.size 2 [[97], [98]] → Calls Try.prog 11 #[.pointer (some ⟨w.heap.size, 0, none⟩), .slice (some ⟨w'.heap.size, 0, none⟩) 1 1] (w'.alloc (.cells #[.int .u8 99] 5 (1, 2))) fun e' w2 => e' = .returned (.tuple #[.int .i64 0, .bool false, .int .i64 14]) ∧ Hid (St w w2 w.heap.size 2 [[97], [98]])) :=
    fun w' h => add_lit 99 (by decide) h (by decide) (by decide) (by decide) (by decide) (by decide) (by decide)
  have hf : Hid (∀ (w' : World), St w w' w.heap.size 2 [[97], [98]] → Calls Try.prog 15 #[.pointer (some ⟨w.heap.size, 0, none⟩), .slice (some ⟨w'.heap.size, 0, none⟩) 1 1] (w'.alloc (.cells #[.int .u8 98] 5 (1, 2))) fun e' w2 => e' = .returned (.tuple #[.int .i64 1, .bool true]) ∧ Hid (St w w2 w.heap.size 2 [[97], [98]])) :=
    fun w' h => find_lit 98 (by decide) h (by decide) (by decide)
  have hl : Hid (∀ (w' : World), St w w' w.heap.size 2 [[97], [98]] → Calls Try.prog 13 #[.pointer (some ⟨w.heap.size, 0, none⟩)] w' fun e w2 => e = .returned (.int .i64 2) ∧ w' = w2) := fun w' h => len_st h (by decide)
  have hg : Hid (∀ (w' : World), St w w' w.heap.size 2 [[97], [98]] → Calls Try.prog 17 #[.pointer (some ⟨w.heap.size, 0, none⟩)] w' fun e w2 => e = .returned (.int .i64 1) ∧ w' = w2) := fun w' h => longest_st h (by show ((longN [[97], [98]] 2 : Nat) : Int) = 1; rw [long2]; rfl)
  have hk1 : Hid (∀ (w' : World), St w w' w.heap.size 2 [[97], [98]] → Calls Try.prog 16 #[.pointer (some ⟨w.heap.size, 0, none⟩), .int .i64 1] w' fun e w2 => ∃ a c, e = .returned (.slice a 1 c) ∧ (convert 23 9 (.slice a 1 c)).run Try.prog w2 = .ok (.string (strOfNums [98])) w2 ∧ Hid (St w w2 w.heap.size 2 [[97], [98]])) :=
    fun w' h => (key_st (zs := [98]) h 1 (by decide) (by decide) (by decide) (by decide)).mono (by rintro e w2 ⟨a, c, rfl, hm⟩; exact ⟨a, c, rfl, run_str (made_rowAt hm), h.below (made_below hm)⟩)
  have hk2 : Hid (∀ (w' : World), St w w' w.heap.size 2 [[97], [98]] → Calls Try.prog 16 #[.pointer (some ⟨w.heap.size, 0, none⟩), .int .i64 2] w' fun e w2 => ∃ a c, e = .returned (.slice a 0 c) ∧ Hid (St w w2 w.heap.size 2 [[97], [98]])) :=
    fun w' h => (keyout_st 2 h (.inr (by decide))).mono (by rintro e w2 ⟨a, c, rfl, hm⟩; exact ⟨a, c, rfl, h.below (made_below hm)⟩)
  go_enter Try.func9, Try.ntmps9
  go_wp2_with fail
  refine (HN1.out _).mono ?_
  rintro e w1 ⟨rfl, rfl⟩
  generalize w.alloc (.cells (new49 2) 49) = w1 at *
  generalize w.heap.size = g at *
  go_wp2_with fail
  refine (HN2.out _).mono ?_
  rintro e w2 ⟨rfl, rfl⟩
  go_wp2_with fail
  refine (HN3.out _).mono ?_
  rintro e w2 ⟨rfl, rfl⟩
  go_wp2_with fail
  refine (ha.out _ HS.out).mono ?_
  rintro e w2 ⟨rfl, h2⟩
  go_wp2_with fail
  refine (hb.out _ h2.out).mono ?_
  rintro e w3 ⟨rfl, h3⟩
  go_wp2_with fail
  refine (hc.out _ h3.out).mono ?_
  rintro e w4 ⟨rfl, h4⟩
  go_wp2_with fail
  refine (hd.out _ h4.out).mono ?_
  rintro e w5 ⟨rfl, h5⟩
  go_wp2_with fail
  refine (hf.out _ h5.out).mono ?_
  rintro e w6 ⟨rfl, h6⟩
  go_wp2_with fail
  refine (hl.out _ h6.out).mono ?_
  rintro e w7 ⟨rfl, rfl⟩
  go_wp2_with fail
  refine (hk1.out _ h6.out).mono ?_
  rintro e w7 ⟨a7, c7, rfl, hs7, h7⟩
  go_wp2_with fail
  refine (hk2.out _ h7.out).mono ?_
  rintro e w8 ⟨a8, c8, rfl, h8⟩
  go_wp2_with fail
  refine (hg.out _ h8.out).mono ?_
  rintro e w9 ⟨rfl, rfl⟩
  go_wp2
  go_ret
  exact ⟨rfl, h8.out.old⟩
end Go.Proofs.Ytflnddpbkaeaaaa
