/- A table beside a slice of texts: what the laws hold through their loops. -/
import Derived.Test.YtflnddpbkaeaaaaO
namespace Go.Proofs.Ytflnddpbkaeaaaa
open Go.RowKit Go.Own

/-- A table of the texts T made since w0, and beside it, in other blocks, a slice of the texts Y. -/
def Two (w0 w : World) (g : Nat) (mo : Int) (T Y : List (List Int)) (a : Option Addr) (c : Nat) : Prop :=
  ∃ F, IsTab w g mo T F ∧ (∀ b, F b → w0.heap.size ≤ b) ∧ Below w0.heap.size w0 w ∧ Rows (fun b => ¬ F b) w a Y.length Y ∧ (a = none → Y.length = 0 ∧ c = 0)

theorem Two.tab {w0 w : World} {g : Nat} {mo : Int} {T Y : List (List Int)} {a : Option Addr} {c : Nat} (h : Two w0 w g mo T Y a c) : ∃ F, IsTab w g mo T F := h.imp fun _ h => h.1
theorem Two.old {w0 w : World} {g : Nat} {mo : Int} {T Y : List (List Int)} {a : Option Addr} {c : Nat} (h : Two w0 w g mo T Y a c) : Below w0.heap.size w0 w := by obtain ⟨F, _, _, h, _⟩ := h; exact h
theorem Two.rows {w0 w : World} {g : Nat} {mo : Int} {T Y : List (List Int)} {a : Option Addr} {c : Nat} (h : Two w0 w g mo T Y a c) : Rows (fun _ => True) w a Y.length Y := by obtain ⟨F, _, _, _, h, _⟩ := h; exact h.mono (fun _ _ => trivial)
theorem Two.nodup {w0 w : World} {g : Nat} {mo : Int} {T Y : List (List Int)} {a : Option Addr} {c : Nat} (h : Two w0 w g mo T Y a c) : T.Nodup := by obtain ⟨F, ⟨C, X, h⟩, _⟩ := h; exact h.nodup
theorem Two.bytes {w0 w : World} {g : Nat} {mo : Int} {T Y : List (List Int)} {a : Option Addr} {c : Nat} (h : Two w0 w g mo T Y a c) : ∀ t ∈ T, IsBytes t := by obtain ⟨F, ⟨C, X, h⟩, _⟩ := h; exact h.bytes
theorem Two.below {w0 w w' : World} {g : Nat} {mo : Int} {T Y : List (List Int)} {a : Option Addr} {c : Nat} (h : Two w0 w g mo T Y a c) (hb : Below w.heap.size w w') : Two w0 w' g mo T Y a c := by
  obtain ⟨F, h1, h2, h3, h4, h5⟩ := h
  exact ⟨F, h1.below hb, h2, h3.trans (hb.mono h3.size), h4.below hb, h5⟩
theorem Two.new (w : World) (m : Int) : Two w (w.alloc (.cells (new49 m) 49)) w.heap.size m [] [] none 0 :=
  ⟨_, isTab_new w m, fun b e => by rw [e]; exact Nat.le_refl _, (Below.refl _ w).alloc (Nat.le_refl _) _, Rows.nil _ _ _, fun _ => ⟨rfl, rfl⟩⟩

theorem add_two {w0 w : World} {g : Nat} {mo : Int} {T Y : List (List Int)} {ay : Option Addr} {cy : Nat} (h : Two w0 w g mo T Y ay cy) (a : Option Addr) (n c : Nat) (bs : List Int) (hb : RowAt .u8 w a n bs) (hnil : a = none → n = 0 ∧ c = 0) (hbs : IsBytes bs)
    (hsz : T.flatten.length + n ≤ 1099511627776) (hT : T.length ≤ 65536) :
    Calls Try.prog 11 #[.pointer (some ⟨g, 0, none⟩), .slice a n c] w fun e w' => e = .returned (.tuple #[.int .i64 (addN T mo bs), .bool (addP T mo bs), .int .i64 (addE T mo bs)]) ∧ Hid (Two w0 w' g mo (addT T mo bs) Y ay cy) := by
  obtain ⟨F, h1, h2, h3, h4, h5⟩ := h
  refine (add_any g mo T F w h1 a n c bs hb hnil hbs hsz hT).mono ?_
  rintro e w' ⟨rfl, F', k4, k5, k6⟩
  refine ⟨rfl, F', k4, fun b hb => (k6 b hb).elim (h2 b) (fun hle => Nat.le_trans h3.size hle), h3.trans (k5.below h3.size (fun k hk hF => ?_)), ?_, h5⟩
  · have := h2 k hF; omega
  · exact (h4.inside.kept k5 (fun b hs hF => hs.1 hF)).mono (fun b hs hF' => (k6 b hF').elim hs.1 (fun hle => by have := hs.2; omega))

/-- Add at what the table holds, whatever lies in no block of its own. -/
theorem Two.keep {w0 w w' : World} {g : Nat} {mo : Int} {T Y : List (List Int)} {ay : Option Addr} {cy : Nat} {S : Nat → Prop} {a : Option Addr} {n : Nat} {X : List (List Int)} (h : Two w0 w' g mo T Y ay cy) (hr : Rows (fun b => b < w0.heap.size) w0 a n X) : Rows (fun b => b < w0.heap.size) w' a n X :=
  hr.below h.old

theorem ref_two {w0 w : World} {g : Nat} {mo : Int} {T Y : List (List Int)} {ay : Option Addr} {cy : Nat} (h : Two w0 w g mo T Y ay cy) (hY : ∀ t ∈ Y, IsBytes t) (hnd : Y.Nodup) (hn : Y.length ≤ 65536) (b : Option Addr) (m d : Nat) (bs : List Int) (hb : RowAt .u8 w b m bs) (hbnil : b = none → m = 0 ∧ d = 0) (hm : m ≤ 1099511627776) (hbs : IsBytes bs) :
    Calls Try.prog 12 #[.slice ay Y.length cy, .int .i64 mo, .slice b m d] w fun e w' => ∃ a' c', e = .returned (.tuple #[.slice a' (addT Y mo bs).length c', .int .i64 (addN Y mo bs), .bool (addP Y mo bs), .int .i64 (addE Y mo bs)]) ∧ Hid (Two w0 w' g mo T (addT Y mo bs) a' c') := by
  obtain ⟨F, h1, h2, h3, h4, h5⟩ := h
  refine (refAdd_any _ ay Y.length cy Y mo b m d bs w h4 hY hnd hn h5 hb hbnil hm hbs).mono ?_
  rintro e w' ⟨a', c', rfl, k1, k2, k3⟩
  refine ⟨a', c', rfl, F, h1.below k3, h2, h3.trans (k3.mono h3.size), k1.mono (fun b hs hF => ?_), k2⟩
  rcases hs with hs | hs
  · exact hs hF
  · have := h1.lt b hF; omega

theorem len_two {w0 w : World} {g : Nat} {mo : Int} {T Y : List (List Int)} {ay : Option Addr} {cy : Nat} (h : Two w0 w g mo T Y ay cy) : Calls Try.prog 13 #[.pointer (some ⟨g, 0, none⟩)] w fun e w' => e = .returned (.int .i64 (T.length : Int)) ∧ w = w' := by
  obtain ⟨F, hF⟩ := h.tab; exact len_any g mo T F w hF
theorem longest_two {w0 w : World} {g : Nat} {mo : Int} {T Y : List (List Int)} {ay : Option Addr} {cy : Nat} (h : Two w0 w g mo T Y ay cy) : Calls Try.prog 17 #[.pointer (some ⟨g, 0, none⟩)] w fun e w' => e = .returned (.int .i64 (longN T T.length : Nat)) ∧ w = w' := by
  obtain ⟨F, hF⟩ := h.tab; exact longest_any g mo T F w hF
theorem refLongest_two {w0 w : World} {g : Nat} {mo : Int} {T Y : List (List Int)} {ay : Option Addr} {cy : Nat} (h : Two w0 w g mo T Y ay cy) (hn : Y.length ≤ 65536) (ht : ∀ t ∈ Y, t.length ≤ 9223372036854775807) :
    Calls Try.prog 18 #[.slice ay Y.length cy] w fun e w' => e = .returned (.int .i64 (longN Y Y.length : Nat)) ∧ Hid (Two w0 w' g mo T Y ay cy) :=
  (refLongest_any _ ay Y.length cy Y w h.rows hn ht).mono (by rintro e w' ⟨rfl, hb⟩; exact ⟨rfl, h.below hb⟩)
theorem find_two {w0 w : World} {g : Nat} {mo : Int} {T Y : List (List Int)} {ay : Option Addr} {cy : Nat} (h : Two w0 w g mo T Y ay cy) (a : Option Addr) (n c : Nat) (bs : List Int) (hb : RowAt .u8 w a n bs) (hn : n ≤ 9223372036854775807) (hbs : IsBytes bs) :
    Calls Try.prog 15 #[.pointer (some ⟨g, 0, none⟩), .slice a n c] w fun e w' => e = .returned (.tuple #[.int .i64 (max (idx T bs) 0), .bool (decide (0 ≤ idx T bs))]) ∧ Hid (Two w0 w' g mo T Y ay cy) := by
  obtain ⟨F, hF⟩ := h.tab
  exact (find_any g mo T F w hF a n c bs hb hn hbs).mono (by rintro e w' ⟨rfl, hb⟩; exact ⟨rfl, h.below hb⟩)
theorem refFind_two {w0 w : World} {g : Nat} {mo : Int} {T Y : List (List Int)} {ay : Option Addr} {cy : Nat} (h : Two w0 w g mo T Y ay cy) (hY : ∀ t ∈ Y, IsBytes t) (hnd : Y.Nodup) (hn : Y.length ≤ 65536) (b : Option Addr) (m d : Nat) (bs : List Int) (hb : RowAt .u8 w b m bs) (hbs : IsBytes bs) :
    Calls Try.prog 14 #[.slice ay Y.length cy, .slice b m d] w fun e w' => e = .returned (.int .i64 (idx Y bs)) ∧ Hid (Two w0 w' g mo T Y ay cy) :=
  (refFind_any _ ay Y.length cy Y b m d bs w h.rows hY hnd (by omega) hb hbs).mono (by rintro e w' ⟨rfl, hb⟩; exact ⟨rfl, h.below hb⟩)
/-- Key at a number that is there: a row of its own, and what string() of it is. -/
theorem key_two {w0 w : World} {g : Nat} {mo : Int} {T Y : List (List Int)} {ay : Option Addr} {cy : Nat} (h : Two w0 w g mo T Y ay cy) (k : Nat) (hk : k < T.length) (hl : (T.getD k []).length ≤ 140737488351232) :
    Calls Try.prog 16 #[.pointer (some ⟨g, 0, none⟩), .int .i64 (k : Int)] w fun e w' => ∃ a c, e = .returned (.slice a (T.getD k []).length c) ∧ Hid (MadeInts .u8 5 w w' (.slice a (T.getD k []).length c) (T.getD k [])) := by
  obtain ⟨F, hF⟩ := h.tab
  exact (key_any g mo T F w hF k hk hl).mono (by rintro e w' ⟨a, c, rfl, hm⟩; exact ⟨a, c, rfl, hm⟩)
theorem keyout_two {w0 w : World} {g : Nat} {mo : Int} {T Y : List (List Int)} {ay : Option Addr} {cy : Nat} (n : Int) (h : Two w0 w g mo T Y ay cy) (hn : n < 0 ∨ (T.length : Int) ≤ n) : Calls Try.prog 16 #[.pointer (some ⟨g, 0, none⟩), .int .i64 n] w fun e w' => ∃ a c, e = .returned (.slice a 0 c) ∧ Hid (Two w0 w' g mo T Y ay cy) := by
  obtain ⟨F, hF⟩ := h.tab
  exact (key_out g mo T F w hF n hn).mono (by rintro e w' ⟨a, c, rfl, hm⟩; exact ⟨a, c, rfl, h.below (made_below hm)⟩)

/-- The table's texts behind the first k calls. -/
def playT (mo : Int) (X : List (List Int)) : Nat → List (List Int)
  | 0 => []
  | k + 1 => addT (playT mo X k) mo (X.getD k [])
theorem addT_len (T : List (List Int)) (mo : Int) (bs : List Int) : (addT T mo bs).length ≤ T.length + 1 := by
  unfold addT; split
  · omega
  · simp
theorem addT_mem {T : List (List Int)} {mo : Int} {bs t : List Int} (h : t ∈ addT T mo bs) : t ∈ T ∨ t = bs := by
  unfold addT at h; split at h
  · exact .inl h
  · simpa using h
theorem playT_len (mo : Int) (X : List (List Int)) : ∀ k, (playT mo X k).length ≤ k
  | 0 => Nat.le_refl _
  | k + 1 => Nat.le_trans (addT_len _ _ _) (Nat.succ_le_succ (playT_len mo X k))
theorem playT_mem (mo : Int) (X : List (List Int)) : ∀ k, k ≤ X.length → ∀ t ∈ playT mo X k, t ∈ X
  | 0, _, t, h => by cases h
  | k + 1, hk, t, h => by
    rcases addT_mem h with h | h
    · exact playT_mem mo X k (by omega) t h
    · rw [h]; exact getD_mem (by omega)
theorem flat_bound {T : List (List Int)} {B : Nat} (h : ∀ t ∈ T, t.length ≤ B) : T.flatten.length ≤ T.length * B := by
  induction T with
  | nil => simp
  | cons t T ih =>
    rw [List.flatten_cons, List.length_append, List.length_cons, Nat.succ_mul]
    have := ih (fun x hx => h x (List.mem_cons_of_mem _ hx))
    have := h t List.mem_cons_self
    omega
end Go.Proofs.Ytflnddpbkaeaaaa
