/- A table, a slice of texts, and beside both a row of bytes that may be written: what TableApart's loops hold. -/
import Derived.Test.YtflnddpbkaeaaaaU
namespace Go.Proofs.Ytflnddpbkaeaaaa
open Go.RowKit Go.Own

/-- A table of the texts T made since w0, a slice of the texts Y, and a row v of bytes, each in blocks of its own. -/
def Tri (w0 w : World) (g : Nat) (mo : Int) (T Y : List (List Int)) (a : Option Addr) (c : Nat) (v : Value) (zs : List Int) : Prop :=
  ∃ F, IsTab w g mo T F ∧ (∀ b, F b → w0.heap.size ≤ b ∧ v.ownBlock ≠ some b) ∧ Below w0.heap.size w0 w ∧ Rows (fun b => ¬ F b ∧ v.ownBlock ≠ some b) w a Y.length Y ∧ (a = none → Y.length = 0 ∧ c = 0) ∧ Sl w 5 v zs.length (zs.map (Value.int .u8)) ∧ (∀ b, v.ownBlock = some b → w0.heap.size ≤ b)

theorem Tri.two {w0 w : World} {g : Nat} {mo : Int} {T Y : List (List Int)} {a : Option Addr} {c : Nat} {v : Value} {zs : List Int} (h : Tri w0 w g mo T Y a c v zs) : Two w0 w g mo T Y a c := by
  obtain ⟨F, h1, h2, h3, h4, h5, _⟩ := h
  exact ⟨F, h1, fun b hb => (h2 b hb).1, h3, h4.mono (fun b hb => hb.1), h5⟩
theorem Tri.sl {w0 w : World} {g : Nat} {mo : Int} {T Y : List (List Int)} {a : Option Addr} {c : Nat} {v : Value} {zs : List Int} (h : Tri w0 w g mo T Y a c v zs) : Sl w 5 v zs.length (zs.map (Value.int .u8)) := by
  obtain ⟨F, _, _, _, _, _, h, _⟩ := h; exact h
theorem tri_made {w0 w w1 : World} {g : Nat} {mo : Int} {T Y : List (List Int)} {a : Option Addr} {c : Nat} {v : Value} {zs : List Int} (h : Two w0 w g mo T Y a c) (hm : MadeInts .u8 5 w w1 v zs) : Tri w0 w1 g mo T Y a c v zs := by
  obtain ⟨F, h1, h2, h3, h4, h5⟩ := h
  obtain ⟨k1, k2, k3⟩ := hm
  refine ⟨F, h1.below k2, fun b hb => ⟨h2 b hb, fun e => ?_⟩, h3.trans (k2.mono h3.size), ?_, h5, k1, fun b e => Nat.le_trans h3.size (k3 b e)⟩
  · have := h1.lt b hb; have := k3 b e; omega
  · exact (h4.inside.kept (Kept.ofBelow k2) (fun b hs hle => by have := hs.2; omega)).mono (fun b hs => ⟨hs.1, fun e => by have := k3 b e; have := hs.2; omega⟩)
theorem Tri.keep {w0 w w' : World} {g : Nat} {mo : Int} {T Y : List (List Int)} {a : Option Addr} {c : Nat} {v : Value} {zs : List Int} (h : Tri w0 w g mo T Y a c v zs) (hb : Below w.heap.size w w') : Tri w0 w' g mo T Y a c v zs := by
  obtain ⟨F, h1, h2, h3, h4, h5, h6, h7⟩ := h
  exact ⟨F, h1.below hb, h2, h3.trans (hb.mono h3.size), h4.below hb, h5, Sl.kept h6 (Kept.ofBelow hb) (fun b e hle => by have := Sl.lt h6 b e; omega), h7⟩
theorem tri_cell {w0 w : World} {g : Nat} {mo : Int} {T Y : List (List Int)} {a av : Option Addr} {c n cv : Nat} {zs : List Int} (h : Tri w0 w g mo T Y a c (.slice av n cv) zs) (hn : zs.length = n) (i : Nat) (hi : i < n) :
    ∃ gb, av = some ⟨gb, 0, none⟩ ∧ w.cell? ⟨gb, i, none⟩ = some (.int .u8 (zs.getD i 0)) ∧ w.frozen? ⟨gb, i, none⟩ = false := by
  subst hn
  have hs := h.sl
  obtain ⟨a', c', e, hc⟩ := hs.shape
  cases e
  obtain ⟨gb, rfl, _, _⟩ := hc i (by omega)
  exact ⟨gb, rfl, sl_cell hs i hi⟩
theorem tri_store {w0 w : World} {g : Nat} {mo : Int} {T Y : List (List Int)} {a : Option Addr} {c n cv gb : Nat} {zs : List Int} (h : Tri w0 w g mo T Y a c (.slice (some ⟨gb, 0, none⟩) n cv) zs) (i : Nat) (x : Int) :
    Tri w0 (w.setCell ⟨gb, i, none⟩ (.int .u8 x)) g mo T Y a c (.slice (some ⟨gb, 0, none⟩) n cv) (zs.set i x) := by
  obtain ⟨F, h1, h2, h3, h4, h5, h6, h7⟩ := h
  have hk : Kept (fun b => b = gb) w (w.setCell ⟨gb, i, none⟩ (.int .u8 x)) := (Kept.refl (fun b => b = gb) w).setCell (p := ⟨gb, i, none⟩) (fun _ => rfl) _
  obtain ⟨_, _, e, _⟩ := h6.shape
  injection e with _ e2 _
  subst e2
  have hst := World.ownsRow.stored h6 i (.int .u8 x)
  rw [← List.map_set] at hst
  refine ⟨F, h1.kept hk (fun b hb e => (h2 b hb).2 (by rw [e]; rfl)), h2, h3.setCell (h7 gb rfl) _, h4.kept hk (fun b hs e => hs.2 (by rw [e]; rfl)), h5, by rw [List.length_set]; exact hst.1, h7⟩

theorem add_tri {w0 w : World} {g : Nat} {mo : Int} {T Y : List (List Int)} {ay : Option Addr} {cy : Nat} {av : Option Addr} {n c : Nat} {zs : List Int} (h : Tri w0 w g mo T Y ay cy (.slice av n c) zs) (hn : zs.length = n) (hbs : IsBytes zs)
    (hsz : T.flatten.length + n ≤ 1099511627776) (hT : T.length ≤ 65536) :
    Calls Try.prog 11 #[.pointer (some ⟨g, 0, none⟩), .slice av n c] w fun e w' => e = .returned (.tuple #[.int .i64 (addN T mo zs), .bool (addP T mo zs), .int .i64 (addE T mo zs)]) ∧ Hid (Tri w0 w' g mo (addT T mo zs) Y ay cy (.slice av n c) zs) := by
  obtain ⟨F, h1, h2, h3, h4, h5, h6, h7⟩ := h
  obtain ⟨a', c', e, hr, _, _, hnil⟩ := tab_nums (k := .u8) (xs := zs.map (Value.int .u8)) zs (by rw [List.length_map]; exact h6) rfl
  injection e with e1 e2 e3
  subst e1 e2 e3
  refine (add_any g mo T F w h1 av _ c zs hr hnil hbs hsz hT).mono ?_
  rintro e w' ⟨rfl, F', k4, k5, k6⟩
  have hlt : ∀ b, (Value.slice av zs.length c).ownBlock = some b → b < w.heap.size := fun b e => Sl.lt h6 b e
  refine ⟨rfl, F', k4, fun b hb => ?_, h3.trans (k5.below h3.size (fun k hk hF => ?_)), ?_, h5, Sl.kept h6 k5 (fun b e hF => (h2 b hF).2 e), h7⟩
  · rcases k6 b hb with hF | hle
    · exact h2 b hF
    · exact ⟨Nat.le_trans h3.size hle, fun e => by have := hlt b e; omega⟩
  · have := (h2 k hF).1; omega
  · refine (h4.inside.kept k5 (fun b hs hF => hs.1.1 hF)).mono (fun b hs => ⟨fun hF' => (k6 b hF').elim hs.1.1 (fun hle => by have := hs.2; omega), hs.1.2⟩)
theorem ref_tri {w0 w : World} {g : Nat} {mo : Int} {T Y : List (List Int)} {ay : Option Addr} {cy : Nat} {v : Value} {zs : List Int} (h : Tri w0 w g mo T Y ay cy v zs) (hY : ∀ t ∈ Y, IsBytes t) (hnd : Y.Nodup) (hn : Y.length ≤ 65536) (b : Option Addr) (m d : Nat) (bs : List Int) (hb : RowAt .u8 w b m bs) (hbnil : b = none → m = 0 ∧ d = 0) (hm : m ≤ 1099511627776) (hbs : IsBytes bs) :
    Calls Try.prog 12 #[.slice ay Y.length cy, .int .i64 mo, .slice b m d] w fun e w' => ∃ a' c', e = .returned (.tuple #[.slice a' (addT Y mo bs).length c', .int .i64 (addN Y mo bs), .bool (addP Y mo bs), .int .i64 (addE Y mo bs)]) ∧ Hid (Tri w0 w' g mo T (addT Y mo bs) a' c' v zs) := by
  obtain ⟨F, h1, h2, h3, h4, h5, h6, h7⟩ := h
  refine (refAdd_any _ ay Y.length cy Y mo b m d bs w h4 hY hnd hn h5 hb hbnil hm hbs).mono ?_
  rintro e w' ⟨a', c', rfl, k1, k2, k3⟩
  refine ⟨a', c', rfl, F, h1.below k3, h2, h3.trans (k3.mono h3.size), k1.mono (fun b hs => ?_), k2, Sl.kept h6 (Kept.ofBelow k3) (fun b e hle => by have := Sl.lt h6 b e; omega), h7⟩
  rcases hs with hs | hs
  · exact hs
  · exact ⟨fun hF => by have := h1.lt b hF; omega, fun e => by have := Sl.lt h6 b e; omega⟩
end Go.Proofs.Ytflnddpbkaeaaaa
