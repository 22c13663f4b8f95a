/- A table in the heap: its cells, the rows behind them, and what a call may turn. -/
import Derived.Test.YtflnddpbkaeaaaaC
namespace Go.Proofs.Ytflnddpbkaeaaaa
open Go.RowKit Go.Own

def isSl (k : Nat) : Prop := k < 1024 ∨ k = 1026 ∨ k = 1027
def tyOf (k : Nat) : TypeId := if k = 1026 then 5 else 3

/-- The table's block g, its cells C, what the slices among them hold. -/
structure Tab (w : World) (g : Nat) (C : Nat → Value) (X : Nat → List Value) : Prop where
  cell : ∀ k, k < 1029 → w.cell? ⟨g, k, none⟩ = some (C k)
  froz : ∀ k, w.frozen? ⟨g, k, none⟩ = false
  sl : ∀ k, isSl k → Sl w (tyOf k) (C k) (X k).length (X k)
  plain : ∀ k, k < 1029 → ¬ isSl k → (C k).ownBlock = none
  apart : ∀ i j b, i < 1029 → j < 1029 → (C i).ownBlock = some b → (C j).ownBlock = some b → i = j
  off : ∀ i, i < 1029 → (C i).ownBlock ≠ some g

def Foot (g : Nat) (C : Nat → Value) (b : Nat) : Prop := b = g ∨ ∃ k, k < 1029 ∧ (C k).ownBlock = some b

theorem isSl_lt {k : Nat} (h : isSl k) : k < 1029 := by unfold isSl at h; omega
theorem Tab.lt {w : World} {g : Nat} {C : Nat → Value} {X : Nat → List Value} (h : Tab w g C X) : g < w.heap.size :=
  World.block_lt_of_cell? w ⟨g, 0, none⟩ (h.cell 0 (by decide))
theorem Tab.foot_lt {w : World} {g : Nat} {C : Nat → Value} {X : Nat → List Value} (h : Tab w g C X) : ∀ b, Foot g C b → b < w.heap.size := by
  rintro b (rfl | ⟨k, hk, e⟩)
  · exact h.lt
  · by_cases hs : isSl k
    · exact (h.sl k hs).lt b e
    · rw [h.plain k hk hs] at e; cases e

theorem Tab.kept {S : Nat → Prop} {w w' : World} {g : Nat} {C : Nat → Value} {X : Nat → List Value} (h : Tab w g C X) (hk : Kept S w w') (hS : ∀ b, Foot g C b → ¬ S b) : Tab w' g C X where
  cell k hlt := hk.cellSome (h.cell k hlt) (hS g (.inl rfl))
  froz k := (World.frozen?_of_block (hk.block g h.lt (hS g (.inl rfl)))).trans (h.froz k)
  sl k hs := Sl.kept (h.sl k hs) hk (fun b e => hS b (.inr ⟨k, isSl_lt hs, e⟩))
  plain := h.plain
  apart := h.apart
  off := h.off

def upd {α : Type} (C : Nat → α) (k : Nat) (v : α) : Nat → α := fun i => if i = k then v else C i
theorem upd_same {α : Type} (C : Nat → α) (k : Nat) (v : α) : upd C k v k = v := by simp [upd]
theorem upd_other {α : Type} (C : Nat → α) (k i : Nat) (v : α) (h : i ≠ k) : upd C k v i = C i := by simp [upd, h]

theorem addr_ne {g i k : Nat} (h : i ≠ k) : (⟨g, k, none⟩ : Addr) ≠ ⟨g, i, none⟩ := fun e => h (by cases e; rfl)

theorem slKept_set {w : World} {e : TypeId} {v : Value} {n : Nat} {xs : List Value} (h : Sl w e v n xs) (g k : Nat) (u : Value) (hn : v.ownBlock ≠ some g) : Sl (w.setCell ⟨g, k, none⟩ u) e v n xs :=
  Sl.kept h (S := fun b => b = g) ((Kept.refl (fun b => b = g) w).setCell (p := ⟨g, k, none⟩) (fun _ => rfl) u) (fun b e s => hn (by rw [e, s]))

/-- A cell that is no slice's is turned. -/
theorem Tab.setPlain {w : World} {g : Nat} {C : Nat → Value} {X : Nat → List Value} (h : Tab w g C X) (k : Nat) (hk : k < 1029) (hs : ¬ isSl k) (v : Value) (hv : v.ownBlock = none) :
    Tab (w.setCell ⟨g, k, none⟩ v) g (upd C k v) X where
  cell i hi := by
    by_cases e : i = k
    · subst e; rw [upd_same]; exact World.cell?_setCell_same _ _ _ (h.cell i hi)
    · rw [upd_other _ _ _ _ e, World.cell?_setCell_other _ _ _ _ (addr_ne e)]; exact h.cell i hi
  froz i := by rw [World.frozen?_setCell]; exact h.froz i
  sl i hi := by
    have e : i ≠ k := fun e => hs (e ▸ hi)
    rw [upd_other _ _ _ _ e]
    exact slKept_set (h.sl i hi) g k v (h.off i (isSl_lt hi))
  plain i hi hns := by
    by_cases e : i = k
    · subst e; rw [upd_same]; exact hv
    · rw [upd_other _ _ _ _ e]; exact h.plain i hi hns
  apart i j b hi hj := by
    by_cases e : i = k
    · subst e; rw [upd_same, hv]; intro h; cases h
    · rw [upd_other _ _ _ _ e]
      by_cases e' : j = k
      · subst e'; rw [upd_same, hv]; intro _ h; cases h
      · rw [upd_other _ _ _ _ e']; exact h.apart i j b hi hj
  off i hi := by
    by_cases e : i = k
    · subst e; rw [upd_same, hv]; intro h; cases h
    · rw [upd_other _ _ _ _ e]; exact h.off i hi

/-- One of the slices has been appended to, and lies in its cell again. -/
theorem Tab.setSl {w w1 : World} {g : Nat} {C : Nat → Value} {X : Nat → List Value} (h : Tab w g C X) (k : Nat) (hs : isSl k) (v : Value) (xs : List Value)
    (hsl : Sl w1 (tyOf k) v xs.length xs) (hk : Kept (fun b => (C k).ownBlock = some b) w w1) (hm : Moved w (C k) v) :
    Tab (w1.setCell ⟨g, k, none⟩ v) g (upd C k v) (upd X k xs) := by
  have hk29 := isSl_lt hs
  have hcell : ∀ i, i < 1029 → w1.cell? ⟨g, i, none⟩ = some (C i) := fun i hi => hk.cellSome (h.cell i hi) (h.off k hk29)
  -- where v lies: no block of another cell's, and not the table's own
  have hv : ∀ b, v.ownBlock = some b → b ≠ g ∧ ∀ i, i < 1029 → i ≠ k → (C i).ownBlock ≠ some b := by
    intro b hb
    rcases hm with hm | ⟨b', hm, hge⟩
    · rw [hm] at hb
      refine ⟨fun e => h.off k hk29 (by rw [hb, e]), fun i hi hne e => hne (h.apart i k b hi hk29 e hb)⟩
    · rw [hm] at hb
      obtain rfl : b' = b := by cases hb; rfl
      have := h.lt
      refine ⟨by omega, fun i hi hne e => ?_⟩
      have := h.foot_lt b' (.inr ⟨i, hi, e⟩)
      omega
  exact {
    cell := fun i hi => by
      by_cases e : i = k
      · subst e; rw [upd_same]; exact World.cell?_setCell_same _ _ _ (hcell i hi)
      · rw [upd_other _ _ _ _ e, World.cell?_setCell_other _ _ _ _ (addr_ne e)]; exact hcell i hi
    froz := fun i => by
      rw [World.frozen?_setCell]
      exact (World.frozen?_of_block (hk.block g h.lt (h.off k hk29))).trans (h.froz i)
    sl := fun i hi => by
      by_cases e : i = k
      · subst e; rw [upd_same, upd_same]
        exact slKept_set hsl g i v (fun e => (hv g e).1 rfl)
      · rw [upd_other _ _ _ _ e, upd_other _ _ _ _ e]
        have h1 := Sl.kept (h.sl i hi) hk (fun b hb e' => e (h.apart i k b (isSl_lt hi) hk29 hb e'))
        exact slKept_set h1 g k v (h.off i (isSl_lt hi))
    plain := fun i hi hns => by
      have e : i ≠ k := fun e => hns (e ▸ hs)
      rw [upd_other _ _ _ _ e]; exact h.plain i hi hns
    apart := fun i j b hi hj => by
      by_cases e : i = k
      · by_cases e' : j = k
        · intro _ _; omega
        · subst e; rw [upd_same, upd_other _ _ _ _ e']
          intro h1 h2; exact ((hv b h1).2 j hj e' h2).elim
      · rw [upd_other _ _ _ _ e]
        by_cases e' : j = k
        · subst e'; rw [upd_same]
          intro h1 h2; exact ((hv b h2).2 i hi e h1).elim
        · rw [upd_other _ _ _ _ e']; exact h.apart i j b hi hj
    off := fun i hi => by
      by_cases e : i = k
      · subst e; rw [upd_same]; intro e; exact (hv g e).1 rfl
      · rw [upd_other _ _ _ _ e]; exact h.off i hi }

/-- What the foot is behind it. -/
theorem foot_upd {w : World} {g : Nat} {C : Nat → Value} (k : Nat) (hk : k < 1029) (v : Value) (hm : Moved w (C k) v) : ∀ b, Foot g (upd C k v) b → Foot g C b ∨ w.heap.size ≤ b := by
  rintro b (rfl | ⟨i, hi, e⟩)
  · exact .inl (.inl rfl)
  · by_cases he : i = k
    · subst he
      rw [upd_same] at e
      rcases hm with hm | ⟨b', hm, hge⟩
      · rw [hm] at e; exact .inl (.inr ⟨i, hi, e⟩)
      · rw [hm] at e; cases e; exact .inr hge
    · rw [upd_other _ _ _ _ he] at e; exact .inl (.inr ⟨i, hi, e⟩)
theorem foot_upd_plain {g : Nat} {C : Nat → Value} (k : Nat) (v : Value) (hv : v.ownBlock = none) : ∀ b, Foot g (upd C k v) b → Foot g C b := by
  rintro b (rfl | ⟨i, hi, e⟩)
  · exact .inl rfl
  · by_cases he : i = k
    · subst he; rw [upd_same, hv] at e; cases e
    · rw [upd_other _ _ _ _ he] at e; exact .inr ⟨i, hi, e⟩

/-- The table of the texts T, with room for 'most'; all its blocks lie in F. -/
structure TabT (w : World) (g : Nat) (most : Int) (T : List (List Int)) (F : Nat → Prop) (C : Nat → Value) (X : Nat → List Value) : Prop where
  tab : Tab w g C X
  long : C 1024 = .int .i64 (longN T T.length)
  most : C 1025 = .int .i64 most
  made : C 1028 = .bool true
  heads : ∀ k, k < 1024 → X k = (chain k T).map (Value.int .i64)
  all : X 1026 = T.flatten.map (Value.int .u8)
  ends : X 1027 = (ends T).map (Value.int .i64)
  foot : ∀ b, Foot g C b → F b
  lt : ∀ b, F b → b < w.heap.size
  nodup : T.Nodup
  bytes : ∀ t ∈ T, IsBytes t

/-- The same, its cells put away. -/
def IsTab (w : World) (g : Nat) (most : Int) (T : List (List Int)) (F : Nat → Prop) : Prop := ∃ C X, TabT w g most T F C X

theorem TabT.kept {S : Nat → Prop} {w w' : World} {g : Nat} {m : Int} {T : List (List Int)} {F : Nat → Prop} {C : Nat → Value} {X : Nat → List Value} (h : TabT w g m T F C X) (hk : Kept S w w') (hS : ∀ b, F b → ¬ S b) : TabT w' g m T F C X :=
  { h with tab := h.tab.kept hk (fun b hb => hS b (h.foot b hb)), lt := fun b hb => Nat.lt_of_lt_of_le (h.lt b hb) hk.size }
theorem IsTab.kept {S : Nat → Prop} {w w' : World} {g : Nat} {m : Int} {T : List (List Int)} {F : Nat → Prop} (h : IsTab w g m T F) (hk : Kept S w w') (hS : ∀ b, F b → ¬ S b) : IsTab w' g m T F := by
  obtain ⟨C, X, h⟩ := h; exact ⟨C, X, h.kept hk hS⟩
theorem IsTab.lt {w : World} {g : Nat} {m : Int} {T : List (List Int)} {F : Nat → Prop} (h : IsTab w g m T F) : ∀ b, F b → b < w.heap.size := by
  obtain ⟨C, X, h⟩ := h; exact h.lt
theorem IsTab.below {w w' : World} {g : Nat} {m : Int} {T : List (List Int)} {F : Nat → Prop} (h : IsTab w g m T F) (hb : Below w.heap.size w w') : IsTab w' g m T F :=
  h.kept (Kept.ofBelow hb) (fun b hF => by have := h.lt b hF; omega)

/-- A new one. -/
theorem new49_cell (m : Int) (k : Nat) (hk : k < 1029) : (new49 m)[k]? = some (if k < 1024 then .slice none 0 0 else if k = 1024 then .int .i64 0 else if k = 1025 then .int .i64 m else if k = 1028 then .bool true else .slice none 0 0) := by
  unfold new49
  have hz : zero49.size = 1029 := size49
  by_cases h8 : k = 1028
  · subst h8
    rw [Array.getElem?_setIfInBounds_self_of_lt (by simp only [Array.size_setIfInBounds, hz]; decide)]; rfl
  rw [Array.getElem?_setIfInBounds_ne (by omega)]
  by_cases h5 : k = 1025
  · subst h5
    rw [Array.getElem?_setIfInBounds_self_of_lt (by simp only [Array.size_setIfInBounds, hz]; decide)]; rfl
  rw [Array.getElem?_setIfInBounds_ne (by omega)]
  unfold zero49
  rw [List.getElem?_toArray]
  by_cases h : k < 1024
  · rw [List.getElem?_append_left (by rw [List.length_replicate]; exact h), if_pos h, List.getElem?_replicate, if_pos h]
  · rw [List.getElem?_append_right (by rw [List.length_replicate]; omega), if_neg h, List.length_replicate]
    obtain rfl | rfl | rfl : k = 1024 ∨ k = 1026 ∨ k = 1027 := by omega
    all_goals rfl

theorem isTab_new (w : World) (m : Int) : IsTab (w.alloc (.cells (new49 m) 49)) w.heap.size m [] (fun b => b = w.heap.size) := by
  refine ⟨fun k => if k < 1024 then .slice none 0 0 else if k = 1024 then .int .i64 0 else if k = 1025 then .int .i64 m else if k = 1028 then .bool true else .slice none 0 0, fun _ => [], ?_⟩
  have hnil : ∀ k, (if k < 1024 then Value.slice none 0 0 else if k = 1024 then .int .i64 0 else if k = 1025 then .int .i64 m else if k = 1028 then .bool true else .slice none 0 0).ownBlock = none := by
    intro k
    split
    · rfl
    split
    · rfl
    split
    · rfl
    split <;> rfl
  refine ⟨⟨fun k hk => ?_, fun k => World.frozen?_alloc_at _ _ _ _ rfl, fun k hs => ?_, fun k _ _ => hnil k, fun i j b hi hj h1 => ?_, fun i hi h => ?_⟩, rfl, rfl, rfl, fun k _ => by simp [chain, chainN], rfl, rfl, ?_, ?_, List.nodup_nil, by simp⟩
  · rw [← new49_cell m k hk]
    exact World.cell?_alloc_at _ _ _ _ rfl
  · have e : (if k < 1024 then Value.slice none 0 0 else if k = 1024 then .int .i64 0 else if k = 1025 then .int .i64 m else if k = 1028 then .bool true else .slice none 0 0) = Value.slice none 0 0 := by
      rcases hs with h | rfl | rfl
      · rw [if_pos h]
      · rfl
      · rfl
    show Sl _ _ (if k < 1024 then Value.slice none 0 0 else if k = 1024 then .int .i64 0 else if k = 1025 then .int .i64 m else if k = 1028 then .bool true else .slice none 0 0) 0 []
    rw [e]
    exact World.ownsRow_nil _ _ _ _
  · rw [hnil] at h1; cases h1
  · rw [hnil] at h; cases h
  · rintro b (rfl | ⟨k, _, h⟩)
    · rfl
    · rw [hnil] at h; cases h
  · rintro b rfl; simp
end Go.Proofs.Ytflnddpbkaeaaaa
