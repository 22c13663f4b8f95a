/- A struct of the call's own in the heap, some of whose cells are slices that own their blocks: what it is, and what each kind of write does to it. -/
import Derived.Test.YtnkfmhhfeaohbaaMade
import Derived.Test.YtnkfmhhfeaohbaaGraph
import Derived.Test.YtnkfmhhfeaohbaaTarjan
namespace Go.Own
open Go.RowKit

structure Rec (N : Nat) (sl : Nat → Prop) (ty : Nat → TypeId) (w : World) (g : Nat) (C : Nat → Value) (X : Nat → List Value) : Prop where
  cell : ∀ k, k < N → w.cell? ⟨g, k, none⟩ = some (C k)
  froz : ∀ k, w.frozen? ⟨g, k, none⟩ = false
  lim : ∀ k, sl k → k < N
  own : ∀ k, sl k → Sl w (ty k) (C k) (X k).length (X k)
  apart : ∀ i j b, sl i → sl j → (C i).ownBlock = some b → (C j).ownBlock = some b → i = j
  off : ∀ i, sl i → (C i).ownBlock ≠ some g
  pos : 0 < N

def RFoot (sl : Nat → Prop) (g : Nat) (C : Nat → Value) (b : Nat) : Prop := b = g ∨ ∃ k, sl k ∧ (C k).ownBlock = some b

section
variable {N : Nat} {sl : Nat → Prop} {ty : Nat → TypeId} {w w1 : World} {g : Nat} {C : Nat → Value} {X : Nat → List Value}

theorem Rec.lt (h : Rec N sl ty w g C X) : g < w.heap.size := World.block_lt_of_cell? w ⟨g, 0, none⟩ (h.cell 0 h.pos)
theorem Rec.foot_lt (h : Rec N sl ty w g C X) : ∀ b, RFoot sl g C b → b < w.heap.size := by
  rintro b (rfl | ⟨k, hk, e⟩)
  · exact h.lt
  · exact (h.own k hk).lt b e
theorem Rec.kept {S : Nat → Prop} (h : Rec N sl ty w g C X) (hk : Kept S w w1) (hS : ∀ b, RFoot sl g C b → ¬ S b) : Rec N sl ty w1 g C X where
  cell k hlt := hk.cellSome (h.cell k hlt) (hS g (.inl rfl))
  froz k := (World.frozen?_of_block (hk.block g h.lt (hS g (.inl rfl)))).trans (h.froz k)
  lim := h.lim
  own k hs := Sl.kept (h.own k hs) hk (fun b e => hS b (.inr ⟨k, hs, e⟩))
  apart := h.apart
  off := h.off
  pos := h.pos

theorem place_ne {g i k : Nat} (h : i ≠ k) : (⟨g, k, none⟩ : Addr) ≠ ⟨g, i, none⟩ := fun e => h (by cases e; rfl)
theorem sl_set {e : TypeId} {v : Value} {n : Nat} {xs : List Value} (h : Sl w e v n xs) (g k : Nat) (u : Value) (hn : v.ownBlock ≠ some g) : Sl (w.setCell ⟨g, k, none⟩ u) e v n xs :=
  Sl.kept h (S := fun b => b = g) ((Kept.refl (fun b => b = g) w).setCell (p := ⟨g, k, none⟩) (fun _ => rfl) u) (fun b e s => hn (by rw [e, s]))

/-- A cell that is no slice's is written. -/
theorem Rec.plain (h : Rec N sl ty w g C X) (k : Nat) (hk : k < N) (hs : ¬ sl k) (v : Value) : Rec N sl ty (w.setCell ⟨g, k, none⟩ v) g (up C k v) X where
  cell i hi := by
    by_cases e : i = k
    · subst e; rw [up_same]; exact World.cell?_setCell_same _ _ _ (h.cell i hi)
    · rw [up_other _ _ _ _ e, World.cell?_setCell_other _ _ _ _ (place_ne e)]; exact h.cell i hi
  froz i := by rw [World.frozen?_setCell]; exact h.froz i
  lim := h.lim
  own i hi := by
    have e : i ≠ k := fun e => hs (e ▸ hi)
    rw [up_other _ _ _ _ e]
    exact sl_set (h.own i hi) g k v (h.off i hi)
  apart i j b hi hj := by
    have e : i ≠ k := fun e => hs (e ▸ hi)
    have e' : j ≠ k := fun e => hs (e ▸ hj)
    rw [up_other _ _ _ _ e, up_other _ _ _ _ e']; exact h.apart i j b hi hj
  off i hi := by
    have e : i ≠ k := fun e => hs (e ▸ hi)
    rw [up_other _ _ _ _ e]; exact h.off i hi
  pos := h.pos
theorem foot_plain {i : Nat} (hs : ∀ k, sl k → k ≠ i) (v : Value) : ∀ b, RFoot sl g (up C i v) b → RFoot sl g C b := by
  rintro b (rfl | ⟨k, hk, e⟩)
  · exact .inl rfl
  · rw [up_other _ _ _ _ (hs k hk)] at e; exact .inr ⟨k, hk, e⟩

/-- One of the slices has got another value in the world w1 (by an append, or by a cut), and lies in its cell again. -/
theorem Rec.slice (h : Rec N sl ty w g C X) (k : Nat) (hs : sl k) (v : Value) (xs : List Value)
    (hsl : Sl w1 (ty k) v xs.length xs) (hk : Kept (fun b => (C k).ownBlock = some b) w w1) (hm : Moved w (C k) v) :
    Rec N sl ty (w1.setCell ⟨g, k, none⟩ v) g (up C k v) (up X k xs) := by
  have hcell : ∀ i, i < N → w1.cell? ⟨g, i, none⟩ = some (C i) := fun i hi => hk.cellSome (h.cell i hi) (h.off k hs)
  have hv : ∀ b, v.ownBlock = some b → b ≠ g ∧ ∀ i, sl i → i ≠ k → (C i).ownBlock ≠ some b := by
    intro b hb
    rcases hm with hm | ⟨b', hm, hge⟩
    · rw [hm] at hb
      refine ⟨fun e => h.off k hs (by rw [hb, e]), fun i hi hne e => hne (h.apart i k b hi hs e hb)⟩
    · rw [hm] at hb
      obtain rfl : b' = b := by cases hb; rfl
      have := h.lt
      refine ⟨by omega, fun i hi hne e => ?_⟩
      have := h.foot_lt b' (.inr ⟨i, hi, e⟩)
      omega
  exact {
    cell := fun i hi => by
      by_cases e : i = k
      · subst e; rw [up_same]; exact World.cell?_setCell_same _ _ _ (hcell i hi)
      · rw [up_other _ _ _ _ e, World.cell?_setCell_other _ _ _ _ (place_ne e)]; exact hcell i hi
    froz := fun i => by
      rw [World.frozen?_setCell]
      exact (World.frozen?_of_block (hk.block g h.lt (h.off k hs))).trans (h.froz i)
    lim := h.lim
    own := fun i hi => by
      by_cases e : i = k
      · subst e; rw [up_same, up_same]
        exact sl_set hsl g i v (fun e => (hv g e).1 rfl)
      · rw [up_other _ _ _ _ e, up_other _ _ _ _ e]
        have h1 := Sl.kept (h.own i hi) hk (fun b hb e' => e (h.apart i k b hi hs hb e'))
        exact sl_set h1 g k v (h.off i hi)
    apart := fun i j b hi hj => by
      by_cases e : i = k
      · by_cases e' : j = k
        · intro _ _; omega
        · subst e; rw [up_same, up_other _ _ _ _ e']
          intro h1 h2; exact ((hv b h1).2 j hj e' h2).elim
      · rw [up_other _ _ _ _ e]
        by_cases e' : j = k
        · subst e'; rw [up_same]
          intro h1 h2; exact ((hv b h2).2 i hi e h1).elim
        · rw [up_other _ _ _ _ e']; exact h.apart i j b hi hj
    off := fun i hi => by
      by_cases e : i = k
      · subst e; rw [up_same]; intro e; exact (hv g e).1 rfl
      · rw [up_other _ _ _ _ e]; exact h.off i hi
    pos := h.pos }
theorem foot_slice (k : Nat) (hs : sl k) (v : Value) (hm : Moved w (C k) v) : ∀ b, RFoot sl g (up C k v) b → RFoot sl g C b ∨ w.heap.size ≤ b := by
  rintro b (rfl | ⟨i, hi, e⟩)
  · exact .inl (.inl rfl)
  · by_cases he : i = k
    · subst he
      rw [up_same] at e
      rcases hm with hm | ⟨b', hm, hge⟩
      · rw [hm] at e; exact .inl (.inr ⟨i, hi, e⟩)
      · rw [hm] at e; cases e; exact .inr hge
    · rw [up_other _ _ _ _ he] at e; exact .inl (.inr ⟨i, hi, e⟩)

/-- Two of the slices have got other values in the world w1, and lie in their cells again. -/
theorem Rec.two (h : Rec N sl ty w g C X) (k l : Nat) (hk : sl k) (hl : sl l) (hkl : k ≠ l) (v u : Value) (xs ys : List Value) (hkp : Kept (fun b => (C k).ownBlock = some b ∨ (C l).ownBlock = some b) w w1)
    (hv : Sl w1 (ty k) v xs.length xs) (hu : Sl w1 (ty l) u ys.length ys) (mv : Moved w (C k) v) (mu : Moved w (C l) u) (hvu : ∀ b, v.ownBlock = some b → u.ownBlock ≠ some b) :
    Rec N sl ty ((w1.setCell ⟨g, k, none⟩ v).setCell ⟨g, l, none⟩ u) g (up (up C k v) l u) (up (up X k xs) l ys) := by
  have hcell : ∀ i, i < N → w1.cell? ⟨g, i, none⟩ = some (C i) := fun i hi => hkp.cellSome (h.cell i hi) (fun e => e.elim (h.off k hk) (h.off l hl))
  have far : ∀ (j : Nat) (x : Value), sl j → Moved w (C j) x → ∀ b, x.ownBlock = some b → b ≠ g ∧ ∀ i, sl i → i ≠ j → (C i).ownBlock ≠ some b := by
    intro j x hj hm b hb
    rcases hm with hm | ⟨b', hm, hge⟩
    · rw [hm] at hb
      exact ⟨fun e => h.off j hj (by rw [hb, e]), fun i hi hne e => hne (h.apart i j b hi hj e hb)⟩
    · rw [hm] at hb
      obtain rfl : b' = b := by cases hb; rfl
      have := h.lt
      exact ⟨by omega, fun i hi hne e => by have := h.foot_lt b' (.inr ⟨i, hi, e⟩); omega⟩
  have fv := far k v hk mv
  have fu := far l u hl mu
  have eC : ∀ i, up (up C k v) l u i = if i = l then u else if i = k then v else C i := fun i => rfl
  have eX : ∀ i, up (up X k xs) l ys i = if i = l then ys else if i = k then xs else X i := fun i => rfl
  exact {
    cell := fun i hi => by
      by_cases e : i = l
      · subst e
        have hc : (w1.setCell ⟨g, k, none⟩ v).cell? ⟨g, i, none⟩ = some (C i) := by
          rw [World.cell?_setCell_other _ _ _ _ (place_ne (Ne.symm hkl))]; exact hcell i hi
        rw [up_same]
        exact World.cell?_setCell_same _ _ _ hc
      · rw [up_other _ _ _ _ e, World.cell?_setCell_other _ _ _ _ (place_ne e)]
        by_cases e' : i = k
        · subst e'; rw [up_same]; exact World.cell?_setCell_same _ _ _ (hcell i hi)
        · rw [up_other _ _ _ _ e', World.cell?_setCell_other _ _ _ _ (place_ne e')]; exact hcell i hi
    froz := fun i => by
      rw [World.frozen?_setCell, World.frozen?_setCell]
      exact (World.frozen?_of_block (hkp.block g h.lt (fun e => e.elim (h.off k hk) (h.off l hl)))).trans (h.froz i)
    lim := h.lim
    own := fun i hi => by
      by_cases e : i = l
      · subst e; rw [up_same, up_same]
        exact sl_set (sl_set hu g k v (fun e => (fu g e).1 rfl)) g i u (fun e => (fu g e).1 rfl)
      · rw [up_other _ _ _ _ e, up_other _ _ _ _ e]
        by_cases e' : i = k
        · subst e'; rw [up_same, up_same]
          exact sl_set (sl_set hv g i v (fun e => (fv g e).1 rfl)) g l u (fun e => (fv g e).1 rfl)
        · rw [up_other _ _ _ _ e', up_other _ _ _ _ e']
          have h1 := Sl.kept (h.own i hi) hkp (fun b hb e'' => e''.elim (fun e'' => e' (h.apart i k b hi hk hb e'')) (fun e'' => e (h.apart i l b hi hl hb e'')))
          exact sl_set (sl_set h1 g k v (h.off i hi)) g l u (h.off i hi)
    apart := fun i j b hi hj h1 h2 => by
      rw [eC] at h1 h2
      by_cases il : i = l
      · rw [if_pos il] at h1
        by_cases jl : j = l
        · omega
        · rw [if_neg jl] at h2
          by_cases jk : j = k
          · rw [if_pos jk] at h2; exact (hvu b h2 h1).elim
          · rw [if_neg jk] at h2; exact ((fu b h1).2 j hj jl h2).elim
      · rw [if_neg il] at h1
        by_cases ik : i = k
        · rw [if_pos ik] at h1
          by_cases jl : j = l
          · rw [if_pos jl] at h2; exact (hvu b h1 h2).elim
          · rw [if_neg jl] at h2
            by_cases jk : j = k
            · omega
            · rw [if_neg jk] at h2; exact ((fv b h1).2 j hj jk h2).elim
        · rw [if_neg ik] at h1
          by_cases jl : j = l
          · rw [if_pos jl] at h2; exact ((fu b h2).2 i hi il h1).elim
          · rw [if_neg jl] at h2
            by_cases jk : j = k
            · rw [if_pos jk] at h2; exact ((fv b h2).2 i hi ik h1).elim
            · rw [if_neg jk] at h2; exact h.apart i j b hi hj h1 h2
    off := fun i hi h1 => by
      rw [eC] at h1
      by_cases il : i = l
      · rw [if_pos il] at h1; exact (fu g h1).1 rfl
      · rw [if_neg il] at h1
        by_cases ik : i = k
        · rw [if_pos ik] at h1; exact (fv g h1).1 rfl
        · rw [if_neg ik] at h1; exact h.off i hi h1
    pos := h.pos }
theorem foot_two (k l : Nat) (hk : sl k) (hl : sl l) (v u : Value) (mv : Moved w (C k) v) (mu : Moved w (C l) u) : ∀ b, RFoot sl g (up (up C k v) l u) b → RFoot sl g C b ∨ w.heap.size ≤ b := by
  rintro b (rfl | ⟨i, hi, e⟩)
  · exact .inl (.inl rfl)
  · by_cases he : i = l
    · subst he
      rw [up_same] at e
      rcases mu with hm | ⟨b', hm, hge⟩
      · rw [hm] at e; exact .inl (.inr ⟨i, hi, e⟩)
      · rw [hm] at e; cases e; exact .inr hge
    · rw [up_other _ _ _ _ he] at e
      exact foot_slice k hk v mv b (.inr ⟨i, hi, e⟩)

/-- A store into one of the slices. -/
theorem Rec.elem (h : Rec N sl ty w g C X) (k : Nat) (hs : sl k) {b n c : Nat} (hC : C k = .slice (some ⟨b, 0, none⟩) n c) (i : Nat) (u : Value) :
    Rec N sl ty (w.setCell ⟨b, i, none⟩ u) g C (up X k ((X k).set i u)) := by
  have hb : (C k).ownBlock = some b := by rw [hC]; rfl
  have hgb : b ≠ g := fun e => h.off k hs (by rw [hb, e])
  have hkp : Kept (fun d => d = b) w (w.setCell ⟨b, i, none⟩ u) := (Kept.refl (fun d => d = b) w).setCell (p := ⟨b, i, none⟩) (fun _ => rfl) u
  have hn : (X k).length = n := by
    have := h.own k hs
    rw [hC] at this
    have := sl_cap this
    omega
  exact {
    cell := fun j hj => hkp.cellSome (h.cell j hj) (fun e => hgb e.symm)
    froz := fun j => by rw [World.frozen?_setCell]; exact h.froz j
    lim := h.lim
    own := fun j hj => by
      by_cases e : j = k
      · subst e
        rw [up_same]
        have h1 := h.own j hj
        rw [hC, hn] at h1
        have hst := World.ownsRow.stored h1 i u
        rw [hC, List.length_set, hn]
        exact hst.1
      · rw [up_other _ _ _ _ e]
        exact Sl.kept (h.own j hj) hkp (fun d hd e' => e (h.apart j k d hj hs hd (by rw [hb, e'])))
    apart := h.apart
    off := h.off
    pos := h.pos }

/-- What one of the slices is. -/
theorem Rec.val (h : Rec N sl ty w g C X) (k : Nat) (hs : sl k) : ∃ a c, C k = .slice a (X k).length c ∧ (X k).length ≤ c ∧ c ≤ maxLen ∧ (a = none → (X k).length = 0 ∧ c = 0) ∧
    ∀ i, i < (X k).length → ∃ b, a = some ⟨b, 0, none⟩ ∧ w.cell? ⟨b, i, none⟩ = (X k)[i]? ∧ w.frozen? ⟨b, i, none⟩ = false := by
  have h1 := h.own k hs
  obtain ⟨a, c, e, hc⟩ := h1.shape
  rw [e] at h1
  have hcap := sl_cap h1
  refine ⟨a, c, e, hcap.1, hcap.2.1, fun hn => ?_, fun i hi => ?_⟩
  · subst hn
    rcases h1.2 with ⟨h2, h3⟩ | ⟨b, cap, cur, h2, _⟩
    · exact ⟨h3, by injection h2⟩
    · injection h2 with e _ _; cases e
  · obtain ⟨b, rfl, _, h2⟩ := hc i hi
    exact ⟨b, rfl, h2, World.ownsRow.frozenAt (size := 1) h1 i⟩

/-- The first m of a slice. -/
theorem sl_cut {e : TypeId} {a : Option Addr} {n c m : Nat} {xs : List Value} (h : Sl w e (.slice a n c) n xs) (hm : m ≤ n) : Sl w e (.slice a m c) m (xs.take m) := by
  refine ⟨by have := h.1; rw [List.length_take]; omega, ?_⟩
  rcases h.2 with ⟨h1, h2⟩ | ⟨b, cap, cur, h1, h2, h3, h4, h5, h6, h7⟩
  · left
    obtain rfl : m = 0 := by omega
    subst h2
    exact ⟨by injection h1 with e1 e2 e3; rw [e1, e3], rfl⟩
  · right
    injection h1 with e1 e2 e3
    subst e1 e3
    refine ⟨b, c, cur, rfl, h2, h3, by omega, h5, h6, ?_⟩
    rw [← h7, List.take_take]
    congr 1
    omega
end

/-- n numbers told by a function; n bools; a list of numbers. -/
def numsOf (n : Nat) (f : Nat → Nat) : List Value := (List.range n).map fun i => .int .i64 (f i : Int)
def boolsOf (n : Nat) (f : Nat → Bool) : List Value := (List.range n).map fun i => .bool (f i)
def natsOf (l : List Nat) : List Value := l.map fun (x : Nat) => .int .i64 (x : Int)
theorem numsOf_len (n : Nat) (f : Nat → Nat) : (numsOf n f).length = n := by simp [numsOf]
theorem boolsOf_len (n : Nat) (f : Nat → Bool) : (boolsOf n f).length = n := by simp [boolsOf]
theorem natsOf_len (l : List Nat) : (natsOf l).length = l.length := by simp [natsOf]
theorem numsOf_at (n : Nat) (f : Nat → Nat) (i : Nat) (h : i < n) : (numsOf n f)[i]? = some (.int .i64 (f i : Int)) := by simp [numsOf, h]
theorem boolsOf_at (n : Nat) (f : Nat → Bool) (i : Nat) (h : i < n) : (boolsOf n f)[i]? = some (.bool (f i)) := by simp [boolsOf, h]
theorem natsOf_at (l : List Nat) (i : Nat) (h : i < l.length) : (natsOf l)[i]? = some (.int .i64 ((l.getD i 0 : Nat) : Int)) := by simp [natsOf, h, List.getD]
theorem numsOf_set (n : Nat) (f : Nat → Nat) (i v : Nat) (_ : i < n) : (numsOf n f).set i (.int .i64 (v : Int)) = numsOf n (up f i v) := by
  refine List.ext_getElem (by simp [numsOf]) fun j h1 h2 => ?_
  rw [List.getElem_set]
  simp only [numsOf, List.getElem_map, List.getElem_range, up]
  by_cases e : i = j
  · subst e; simp
  · rw [if_neg e, if_neg (fun e' => e e'.symm)]
theorem boolsOf_set (n : Nat) (f : Nat → Bool) (i : Nat) (v : Bool) (_ : i < n) : (boolsOf n f).set i (.bool v) = boolsOf n (up f i v) := by
  refine List.ext_getElem (by simp [boolsOf]) fun j h1 h2 => ?_
  rw [List.getElem_set]
  simp only [boolsOf, List.getElem_map, List.getElem_range, up]
  by_cases e : i = j
  · subst e; simp
  · rw [if_neg e, if_neg (fun e' => e e'.symm)]
theorem natsOf_snoc (l : List Nat) (x : Nat) : natsOf (l ++ [x]) = natsOf l ++ [.int .i64 (x : Int)] := by simp [natsOf]
theorem natsOf_take (l : List Nat) (k : Nat) : natsOf (l.take k) = (natsOf l).take k := by simp [natsOf, List.map_take]
end Go.Own
