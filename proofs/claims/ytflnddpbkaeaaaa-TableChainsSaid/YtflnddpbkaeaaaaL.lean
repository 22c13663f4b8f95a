/- Slices of texts: what they hold, where; how a law's argument is one. -/
import Derived.Test.YtflnddpbkaeaaaaJ
import Derived.Test.YtflnddpbkaeaaaaView
namespace Go.Proofs.Ytflnddpbkaeaaaa
open Go.RowKit Go.Own

/-- A value that is a text, its bytes in a block of S. -/
def TextAt (S : Nat → Prop) (w : World) (v : Value) (zs : List Int) : Prop :=
  ∃ a c, v = .slice a zs.length c ∧ RowAt .u8 w a zs.length zs ∧ (a = none → zs.length = 0 ∧ c = 0) ∧ (∀ b off, a = some ⟨b, off, none⟩ → zs.length = 0 ∨ S b)
/-- A slice of texts, all of it in blocks of S. -/
def Rows (S : Nat → Prop) (w : World) (a : Option Addr) (n : Nat) (X : List (List Int)) : Prop :=
  X.length = n ∧ (n = 0 ∨ ∃ b off, a = some ⟨b, off, none⟩ ∧ S b ∧ ∀ i, i < n → ∃ v, w.cell? ⟨b, off + i, none⟩ = some v ∧ TextAt S w v (X.getD i []))

theorem RowAt.kept {k : IntKind} {S : Nat → Prop} {w w' : World} {a : Option Addr} {n : Nat} {zs : List Int} (h : RowAt k w a n zs) (hk : Kept S w w') (hn : ∀ b off, a = some ⟨b, off, none⟩ → n = 0 ∨ ¬ S b) : RowAt k w' a n zs := by
  refine ⟨h.1, ?_⟩
  rcases h.2 with h0 | ⟨b, off, rfl, hc⟩
  · exact .inl h0
  · rcases hn b off rfl with h0 | hs
    · exact .inl h0
    · exact .inr ⟨b, off, rfl, fun i hi => hk.cellSome (hc i hi) hs⟩
theorem TextAt.kept {S T : Nat → Prop} {w w' : World} {v : Value} {zs : List Int} (h : TextAt S w v zs) (hk : Kept T w w') (hn : ∀ b, S b → ¬ T b) : TextAt S w' v zs := by
  obtain ⟨a, c, rfl, hr, h1, h2⟩ := h
  exact ⟨a, c, rfl, RowAt.kept hr hk (fun b off e => (h2 b off e).imp id (hn b)), h1, h2⟩
theorem TextAt.mono {S T : Nat → Prop} {w : World} {v : Value} {zs : List Int} (h : TextAt S w v zs) (hn : ∀ b, S b → T b) : TextAt T w v zs := by
  obtain ⟨a, c, rfl, hr, h1, h2⟩ := h
  exact ⟨a, c, rfl, hr, h1, fun b off e => (h2 b off e).imp id (hn b)⟩
theorem Rows.kept {S T : Nat → Prop} {w w' : World} {a : Option Addr} {n : Nat} {X : List (List Int)} (h : Rows S w a n X) (hk : Kept T w w') (hn : ∀ b, S b → ¬ T b) : Rows S w' a n X := by
  refine ⟨h.1, h.2.imp id ?_⟩
  rintro ⟨b, off, rfl, hs, hc⟩
  refine ⟨b, off, rfl, hs, fun i hi => ?_⟩
  obtain ⟨v, h1, h2⟩ := hc i hi
  exact ⟨v, hk.cellSome h1 (hn b hs), h2.kept hk hn⟩
theorem Rows.mono {S T : Nat → Prop} {w : World} {a : Option Addr} {n : Nat} {X : List (List Int)} (h : Rows S w a n X) (hn : ∀ b, S b → T b) : Rows T w a n X := by
  refine ⟨h.1, h.2.imp id ?_⟩
  rintro ⟨b, off, rfl, hs, hc⟩
  refine ⟨b, off, rfl, hn b hs, fun i hi => ?_⟩
  obtain ⟨v, h1, h2⟩ := hc i hi
  exact ⟨v, h1, h2.mono hn⟩
/-- Whatever lies in a block lies below the heap's end. -/
theorem TextAt.inside {S : Nat → Prop} {w : World} {v : Value} {zs : List Int} (h : TextAt S w v zs) : TextAt (fun b => S b ∧ b < w.heap.size) w v zs := by
  obtain ⟨a, c, rfl, hr, h1, h2⟩ := h
  refine ⟨a, c, rfl, hr, h1, fun b off e => ?_⟩
  rcases Nat.eq_zero_or_pos zs.length with h0 | h0
  · exact .inl h0
  · rcases h2 b off e with h3 | h3
    · exact .inl h3
    · rcases hr.2 with h4 | ⟨b', off', e', hc⟩
      · exact .inl h4
      · rw [e] at e'
        cases e'
        exact .inr ⟨h3, World.block_lt_of_cell? w _ (hc 0 h0)⟩
theorem Rows.inside {S : Nat → Prop} {w : World} {a : Option Addr} {n : Nat} {X : List (List Int)} (h : Rows S w a n X) : Rows (fun b => S b ∧ b < w.heap.size) w a n X := by
  refine ⟨h.1, ?_⟩
  rcases h.2 with h0 | ⟨b, off, rfl, hs, hc⟩
  · exact .inl h0
  · rcases Nat.eq_zero_or_pos n with h0 | h0
    · exact .inl h0
    · obtain ⟨v, h1, _⟩ := hc 0 h0
      refine .inr ⟨b, off, rfl, ⟨hs, World.block_lt_of_cell? w _ h1⟩, fun i hi => ?_⟩
      obtain ⟨v, h1, h2⟩ := hc i hi
      exact ⟨v, h1, h2.inside⟩
theorem Rows.below {S : Nat → Prop} {w w' : World} {a : Option Addr} {n : Nat} {X : List (List Int)} (h : Rows S w a n X) (hb : Below w.heap.size w w') : Rows S w' a n X :=
  (h.inside.kept (Kept.ofBelow hb) (fun b hs hle => by have := hs.2; omega)).mono (fun _ h => h.1)
theorem Rows.nil (S : Nat → Prop) (w : World) (a : Option Addr) : Rows S w a 0 [] := ⟨rfl, .inl rfl⟩
/-- One of them. -/
theorem Rows.at {S : Nat → Prop} {w : World} {a : Option Addr} {n : Nat} {X : List (List Int)} (h : Rows S w a n X) (i : Nat) (hi : i < n) :
    ∃ b off ai ci, a = some ⟨b, off, none⟩ ∧ w.cell? ⟨b, off + i, none⟩ = some (.slice ai (X.getD i []).length ci) ∧ RowAt .u8 w ai (X.getD i []).length (X.getD i []) ∧ (ai = none → (X.getD i []).length = 0 ∧ ci = 0) := by
  rcases h.2 with h0 | ⟨b, off, rfl, hs, hc⟩
  · omega
  · obtain ⟨v, h1, ai, ci, rfl, h2, h3, _⟩ := hc i hi
    exact ⟨b, off, ai, ci, rfl, h1, h2, h3⟩

section
open Go.ChangeShapes Go.WideShapes Go.ChangeAt Go.Deep
variable {H : Type} {enc : TypeId × Value → H} {P : Program} {W : World}
/-- A slice of slices of bytes that came in. -/
theorem view_rows {t e i : TypeId} {a : Option Addr} {len cap : Nat} {d : DataW H} {p : List MemPlace} {bytes : Nat}
    (ht : P.underlying t = some (.slice e)) (he : P.underlying e = some (.slice i)) (hi : P.underlying i = some (.int .u8)) (hc : P.cellsOf e = 1) (hci : P.cellsOf i = 1) (hb : P.bytesOf e = bytes)
    (h : DataW.Trod enc P W 0 (fun _ => true) true t (.slice a len cap) d p) (hw : ∀ n ∈ d.weights P t, n ≤ reachBytes) :
    ∃ X, Rows (fun b => b < W.heap.size) W a len X ∧ (∀ t ∈ X, IsBytes t) ∧ len ≤ cap ∧ cap ≤ maxLen ∧ cap * bytes ≤ 140737488351232 ∧ (a = none → len = 0 ∧ cap = 0) := by
  obtain ⟨fuel, hf⟩ := h
  rcases open_slice1 ht hc hf with ⟨hcs, hx⟩ | ⟨x, l, c, m, n, V, D, Pl, hcs, _, hl, hm, hmm, hx, hel⟩
  · simp [Value.cells] at hcs
    obtain ⟨rfl, rfl, rfl⟩ := hcs
    exact ⟨[], ⟨rfl, .inl rfl⟩, by simp, Nat.le_refl _, by simp [maxLen], by simp, fun _ => ⟨rfl, rfl⟩⟩
  · simp [Value.cells] at hcs
    obtain ⟨rfl, rfl, rfl⟩ := hcs
    simp only [if_true] at hmm
    subst hmm
    simp only [Prod.mk.injEq] at hx
    obtain ⟨rfl, _⟩ := hx
    have hsz := hw ((len + (m - len)) * bytes) (by simp [DataW.weights, ht, hb])
    rw [show len + (m - len) = m by omega] at hsz
    have hT : ∀ j, j < m → ∃ zs : List Int, TextAt (fun b => b < W.heap.size) W (V j) zs ∧ IsBytes zs := fun j hj => by
      rcases open_ints he hi hci (hel j hj).2 with ⟨hcs, _⟩ | ⟨y, l', c', zs, hcs, _, hl', _, hz, _, hcell, hwz⟩
      · simp at hcs
        exact ⟨[], ⟨none, 0, hcs, ⟨rfl, .inl rfl⟩, fun _ => ⟨rfl, rfl⟩, fun _ _ h => by cases h⟩, by intro z hz; cases hz⟩
      · simp at hcs
        simp only [if_true] at hz
        have hlen : (zs.take l').length = l' := by simp [hz]; omega
        have hcl : ∀ i, i < l' → W.cell? (y.add i) = some (.int .u8 ((zs.take l').getD i 0)) := fun i hi => by
          rw [hcell i (by omega)]; simp [List.getD, hi]
        refine ⟨zs.take l', ⟨some y, c', by rw [hlen]; exact hcs, ⟨rfl, ?_⟩, (fun h => nomatch h), ?_⟩, fun z hz' => by have := bounds_u8 (hwz z (List.mem_of_mem_take hz')); omega⟩
        · rw [hlen]
          rcases Nat.eq_zero_or_pos l' with h0 | h0
          · exact .inl h0
          · obtain ⟨b, off, spot⟩ := y
            have hs : spot = none := by simpa [Addr.add] using World.cell?_spot (hcl 0 h0)
            subst hs
            exact .inr ⟨b, off, rfl, fun i hi => by have := hcl i hi; rwa [Addr.add_lit] at this⟩
        · rintro b off e
          rw [hlen]
          rcases Nat.eq_zero_or_pos l' with h0 | h0
          · exact .inl h0
          · cases e
            have := hcl 0 h0
            rw [Addr.add_lit] at this
            exact .inr (World.block_lt_of_cell? W _ this)
    obtain ⟨B, hB⟩ := choose_lt hT
    refine ⟨(List.range len).map B, ⟨by simp, ?_⟩, ?_, hl, hm, hsz, fun h => by cases h⟩
    · rcases Nat.eq_zero_or_pos len with h0 | h0
      · exact .inl h0
      · obtain ⟨b, off, spot⟩ := x
        have hs : spot = none := by simpa [Addr.add] using World.cell?_spot (hel 0 (by omega)).1
        subst hs
        have hc0 := (hel 0 (by omega)).1
        rw [Addr.add_lit] at hc0
        refine .inr ⟨b, off, rfl, World.block_lt_of_cell? W _ hc0, fun i hi => ⟨V i, ?_, ?_⟩⟩
        · have := (hel i (by omega)).1
          rwa [Addr.add_lit] at this
        · have e : ((List.range len).map B).getD i [] = B i := by simp [List.getD, hi]
          rw [e]; exact (hB i (by omega)).1
    · intro t ht
      obtain ⟨i, hi, rfl⟩ := List.mem_map.1 ht
      exact (hB i (by have := List.mem_range.1 hi; omega)).2
end
end Go.Proofs.Ytflnddpbkaeaaaa
