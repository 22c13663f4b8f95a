/- Structs of one-cell fields among a law's arguments: by value, and as the elements of a slice. -/
import Derived.Test.YtnkfmhhfeaohbaaView
import Derived.Deep.Fields
import Derived.Deep.SlicePairs
namespace Go.Own
open Go.RowKit Go.ChangeShapes Go.WideShapes Go.ChangeAt Go.Deep
section
variable {H : Type} {enc : TypeId × Value → H} {P : Program} {w : World} {base : Nat} {spare : Nat → Bool} {held : Bool}

/-- The cells of a struct's reading, each with its own. -/
theorem fields_of {t : TypeId} {fs : Array Field} {fuel : Nat} {cs : List Value} {x : DataW H × List MemPlace} (ht : P.underlying t = some (.struct fs)) (hone : oneCellFields P fs = true) (h : DataW.trod enc P w base spare held fuel t cs = some x) :
    ∃ n, ∀ (j : Nat) (f : Field) (c : Value), fs[j]? = some f → cs[j]? = some c → ∃ y, DataW.trod enc P w base spare held n f.type [c] = some y := by
  obtain ⟨ys, n, _, _, _, hyl, hf⟩ := DataW.trod_struct ht h
  refine ⟨n, fun j f c hj hc => ?_⟩
  obtain ⟨ho, hk⟩ := hone_of hone j f hj
  have h1 := hf j f hj
  obtain ⟨hjl, rfl⟩ := List.getElem?_eq_some_iff.1 hc
  have hjf : j < fs.size := (Array.getElem?_eq_some_iff.1 hj).1
  rw [ho, hk, List.drop_eq_getElem_cons hjl, List.take_succ_cons, List.take_zero] at h1
  exact ⟨ys[j]'(by omega), by rw [h1]; exact List.getElem?_eq_getElem (by omega)⟩

/-- A struct by value. -/
theorem view_struct {r : Reach} {b0 : Nat} {t : TypeId} {fs : Array Field} {v : Value} {d : DataW H} {p : List MemPlace} (ht : P.underlying t = some (.struct fs)) (hone : oneCellFields P fs = true)
    (hv : Value.okWide P w r b0 t v) (h : DataW.Trod enc P w base spare held t v d p) :
    ∃ cs : Array Value, v = .agg cs ∧ cs.size = P.cellsOf t ∧ ∃ n, ∀ (j : Nat) (f : Field) (c : Value), fs[j]? = some f → cs[j]? = some c → ∃ y, DataW.trod enc P w base spare held n f.type [c] = some y := by
  obtain ⟨cs, rfl, hsz⟩ := okWide_struct ht hv
  obtain ⟨fuel, hf⟩ := h
  obtain ⟨n, hn⟩ := fields_of ht hone hf
  exact ⟨cs, rfl, hsz, n, fun j f c hj hc => hn j f c hj (by simpa [Value.cells] using hc)⟩

theorem array6 {α : Type} (a : Array α) (h : a.size = 6) : ∃ x0 x1 x2 x3 x4 x5, a = #[x0, x1, x2, x3, x4, x5] := by
  obtain ⟨l⟩ := a
  match l, h with
  | [x0, x1, x2, x3, x4, x5], _ => exact ⟨x0, x1, x2, x3, x4, x5, rfl⟩

/-- A slice of structs of one-cell fields: each cell, with its own reading. -/
theorem view_structs {t e : TypeId} {fs : Array Field} {a : Option Addr} {len cap : Nat} {d : DataW H} {p : List MemPlace} {bytes k : Nat}
    (ht : P.underlying t = some (.slice e)) (he : P.underlying e = some (.struct fs)) (hone : oneCellFields P fs = true) (hk : fs.size = k) (hk0 : 0 < k) (hC : P.cellsOf e = k) (hb : P.bytesOf e = bytes)
    (h : DataW.Trod enc P w 0 (fun _ => true) true t (.slice a len cap) d p) (hw : ∀ n ∈ d.weights P t, n ≤ reachBytes) :
    len ≤ cap ∧ cap ≤ maxLen ∧ cap * bytes ≤ 140737488351232 ∧ (a = none → len = 0 ∧ cap = 0) ∧ (len = 0 ∨ ∃ b off, a = some ⟨b, off, none⟩ ∧ ∀ i, i < len → ∃ n, ∀ (j : Nat) (f : Field), fs[j]? = some f →
      ∃ c y, w.cell? ⟨b, off + i * k + j, none⟩ = some c ∧ DataW.trod enc P w 0 (fun _ => true) true n f.type [c] = some y) := by
  obtain ⟨fuel, hf⟩ := h
  rcases open_slice ht hf with ⟨hcs, hx⟩ | ⟨x, l, c, m, n, D, Pl, hcs, _, hl, hm, hmm, hx, hel⟩
  · simp [Value.cells] at hcs
    obtain ⟨rfl, rfl, rfl⟩ := hcs
    exact ⟨Nat.le_refl _, by simp [maxLen], by simp, fun _ => ⟨rfl, rfl⟩, .inl rfl⟩
  · simp [Value.cells] at hcs
    obtain ⟨rfl, rfl, rfl⟩ := hcs
    simp only [if_true] at hmm
    subst hmm
    simp only [Prod.mk.injEq] at hx
    obtain ⟨rfl, _⟩ := hx
    have hsz := hw ((len + (m - len)) * bytes) (by simp [DataW.weights, ht, hb])
    rw [show len + (m - len) = m by omega] at hsz
    refine ⟨hl, hm, hsz, (fun h => by cases h), ?_⟩
    rcases Nat.eq_zero_or_pos len with h0 | h0
    · exact .inl h0
    · right
      rw [hC] at hel
      have hcell : ∀ i, i < len → ∃ n, ∀ (j : Nat) (f : Field), fs[j]? = some f → ∃ c y, w.cell? (x.add (i * k + j)) = some c ∧ DataW.trod enc P w 0 (fun _ => true) true n f.type [c] = some y := by
        intro i hi
        obtain ⟨cs', h1, h2⟩ := hel i (by omega)
        obtain ⟨_, hcl, hat⟩ := World.cells?_some h1
        obtain ⟨n', hn'⟩ := fields_of he hone h2
        refine ⟨n', fun j f hj => ?_⟩
        have hjk : j < k := by have := (Array.getElem?_eq_some_iff.1 hj).1; omega
        have hc : cs'[j]? = some (cs'[j]'(by omega)) := List.getElem?_eq_getElem (by omega)
        obtain ⟨y, hy⟩ := hn' j f _ hj hc
        exact ⟨_, y, by rw [← Go.Deep.add_add, hat j hjk, hc], hy⟩
      obtain ⟨b, off, spot⟩ := x
      have hs : spot = none := by
        obtain ⟨n, hn⟩ := hcell 0 h0
        obtain ⟨c, y, hc, _⟩ := hn 0 (fs[0]'(by omega)) (by simp)
        simpa [Addr.add] using World.cell?_spot hc
      subst hs
      refine ⟨b, off, rfl, fun i hi => ?_⟩
      obtain ⟨n, hn⟩ := hcell i hi
      refine ⟨n, fun j f hj => ?_⟩
      obtain ⟨c, y, hc, hy⟩ := hn j f hj
      rw [Addr.add_lit, ← Nat.add_assoc] at hc
      exact ⟨c, y, hc, hy⟩
end
end Go.Own
