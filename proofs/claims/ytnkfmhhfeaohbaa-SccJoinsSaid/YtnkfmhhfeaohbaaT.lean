/- How a law's graph is opened; the walk of SccOf as the row wants it. -/
import Derived.Test.YtnkfmhhfeaohbaaA
import Derived.Test.YtnkfmhhfeaohbaaStruct
namespace Go.Proofs.Ytnkfmhhfeaohbaa
open Go.RowKit Go.Own

theorem array3 {α : Type} (a : Array α) (h : a.size = 3) : ∃ x0 x1 x2, a = #[x0, x1, x2] := by
  obtain ⟨l⟩ := a
  match l, h with
  | [x0, x1, x2], _ => exact ⟨x0, x1, x2, rfl⟩

section
variable {H : Type} {enc : TypeId × Value → H} {P : Program} {W : World}
open Go.ChangeShapes Go.WideShapes Go.ChangeAt Go.Deep

theorem weights_mem_all {e : TypeId} : ∀ {ds : List (DataW H)} {d : DataW H}, d ∈ ds → ∀ n ∈ d.weights P e, n ∈ DataW.weightsAll P e ds
  | _ :: r, d, hd, n, hn => by
    rcases List.mem_cons.1 hd with rfl | hd
    · exact List.mem_append_left _ hn
    · exact List.mem_append_right _ (weights_mem_all hd n hn)

/-- A slice of slices of edges. -/
theorem view_edges {a : Option Addr} {len cap : Nat} {d : DataW H} {p : List MemPlace}
    (h : DataW.Trod enc Try.prog W 0 (fun _ => true) true 23 (.slice a len cap) d p) (hw : ∀ n ∈ d.weights Try.prog 23, n ≤ reachBytes) :
    ∃ E : List (List Int), E.length = len ∧ EdgesAt W a E ∧ len ≤ maxLen ∧ ∀ i, i < E.length → (E.getD i []).length ≤ 140737488355328 := by
  obtain ⟨fuel, hf⟩ := h
  rcases open_slice1 Try.underlying23 (by kernel_rfl) hf with ⟨hcs, hx⟩ | ⟨x, l, c, m, n, V, D, Pl, hcs, _, hl, hm, hmm, hx, hel⟩
  · simp [Value.cells] at hcs
    obtain ⟨rfl, rfl, rfl⟩ := hcs
    exact ⟨[], rfl, .inl rfl, by simp [maxLen], fun i hi => by simp at hi⟩
  · simp [Value.cells] at hcs
    obtain ⟨rfl, rfl, rfl⟩ := hcs
    simp only [if_true] at hmm
    subst hmm
    simp only [Prod.mk.injEq] at hx
    obtain ⟨rfl, _⟩ := hx
    have hwD : ∀ j, j < len → ∀ k ∈ (D j).weights Try.prog 38, k ≤ reachBytes := fun j hj k hk => hw k (by
      simp only [DataW.weights, Try.underlying23]
      exact List.mem_cons_of_mem _ (List.mem_append_left _ (weights_mem_all (List.mem_map.2 ⟨j, List.mem_range.2 hj, rfl⟩) k hk)))
    have hT : ∀ j, j < len → ∃ row : List Int, EdgeRow W (V j) row ∧ row.length ≤ 140737488355328 := fun j hj => by
      obtain ⟨_, hrow⟩ := hel j (by omega)
      have hrow' : DataW.Trod enc Try.prog W 0 (fun _ => true) true 38 (V j) (D j) (Pl j) := by
        refine ⟨n, ?_⟩
        rcases open_slice Try.underlying38 hrow with ⟨hcs, _⟩ | ⟨y, l', c', m', n', D', P', hcs, _⟩
        all_goals
          simp only [List.cons.injEq, and_true] at hcs
          rw [hcs] at hrow ⊢
          exact hrow
      rcases open_slice Try.underlying38 hrow with ⟨hcs, _⟩ | ⟨y, l', c', m', n', D', P', hcs, _⟩
      · simp only [List.cons.injEq, and_true] at hcs
        exact ⟨[], ⟨none, 0, hcs, .inl rfl⟩, by simp⟩
      · simp only [List.cons.injEq, and_true] at hcs
        rw [hcs] at hrow'
        obtain ⟨hl', hm', hs', _, hc⟩ := view_structs (bytes := 16) (k := 2) Try.underlying38 Try.underlying40 (by kernel_rfl) rfl (by decide) (by kernel_rfl) (by kernel_rfl) hrow' (hwD j hj)
        rcases hc with rfl | ⟨b, off, he, hc⟩
        · exact ⟨[], ⟨_, _, hcs, .inl rfl⟩, by simp⟩
        · have hz : ∀ i, i < l' → ∃ z : Int, W.cell? ⟨b, off + i * 2, none⟩ = some (.int .i64 z) ∧ ∃ act, W.cell? ⟨b, off + i * 2 + 1, none⟩ = some (.int .i64 act) := fun i hi => by
            obtain ⟨n, hn⟩ := hc i hi
            obtain ⟨c, y, h1, h2⟩ := hn 0 _ rfl
            obtain ⟨z, e, _⟩ := DataW.trod_int Try.underlying3 h2
            simp only [List.cons.injEq, and_true] at e
            subst e
            obtain ⟨c, y, h3, h4⟩ := hn 1 _ rfl
            obtain ⟨z', e, _⟩ := DataW.trod_int Try.underlying3 h4
            simp only [List.cons.injEq, and_true] at e
            subst e
            exact ⟨z, h1, z', h3⟩
          obtain ⟨Z, hZ⟩ := choose_lt hz
          have hlen : ((List.range l').map Z).length = l' := by simp
          refine ⟨(List.range l').map Z, ⟨some y, c', by rw [hlen]; exact hcs, .inr ⟨b, off, he, fun i hi => ?_⟩⟩, by rw [hlen]; omega⟩
          rw [hlen] at hi
          have e : ((List.range l').map Z).getD i 0 = Z i := by simp [List.getD, hi]
          rw [e]
          exact hZ i hi
    obtain ⟨B, hB⟩ := choose_lt hT
    have hlen : ((List.range len).map B).length = len := by simp
    have hget : ∀ i, i < len → ((List.range len).map B).getD i [] = B i := fun i hi => by simp [List.getD, hi]
    refine ⟨(List.range len).map B, hlen, ?_, by omega, fun i hi => by rw [hlen] at hi; rw [hget i hi]; exact (hB i hi).2⟩
    rcases Nat.eq_zero_or_pos len with h0 | h0
    · exact .inl (hlen.trans h0)
    · obtain ⟨b, off, spot⟩ := x
      have hs : spot = none := by simpa [Addr.add] using World.cell?_spot (hel 0 (by omega)).1
      subst hs
      refine .inr ⟨b, off, rfl, fun i hi => ?_⟩
      rw [hlen] at hi
      rw [hget i hi]
      have := (hel i (by omega)).1
      rw [Addr.add_lit] at this
      exact ⟨V i, this, (hB i hi).1⟩

theorem view_graph {base : Nat} {v : Value} {d : DataW H} {p : List MemPlace} (hv : Value.okWide Try.prog W .any base 26 v) (h : DataW.Trod enc Try.prog W 0 (fun _ => true) true 26 v d p) (hw : ∀ n ∈ d.weights Try.prog 26, n ≤ reachBytes) :
    ∃ (vi : Value) (ae : Option Addr) (n ce : Nat) (vl : Value) (E : List (List Int)), v = .agg #[vi, .slice ae n ce, vl] ∧ E.length = n ∧ EdgesAt W ae E ∧ n ≤ 9223372036854775807 ∧ ∀ i, i < E.length → (E.getD i []).length ≤ 140737488355328 := by
  obtain ⟨cs, rfl, hsz⟩ := okWide_struct Try.underlying26 hv
  obtain ⟨x0, x1, x2, rfl⟩ := array3 cs (hsz.trans (by kernel_rfl))
  obtain ⟨fuel, hf⟩ := h
  obtain ⟨ys, n, _, hy, _, hyl, hfs⟩ := DataW.trod_struct Try.underlying26 hf
  simp only [Prod.mk.injEq] at hy
  obtain ⟨rfl, _⟩ := hy
  have h1 := hfs 1 _ rfl
  have hc1 : Try.prog.cellsOf 23 = 1 := by kernel_rfl
  have hl1 : 1 < ys.length := by rw [hyl]; decide
  have h1 : DataW.trod enc Try.prog W 0 (fun _ => true) true n 23 [x1] = some ys[1] := (h1.trans (List.getElem?_eq_getElem hl1))
  have hsl : ∃ ae len ce, x1 = .slice ae len ce := by
    rcases open_slice Try.underlying23 h1 with ⟨hcs, _⟩ | ⟨y, l', c', m', n', D', P', hcs, _⟩
    all_goals
      simp only [List.cons.injEq, and_true] at hcs
      exact ⟨_, _, _, hcs⟩
  obtain ⟨ae, len, ce, rfl⟩ := hsl
  have hT : DataW.Trod enc Try.prog W 0 (fun _ => true) true 23 (.slice ae len ce) (ys[1]).1 (ys[1]).2 := ⟨n, h1⟩
  obtain ⟨E, hE, he, hm, hr⟩ := view_edges hT (fun k hk => hw k (by
    simp only [DataW.weights, Try.underlying26]
    exact DataW.weights_mem_each (j := 1) (t := 23) (d := (ys[1]).1) rfl (by simp [hl1]) k hk))
  unfold maxLen at hm
  exact ⟨x0, ae, len, ce, x2, E, rfl, hE, he, by omega, hr⟩
end
end Go.Proofs.Ytnkfmhhfeaohbaa
