/- Graphs, plainly: ways, parts, a part's least node; all ways by the scheme of Warshall. No program in sight. -/
namespace Go.Own

/-- An edge between two nodes. -/
def adj (E : List (List Int)) (x y : Nat) : Prop := x < E.length ∧ y < E.length ∧ (y : Int) ∈ E.getD x []
def stepN (E : List (List Int)) : Nat → Nat → Nat → Prop
  | 0, x, y => x = y
  | k + 1, x, y => ∃ z, adj E x z ∧ stepN E k z y
/-- A way of any many edges. -/
def Reach (E : List (List Int)) (x y : Nat) : Prop := ∃ k, stepN E k x y

theorem Reach.refl (E : List (List Int)) (x : Nat) : Reach E x x := ⟨0, rfl⟩
theorem Reach.head {E : List (List Int)} {x y z : Nat} (h : adj E x y) (k : Reach E y z) : Reach E x z := by
  obtain ⟨m, k⟩ := k; exact ⟨m + 1, y, h, k⟩
theorem Reach.edge {E : List (List Int)} {x y : Nat} (h : adj E x y) : Reach E x y := Reach.head h (Reach.refl E y)
theorem stepN_trans {E : List (List Int)} {y z : Nat} (k : Reach E y z) : ∀ (m x : Nat), stepN E m x y → Reach E x z
  | 0, x, h => by cases h; exact k
  | m + 1, x, ⟨u, h1, h2⟩ => Reach.head h1 (stepN_trans k m u h2)
theorem Reach.trans {E : List (List Int)} {x y z : Nat} (h : Reach E x y) (k : Reach E y z) : Reach E x z := by
  obtain ⟨m, h⟩ := h; exact stepN_trans k m x h
/-- What is closed under edges is closed under ways. -/
theorem stepN_closed {E : List (List Int)} {S : Nat → Prop} (hS : ∀ x y, S x → adj E x y → S y) : ∀ (m x y : Nat), stepN E m x y → S x → S y
  | 0, x, y, h, hx => by cases h; exact hx
  | m + 1, x, y, ⟨z, h1, h2⟩, hx => stepN_closed hS m z y h2 (hS x z hx h1)
theorem Reach.closed {E : List (List Int)} {S : Nat → Prop} (hS : ∀ x y, S x → adj E x y → S y) {x y : Nat} (h : Reach E x y) (hx : S x) : S y := by
  obtain ⟨m, h⟩ := h; exact stepN_closed hS m x y h hx
theorem Reach.lt {E : List (List Int)} {x y : Nat} (h : Reach E x y) (hx : x < E.length) : y < E.length :=
  h.closed (S := fun v => v < E.length) (fun _ _ _ h => h.2.1) hx

def Scc (E : List (List Int)) (x y : Nat) : Prop := Reach E x y ∧ Reach E y x
/-- The least node of a node's part. -/
def IsMin (E : List (List Int)) (v m : Nat) : Prop := Scc E v m ∧ ∀ u, Scc E v u → m ≤ u
theorem Scc.refl (E : List (List Int)) (x : Nat) : Scc E x x := ⟨Reach.refl E x, Reach.refl E x⟩
theorem Scc.symm {E : List (List Int)} {x y : Nat} (h : Scc E x y) : Scc E y x := ⟨h.2, h.1⟩
theorem Scc.trans {E : List (List Int)} {x y z : Nat} (h : Scc E x y) (k : Scc E y z) : Scc E x z := ⟨h.1.trans k.1, k.2.trans h.2⟩
theorem IsMin.unique {E : List (List Int)} {v a b : Nat} (h : IsMin E v a) (k : IsMin E v b) : a = b := Nat.le_antisymm (h.2 b k.1) (k.2 a h.1)

/-- A way of one edge or more. -/
def Way (E : List (List Int)) (x y : Nat) : Prop := ∃ z, adj E x z ∧ Reach E z y
theorem Way.reach {E : List (List Int)} {x y : Nat} (h : Way E x y) : Reach E x y := by obtain ⟨z, h1, h2⟩ := h; exact Reach.head h1 h2
theorem Way.edge {E : List (List Int)} {x y : Nat} (h : adj E x y) : Way E x y := ⟨y, h, Reach.refl E y⟩
theorem Way.trans {E : List (List Int)} {x y z : Nat} (h : Way E x y) (k : Way E y z) : Way E x z := by
  obtain ⟨u, h1, h2⟩ := h; exact ⟨u, h1, h2.trans k.reach⟩
theorem Reach.way {E : List (List Int)} {x y : Nat} (h : Reach E x y) : x = y ∨ Way E x y := by
  obtain ⟨m, h⟩ := h
  cases m with
  | zero => exact .inl h
  | succ m => obtain ⟨z, h1, h2⟩ := h; exact .inr ⟨z, h1, m, h2⟩
theorem Way.lt {E : List (List Int)} {x y : Nat} (h : Way E x y) : x < E.length ∧ y < E.length := by
  obtain ⟨z, h1, h2⟩ := h; exact ⟨h1.1, h2.lt h1.2.1⟩

/-- Is there an edge. -/
def adjB (E : List (List Int)) (x y : Nat) : Bool := decide (x < E.length) && decide (y < E.length) && (E.getD x []).contains (y : Int)
theorem adjB_iff {E : List (List Int)} {x y : Nat} : adjB E x y = true ↔ adj E x y := by
  unfold adjB adj
  simp [and_assoc]

/-- Ways whose inner nodes are below k. -/
def warB (E : List (List Int)) : Nat → Nat → Nat → Bool
  | 0, i, j => adjB E i j
  | k + 1, i, j => warB E k i j || (warB E k i k && warB E k k j)

theorem warB_way {E : List (List Int)} : ∀ (k i j : Nat), warB E k i j = true → Way E i j
  | 0, i, j, h => Way.edge (adjB_iff.1 h)
  | k + 1, i, j, h => by
    unfold warB at h
    rw [Bool.or_eq_true, Bool.and_eq_true] at h
    rcases h with h | ⟨h1, h2⟩
    · exact warB_way k i j h
    · exact (warB_way k i k h1).trans (warB_way k k j h2)
theorem warB_trans {E : List (List Int)} : ∀ (k m i j : Nat), m < k → warB E k i m = true → warB E k m j = true → warB E k i j = true
  | 0, m, i, j, hm, _, _ => by omega
  | k + 1, m, i, j, hm, h1, h2 => by
    unfold warB at h1 h2 ⊢
    rw [Bool.or_eq_true, Bool.and_eq_true] at *
    by_cases hk : m = k
    · subst hk
      exact .inr ⟨h1.elim id (fun h => h.1), h2.elim id (fun h => h.2)⟩
    · have hlt : m < k := by omega
      have ih := warB_trans (E := E) k m
      rcases h1 with h1 | ⟨h1, h1'⟩
      · rcases h2 with h2 | ⟨h2, h2'⟩
        · exact .inl (ih i j hlt h1 h2)
        · exact .inr ⟨ih i k hlt h1 h2, h2'⟩
      · rcases h2 with h2 | ⟨h2, h2'⟩
        · exact .inr ⟨h1, ih k j hlt h1' h2⟩
        · exact .inr ⟨h1, h2'⟩
theorem warB_mono {E : List (List Int)} {i j : Nat} (h : adjB E i j = true) : ∀ k, warB E k i j = true
  | 0 => h
  | k + 1 => by unfold warB; rw [warB_mono h k]; rfl
theorem stepN_war {E : List (List Int)} : ∀ (m x z y : Nat), adj E x z → stepN E m z y → warB E E.length x y = true
  | 0, x, z, y, h, k => by cases k; exact warB_mono (adjB_iff.2 h) _
  | m + 1, x, z, y, h, ⟨u, k1, k2⟩ => warB_trans E.length z x y h.2.1 (warB_mono (adjB_iff.2 h) _) (stepN_war m z u y k1 k2)
theorem warB_iff {E : List (List Int)} {x y : Nat} : warB E E.length x y = true ↔ Way E x y :=
  ⟨warB_way _ x y, fun ⟨z, h, m, k⟩ => stepN_war m x z y h k⟩
/-- A stage turns neither its row nor its column. -/
theorem warB_row (E : List (List Int)) (k j : Nat) : warB E (k + 1) k j = warB E k k j := by
  conv => lhs; unfold warB
  cases warB E k k j <;> simp
theorem warB_col (E : List (List Int)) (k i : Nat) : warB E (k + 1) i k = warB E k i k := by
  conv => lhs; unfold warB
  cases warB E k i k <;> simp

/-- The least of those below k that are together with i, or i. -/
def leastB (E : List (List Int)) (i : Nat) : Nat → Nat → Nat
  | 0, best => best
  | k + 1, best => leastB E i k (if warB E E.length i k && warB E E.length k i then k else best)
theorem leastB_min {E : List (List Int)} {i : Nat} : ∀ (k best : Nat), k ≤ i → Scc E i best → k ≤ best → (∀ u, Scc E i u → u < k ∨ best ≤ u) → IsMin E i (leastB E i k best)
  | 0, best, _, h1, _, h3 => ⟨h1, fun u hu => (h3 u hu).elim (fun h => by omega) id⟩
  | k + 1, best, h0, h1, h2, h3 => by
    unfold leastB
    by_cases hk : (warB E E.length i k && warB E E.length k i) = true
    · rw [if_pos hk]
      rw [Bool.and_eq_true, warB_iff, warB_iff] at hk
      exact leastB_min k k (by omega) ⟨hk.1.reach, hk.2.reach⟩ (Nat.le_refl _) (fun u hu => by omega)
    · rw [if_neg hk]
      refine leastB_min k best (by omega) h1 (by omega) (fun u hu => ?_)
      rcases h3 u hu with h | h
      · by_cases e : u = k
        · subst e
          exfalso; apply hk
          rw [Bool.and_eq_true, warB_iff, warB_iff]
          have hne : i ≠ u := by omega
          exact ⟨hu.1.way.resolve_left hne, hu.2.way.resolve_left (Ne.symm hne)⟩
        · exact .inl (by omega)
      · exact .inr h
theorem leastB_isMin (E : List (List Int)) (i : Nat) : IsMin E i (leastB E i i i) :=
  leastB_min i i (Nat.le_refl _) (Scc.refl E i) (Nat.le_refl _) (fun u _ => by omega)
end Go.Own
