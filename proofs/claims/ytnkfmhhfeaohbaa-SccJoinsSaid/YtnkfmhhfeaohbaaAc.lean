/- Parts by their numbers, the map from nodes to them, and the graph of the parts; plainly. -/
import Derived.Test.YtnkfmhhfeaohbaaU
namespace Go.Proofs.Ytnkfmhhfeaohbaa
open Go.Own

/-- The number of a node's part. -/
def pid (E : List (List Int)) (v : Nat) : Nat := cntL (lead E) (lead E v)
theorem pid_lt {E : List (List Int)} {n v : Nat} (hv : v < n) : pid E v < cntL (lead E) n := (leads_at (lead_lead E v) n (Nat.lt_of_le_of_lt (lead_le E v) hv)).1
theorem pid_lead {E : List (List Int)} {n v : Nat} (hv : v < n) : (leads (lead E) n).getD (pid E v) 0 = lead E v := (leads_at (lead_lead E v) n (Nat.lt_of_le_of_lt (lead_le E v) hv)).2
theorem pid_row {E : List (List Int)} {n v : Nat} (hv : v < n) : grpRow (lead E) n (pid E v) = grp (lead E) n (lead E v) := by
  unfold grpRow
  rw [pid_lead hv]
theorem pid_eq {E : List (List Int)} {n u v : Nat} (hu : u < n) (hv : v < n) (h : pid E u = pid E v) : lead E u = lead E v := by
  rw [← pid_lead hu, ← pid_lead hv, h]
theorem row_mem {E : List (List Int)} {n k j : Nat} (hk : k < cntL (lead E) n) (hj : j < (grpRow (lead E) n k).length) :
    ∃ y : Nat, y < n ∧ pid E y = k ∧ (grpRow (lead E) n k).getD j 0 = (y : Int) ∧ lead E y = (leads (lead E) n).getD k 0 := by
  obtain ⟨v, hv, hl, e⟩ := grp_mem (f := lead E) (k := n) (u := (leads (lead E) n).getD k 0) hj
  refine ⟨v, hv, ?_, e, hl⟩
  have h1 := leads_inj (f := lead E) (lead_lead E v) (Nat.lt_of_le_of_lt (lead_le E v) hv) hk hl.symm
  exact h1.symm
theorem grp_nodup (f : Nat → Nat) (n u : Nat) : (grp f n u).Nodup := by
  unfold grp
  have h : ((List.range n).filter fun v => decide (f v = u)).Nodup := List.Pairwise.filter _ List.nodup_range
  exact List.Pairwise.map _ (fun a b hab e => hab (by have e2 : (a : Int) = (b : Int) := e; omega)) h
theorem not_taken {l : List Int} (h : l.Nodup) {j : Nat} (hj : j < l.length) : ¬ l.getD j 0 ∈ l.take j := by
  intro hm
  obtain ⟨i, hi, e⟩ := List.mem_iff_getElem.1 hm
  have hi' : i < j := by rw [List.length_take] at hi; omega
  rw [List.getElem_take] at e
  have e2 : l.getD j 0 = l[j] := by simp [List.getD, hj]
  rw [e2] at e
  have := (List.getElem_inj (h₀ := by omega) (h₁ := hj) h).1 e
  omega
theorem grp_empty {f : Nat → Nat} (hle : ∀ v, f v ≤ v) {u : Nat} : ∀ n, n ≤ u → grp f n u = [] := by
  intro n hn
  unfold grp
  rw [List.map_eq_nil_iff, List.filter_eq_nil_iff]
  intro v hv h
  have h1 := hle v
  have h2 := of_decide_eq_true h
  have h3 := List.mem_range.1 hv
  omega
theorem grp_head {f : Nat → Nat} (hle : ∀ v, f v ≤ v) {u : Nat} (hu : f u = u) : ∀ n, u < n → (grp f n u).getD 0 0 = (u : Int) ∧ 0 < (grp f n u).length
  | 0, h => by omega
  | n + 1, h => by
    rw [grp_succ]
    by_cases e : u = n
    · subst e
      rw [grp_empty hle _ (Nat.le_refl _), if_pos hu]
      exact ⟨rfl, Nat.one_pos⟩
    · obtain ⟨h1, h2⟩ := grp_head hle hu n (by omega)
      refine ⟨?_, by rw [List.length_append]; omega⟩
      rw [List.getD_eq_getElem?_getD, List.getElem?_append_left h2, ← List.getD_eq_getElem?_getD]
      exact h1
theorem row_head {E : List (List Int)} {n k : Nat} (hk : k < cntL (lead E) n) : (grpRow (lead E) n k).getD 0 0 = (((leads (lead E) n).getD k 0 : Nat) : Int) ∧ 0 < (grpRow (lead E) n k).length := by
  obtain ⟨h1, h2⟩ := leads_mem hk
  exact grp_head (lead_le E) h1 n h2

/-- What the map holds when row k is gone through as far as j. -/
def JInv (E : List (List Int)) (n k j : Nat) (f : Nat → Option Nat) : Prop :=
  ∀ v, v < n → f v = if pid E v < k ∨ (pid E v = k ∧ (v : Int) ∈ (grpRow (lead E) n k).take j) then some (pid E v) else none
theorem JInv.start (E : List (List Int)) (n : Nat) : JInv E n 0 0 (fun _ => none) := fun v _ => by simp
theorem JInv.fresh {E : List (List Int)} {n k j y : Nat} {f : Nat → Option Nat} (h : JInv E n k j f) (hj : j < (grpRow (lead E) n k).length) (hy : y < n) (hp : pid E y = k) (e : (grpRow (lead E) n k).getD j 0 = (y : Int)) : f y = none := by
  rw [h y hy, if_neg]
  rintro (h1 | ⟨_, h1⟩)
  · omega
  · rw [← e] at h1
    exact not_taken (grp_nodup _ _ _) hj h1
theorem JInv.set {E : List (List Int)} {n k j y : Nat} {f : Nat → Option Nat} (h : JInv E n k j f) (hj : j < (grpRow (lead E) n k).length) (hp : pid E y = k) (e : (grpRow (lead E) n k).getD j 0 = (y : Int)) :
    JInv E n k (j + 1) (up f y (some k)) := by
  intro v hv
  by_cases hvy : v = y
  · subst hvy
    rw [up_same, if_pos, hp]
    refine .inr ⟨hp, ?_⟩
    rw [take_more _ _ hj, e]
    simp
  · rw [up_other _ _ _ _ hvy, h v hv]
    have : (pid E v < k ∨ (pid E v = k ∧ (v : Int) ∈ (grpRow (lead E) n k).take j)) ↔ (pid E v < k ∨ (pid E v = k ∧ (v : Int) ∈ (grpRow (lead E) n k).take (j + 1))) := by
      rw [take_more _ _ hj, e, List.mem_append, List.mem_singleton]
      constructor
      · rintro (h1 | ⟨h1, h2⟩)
        · exact .inl h1
        · exact .inr ⟨h1, .inl h2⟩
      · rintro (h1 | ⟨h1, h2 | h2⟩)
        · exact .inl h1
        · exact .inr ⟨h1, h2⟩
        · omega
    by_cases hc : pid E v < k ∨ (pid E v = k ∧ (v : Int) ∈ (grpRow (lead E) n k).take j)
    · rw [if_pos hc, if_pos (this.1 hc)]
    · rw [if_neg hc, if_neg (fun h => hc (this.2 h))]
theorem JInv.next {E : List (List Int)} {n k : Nat} {f : Nat → Option Nat} (h : JInv E n k (grpRow (lead E) n k).length f) : JInv E n (k + 1) 0 f := by
  intro v hv
  rw [h v hv]
  by_cases hc : pid E v < k ∨ (pid E v = k ∧ (v : Int) ∈ (grpRow (lead E) n k).take (grpRow (lead E) n k).length)
  · rw [if_pos hc, if_pos (.inl (by rcases hc with hc | ⟨hc, _⟩ <;> omega))]
  · rw [if_neg hc, if_neg]
    rintro (h1 | ⟨_, h1⟩)
    · refine hc ?_
      by_cases h2 : pid E v = k
      · refine .inr ⟨h2, ?_⟩
        rw [List.take_length, ← h2, pid_row hv]
        exact mem_grp hv
      · exact .inl (by omega)
    · simp at h1
theorem JInv.end {E : List (List Int)} {n : Nat} {f : Nat → Option Nat} (h : JInv E n (cntL (lead E) n) 0 f) (v : Nat) (hv : v < n) : f v = some (pid E v) := by
  rw [h v hv, if_pos (.inl (pid_lt hv))]

/-- How many of the first n nodes the map holds. -/
def cntF (f : Nat → Option Nat) : Nat → Nat
  | 0 => 0
  | k + 1 => cntF f k + (if (f k).isSome then 1 else 0)
theorem cntF_none : ∀ n, cntF (fun _ => none) n = 0
  | 0 => rfl
  | n + 1 => by unfold cntF; rw [cntF_none n]; rfl
theorem cntF_out (f : Nat → Option Nat) (y x : Nat) : ∀ n, n ≤ y → cntF (up f y (some x)) n = cntF f n
  | 0, _ => rfl
  | n + 1, h => by
    unfold cntF
    rw [cntF_out f y x n (by omega), up_other _ _ _ _ (by omega)]
theorem cntF_put {f : Nat → Option Nat} {y : Nat} (hf : f y = none) (x : Nat) : ∀ n, y < n → cntF (up f y (some x)) n = cntF f n + 1
  | 0, h => by omega
  | n + 1, h => by
    unfold cntF
    by_cases e : y = n
    · subst e
      rw [cntF_out f y x y (Nat.le_refl _), up_same, hf]; rfl
    · rw [cntF_put hf x n (by omega), up_other _ _ _ _ (by omega)]; omega
theorem cntF_all {f : Nat → Option Nat} : ∀ n, (∀ v, v < n → (f v).isSome = true) → cntF f n = n
  | 0, _ => rfl
  | n + 1, h => by
    unfold cntF
    rw [cntF_all n (fun v hv => h v (by omega)), h n (by omega)]; rfl
theorem cntF_le (f : Nat → Option Nat) : ∀ n, cntF f n ≤ n
  | 0 => Nat.le_refl _
  | n + 1 => by unfold cntF; have := cntF_le f n; split <;> omega

/-- Each edge of the graph of the parts comes of an edge between two parts. -/
def Cond (E : List (List Int)) (C : Nat → List Int) (R : Nat) : Prop :=
  ∀ i, i < R → ∀ z ∈ C i, ∃ x t, adj E x t ∧ pid E x = i ∧ z = ((pid E t : Nat) : Int) ∧ pid E t ≠ i
theorem Cond.start (E : List (List Int)) (R : Nat) : Cond E (fun _ => []) R := fun i _ z hz => by cases hz
theorem Cond.push {E : List (List Int)} {C : Nat → List Int} {R x t : Nat} (h : Cond E C R) (ha : adj E x t) (hne : pid E t ≠ pid E x) : Cond E (up C (pid E x) (C (pid E x) ++ [((pid E t : Nat) : Int)])) R := by
  intro i hi z hz
  by_cases e : i = pid E x
  · subst e
    rw [up_same] at hz
    rcases List.mem_append.1 hz with hz | hz
    · exact h _ hi z hz
    · exact ⟨x, t, ha, rfl, List.mem_singleton.1 hz, hne⟩
  · rw [up_other _ _ _ _ e] at hz
    exact h i hi z hz
def condE (C : Nat → List Int) (R : Nat) : List (List Int) := (List.range R).map C
theorem condE_len (C : Nat → List Int) (R : Nat) : (condE C R).length = R := by simp [condE]
theorem condE_at (C : Nat → List Int) {R i : Nat} (hi : i < R) : (condE C R).getD i [] = C i := by simp [condE, List.getD, hi]
theorem same_pid {E : List (List Int)} {x t : Nat} (hx : x < E.length) (ht : t < E.length) (h : pid E x = pid E t) : Scc E x t := lead_eq.1 (pid_eq hx ht h)
theorem cond_reach {E : List (List Int)} {C : Nat → List Int} {R : Nat} (h : Cond E C R) : ∀ (m i z : Nat), stepN (condE C R) m i z → ∀ x, x < E.length → pid E x = i → ∀ t, t < E.length → pid E t = z → Own.Reach E x t
  | 0, i, z, hs, x, hx, hxi, t, ht, htz => by
    cases hs
    exact (same_pid hx ht (hxi.trans htz.symm)).1
  | m + 1, i, z, ⟨y, ⟨hi, _, hy⟩, hs⟩, x, hx, hxi, t, ht, htz => by
    rw [condE_len] at hi
    rw [condE_at C hi] at hy
    obtain ⟨x', t', ha, h1, h2, _⟩ := h i hi _ hy
    have h3 : Own.Reach E x x' := (same_pid hx ha.1 (hxi.trans h1.symm)).1
    have h4 := cond_reach h m y z hs t' ha.2.1 (by omega) t ht htz
    exact h3.trans (Own.Reach.head ha h4)
theorem cond_dead {E : List (List Int)} {C : Nat → List Int} {R : Nat} (h : Cond E C R) (v : Nat) (hv : v < R) : liveB (condE C R) R v = false := by
  have h1 := liveB_war (E := condE C R) (v := v) (by rw [condE_len]; exact hv)
  rw [condE_len] at h1
  rw [h1]
  refine Bool.eq_false_iff.2 fun hw => ?_
  have hw' : warB (condE C R) (condE C R).length v v = true := by rw [condE_len]; exact hw
  obtain ⟨z, ⟨hi, _, hz⟩, m, hs⟩ := warB_iff.1 hw'
  rw [condE_len] at hi
  rw [condE_at C hi] at hz
  obtain ⟨x, t, ha, h2, h3, h4⟩ := h v hi _ hz
  have h5 := cond_reach h m z v hs t ha.2.1 (by omega) x ha.1 h2
  have h6 : Scc E x t := ⟨Own.Reach.edge ha, h5⟩
  refine h4 ?_
  rw [← h2]
  unfold pid
  rw [lead_eq.2 h6]
end Go.Proofs.Ytnkfmhhfeaohbaa
