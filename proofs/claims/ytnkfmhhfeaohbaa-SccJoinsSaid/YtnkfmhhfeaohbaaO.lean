/- The walk of Live. -/
import Derived.Test.YtnkfmhhfeaohbaaN
namespace Go.Proofs.Ytnkfmhhfeaohbaa
open Go.RowKit Go.Own

def liveB (E : List (List Int)) (n v : Nat) : Bool := cycScan E n (-1) (grp (lead E) n (lead E v))
theorem grp_mem {f : Nat → Nat} {k u j : Nat} (hj : j < (grp f k u).length) : ∃ v : Nat, v < k ∧ f v = u ∧ (grp f k u).getD j 0 = (v : Int) := by
  have e : (grp f k u).getD j 0 = (grp f k u)[j] := by simp [List.getD, hj]
  have hm : (grp f k u)[j] ∈ grp f k u := List.getElem_mem hj
  rw [e]
  generalize (grp f k u)[j] = x at *
  unfold grp at hm
  rw [List.mem_map] at hm
  obtain ⟨v, hv, rfl⟩ := hm
  rw [List.mem_filter] at hv
  exact ⟨v, List.mem_range.1 hv.1, of_decide_eq_true hv.2, rfl⟩
theorem mem_grp {f : Nat → Nat} {k v : Nat} (hv : v < k) : (v : Int) ∈ grp f k (f v) := by
  unfold grp
  rw [List.mem_map]
  exact ⟨v, List.mem_filter.2 ⟨List.mem_range.2 hv, decide_eq_true rfl⟩, rfl⟩

/-- The rows and what they were told with; only the block go has been written since w2. -/
structure LS (w0 w2 w : World) (go n : Nat) (f : Nat → Bool) : Prop where
  out : Sl w 4 (.slice (some ⟨go, 0, none⟩) n n) n (boolsOf n f)
  kept : Kept (fun b => b = go) w2 w
  low : w0.heap.size ≤ go
theorem LS.set {w0 w2 w : World} {go n : Nat} {f : Nat → Bool} (h : LS w0 w2 w go n f) (v : Nat) (hv : v < n) (x : Bool) :
    w.cell? ⟨go, v, none⟩ = some (.bool (f v)) ∧ w.frozen? ⟨go, v, none⟩ = false ∧ LS w0 w2 (w.setCell ⟨go, v, none⟩ (.bool x)) go n (up f v x) := by
  refine ⟨?_, World.ownsRow.frozenAt (size := 1) h.out v, ?_, h.kept.setCell (p := ⟨go, v, none⟩) (fun _ => rfl) _, h.low⟩
  · rw [World.ownsRow.cellAt (size := 1) h.out v (by omega)]; exact boolsOf_at _ _ _ hv
  · have := (World.ownsRow.stored h.out v (.bool x)).1
    rwa [boolsOf_set _ _ _ _ hv] at this

/-- What holds when row k is gone through as far as j. -/
def LInv (E : List (List Int)) (n k j : Nat) (f : Nat → Bool) : Prop :=
  ∀ v, v < n → (cntL (lead E) (lead E v) < k ∨ (cntL (lead E) (lead E v) = k ∧ (v : Int) ∈ (grpRow (lead E) n k).take j)) → f v = liveB E n v
theorem LInv.set {E : List (List Int)} {n k j y : Nat} {f : Nat → Bool} (h : LInv E n k j f) (hk : k < cntL (lead E) n) (hj : j < (grpRow (lead E) n k).length) (e : (grpRow (lead E) n k).getD j 0 = (y : Int)) :
    LInv E n k (j + 1) (up f y (cycScan E n (-1) (grpRow (lead E) n k))) := by
  intro v hv hc
  obtain ⟨y', hy', hly, e'⟩ := grp_mem (f := lead E) (k := n) (u := (leads (lead E) n).getD k 0) hj
  have : y' = y := by
    have : ((y' : Nat) : Int) = (y : Int) := e'.symm.trans e
    omega
  subst this
  by_cases hvy : v = y'
  · subst hvy
    rw [up_same]
    unfold liveB grpRow
    rw [hly]
  · rw [up_other _ _ _ _ hvy]
    refine h v hv (hc.imp id fun ⟨h1, h2⟩ => ⟨h1, ?_⟩)
    rw [take_more _ _ hj, e] at h2
    rcases List.mem_append.1 h2 with h2 | h2
    · exact h2
    · rw [List.mem_singleton] at h2; omega
theorem LInv.next {E : List (List Int)} {n k : Nat} {f : Nat → Bool} (h : LInv E n k (grpRow (lead E) n k).length f) : LInv E n (k + 1) 0 f := by
  intro v hv hc
  refine h v hv ?_
  rcases hc with hc | ⟨_, hc⟩
  · by_cases e : cntL (lead E) (lead E v) = k
    · refine .inr ⟨e, ?_⟩
      rw [List.take_length, ← e]
      unfold grpRow
      rw [(leads_at (lead_lead E v) n (Nat.lt_of_le_of_lt (lead_le E v) hv)).2]
      exact mem_grp hv
    · exact .inl (by omega)
  · simp at hc
theorem LInv.end {E : List (List Int)} {n : Nat} {f : Nat → Bool} (h : LInv E n (cntL (lead E) n) 0 f) (v : Nat) (hv : v < n) : f v = liveB E n v :=
  h v hv (.inl (leads_at (lead_lead E v) n (Nat.lt_of_le_of_lt (lead_le E v) hv)).1)
end Go.Proofs.Ytnkfmhhfeaohbaa
