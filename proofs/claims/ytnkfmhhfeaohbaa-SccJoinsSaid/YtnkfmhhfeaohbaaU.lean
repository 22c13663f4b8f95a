/- What cycScan answers, plainly: two nodes, or one with an edge to itself; a node is live when a way leads round. -/
import Derived.Test.YtnkfmhhfeaohbaaO
namespace Go.Proofs.Ytnkfmhhfeaohbaa
open Go.Own

/-- The node u is among the numbers (or is the one that was seen ahead). -/
def Among (n : Nat) (one : Int) (zs : List Int) (u : Nat) : Prop := u < n ∧ ((u : Int) = one ∨ (u : Int) ∈ zs)
theorem among_skip {n u : Nat} {one v : Int} {r : List Int} (h : v < 0 ∨ (n : Int) ≤ v ∨ v = one) : Among n one (v :: r) u ↔ Among n one r u := by
  unfold Among
  rw [List.mem_cons]
  constructor
  · rintro ⟨h1, h2 | h2 | h2⟩
    · exact ⟨h1, .inl h2⟩
    · exact ⟨h1, .inl (by omega)⟩
    · exact ⟨h1, .inr h2⟩
  · rintro ⟨h1, h2 | h2⟩
    · exact ⟨h1, .inl h2⟩
    · exact ⟨h1, .inr (.inr h2)⟩
theorem among_new {n u : Nat} {one v : Int} {r : List Int} (h2 : one = -1) : Among n one (v :: r) u ↔ Among n v r u := by
  unfold Among
  rw [List.mem_cons]
  constructor
  · rintro ⟨h1, h3 | h3 | h3⟩
    · omega
    · exact ⟨h1, .inl h3⟩
    · exact ⟨h1, .inr h3⟩
  · rintro ⟨h1, h3 | h3⟩
    · exact ⟨h1, .inr (.inl h3)⟩
    · exact ⟨h1, .inr (.inr h3)⟩

theorem cyc_two {E : List (List Int)} {n : Nat} : ∀ (zs : List Int) (one : Int), -1 ≤ one → one < n → ∀ a b, a ≠ b → Among n one zs a → Among n one zs b → cycScan E n one zs = true
  | [], one, _, _, a, b, hab, ha, hb => by
    obtain ⟨_, ha | ha⟩ := ha
    · obtain ⟨_, hb | hb⟩ := hb
      · omega
      · cases hb
    · cases ha
  | v :: r, one, h1, h2, a, b, hab, ha, hb => by
    by_cases h : v < 0 ∨ (n : Int) ≤ v ∨ v = one
    · rw [cycScan_skip h]
      exact cyc_two r one h1 h2 a b hab ((among_skip h).1 ha) ((among_skip h).1 hb)
    · by_cases h0 : 0 ≤ one
      · exact cycScan_hit h h0
      · rw [cycScan_new h h0]
        have e : one = -1 := by omega
        exact cyc_two r v (by omega) (by omega) a b hab ((among_new e).1 ha) ((among_new e).1 hb)
theorem cyc_one {E : List (List Int)} {n : Nat} : ∀ (zs : List Int) (one : Int), -1 ≤ one → one < n → ∀ a, Among n one zs a → (∀ b, Among n one zs b → b = a) → cycScan E n one zs = selfB E a
  | [], one, _, _, a, ha, _ => by
    obtain ⟨_, ha | ha⟩ := ha
    · unfold cycScan
      rw [← ha]; simp
    · cases ha
  | v :: r, one, h1, h2, a, ha, hu => by
    by_cases h : v < 0 ∨ (n : Int) ≤ v ∨ v = one
    · rw [cycScan_skip h]
      exact cyc_one r one h1 h2 a ((among_skip h).1 ha) (fun b hb => hu b ((among_skip h).2 hb))
    · by_cases h0 : 0 ≤ one
      · exfalso
        have e1 := hu one.toNat ⟨by omega, .inl (by omega)⟩
        have e2 := hu v.toNat ⟨by omega, .inr (List.mem_cons.2 (.inl (by omega)))⟩
        omega
      · rw [cycScan_new h h0]
        have e : one = -1 := by omega
        exact cyc_one r v (by omega) (by omega) a ((among_new e).1 ha) (fun b hb => hu b ((among_new e).2 hb))
theorem cyc_none {E : List (List Int)} {n : Nat} : ∀ (zs : List Int) (one : Int), -1 ≤ one → one < n → (∀ b, ¬ Among n one zs b) → cycScan E n one zs = false
  | [], one, h1, h2, hu => by
    unfold cycScan
    have : ¬ 0 ≤ one := fun h0 => hu one.toNat ⟨by omega, .inl (by omega)⟩
    simp [this]
  | v :: r, one, h1, h2, hu => by
    by_cases h : v < 0 ∨ (n : Int) ≤ v ∨ v = one
    · rw [cycScan_skip h]
      exact cyc_none r one h1 h2 (fun b hb => hu b ((among_skip h).2 hb))
    · exact absurd ⟨by omega, .inr (List.mem_cons.2 (.inl (by omega)))⟩ (hu v.toNat)

theorem grp_among {f : Nat → Nat} {n t u : Nat} : Among n (-1) (grp f n t) u ↔ u < n ∧ f u = t := by
  unfold Among grp
  rw [List.mem_map]
  constructor
  · rintro ⟨h1, h2 | ⟨v, hv, e⟩⟩
    · omega
    · rw [List.mem_filter] at hv
      obtain rfl : v = u := by omega
      exact ⟨h1, of_decide_eq_true hv.2⟩
  · rintro ⟨h1, h2⟩
    exact ⟨h1, .inr ⟨u, List.mem_filter.2 ⟨List.mem_range.2 h1, decide_eq_true h2⟩, rfl⟩⟩

theorem lead_scc (E : List (List Int)) (v : Nat) : Scc E v (lead E v) := (lead_isMin E v).1
theorem lead_eq {E : List (List Int)} {u v : Nat} : lead E u = lead E v ↔ Scc E u v := by
  constructor
  · intro h
    exact (lead_scc E u).trans (by rw [h]; exact (lead_scc E v).symm)
  · intro h
    refine IsMin.unique (lead_isMin E u) ⟨h.trans (lead_scc E v), fun w hw => (lead_isMin E v).2 w (h.symm.trans hw)⟩
theorem selfB_iff {E : List (List Int)} {v : Nat} (hv : v < E.length) : selfB E v = true ↔ adj E v v := by
  unfold selfB adj
  simp [hv]
theorem liveB_war {E : List (List Int)} {v : Nat} (hv : v < E.length) : liveB E E.length v = warB E E.length v v := by
  unfold liveB
  by_cases h : ∃ u, u < E.length ∧ u ≠ v ∧ lead E u = lead E v
  · obtain ⟨u, hu, hne, hl⟩ := h
    rw [cyc_two _ _ (by omega) (by omega) u v hne (grp_among.2 ⟨hu, hl⟩) (grp_among.2 ⟨hv, rfl⟩)]
    have hs := lead_eq.1 hl
    refine (warB_iff.2 ?_).symm
    rcases hs.2.way with e | h1
    · exact absurd e.symm hne
    · rcases hs.1.way with e | h2
      · exact absurd e hne
      · exact h1.trans h2
  · have hu : ∀ u, u < E.length → lead E u = lead E v → u = v := fun u hu hl => by
      by_cases e : u = v
      · exact e
      · exact absurd ⟨u, hu, e, hl⟩ h
    rw [cyc_one _ _ (by omega) (by omega) v (grp_among.2 ⟨hv, rfl⟩) (fun b hb => hu b (grp_among.1 hb).1 (grp_among.1 hb).2)]
    refine Bool.eq_iff_iff.2 ?_
    rw [selfB_iff hv, warB_iff]
    constructor
    · exact Way.edge
    · rintro ⟨z, h1, h2⟩
      have e : z = v := hu z h1.2.1 (lead_eq.2 ⟨h2, Reach.edge h1⟩)
      rw [e] at h1
      exact h1
end Go.Proofs.Ytnkfmhhfeaohbaa
