/- The walk of the reference's Cyclic. -/
import Derived.Test.YtnkfmhhfeaohbaaU
namespace Go.Proofs.Ytnkfmhhfeaohbaa
open Go.RowKit Go.Own

/-- How many of the first q nodes are among the numbers, and the last of them. -/
def cycCnt (zs : List Int) : Nat → Nat
  | 0 => 0
  | q + 1 => cycCnt zs q + (if zs.contains (q : Int) then 1 else 0)
def cycLast (zs : List Int) : Nat → Nat
  | 0 => 0
  | q + 1 => if zs.contains (q : Int) then q else cycLast zs q
theorem cnt_le (zs : List Int) : ∀ q, cycCnt zs q ≤ q
  | 0 => Nat.le_refl _
  | q + 1 => by unfold cycCnt; have := cnt_le zs q; split <;> omega
theorem cnt_zero {zs : List Int} : ∀ q, cycCnt zs q = 0 → ∀ u, u < q → ¬ (u : Int) ∈ zs
  | 0, _, u, h => by omega
  | q + 1, h, u, hu => by
    unfold cycCnt at h
    by_cases hc : zs.contains (q : Int) = true
    · rw [if_pos hc] at h; omega
    · by_cases e : u = q
      · subst e; simpa using hc
      · exact cnt_zero q (by omega) u (by omega)
theorem cnt_one {zs : List Int} : ∀ q, cycCnt zs q = 1 → cycLast zs q < q ∧ ((cycLast zs q : Nat) : Int) ∈ zs ∧ ∀ u, u < q → (u : Int) ∈ zs → u = cycLast zs q
  | 0, h => by simp [cycCnt] at h
  | q + 1, h => by
    unfold cycCnt at h
    unfold cycLast
    by_cases hc : zs.contains (q : Int) = true
    · rw [if_pos hc] at h
      rw [if_pos hc]
      refine ⟨by omega, by simpa using hc, fun u hu hm => ?_⟩
      by_cases e : u = q
      · exact e
      · exact absurd hm (cnt_zero q (by omega) u (by omega))
    · rw [if_neg hc] at h
      rw [if_neg hc]
      obtain ⟨h1, h2, h3⟩ := cnt_one q (by omega)
      refine ⟨by omega, h2, fun u hu hm => ?_⟩
      by_cases e : u = q
      · subst e; exact absurd (by simpa using hm) hc
      · exact h3 u (by omega) hm
theorem cnt_some {zs : List Int} : ∀ q, 0 < cycCnt zs q → ∃ u, u < q ∧ (u : Int) ∈ zs
  | 0, h => by simp [cycCnt] at h
  | q + 1, h => by
    unfold cycCnt at h
    by_cases hc : zs.contains (q : Int) = true
    · exact ⟨q, by omega, by simpa using hc⟩
    · rw [if_neg hc] at h
      obtain ⟨u, h1, h2⟩ := cnt_some q (by omega)
      exact ⟨u, by omega, h2⟩
theorem cnt_two {zs : List Int} : ∀ q, 1 < cycCnt zs q → ∃ a b, a < b ∧ b < q ∧ (a : Int) ∈ zs ∧ (b : Int) ∈ zs
  | 0, h => by simp [cycCnt] at h
  | q + 1, h => by
    unfold cycCnt at h
    by_cases hc : zs.contains (q : Int) = true
    · rw [if_pos hc] at h
      obtain ⟨u, h1, h2⟩ := cnt_some (zs := zs) q (by omega)
      exact ⟨u, q, by omega, by omega, h2, by simpa using hc⟩
    · rw [if_neg hc] at h
      obtain ⟨a, b, h1, h2, h3⟩ := cnt_two q (by omega)
      exact ⟨a, b, h1, by omega, h3⟩
def refCyc (E : List (List Int)) (n : Nat) (zs : List Int) : Bool := if cycCnt zs n = 1 then selfB E (cycLast zs n) else decide (1 < cycCnt zs n)
theorem refCyc_eq (E : List (List Int)) (n : Nat) (zs : List Int) : refCyc E n zs = cycScan E n (-1) zs := by
  unfold refCyc
  by_cases h : cycCnt zs n = 1
  · rw [if_pos h]
    obtain ⟨h1, h2, h3⟩ := cnt_one n h
    refine (cyc_one zs (-1) (by omega) (by omega) _ ⟨h1, .inr h2⟩ fun b hb => ?_).symm
    obtain ⟨hb1, hb | hb⟩ := hb
    · omega
    · exact h3 b hb1 hb
  · rw [if_neg h]
    by_cases h2 : 1 < cycCnt zs n
    · rw [decide_eq_true h2]
      obtain ⟨a, b, h3, h4, h5, h6⟩ := cnt_two n h2
      exact (cyc_two zs (-1) (by omega) (by omega) a b (by omega) ⟨by omega, .inr h5⟩ ⟨h4, .inr h6⟩).symm
    · rw [decide_eq_false h2]
      refine (cyc_none zs (-1) (by omega) (by omega) fun b hb => ?_).symm
      obtain ⟨hb1, hb | hb⟩ := hb
      · omega
      · exact cnt_zero n (by omega) b hb1 hb

theorem contains_more {zs : List Int} {k : Nat} (hk : k < zs.length) (x : Int) : (zs.take (k + 1)).contains x = ((zs.take k).contains x || decide (x = zs.getD k 0)) := by
  rw [take_more _ _ hk, List.contains_eq_mem, List.contains_eq_mem]
  by_cases h1 : x ∈ zs.take k <;> by_cases h2 : x = zs.getD k 0 <;> simp [h1, h2]

set_option maxRecDepth 100000 in
set_option maxHeartbeats 2000000 in
theorem refCyclic_any (vi vl : Value) (ae : Option Addr) (n ce : Nat) (E : List (List Int)) (ap : Option Addr) (m cp : Nat) (zs : List Int) (w : World) (hE : E.length = n) (he : EdgesAt w ae E) (hn : n ≤ 1000000) (hrow : ∀ i, i < E.length → (E.getD i []).length ≤ 1000000000) (hz : RowAt .i64 w ap m zs) (hm : m ≤ 9223372036854775807) :
    Calls Try.prog 16 #[.agg #[vi, .slice ae n ce, vl], .slice ap m cp] w fun e w' => e = .returned (.bool (cycScan E n (-1) zs)) ∧ Below w.heap.size w w' := by
  have HRC := Lib.hid (refCyc_eq E n zs)
  have HE := Lib.hid hE
  have HRO := Lib.hid hrow
  have HB : Hid (∀ W, W = w.alloc (.cells #[vi, .slice ae n ce, vl] 26) → Below w.heap.size w W ∧ W.cell? ⟨w.heap.size, 1, none⟩ = some (.slice ae n ce)) := by
    rintro W rfl
    exact ⟨(Below.refl _ w).alloc (Nat.le_refl _) _, World.cell?_alloc_at (w := w) _ 26 w.heap.size 1 rfl⟩
  have HED : Hid (∀ W, Below w.heap.size w W → EdgesAt W ae E) := fun W h => he.below h
  have HZ : Hid (∀ W, Below w.heap.size w W → RowAt .i64 W ap m zs) := fun W h => hz.below h
  have HZL : Hid (zs.length = m) := hz.1
  clear he hrow hE hz
  go_enter Try.func16, Try.ntmps16
  go_upto_region 1 with (fail)
  obtain ⟨hB1, c1⟩ := HB.out _ rfl
  have HB1 := Lib.hid hB1
  have HZ1 := Lib.hid (HZ.out _ hB1)
  have HE1 := Lib.hid (HED.out _ hB1)
  clear HB hB1 HZ HED
  generalize w.alloc (.cells #[vi, .slice ae n ce, vl] 26) = w1 at *
  go_wp2_with fail
  go_loopw [5, 6, 7] (fun c l x wr => ∃ q : Nat, q ≤ n ∧ x = .int .i64 q ∧ c = .int .i64 ((cycCnt zs q : Nat) : Int) ∧ l = .int .i64 ((cycLast zs q : Nat) : Int) ∧ wr = w1) (fun _ _ x _ => n - (intOf x).toNat)
  case atStart => exact ⟨0, Nat.zero_le _, rfl, rfl, rfl, rfl⟩
  case round =>
    obtain ⟨q, hq, rfl, rfl, rfl, rfl⟩ := hrel
    by_cases hlt : q < n
    · have hltI : (q : Int) < (n : Int) := by omega
      have hcl := cnt_le zs q
      have HCC : Hid (cycCnt zs (q + 1) = cycCnt zs q + (if zs.contains (q : Int) then 1 else 0)) := rfl
      have HCL : Hid (cycLast zs (q + 1) = if zs.contains (q : Int) then q else cycLast zs q) := rfl
      generalize cycCnt zs q = c at *
      generalize cycLast zs q = l at *
      go_upto_region 8 with (fail)
      go_loopw [8, 9] (fun b x wr' => ∃ k : Nat, k ≤ m ∧ x = .int .i64 k ∧ ∃ bb, b = .bool bb ∧ Hid ((zs.take k).contains (q : Int) = bb) ∧ wr' = wr) (fun _ x _ => m - (intOf x).toNat)
      case atStart => exact ⟨0, Nat.zero_le _, rfl, false, rfl, rfl, rfl⟩
      case round =>
        obtain ⟨k, hk, rfl, bb, rfl, hbb, rfl⟩ := hrel
        by_cases hkm : k < m
        · have hkmI : (k : Int) < (m : Int) := by omega
          obtain ⟨-, h0 | ⟨b, off, rfl, hc⟩⟩ := HZ1.out
          · omega
          have ck := hc k hkm
          have HNX := Lib.hid (contains_more (zs := zs) (k := k) (by rw [HZL.out]; exact hkm) (q : Int))
          rw [hbb.out] at HNX
          generalize zs.getD k 0 = z at *
          clear hc
          cases bb with
          | true =>
            go_wp2_with fail
            go_roundw
            case rel => exact ⟨k + 1, by omega, by go_num, true, rfl, HNX.out, trivial⟩
            case measure => simp [intOf]; omega
          | false =>
            by_cases hzq : z = (q : Int)
            · subst hzq
              have t0 : ((q : Int) == (q : Int)) = true := beq_self_eq_true _
              have HN2 : Hid ((zs.take (k + 1)).contains (q : Int) = true) := by have := HNX.out; show _ = _; rw [this]; simp
              go_wp2_with fail
              go_roundw
              case rel => exact ⟨k + 1, by omega, by go_num, true, rfl, HN2, trivial⟩
              case measure => simp [intOf]; omega
            · have t0 : (z == (q : Int)) = false := beq_eq_false_iff_ne.2 hzq
              have HN2 : Hid ((zs.take (k + 1)).contains (q : Int) = false) := by
                have := HNX.out; show _ = _; rw [this, decide_eq_false (fun e => hzq e.symm)]; rfl
              go_wp2_with fail
              go_roundw
              case rel => exact ⟨k + 1, by omega, by go_num, false, rfl, HN2, trivial⟩
              case measure => simp [intOf]; omega
        · obtain rfl : m = k := by omega
          have HF : Hid (zs.contains (q : Int) = bb) := by
            have := hbb.out
            rw [List.take_of_length_le (by rw [HZL.out]; exact Nat.le_refl _)] at this
            exact this
          have HF1 := HCC.out
          have HF2 := HCL.out
          rw [HF.out] at HF1 HF2
          have HF1 := Lib.hid HF1
          have HF2 := Lib.hid HF2
          clear hbb
          cases bb with
          | true =>
            go_wp2_with fail
            go_roundw
            case rel => exact ⟨q + 1, by omega, by go_num, by rw [HF1.out]; rfl, by rw [HF2.out]; rfl, trivial⟩
            case measure => simp [intOf]; omega
          | false =>
            go_wp2_with fail
            go_roundw
            case rel => exact ⟨q + 1, by omega, by go_num, by rw [HF1.out]; rfl, by rw [HF2.out]; rfl, trivial⟩
            case measure => simp [intOf]; omega
    · obtain rfl : n = q := by omega
      have HRC2 : Hid ((if cycCnt zs n = 1 then selfB E (cycLast zs n) else decide (1 < cycCnt zs n)) = cycScan E n (-1) zs) := HRC.out
      by_cases hone : cycCnt zs n = 1
      · have hlast := (cnt_one n hone).1
        have HR : Hid (selfB E (cycLast zs n) = cycScan E n (-1) zs) := by have := HRC2.out; rwa [if_pos hone] at this
        have eone : ((cycCnt zs n : Nat) : Int) = 1 := by omega
        rw [eone]
        clear eone hone HRC2
        generalize cycLast zs n = v at *
        have hvI : (v : Int) < (n : Int) := by omega
        obtain ⟨b, off, ai, ci, rfl, e1, hr⟩ := HE1.out.at v (by rw [HE.out]; exact hlast)
        have HS : Hid (selfB E v = (E.getD v []).contains (v : Int)) := rfl
        have hlr := HRO.out v (by rw [HE.out]; exact hlast)
        have HRE : Hid (RowE wr ai (E.getD v [])) := hr
        clear hr
        generalize E.getD v [] = row at *
        obtain ⟨d, hd⟩ : ∃ d, row.length = d := ⟨_, rfl⟩
        have HD := Lib.hid hd
        rw [hd] at e1 hlr
        clear hd
        go_wp2_with fail
        go_loopw [10] (fun x wr' => ∃ k : Nat, k ≤ d ∧ x = .int .i64 k ∧ Hid (∀ j, j < k → row.getD j 0 ≠ (v : Int)) ∧ wr' = wr) (fun x _ => d - (intOf x).toNat)
        case atStart => exact ⟨0, Nat.zero_le _, rfl, fun j hj => by omega, rfl⟩
        case round =>
          obtain ⟨k, hk, rfl, hno, rfl⟩ := hrel
          by_cases hkd : k < d
          · have hkdI : (k : Int) < (d : Int) := by omega
            obtain ⟨b', off', rfl, ck, act, ck2⟩ := HRE.out k (by rw [HD.out]; exact hkd)
            have HK := Lib.hid (fun e => contains_of (t := (v : Int)) (k := k) (row := row) (by rw [HD.out]; exact hkd) e)
            have HN : Hid (row.getD k 0 ≠ (v : Int) → ∀ j, j < k + 1 → row.getD j 0 ≠ (v : Int)) := fun hne j hj => by
              by_cases e : j = k
              · subst e; exact hne
              · exact hno.out j (by omega)
            generalize row.getD k 0 = z at *
            clear hno
            by_cases hzv : z = (v : Int)
            · have HK2 := Lib.hid (HK.out hzv)
              subst hzv
              have t0 : ((v : Int) == (v : Int)) = true := beq_self_eq_true _
              clear HK HN
              go_wp2_with fail
              go_ret
              exact ⟨by rw [← HR.out, HS.out, HK2.out]; rfl, HB1.out⟩
            · have t0 : (z == (v : Int)) = false := beq_eq_false_iff_ne.2 hzv
              have HN2 := Lib.hid (HN.out hzv)
              clear HK HN
              go_wp2_with fail
              go_roundw
              case rel => exact ⟨k + 1, by omega, by go_num, HN2, trivial⟩
              case measure => simp [intOf]; omega
          · obtain rfl : d = k := by omega
            go_wp2_with fail
            go_ret
            exact ⟨by rw [← HR.out, HS.out, contains_not (by rw [HD.out]; exact hno.out)]; rfl, HB1.out⟩
      · have HR : Hid (decide (1 < cycCnt zs n) = cycScan E n (-1) zs) := by have := HRC2.out; rwa [if_neg hone] at this
        have hcl := cnt_le zs n
        clear HRC2 HRC
        generalize cycCnt zs n = c at *
        have t0 : ((c : Int) == 1) = false := beq_eq_false_iff_ne.2 (by omega)
        by_cases h1 : 1 < c
        · have t1 : decide ((1 : Int) < (c : Int)) = true := decide_eq_true (by omega)
          have h1I : (1 : Int) < (c : Int) := by omega
          go_wp2_with fail
          go_ret
          exact ⟨by rw [← HR.out, decide_eq_true h1]; rfl, HB1.out⟩
        · have t1 : decide ((1 : Int) < (c : Int)) = false := decide_eq_false (by omega)
          have h1I : ¬ (1 : Int) < (c : Int) := by omega
          go_wp2_with fail
          go_ret
          exact ⟨by rw [← HR.out, decide_eq_false h1]; rfl, HB1.out⟩
end Go.Proofs.Ytnkfmhhfeaohbaa
