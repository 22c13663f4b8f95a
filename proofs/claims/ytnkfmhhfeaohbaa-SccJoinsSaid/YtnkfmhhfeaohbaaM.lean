/- Walks of loops and of the library's ContainsFunc at its closure. -/
import Derived.Test.YtnkfmhhfeaohbaaL
namespace Go.Proofs.Ytnkfmhhfeaohbaa
open Go.RowKit Go.Own

theorem loop1_any (tz act t : Int) (q : Nat) (w : World) (h : w.cell? ⟨q, 0, none⟩ = some (.int .i64 t)) :
    Calls Try.prog 26 #[.agg #[.int .i64 tz, .int .i64 act], .pointer (some ⟨q, 0, none⟩)] w fun e w' => e = .returned (.bool (tz == t)) ∧ Below w.heap.size w w' := by
  have HB : Hid (∀ W, W = w.alloc (.cells #[.int .i64 tz, .int .i64 act] 40) → Below w.heap.size w W) := by rintro W rfl; exact (Below.refl _ w).alloc (Nat.le_refl _) _
  have h1 : (w.alloc (.cells #[.int .i64 tz, .int .i64 act] 40)).cell? ⟨q, 0, none⟩ = some (.int .i64 t) := ((HB.out _ rfl).cell (World.block_lt_of_cell? w _ h)).trans h
  clear h
  go_enter Try.func26, Try.ntmps26
  go_wp2
  go_ret
  exact ⟨rfl, HB.out _ rfl⟩

/-- A row of edges as ContainsFunc goes through it. -/
def RowE (w : World) (ai : Option Addr) (row : List Int) : Prop :=
  ∀ j, j < row.length → ∃ b' off', ai = some ⟨b', off', none⟩ ∧ w.cell? ⟨b', off' + j * 2, none⟩ = some (.int .i64 (row.getD j 0)) ∧ ∃ act, w.cell? ⟨b', off' + j * 2 + 1, none⟩ = some (.int .i64 act)
theorem RowE.below {w w' : World} {ai : Option Addr} {row : List Int} (h : RowE w ai row) (hb : Below w.heap.size w w') : RowE w' ai row := fun j hj => by
  obtain ⟨b, off, rfl, h1, act, h2⟩ := h j hj
  exact ⟨b, off, rfl, (hb.cell (World.block_lt_of_cell? w _ h1)).trans h1, act, (hb.cell (World.block_lt_of_cell? w _ h2)).trans h2⟩
theorem contains_of {row : List Int} {k : Nat} {t : Int} (hk : k < row.length) (h : row.getD k 0 = t) : row.contains t = true := by
  rw [List.contains_eq_mem]
  refine decide_eq_true ?_
  rw [← h, List.getD_eq_getElem?_getD, List.getElem?_eq_getElem hk]
  exact List.getElem_mem hk
theorem contains_not {row : List Int} {t : Int} (h : ∀ j, j < row.length → row.getD j 0 ≠ t) : row.contains t = false := by
  rw [List.contains_eq_mem]
  refine decide_eq_false fun hm => ?_
  obtain ⟨i, hi, e⟩ := List.mem_iff_getElem.1 hm
  refine h i hi ?_
  rw [List.getD_eq_getElem?_getD, List.getElem?_eq_getElem hi]; exact e

set_option maxHeartbeats 1000000 in
theorem index_any (ai : Option Addr) (m ci : Nat) (row : List Int) (t : Int) (q : Nat) (w : World) (hm : row.length = m) (hr : RowE w ai row) (h : w.cell? ⟨q, 0, none⟩ = some (.int .i64 t)) (hn : m ≤ 1000000000) :
    Calls Try.prog 28 #[.slice ai m ci, .func (.func 26) #[] #[.pointer (some ⟨q, 0, none⟩)]] w fun e w' => (∃ z : Int, e = .returned (.int .i64 z) ∧ decide (0 ≤ z) = row.contains t) ∧ Below w.heap.size w w' := by
  have HM := Lib.hid hm
  have HR := Lib.hid hr
  have HQ := Lib.hid h
  clear hm hr h
  go_enter Try.func28, Try.ntmps28
  go_wp2
  go_loopw [8] (fun x wr => ∃ k : Nat, k ≤ m ∧ x = .int .i64 k ∧ Hid (∀ j, j < k → row.getD j 0 ≠ t) ∧ Hid (Below w.heap.size w wr)) (fun x _ => m - (intOf x).toNat)
  case atStart => exact ⟨0, Nat.zero_le _, rfl, fun j hj => by omega, Below.refl _ _⟩
  case round =>
    obtain ⟨k, hk, rfl, hno, hb⟩ := hrel
    by_cases hlt : k < m
    · have hltI : (k : Int) < (m : Int) := by omega
      obtain ⟨b, off, rfl, c1, act, c2⟩ := (HR.out.below hb.out) k (by rw [HM.out]; exact hlt)
      have HC := Lib.hid (loop1_any (row.getD k 0) act t q wr ((hb.out.cell (World.block_lt_of_cell? w _ HQ.out)).trans HQ.out))
      have HK := Lib.hid (fun e => contains_of (t := t) (k := k) (row := row) (by rw [HM.out]; exact hlt) e)
      have HN : Hid (row.getD k 0 ≠ t → ∀ j, j < k + 1 → row.getD j 0 ≠ t) := fun hne j hj => by
        by_cases e : j = k
        · subst e; exact hne
        · exact hno.out j (by omega)
      generalize row.getD k 0 = x at *
      clear hno
      by_cases hx : x = t
      · have HK2 := Lib.hid (HK.out hx)
        clear HK HN
        subst hx
        have e0 : (x == x) = true := beq_self_eq_true x
        rw [e0] at HC
        clear e0
        go_wp2_with (go_at_call 26; refine HC.out.mono ?_; rintro e w3 ⟨rfl, hb3⟩; have HB3 := Lib.hid (hb.out.trans (hb3.mono hb.out.size)); clear hb3)
        go_ret
        exact ⟨⟨(k : Int), rfl, by rw [HK2.out]; exact decide_eq_true (by omega)⟩, HB3.out⟩
      · have e0 : (x == t) = false := beq_eq_false_iff_ne.2 hx
        rw [e0] at HC
        have HN2 := Lib.hid (HN.out hx)
        clear e0 hx HN HK
        go_wp2_with (go_at_call 26; refine HC.out.mono ?_; rintro e w3 ⟨rfl, hb3⟩; have HB3 := Lib.hid (hb.out.trans (hb3.mono hb.out.size)); clear hb3)
        go_roundw
        case rel => exact ⟨k + 1, by omega, by go_num, HN2, HB3⟩
        case measure => simp [intOf]; omega
    · obtain rfl : m = k := by omega
      go_wp2
      go_ret
      exact ⟨⟨-1, rfl, by rw [contains_not (by rw [HM.out]; exact hno.out)]; rfl⟩, hb.out⟩

theorem contains_any (ai : Option Addr) (m ci : Nat) (row : List Int) (t : Int) (q : Nat) (w : World) (hm : row.length = m) (hr : RowE w ai row) (h : w.cell? ⟨q, 0, none⟩ = some (.int .i64 t)) (hn : m ≤ 1000000000) :
    Calls Try.prog 25 #[.slice ai m ci, .func (.func 26) #[] #[.pointer (some ⟨q, 0, none⟩)]] w fun e w' => e = .returned (.bool (row.contains t)) ∧ Below w.heap.size w w' := by
  have HC := Lib.hid (index_any ai m ci row t q w hm hr h hn)
  clear hm hr h
  go_enter Try.func25, Try.ntmps25
  go_wp2_with (go_at_call 28; refine HC.out.mono ?_; rintro e w' ⟨⟨z, rfl, hz⟩, hb⟩; have HZ := Lib.hid hz; clear hz)
  go_ret
  exact ⟨by rw [← HZ.out]; rfl, hb⟩

/-- A node with an edge to itself. -/
def selfB (E : List (List Int)) (v : Nat) : Bool := (E.getD v []).contains (v : Int)
theorem loops_any (vi vl : Value) (ae : Option Addr) (n ce : Nat) (E : List (List Int)) (v : Nat) (w : World) (hE : E.length = n) (he : EdgesAt w ae E) (hv : v < n) (hrow : ∀ i, i < E.length → (E.getD i []).length ≤ 1000000000) :
    Calls Try.prog 21 #[.agg #[vi, .slice ae n ce, vl], .int .i64 (v : Int)] w fun e w' => e = .returned (.bool (selfB E v)) ∧ Below w.heap.size w w' := by
  have hvI : (v : Int) < (n : Int) := by omega
  have HB2 : Hid (∀ W, W = (w.alloc (.cells #[vi, .slice ae n ce, vl] 26)).alloc (.cells #[.int .i64 (v : Int)] 3) → Below w.heap.size w W) := by
    rintro W rfl; exact ((Below.refl _ w).alloc (Nat.le_refl _) _).alloc (by simp) _
  have HQ : Hid (∀ W, W = (w.alloc (.cells #[vi, .slice ae n ce, vl] 26)).alloc (.cells #[.int .i64 (v : Int)] 3) → W.cell? ⟨w.heap.size + 1, 0, none⟩ = some (.int .i64 (v : Int))) := by
    rintro W rfl; exact World.cell?_alloc_at (w := w.alloc (.cells #[vi, .slice ae n ce, vl] 26)) _ 3 _ 0 (by simp)
  have HG : Hid (∀ W, W = (w.alloc (.cells #[vi, .slice ae n ce, vl] 26)).alloc (.cells #[.int .i64 (v : Int)] 3) → W.cell? ⟨w.heap.size, 1, none⟩ = some (.slice ae n ce)) := by
    rintro W rfl
    rw [World.cell?_alloc_past _ _ _ (by simp)]
    exact World.cell?_alloc_at (w := w) _ 26 w.heap.size 1 rfl
  have HED : Hid (∀ W, Below w.heap.size w W → EdgesAt W ae E) := fun W h => he.below h
  have HRO := Lib.hid hrow
  have HE := Lib.hid hE
  clear he hrow hE
  go_enter Try.func21, Try.ntmps21
  go_upto_region 1 with (fail)
  have hb2 := HB2.out _ rfl
  have cq := HQ.out _ rfl
  have cg := HG.out _ rfl
  clear HB2 HQ HG
  generalize (w.alloc (.cells #[vi, .slice ae n ce, vl] 26)).alloc (.cells #[.int .i64 (v : Int)] 3) = w2 at *
  generalize w.heap.size + 1 = q at *
  obtain ⟨b, off, ai, ci, rfl, c1, hr⟩ := (HED.out _ hb2).at v (by rw [HE.out]; exact hv)
  have HC := Lib.hid (contains_any ai _ ci (E.getD v []) (v : Int) q w2 rfl hr cq (HRO.out v (by rw [HE.out]; exact hv)))
  have HB := Lib.hid hb2
  have HS : Hid (selfB E v = (E.getD v []).contains (v : Int)) := rfl
  clear hr hb2 HED HRO
  generalize (E.getD v []).contains (v : Int) = sb at *
  generalize (E.getD v []).length = m at *
  go_wp2_with (go_at_call 25; refine HC.out.mono ?_; rintro e w' ⟨rfl, hb⟩; have HBB := Lib.hid hb; clear hb)
  go_ret
  exact ⟨by rw [HS.out]; rfl, HB.out.trans (HBB.out.mono HB.out.size)⟩
end Go.Proofs.Ytnkfmhhfeaohbaa
