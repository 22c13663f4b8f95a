/- Walks of Right, the program's and the reference's. -/
import Derived.Test.YtcbeeapcbnnmpaaK
namespace Go.Proofs.Ytcbeeapcbnnmpaa
open Go.RowKit Go.Own

/-- Are these numbers right as cells of a channel? -/
def rightB (sc cp lo hi : Int) (szs zs : List Int) : Bool :=
  bOk sc szs && (isC zs && (((zs.length : Int) - 1 == cp) && !(items zs).any (outB (bLo sc lo szs) (bHi sc hi szs))))

/-- The box of a channel, and the cells that the code reads of it. -/
theorem box_cells (w : World) (nm : ByteArray) (sc cp lo hi : Int) (ls : Bool) (w1 : World) (hb : Below (w.alloc (.cells #[.string nm, .int .i64 sc, .int .i64 cp, .int .i64 lo, .int .i64 hi, .bool ls] 36)).heap.size (w.alloc (.cells #[.string nm, .int .i64 sc, .int .i64 cp, .int .i64 lo, .int .i64 hi, .bool ls] 36)) w1) :
    w1.cell? ⟨w.heap.size, 0, none⟩ = some (.string nm) ∧ w1.cell? ⟨w.heap.size, 1, none⟩ = some (.int .i64 sc) ∧ w1.cell? ⟨w.heap.size, 2, none⟩ = some (.int .i64 cp) ∧ w1.cell? ⟨w.heap.size, 3, none⟩ = some (.int .i64 lo) ∧ w1.cell? ⟨w.heap.size, 4, none⟩ = some (.int .i64 hi) ∧ w1.cell? ⟨w.heap.size, 5, none⟩ = some (.bool ls) := by
  refine ⟨?_, ?_, ?_, ?_, ?_, ?_⟩
  all_goals
    rw [hb.cell (by simp)]
    simp

set_option maxRecDepth 100000 in
set_option maxHeartbeats 1000000 in
theorem right_any (a : Option Addr) (n cap : Nat) (zs : List Int) (nm : ByteArray) (sc cp lo hi : Int) (ls : Bool) (ad : Option Addr) (m c : Nat) (szs : List Int) (w : World)
    (hl : n ≤ cap) (hcm : cap ≤ 9223372036854775807) (hn : n * 8 ≤ 140737488351232) (hr : RowAt .i64 w a n zs) (hsc : -9223372036854775808 ≤ sc ∧ sc ≤ 9223372036854775807) (hm : m ≤ 9223372036854775807) (hs : RowS w ad m szs) :
    Calls Try.prog 18 #[.slice a n cap, chanV nm sc cp lo hi ls, .slice ad m c] w fun e w' => e = .returned (.bool (rightB sc cp lo hi szs zs)) ∧ Below w.heap.size w w' := by
  have HR := Lib.hid hr
  have HS := Lib.hid hs
  have hlen : Hid (zs.length = n) := hr.1
  clear hr hs
  go_enter Try.func18, Try.ntmps18
  go_wp2_with fail
  refine (bounds_any nm sc cp lo hi ls ad m c szs _ hsc hm (HS.out.below (below_alloc (Below.refl _ _) _))).mono ?_
  rintro e w1 ⟨rfl, hb1⟩
  obtain ⟨q0, q1, q2, q3, q4, q5⟩ := box_cells w nm sc cp lo hi ls w1 hb1
  have hsz1 : w.heap.size < w1.heap.size := by have := hb1.size; simp at this; omega
  have HB1 := Lib.hid (below_then (below_alloc (Below.refl _ w) _) hb1)
  clear hb1 q0 q1 q3 q4 q5
  have H : Hid (rightB sc cp lo hi szs zs = (bOk sc szs && (isC zs && (((zs.length : Int) - 1 == cp) && !(items zs).any (outB (bLo sc lo szs) (bHi sc hi szs)))))) := rfl
  generalize bLo sc lo szs = blo at *
  generalize bHi sc hi szs = bhi at *
  cases hbok : bOk sc szs with
  | false =>
    rw [hbok, Bool.false_and] at H
    go_wp2
    go_ret
    exact ⟨by rw [H.out]; rfl, below_alloc (below_alloc HB1.out _) _⟩
  | true =>
    rw [hbok, Bool.true_and] at H
    go_wp2_with fail
    refine (is_any a n cap zs _ hl hcm (HR.out.below (below_alloc (below_alloc HB1.out _) _))).mono ?_
    rintro e w' ⟨rfl, rfl⟩
    cases hisc : isC zs with
    | false =>
      rw [hisc, Bool.false_and] at H
      go_wp2
      go_ret
      exact ⟨by rw [H.out]; rfl, below_alloc (below_alloc HB1.out _) _⟩
    | true =>
      rw [hisc, Bool.true_and, hlen.out] at H
      by_cases hcp : (n : Int) - 1 = cp
      · have hne : ((n : Int) - 1 != cp) = false := by simp [hcp]
        rw [show ((n : Int) - 1 == cp) = true from beq_iff_eq.2 hcp, Bool.true_and] at H
        clear hcp hisc
        have HBX := Lib.hid (below_alloc (below_alloc HB1.out (.cells #[.int .i64 blo] 3)) (.cells #[.int .i64 bhi] 3))
        go_wp2_with fail
        refine (items_any a n cap zs _ hl hcm hn (HR.out.below HBX.out)).mono ?_
        rintro e w3 ⟨v3, rfl, hm3⟩
        obtain ⟨a3, c3, rfl, _⟩ := made_row hm3
        have hc3 := made_cap hm3
        unfold maxLen at hc3
        have HM3 := Lib.hid hm3
        have p1 : w3.cell? ⟨w1.heap.size, 0, none⟩ = some (.int .i64 blo) := by
          rw [(made_below hm3).cell (by simp; omega)]; simp
        have p2 : w3.cell? ⟨w1.heap.size + 1, 0, none⟩ = some (.int .i64 bhi) := by
          rw [(made_below hm3).cell (by simp)]; simp
        have HB3 := Lib.hid (below_then HBX.out (made_below hm3))
        clear hm3
        have HCT := Lib.hid (contains26_any a3 _ c3 (items zs) blo bhi _ _ w3 p1 p2 (by omega) (made_rowAt HM3.out))
        generalize (items zs).any (outB blo bhi) = ans at *
        go_wp2_with fail
        refine HCT.out.mono ?_
        rintro e w' ⟨rfl, rfl⟩
        go_wp2
        go_ret
        exact ⟨by rw [H.out]; rfl, HB3.out⟩
      · have hne : ((n : Int) - 1 != cp) = true := by simp [hcp]
        rw [show ((n : Int) - 1 == cp) = false from beq_eq_false_iff_ne.2 hcp, Bool.false_and] at H
        clear hcp hisc
        go_wp2
        go_ret
        exact ⟨by rw [H.out]; rfl, below_alloc (below_alloc HB1.out _) _⟩

theorem rightB_no1 {sc cp lo hi : Int} {szs zs : List Int} (h : isC zs = false) : rightB sc cp lo hi szs zs = false := by simp [rightB, h]
theorem rightB_no2 {sc cp lo hi : Int} {szs zs : List Int} (h : (zs.length : Int) - 1 ≠ cp) : rightB sc cp lo hi szs zs = false := by simp [rightB, h]
theorem rightB_no3 {sc cp lo hi : Int} {szs zs : List Int} (h : sc < 0 ∨ (szs.length : Int) < sc) : rightB sc cp lo hi szs zs = false := by
  have : bOk sc szs = false := decide_eq_false (by omega)
  simp [rightB, this]
theorem rightB_yes {sc cp lo hi : Int} {szs zs : List Int} (h1 : isC zs = true) (h2 : (zs.length : Int) - 1 = cp) (h3 : 0 ≤ sc) (h4 : sc ≤ szs.length) : rightB sc cp lo hi szs zs = !(items zs).any (outB (bLo sc lo szs) (bHi sc hi szs)) := by
  have : bOk sc szs = true := decide_eq_true ⟨h3, h4⟩
  simp [rightB, this, h1, h2]

theorem any_out {p : Int → Bool} {l : List Int} {j : Nat} (hj : j < l.length) (h : p (l.getD j 0) = true) : l.any p = true := by
  rw [List.any_eq_true]
  exact ⟨l[j], List.getElem_mem hj, by simpa [List.getD, hj] using h⟩
theorem any_none {p : Int → Bool} {l : List Int} (h : ∀ j, j < l.length → p (l.getD j 0) = false) : l.any p = false := by
  rw [List.any_eq_false]
  intro x hx
  obtain ⟨j, hj, rfl⟩ := List.getElem_of_mem hx
  have := h j hj
  simpa [List.getD, hj] using this

set_option maxRecDepth 100000 in
set_option maxHeartbeats 2000000 in
theorem refRight_any (a : Option Addr) (n cap : Nat) (zs : List Int) (nm : ByteArray) (sc cp lo hi : Int) (ls : Bool) (ad : Option Addr) (m c : Nat) (szs : List Int) (w : World)
    (hl : n ≤ cap) (hcm : cap ≤ 9223372036854775807) (hn : n * 8 ≤ 140737488351232) (hr : RowAt .i64 w a n zs) (hsc : -9223372036854775808 ≤ sc ∧ sc ≤ 9223372036854775807) (hm : m ≤ 9223372036854775807) (hs : RowS w ad m szs) :
    Calls Try.prog 19 #[.slice a n cap, chanV nm sc cp lo hi ls, .slice ad m c] w fun e w' => e = .returned (.bool (rightB sc cp lo hi szs zs)) ∧ Below w.heap.size w w' := by
  have HR := Lib.hid hr
  have HS := Lib.hid hs
  have hlen : Hid (zs.length = n) := hr.1
  have hlen2 : Hid (szs.length = m) := hs.1
  obtain ⟨s0, s1⟩ := hsc
  clear hr hs
  cases hisc : isC zs with
  | false =>
    have H : Hid (rightB sc cp lo hi szs zs = false) := rightB_no1 hisc
    go_enter Try.func19, Try.ntmps19
    go_wp2_with fail
    refine (refIs_any a n cap zs _ hl hcm (HR.out.below (below_alloc (Below.refl _ _) _))).mono ?_
    rintro e w' ⟨rfl, rfl⟩
    rw [hisc]
    go_wp2
    go_ret
    exact ⟨by rw [H.out]; rfl, below_alloc (Below.refl _ _) _⟩
  | true =>
    by_cases hcp : (n : Int) - 1 = cp
    · have hne : (cp != (n : Int) - 1) = false := by simp [hcp]
      by_cases hneg : sc < 0
      · have H : Hid (rightB sc cp lo hi szs zs = false) := rightB_no3 (.inl hneg)
        have d1 : decide (sc < 0) = true := decide_eq_true hneg
        clear hcp
        go_enter Try.func19, Try.ntmps19
        go_wp2_with fail
        refine (refIs_any a n cap zs _ hl hcm (HR.out.below (below_alloc (Below.refl _ _) _))).mono ?_
        rintro e w' ⟨rfl, rfl⟩
        rw [hisc]
        go_wp2
        go_ret
        exact ⟨by rw [H.out]; rfl, below_alloc (Below.refl _ _) _⟩
      · have d1 : decide (sc < 0) = false := decide_eq_false hneg
        by_cases hbig : (m : Int) < sc
        · have H : Hid (rightB sc cp lo hi szs zs = false) := rightB_no3 (.inr (by rw [hlen2.out]; exact hbig))
          have d2 : decide ((m : Int) < sc) = true := decide_eq_true hbig
          clear hcp
          go_enter Try.func19, Try.ntmps19
          go_wp2_with fail
          refine (refIs_any a n cap zs _ hl hcm (HR.out.below (below_alloc (Below.refl _ _) _))).mono ?_
          rintro e w' ⟨rfl, rfl⟩
          rw [hisc]
          go_wp2
          go_ret
          exact ⟨by rw [H.out]; rfl, below_alloc (Below.refl _ _) _⟩
        · have d2 : decide ((m : Int) < sc) = false := decide_eq_false hbig
          have H := Lib.hid (rightB_yes (cp := cp) (lo := lo) (hi := hi) (szs := szs) hisc (by rw [hlen.out]; exact hcp) (by omega : 0 ≤ sc) (by have := hlen2.out; omega))
          clear hcp
          by_cases h0 : sc = 0
          · subst h0
            have HL : Hid (bLo 0 lo szs = lo) := rfl
            have HH : Hid (bHi 0 hi szs = hi) := rfl
            go_enter Try.func19, Try.ntmps19
            go_wp2_with fail
            refine (refIs_any a n cap zs _ hl hcm (HR.out.below (below_alloc (Below.refl _ _) _))).mono ?_
            rintro e w' ⟨rfl, rfl⟩
            rw [hisc]
            go_wp2_with fail
            refine (refItems_any a n cap zs _ hl hcm hn (HR.out.below (below_alloc (Below.refl _ _) _))).mono ?_
            rintro e w3 ⟨v3, rfl, hm3⟩
            obtain ⟨a3, c3, rfl, _⟩ := made_row hm3
            have hc3 := made_cap hm3
            unfold maxLen at hc3
            have HB3 := Lib.hid (below_then (below_alloc (Below.refl _ w) _) (made_below hm3))
            have HR3 := Lib.hid (made_rowAt hm3)
            clear hm3
            have HA := Lib.hid (fun (j : Nat) (hj : j < (items zs).length) (hx : outB lo hi ((items zs).getD j 0) = true) => (show (items zs).any (outB lo hi) = true from any_out hj hx))
            have HNA := Lib.hid (fun (h : ∀ j, j < (items zs).length → outB lo hi ((items zs).getD j 0) = false) => (show (items zs).any (outB lo hi) = false from any_none h))
            rw [HL.out, HH.out] at H
            generalize (items zs).any (outB lo hi) = ans at *
            generalize items zs = its at *
            generalize hN : its.length = N at *
            have HN := Lib.hid hN
            clear hN
            go_wp2
            go_loop [10] (fun i => ∃ k : Nat, k ≤ N ∧ i = .int .i64 k ∧ Hid (∀ j, j < k → outB lo hi (its.getD j 0) = false)) (fun i => N - (intOf i).toNat)
            case atStart => exact ⟨0, Nat.zero_le _, rfl, fun j hj => by omega⟩
            case round =>
              obtain ⟨k, hk, rfl, hno⟩ := hrel
              by_cases hlt : k < N
              · obtain ⟨_, hz | ⟨b, off, rfl, hc⟩⟩ := HR3.out
                · omega
                have hck := hc k hlt
                have hltI : (k : Int) < (N : Int) := by omega
                have HOA := Lib.hid (fun hx => HA.out k hlt hx)
                have HGD : Hid (∀ h : outB lo hi (its.getD k 0) = false, ∀ j, j < k + 1 → outB lo hi (its.getD j 0) = false) := fun h j hj => by
                  rcases Nat.lt_succ_iff_lt_or_eq.1 hj with h' | rfl
                  · exact hno.out j h'
                  · exact h
                clear hc HA HNA
                generalize its.getD k 0 = x at *
                by_cases x1 : x < lo
                · have d3 : decide (x < lo) = true := decide_eq_true x1
                  have HX : Hid (ans = true) := HOA.out (by unfold outB fits; simp; omega)
                  go_wp2
                  go_ret
                  exact ⟨by rw [H.out, HX.out]; rfl, HB3.out⟩
                · have d3 : decide (x < lo) = false := decide_eq_false x1
                  by_cases x2 : hi < x
                  · have d4 : decide (hi < x) = true := decide_eq_true x2
                    have HX : Hid (ans = true) := HOA.out (by unfold outB fits; simp; omega)
                    go_wp2
                    go_ret
                    exact ⟨by rw [H.out, HX.out]; rfl, HB3.out⟩
                  · have d4 : decide (hi < x) = false := decide_eq_false x2
                    have HG := Lib.hid (HGD.out (by unfold outB fits; simp; omega))
                    go_wp2
                    go_round
                    case rel => exact ⟨k + 1, by omega, by go_num, HG⟩
                    case measure => simp [intOf]; omega
              · obtain rfl : k = N := by omega
                have HX : Hid (ans = false) := HNA.out hno.out
                go_wp2
                go_ret
                exact ⟨by rw [H.out, HX.out]; rfl, HB3.out⟩
          · obtain ⟨i, rfl⟩ : ∃ i : Nat, sc = (i : Int) + 1 := ⟨(sc - 1).toNat, by omega⟩
            have HL : Hid (bLo ((i : Int) + 1) lo szs = 0) := if_neg h0
            have HH : Hid (bHi ((i : Int) + 1) hi szs = szs.getD i 0) := by
              show _ = _
              unfold bHi
              rw [if_neg h0, if_neg (by have := hlen2.out; omega), show ((i : Int) + 1 - 1).toNat = i by omega]
            obtain ⟨_, hz | ⟨bs, os, rfl, hcs⟩⟩ := HS.out
            · omega
            have hck := hcs i (by omega)
            have hckA : ∀ o, (w.alloc o).cell? ⟨bs, os + i * 2 + 1, none⟩ = some (.int .i64 (szs.getD i 0)) := fun o => by
              rw [World.cell?_alloc_lt _ _ _ (World.block_lt_of_cell? w _ hck), hck]
            have hiI : (i : Int) < (m : Int) := by omega
            have hgt : decide ((0 : Int) < (i : Int) + 1) = true := decide_eq_true (by omega)
            clear hcs hck
            generalize szs.getD i 0 = shi at *
            go_enter Try.func19, Try.ntmps19
            go_wp2_with fail
            refine (refIs_any a n cap zs _ hl hcm (HR.out.below (below_alloc (Below.refl _ _) _))).mono ?_
            rintro e w' ⟨rfl, rfl⟩
            rw [hisc]
            go_wp2_with fail
            refine (refItems_any a n cap zs _ hl hcm hn (HR.out.below (below_alloc (Below.refl _ _) _))).mono ?_
            rintro e w3 ⟨v3, rfl, hm3⟩
            obtain ⟨a3, c3, rfl, _⟩ := made_row hm3
            have hc3 := made_cap hm3
            unfold maxLen at hc3
            have HB3 := Lib.hid (below_then (below_alloc (Below.refl _ w) _) (made_below hm3))
            have HR3 := Lib.hid (made_rowAt hm3)
            clear hm3
            have HA := Lib.hid (fun (j : Nat) (hj : j < (items zs).length) (hx : outB 0 shi ((items zs).getD j 0) = true) => (show (items zs).any (outB 0 shi) = true from any_out hj hx))
            have HNA := Lib.hid (fun (h : ∀ j, j < (items zs).length → outB 0 shi ((items zs).getD j 0) = false) => (show (items zs).any (outB 0 shi) = false from any_none h))
            rw [HL.out, HH.out] at H
            generalize (items zs).any (outB 0 shi) = ans at *
            generalize items zs = its at *
            generalize hN : its.length = N at *
            have HN := Lib.hid hN
            clear hN
            go_wp2
            go_loop [10] (fun i => ∃ k : Nat, k ≤ N ∧ i = .int .i64 k ∧ Hid (∀ j, j < k → outB 0 shi (its.getD j 0) = false)) (fun i => N - (intOf i).toNat)
            case atStart => exact ⟨0, Nat.zero_le _, rfl, fun j hj => by omega⟩
            case round =>
              obtain ⟨k, hk, rfl, hno⟩ := hrel
              by_cases hlt : k < N
              · obtain ⟨_, hz | ⟨b, off, rfl, hc⟩⟩ := HR3.out
                · omega
                have hck := hc k hlt
                have hltI : (k : Int) < (N : Int) := by omega
                have HOA := Lib.hid (fun hx => HA.out k hlt hx)
                have HGD : Hid (∀ h : outB 0 shi (its.getD k 0) = false, ∀ j, j < k + 1 → outB 0 shi (its.getD j 0) = false) := fun h j hj => by
                  rcases Nat.lt_succ_iff_lt_or_eq.1 hj with h' | rfl
                  · exact hno.out j h'
                  · exact h
                clear hc HA HNA
                generalize its.getD k 0 = x at *
                by_cases x1 : x < 0
                · have d3 : decide (x < 0) = true := decide_eq_true x1
                  have HX : Hid (ans = true) := HOA.out (by unfold outB fits; simp; omega)
                  go_wp2
                  go_ret
                  exact ⟨by rw [H.out, HX.out]; rfl, HB3.out⟩
                · have d3 : decide (x < 0) = false := decide_eq_false x1
                  by_cases x2 : shi < x
                  · have d4 : decide (shi < x) = true := decide_eq_true x2
                    have HX : Hid (ans = true) := HOA.out (by unfold outB fits; simp; omega)
                    go_wp2
                    go_ret
                    exact ⟨by rw [H.out, HX.out]; rfl, HB3.out⟩
                  · have d4 : decide (shi < x) = false := decide_eq_false x2
                    have HG := Lib.hid (HGD.out (by unfold outB fits; simp; omega))
                    go_wp2
                    go_round
                    case rel => exact ⟨k + 1, by omega, by go_num, HG⟩
                    case measure => simp [intOf]; omega
              · obtain rfl : k = N := by omega
                have HX : Hid (ans = false) := HNA.out hno.out
                go_wp2
                go_ret
                exact ⟨by rw [H.out, HX.out]; rfl, HB3.out⟩
    · have hne : (cp != (n : Int) - 1) = true := by rw [bne_iff_ne]; omega
      have H : Hid (rightB sc cp lo hi szs zs = false) := rightB_no2 (by rw [hlen.out]; exact hcp)
      clear hcp
      go_enter Try.func19, Try.ntmps19
      go_wp2_with fail
      refine (refIs_any a n cap zs _ hl hcm (HR.out.below (below_alloc (Below.refl _ _) _))).mono ?_
      rintro e w' ⟨rfl, rfl⟩
      rw [hisc]
      go_wp2
      go_ret
      exact ⟨by rw [H.out]; rfl, below_alloc (Below.refl _ _) _⟩
end Go.Proofs.Ytcbeeapcbnnmpaa
