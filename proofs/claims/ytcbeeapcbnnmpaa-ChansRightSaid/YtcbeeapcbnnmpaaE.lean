/- Walks of Put and Take, the program's and the reference's. -/
import Derived.Test.YtcbeeapcbnnmpaaD
import Derived.Deep.RegionHeld3
namespace Go.Proofs.Ytcbeeapcbnnmpaa
open Go.RowKit Go.Own

/-- Can a value be put behind all? -/
def putB (zs : List Int) : Bool := isC zs && (zs.headD 0 != (zs.length : Int) - 1)
def putL (zs : List Int) (v : Int) : List Int := if putB zs then cellsOf zs.length (items zs ++ [v]) else []

theorem putB_no {zs : List Int} (h : isC zs = false) : putB zs = false := by simp [putB, h]
theorem putB_full {m : Nat} {r : List Int} (h : (m : Int) = (r.length : Int)) : putB ((m : Int) :: r) = false := by simp [putB, h]
theorem putB_yes {m : Nat} {r : List Int} (h : isC ((m : Int) :: r) = true) (h2 : (m : Int) ≠ (r.length : Int)) : putB ((m : Int) :: r) = true := by simp [putB, h, h2]
theorem putL_no {zs : List Int} {v : Int} (h : putB zs = false) : putL zs v = [] := by simp [putL, h]
theorem putL_yes {zs : List Int} {v : Int} (h : putB zs = true) : putL zs v = cellsOf zs.length (items zs ++ [v]) := by simp [putL, h]

/-- What Put answers. -/
def PutDone (zs : List Int) (x : Int) (w : World) (e : Ending) (w' : World) : Prop := ∃ v, e = .returned (.tuple #[v, .bool (putB zs)]) ∧ MadeInts .i64 3 w w' v (putL zs x)

set_option maxHeartbeats 1000000 in
theorem put_any (a : Option Addr) (n cap : Nat) (zs : List Int) (x : Int) (w : World) (hl : n ≤ cap) (hcm : cap ≤ 9223372036854775807) (hn : n * 8 ≤ 140737488351232) (hr : RowAt .i64 w a n zs) :
    Calls Try.prog 8 #[.slice a n cap, .int .i64 x] w (PutDone zs x w) := by
  obtain ⟨i0, hi0, hz0, hz1, hz2⟩ := info_parts Try.info3
  have HI := Lib.hid (is_any a n cap zs w hl (by omega) hr)
  have HIT := Lib.hid (items_any a n cap zs w hl hcm hn hr)
  cases hc : isC zs with
  | false =>
    rw [hc] at HI
    have HB : Hid (putB zs = false) := putB_no hc
    have HL : Hid (putL zs x = []) := putL_no HB.out
    clear hc hr
    go_enter Try.func8, Try.ntmps8
    go_wp2_with fail
    refine HI.out.mono ?_
    rintro e w' ⟨rfl, rfl⟩
    go_wp2
    go_ret2
    exact ⟨_, by rw [HB.out]; rfl, by rw [HL.out]; exact made_nil _ _ _⟩
  | true =>
    obtain ⟨m, r, rfl, hm, _⟩ := isC_form hc
    rw [hc] at HI
    have hlen : Hid (r.length + 1 = n) := hr.1
    have hc0 : w.cell? (a.getD ⟨0, 0, none⟩) = some (.int .i64 m) := by
      rcases hr.2 with h0 | ⟨b, off, rfl, hcell⟩
      · have := hlen.out; omega
      · exact hcell 0 (by have := hlen.out; omega)
    obtain ⟨b, off, rfl⟩ : ∃ b off, a = some ⟨b, off, none⟩ := by
      rcases hr.2 with h0 | ⟨b, off, rfl, _⟩
      · have := hlen.out; omega
      · exact ⟨b, off, rfl⟩
    have hc0' : w.cell? ⟨b, off, none⟩ = some (.int .i64 m) := hc0
    clear hc0
    have hpos : (0 : Int) < (n : Int) := by have := hlen.out; omega
    by_cases hfull : m + 1 = n
    · have HB : Hid (putB ((m : Int) :: r) = false) := putB_full (by have := hlen.out; omega)
      have HL : Hid (putL ((m : Int) :: r) x = []) := putL_no HB.out
      have he : ((m : Int) == (n : Int) - 1) = true := beq_iff_eq.2 (by omega)
      clear hc hr
      go_enter Try.func8, Try.ntmps8
      go_wp2_with fail
      refine HI.out.mono ?_
      rintro e w' ⟨rfl, rfl⟩
      go_wp2
      go_ret2
      exact ⟨_, by rw [HB.out]; rfl, by rw [HL.out]; exact made_nil _ _ _⟩
    · have HB : Hid (putB ((m : Int) :: r) = true) := putB_yes hc (by have := hlen.out; omega)
      have HL : Hid (putL ((m : Int) :: r) x = cellsOf n (items ((m : Int) :: r) ++ [x])) := by
        have := putL_yes (v := x) HB.out
        rw [show ((m : Int) :: r).length = n from hlen.out] at this
        exact this
      have he : ((m : Int) == (n : Int) - 1) = false := beq_eq_false_iff_ne.2 (by have := hlen.out; omega)
      have hil : Hid ((items ((m : Int) :: r)).length = m) := by show _ = _; rw [items_yes hc]; simp; omega
      have hm2 : m + 2 ≤ n := by have := hlen.out; omega
      clear hc hr hm hfull
      generalize items ((m : Int) :: r) = its at *
      go_enter Try.func8, Try.ntmps8
      go_wp2_with (go_at_call 20; refine HI.out.mono ?_; rintro e w' ⟨rfl, rfl⟩)
      refine HIT.out.mono ?_
      rintro e w1 ⟨v1, rfl, hm1⟩
      have hown := hm1.1
      rw [hil.out] at hown
      have HM1 := Lib.hid hm1
      clear hm1
      go_wp2_with (at_builtin; refine wpList_append_one_pos rfl (.tmp 21) (.tmp 23) 22 rfl 3 i0 (.int .i64 0) 8 Try.underlying22 hi0 hz0 hz1 hz2 rfl (by decide) _ _ _ rfl hown _ rfl rfl (by omega) ?_; intro g1 c1 w3 hs hkp hmv; have HN := Lib.hid (made_step_pos HM1.out hil.out hs hkp hmv); clear hs hkp hmv hown)
      refine (cells_any _ _ _ _ _ _ (by omega) (by omega) (made_rowAt HN.out)).mono ?_
      rintro e w4 ⟨v4, rfl, hm4⟩
      have HF := Lib.hid (made_from (made_below HN.out) hm4)
      clear hm4
      go_wp2
      go_ret2
      exact ⟨_, by rw [HB.out]; rfl, by rw [HL.out]; exact HF.out⟩

set_option maxHeartbeats 1000000 in
theorem refPut_any (a : Option Addr) (n cap : Nat) (zs : List Int) (x : Int) (w : World) (hl : n ≤ cap) (hcm : cap ≤ 9223372036854775807) (hn : n * 8 ≤ 140737488351232) (hr : RowAt .i64 w a n zs) :
    Calls Try.prog 9 #[.slice a n cap, .int .i64 x] w (PutDone zs x w) := by
  obtain ⟨i0, hi0, hz0, hz1, hz2⟩ := info_parts Try.info3
  have HI := Lib.hid (refIs_any a n cap zs w hl (by omega) hr)
  have HIT := Lib.hid (refItems_any a n cap zs w hl hcm hn hr)
  cases hc : isC zs with
  | false =>
    rw [hc] at HI
    have HB : Hid (putB zs = false) := putB_no hc
    have HL : Hid (putL zs x = []) := putL_no HB.out
    clear hc hr
    go_enter Try.func9, Try.ntmps9
    go_wp2_with fail
    refine HI.out.mono ?_
    rintro e w' ⟨rfl, rfl⟩
    go_wp2
    go_ret2
    exact ⟨_, by rw [HB.out]; rfl, by rw [HL.out]; exact made_nil _ _ _⟩
  | true =>
    obtain ⟨m, r, rfl, hm, _⟩ := isC_form hc
    rw [hc] at HI
    have hlen : Hid (r.length + 1 = n) := hr.1
    obtain ⟨b, off, rfl, hc0⟩ : ∃ b off, a = some ⟨b, off, none⟩ ∧ w.cell? ⟨b, off, none⟩ = some (.int .i64 m) := by
      rcases hr.2 with h0 | ⟨b, off, rfl, hcell⟩
      · have := hlen.out; omega
      · exact ⟨b, off, rfl, hcell 0 (by have := hlen.out; omega)⟩
    have hpos : (0 : Int) < (n : Int) := by have := hlen.out; omega
    by_cases hfull : m + 1 = n
    · have HB : Hid (putB ((m : Int) :: r) = false) := putB_full (by have := hlen.out; omega)
      have HL : Hid (putL ((m : Int) :: r) x = []) := putL_no HB.out
      have he : ((m : Int) == (n : Int) - 1) = true := beq_iff_eq.2 (by omega)
      clear hc hr
      go_enter Try.func9, Try.ntmps9
      go_wp2_with fail
      refine HI.out.mono ?_
      rintro e w' ⟨rfl, rfl⟩
      go_wp2
      go_ret2
      exact ⟨_, by rw [HB.out]; rfl, by rw [HL.out]; exact made_nil _ _ _⟩
    · have HB : Hid (putB ((m : Int) :: r) = true) := putB_yes hc (by have := hlen.out; omega)
      have HL : Hid (putL ((m : Int) :: r) x = cellsOf n (items ((m : Int) :: r) ++ [x])) := by
        have := putL_yes (v := x) HB.out
        rw [show ((m : Int) :: r).length = n from hlen.out] at this
        exact this
      have he : ((m : Int) == (n : Int) - 1) = false := beq_eq_false_iff_ne.2 (by have := hlen.out; omega)
      have hil : Hid ((items ((m : Int) :: r)).length = m) := by show _ = _; rw [items_yes hc]; simp; omega
      have hm2 : m + 2 ≤ n := by have := hlen.out; omega
      clear hc hr hm hfull
      generalize items ((m : Int) :: r) = its at *
      go_enter Try.func9, Try.ntmps9
      go_wp2_with (go_at_call 22; refine HI.out.mono ?_; rintro e w' ⟨rfl, rfl⟩)
      refine HIT.out.mono ?_
      rintro e w1 ⟨v1, rfl, hm1⟩
      have hown := hm1.1
      rw [hil.out] at hown
      have HM1 := Lib.hid hm1
      clear hm1
      go_wp2_with (at_builtin; refine wpList_append_one_pos rfl (.tmp 21) (.tmp 23) 22 rfl 3 i0 (.int .i64 0) 8 Try.underlying22 hi0 hz0 hz1 hz2 rfl (by decide) _ _ _ rfl hown _ rfl rfl (by omega) ?_; intro g1 c1 w3 hs hkp hmv; have HN := Lib.hid (made_step_pos HM1.out hil.out hs hkp hmv); clear hs hkp hmv hown)
      refine (refCells_any _ _ _ _ _ _ (by omega) (by omega) (made_rowAt HN.out)).mono ?_
      rintro e w4 ⟨v4, rfl, hm4⟩
      have HF := Lib.hid (made_from (made_below HN.out) hm4)
      clear hm4
      go_wp2
      go_ret2
      exact ⟨_, by rw [HB.out]; rfl, by rw [HL.out]; exact HF.out⟩

/-- What Take answers. -/
def takeL (zs : List Int) : List Int := if items zs = [] then [] else cellsOf zs.length (items zs).tail
def takeX (zs : List Int) : Int := (items zs).headD 0
def takeB (zs : List Int) : Bool := !(items zs).isEmpty
def TakeDone (zs : List Int) (w : World) (e : Ending) (w' : World) : Prop := ∃ v, e = .returned (.tuple #[v, .int .i64 (takeX zs), .bool (takeB zs)]) ∧ MadeInts .i64 3 w w' v (takeL zs)

theorem items_len_lt (zs : List Int) (h : items zs ≠ []) : (items zs).length + 1 ≤ zs.length := by
  unfold items at h ⊢
  split
  · match zs with
    | [] => simp_all
    | c :: r => simp; omega
  · simp_all

/-- The condition under which Take's last statement is walked: the first value's cell, and that nothing old has turned. -/
theorem held_start {w : World} {g : Nat} {x : Int} (hc : w.cell? ⟨g, 0, none⟩ = some (.int .i64 x)) : w.drew.cell? ⟨g, 0, none⟩ = some (.int .i64 x) ∧ Hid (Below w.heap.size w w.drew) := ⟨hc, (Below.refl _ _).drew⟩
theorem held_step {w wc w' : World} {g : Nat} {x : Int} {v : Value} {l : List Int} (hc : w.cell? ⟨g, 0, none⟩ = some (.int .i64 x)) (hb : Hid (Below w.heap.size w wc)) (hm : Hid (MadeInts .i64 3 wc w' v l)) :
    w'.cell? ⟨g, 0, none⟩ = some (.int .i64 x) ∧ Hid (Below w.heap.size w w') := by
  have hb' := hb.out.trans (hm.out.2.1.mono hb.out.size)
  exact ⟨(hb'.cell (World.block_lt_of_cell? w _ hc)).trans hc, hb'⟩

set_option maxHeartbeats 1000000 in
theorem take_any (a : Option Addr) (n cap : Nat) (zs : List Int) (w : World) (hl : n ≤ cap) (hcm : cap ≤ 9223372036854775807) (hn : n * 8 ≤ 140737488351232) (hr : RowAt .i64 w a n zs) :
    Calls Try.prog 10 #[.slice a n cap] w (TakeDone zs w) := by
  have HIT := Lib.hid (items_any a n cap zs w hl hcm hn hr)
  have hlen : Hid (zs.length = n) := hr.1
  cases hi : items zs with
  | nil =>
    have HL : Hid (takeL zs = []) := by show _ = _; simp [takeL, hi]
    have HX : Hid (takeX zs = 0) := by show _ = _; simp [takeX, hi]
    have HB : Hid (takeB zs = false) := by show _ = _; simp [takeB, hi]
    rw [hi] at HIT
    clear hi hr
    go_enter Try.func10, Try.ntmps10
    go_wp2_with fail
    refine HIT.out.mono ?_
    rintro e w1 ⟨v1, rfl, hm1⟩
    obtain ⟨a1, c1, rfl, _⟩ := made_row hm1
    have HB1 := Lib.hid (made_from (made_below hm1) (made_nil .i64 3 w1))
    clear hm1
    go_wp2
    go_ret3
    exact ⟨_, by rw [HB.out, HX.out]; rfl, by rw [HL.out]; exact HB1.out⟩
  | cons x its =>
    have HL : Hid (takeL zs = cellsOf n its) := by show _ = _; simp [takeL, hi, hlen.out]
    have HX : Hid (takeX zs = x) := by show _ = _; simp [takeX, hi]
    have HB : Hid (takeB zs = true) := by show _ = _; simp [takeB, hi]
    have hm2 : its.length + 2 ≤ n := by have := items_len_lt zs (by rw [hi]; simp); rw [hi, hlen.out] at this; exact this
    rw [hi] at HIT
    clear hi hr
    go_enter Try.func10, Try.ntmps10
    go_wp2_with fail
    refine HIT.out.mono ?_
    rintro e w1 ⟨v1, rfl, hm1⟩
    obtain ⟨g1, c1, rfl, hcs⟩ := made_pos hm1 rfl (by simp)
    have hc0 : w1.cell? ⟨g1, 0, none⟩ = some (.int .i64 x) := hcs 0 _ rfl
    have HM1 := Lib.hid hm1
    clear hm1 hcs
    have hcap := made_cap HM1.out
    have hlenI : ((its.length : Int) + 1 == 0) = false := by simp; omega
    have hlI : (1 : Int) ≤ (its.length : Int) + 1 := by omega
    have hHC := Lib.hid hc0
    by_cases hc1 : c1 = 1
    · obtain rfl : its = [] := List.eq_nil_of_length_eq_zero (by have := hcap.1; simp at this; omega)
      subst hc1
      go_wp2_with fail
      go_region_held3 (fun w' => w'.cell? ⟨g1, 0, none⟩ = some (.int .i64 x) ∧ Hid (Below w1.heap.size w1 w')) (first | exact held_start hHC.out | exact held_step hHC.out (And.right (by assumption)) (by assumption)) (first | (go_at_call 21; refine (cells_any _ n _ _ [] _ (by omega) (by omega) ⟨rfl, .inl rfl⟩).mono ?_; rintro e w2 ⟨v2, rfl, hm2'⟩; have HM2 := Lib.hid hm2'; clear hm2'))
      have HF : Hid (MadeInts .i64 3 w w2 v2 (cellsOf n [])) := made_from ((made_below HM1.out).trans ((Below.refl _ w1).drew.mono (made_below HM1.out).size)) HM2.out
      go_wp2
      go_ret3
      exact ⟨_, by rw [HB.out, HX.out]; rfl, by rw [HL.out]; exact HF.out⟩
    · have HRI : Hid (RowAt .i64 w1.drew (some ⟨g1, 1, none⟩) its.length its) := by
        have := (RowAt.from (made_rowAt HM1.out) 1 (by simp) (some ⟨g1, 1, none⟩) (fun _ => rfl)).below (Below.refl _ w1).drew
        exact this
      go_wp2_with fail
      go_region_held3 (fun w' => w'.cell? ⟨g1, 0, none⟩ = some (.int .i64 x) ∧ Hid (Below w1.heap.size w1 w')) (first | exact held_start hHC.out | exact held_step hHC.out (And.right (by assumption)) (by assumption)) (first | (go_at_call 21; refine (cells_any _ n _ _ its _ (by omega) (by omega) HRI.out).mono ?_; rintro e w2 ⟨v2, rfl, hm2'⟩; have HM2 := Lib.hid hm2'; clear hm2'))
      have HF : Hid (MadeInts .i64 3 w w2 v2 (cellsOf n its)) := made_from ((made_below HM1.out).trans ((Below.refl _ w1).drew.mono (made_below HM1.out).size)) HM2.out
      go_wp2
      go_ret3
      exact ⟨_, by rw [HB.out, HX.out]; rfl, by rw [HL.out]; exact HF.out⟩

set_option maxHeartbeats 1000000 in
theorem refTake_any (a : Option Addr) (n cap : Nat) (zs : List Int) (w : World) (hl : n ≤ cap) (hcm : cap ≤ 9223372036854775807) (hn : n * 8 ≤ 140737488351232) (hr : RowAt .i64 w a n zs) :
    Calls Try.prog 11 #[.slice a n cap] w (TakeDone zs w) := by
  have HIT := Lib.hid (refItems_any a n cap zs w hl hcm hn hr)
  have hlen : Hid (zs.length = n) := hr.1
  cases hi : items zs with
  | nil =>
    have HL : Hid (takeL zs = []) := by show _ = _; simp [takeL, hi]
    have HX : Hid (takeX zs = 0) := by show _ = _; simp [takeX, hi]
    have HB : Hid (takeB zs = false) := by show _ = _; simp [takeB, hi]
    rw [hi] at HIT
    clear hi hr
    go_enter Try.func11, Try.ntmps11
    go_wp2_with fail
    refine HIT.out.mono ?_
    rintro e w1 ⟨v1, rfl, hm1⟩
    obtain ⟨a1, c1, rfl, _⟩ := made_row hm1
    have HB1 := Lib.hid (made_from (made_below hm1) (made_nil .i64 3 w1))
    clear hm1
    go_wp2
    go_ret3
    exact ⟨_, by rw [HB.out, HX.out]; rfl, by rw [HL.out]; exact HB1.out⟩
  | cons x its =>
    have HL : Hid (takeL zs = cellsOf n its) := by show _ = _; simp [takeL, hi, hlen.out]
    have HX : Hid (takeX zs = x) := by show _ = _; simp [takeX, hi]
    have HB : Hid (takeB zs = true) := by show _ = _; simp [takeB, hi]
    have hm2 : its.length + 2 ≤ n := by have := items_len_lt zs (by rw [hi]; simp); rw [hi, hlen.out] at this; exact this
    rw [hi] at HIT
    clear hi hr
    go_enter Try.func11, Try.ntmps11
    go_wp2_with fail
    refine HIT.out.mono ?_
    rintro e w1 ⟨v1, rfl, hm1⟩
    obtain ⟨g1, c1, rfl, hcs⟩ := made_pos hm1 rfl (by simp)
    have hc0 : w1.cell? ⟨g1, 0, none⟩ = some (.int .i64 x) := hcs 0 _ rfl
    have HM1 := Lib.hid hm1
    clear hm1 hcs
    have hcap := made_cap HM1.out
    have hlenI : ((its.length : Int) + 1 == 0) = false := by simp; omega
    have hlI : (1 : Int) ≤ (its.length : Int) + 1 := by omega
    have hHC := Lib.hid hc0
    by_cases hc1 : c1 = 1
    · obtain rfl : its = [] := List.eq_nil_of_length_eq_zero (by have := hcap.1; simp at this; omega)
      subst hc1
      go_wp2_with fail
      go_region_held3 (fun w' => w'.cell? ⟨g1, 0, none⟩ = some (.int .i64 x) ∧ Hid (Below w1.heap.size w1 w')) (first | exact held_start hHC.out | exact held_step hHC.out (And.right (by assumption)) (by assumption)) (first | (go_at_call 23; refine (refCells_any _ n _ _ [] _ (by omega) (by omega) ⟨rfl, .inl rfl⟩).mono ?_; rintro e w2 ⟨v2, rfl, hm2'⟩; have HM2 := Lib.hid hm2'; clear hm2'))
      have HF : Hid (MadeInts .i64 3 w w2 v2 (cellsOf n [])) := made_from ((made_below HM1.out).trans ((Below.refl _ w1).drew.mono (made_below HM1.out).size)) HM2.out
      go_wp2
      go_ret3
      exact ⟨_, by rw [HB.out, HX.out]; rfl, by rw [HL.out]; exact HF.out⟩
    · have HRI : Hid (RowAt .i64 w1.drew (some ⟨g1, 1, none⟩) its.length its) := by
        have := (RowAt.from (made_rowAt HM1.out) 1 (by simp) (some ⟨g1, 1, none⟩) (fun _ => rfl)).below (Below.refl _ w1).drew
        exact this
      go_wp2_with fail
      go_region_held3 (fun w' => w'.cell? ⟨g1, 0, none⟩ = some (.int .i64 x) ∧ Hid (Below w1.heap.size w1 w')) (first | exact held_start hHC.out | exact held_step hHC.out (And.right (by assumption)) (by assumption)) (first | (go_at_call 23; refine (refCells_any _ n _ _ its _ (by omega) (by omega) HRI.out).mono ?_; rintro e w2 ⟨v2, rfl, hm2'⟩; have HM2 := Lib.hid hm2'; clear hm2'))
      have HF : Hid (MadeInts .i64 3 w w2 v2 (cellsOf n its)) := made_from ((made_below HM1.out).trans ((Below.refl _ w1).drew.mono (made_below HM1.out).size)) HM2.out
      go_wp2
      go_ret3
      exact ⟨_, by rw [HB.out, HX.out]; rfl, by rw [HL.out]; exact HF.out⟩
end Go.Proofs.Ytcbeeapcbnnmpaa
