/- The walk of the law ChansPuts. -/
import Derived.Test.YtcbeeapcbnnmpaaF
namespace Go.Proofs.Ytcbeeapcbnnmpaa
open Go.RowKit Go.Own

set_option maxHeartbeats 2000000 in
theorem chansPuts_walk (a : Option Addr) (n cap : Nat) (zs : List Int) (x : Int) (w : World) (hl : n ≤ cap) (hcm : cap ≤ 9223372036854775807) (hn : n * 8 ≤ 140737488351232) (hr : RowAt .i64 w a n zs) (hnil : a = none → n = 0 ∧ cap = 0) :
    Calls Try.prog 3 #[.slice a n cap, .int .i64 x] w fun e w' => e = .returned (.bool true) ∧ Below w.heap.size w w' := by
  obtain ⟨i0, hi0, hz0, hz1, hz2⟩ := info_parts Try.info3
  have HR := Lib.hid hr
  have HN := Lib.hid hnil
  have hlen : Hid (zs.length = n) := hr.1
  have hS : ∀ l : List Int, Hid ((l == l) = true) := fun l => beq_self_eq_true l
  clear hr hnil
  go_enter Try.func3, Try.ntmps3
  go_wp2_with (at_builtin; refine wpList_clone rfl (.tmp 16) (.tmp 17) 22 rfl .i64 3 i0 (.int .i64 0) 8 Try.underlying22 hi0 hz0 hz1 hz2 rfl (by decide) rfl _ _ _ zs rfl HR.out HN.out (by omega) ?_; intro aw cw w1 hm1; have HM1 := Lib.hid hm1; have hcw := made_cap hm1; clear hm1)
  refine (put_any _ _ _ zs _ _ hl hcm hn (HR.out.below (made_below HM1.out))).mono ?_
  rintro e w2 ⟨v2, rfl, hm2⟩
  obtain ⟨a2, c2, rfl, _⟩ := made_row hm2
  have HM2 := Lib.hid hm2
  have HB2 := Lib.hid (below_then (made_below HM1.out) (made_below hm2))
  clear hm2
  unfold maxLen at hcw
  go_wp2_with fail
  refine (refPut_any _ _ _ zs _ _ hcw.1 hcw.2 hn ((made_rowAt HM1.out).below (made_below HM2.out))).mono ?_
  rintro e w3 ⟨v3, rfl, hm3⟩
  obtain ⟨a3, c3, rfl, _⟩ := made_row hm3
  have HM3 := Lib.hid hm3
  have HB3 := Lib.hid (below_then HB2.out (made_below hm3))
  clear hm3
  go_wp2_with fail
  refine (take_any _ _ _ zs _ hl hcm hn (HR.out.below HB3.out)).mono ?_
  rintro e w4 ⟨v4, rfl, hm4⟩
  obtain ⟨a4, c4, rfl, _⟩ := made_row hm4
  have HM4 := Lib.hid hm4
  have HB4 := Lib.hid (below_then HB3.out (made_below hm4))
  have HW4 := Lib.hid ((made_rowAt HM1.out).below (below_then (below_then (made_below HM2.out) (made_below HM3.out)) (made_below hm4)))
  clear hm4
  go_wp2_with fail
  refine (refTake_any _ _ _ zs _ hcw.1 hcw.2 hn HW4.out).mono ?_
  rintro e w5 ⟨v5, rfl, hm5⟩
  obtain ⟨a5, c5, rfl, _⟩ := made_row hm5
  have HM5 := Lib.hid hm5
  have HB5 := Lib.hid (below_then HB4.out (made_below hm5))
  clear hm5
  have L2 : Hid ((putL zs x).length ≤ 9223372036854775807) := by have := (made_cap HM2.out); unfold maxLen at this; show _ ≤ _; omega
  have L4 : Hid ((takeL zs).length ≤ 9223372036854775807) := by have := (made_cap HM4.out); unfold maxLen at this; show _ ≤ _; omega
  have R2 := Lib.hid ((made_rowAt HM2.out).below (below_then (below_then (made_below HM3.out) (made_below HM4.out)) (made_below HM5.out)))
  have R3 := Lib.hid ((made_rowAt HM3.out).below (below_then (made_below HM4.out) (made_below HM5.out)))
  have R4 := Lib.hid ((made_rowAt HM4.out).below (made_below HM5.out))
  have R5 := Lib.hid (made_rowAt HM5.out)
  have RW := Lib.hid (HW4.out.below (made_below HM5.out))
  clear HM1 HM2 HM3 HM4 HM5 HW4
  generalize putL zs x = pl at *
  generalize takeL zs = tl at *
  generalize putB zs = pb at *
  generalize takeB zs = tb at *
  generalize takeX zs = tx at *
  have hpb : (pb == pb) = true := beq_self_eq_true _
  have htb : (tb == tb) = true := beq_self_eq_true _
  have htx : (tx == tx) = true := beq_self_eq_true _
  go_wp2_with fail
  refine (same_any _ _ _ _ c2 c3 pl pl _ L2.out L2.out R2.out R3.out).mono ?_
  rintro e w6 ⟨rfl, hb6⟩
  rw [(hS _).out]
  have HB6 := Lib.hid hb6
  clear hb6
  go_wp2_with fail
  refine (same_any _ _ _ _ c4 c5 tl tl _ L4.out L4.out (R4.out.below HB6.out) (R5.out.below HB6.out)).mono ?_
  rintro e w7 ⟨rfl, hb7⟩
  rw [(hS _).out]
  have HB7 := Lib.hid (below_then HB6.out hb7)
  clear hb7
  go_wp2_with fail
  refine (same_any _ _ _ _ cap cw zs zs _ (by omega) (by omega) (HR.out.below (below_then HB5.out HB7.out)) (RW.out.below HB7.out)).mono ?_
  rintro e w8 ⟨rfl, hb8⟩
  rw [(hS _).out]
  have HB8 := Lib.hid (below_then HB7.out hb8)
  clear hb8
  go_wp2_with fail
  refine (lives_any _).mono ?_
  rintro e w9 ⟨rfl, hb9⟩
  have HB9 := Lib.hid (below_then HB5.out (below_then HB8.out hb9))
  clear hb9
  go_wp2
  go_ret
  exact ⟨rfl, HB9.out⟩

/-! ### The two laws, in the shape that the row's step asks. -/
theorem chansPuts_law (a : Option Addr) (n cap : Nat) (zs : List Int) (x : Int) (w : World) (hr : RowAt .i64 w a n zs) (_ : ∀ z ∈ zs, (Lit.int .i64 z).wf = true) (hl : n ≤ cap) (hm : cap ≤ maxLen) (hs : cap * 8 ≤ 140737488351232) (hnil : a = none → n = 0 ∧ cap = 0) (_ : (Lit.int .i64 x).wf = true) :
    Calls Try.prog 3 #[.slice a n cap, .int .i64 x] w fun e w' => e = .returned (.bool true) ∧ Below w.heap.size w w' :=
  chansPuts_walk a n cap zs x w hl hm (by omega) hr hnil
theorem chansItems_law (a : Option Addr) (n cap : Nat) (zs : List Int) (w : World) (hr : RowAt .i64 w a n zs) (_ : ∀ z ∈ zs, (Lit.int .i64 z).wf = true) (hl : n ≤ cap) (hm : cap ≤ maxLen) (hs : cap * 8 ≤ 140737488351232) (_ : a = none → n = 0 ∧ cap = 0) :
    Calls Try.prog 5 #[.slice a n cap] w fun e w' => e = .returned (.bool true) ∧ Below w.heap.size w w' :=
  chansItems_walk a n cap zs w hl hm (by omega) hr
end Go.Proofs.Ytcbeeapcbnnmpaa
