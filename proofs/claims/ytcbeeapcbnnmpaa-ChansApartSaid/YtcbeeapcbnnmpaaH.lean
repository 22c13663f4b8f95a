/- The walk of the law ChansApart. -/
import Derived.Test.YtcbeeapcbnnmpaaF
namespace Go.Proofs.Ytcbeeapcbnnmpaa
open Go.RowKit Go.Own

/-- Four slices in blocks of their own, apart from each other and from all that was there. -/
def Apart4 (w : World) (v0 v1 v2 v3 : Value) : Prop :=
  (∀ g, v0.ownBlock = some g → w.heap.size ≤ g) ∧ (∀ g, v1.ownBlock = some g → w.heap.size ≤ g ∧ v0.ownBlock ≠ some g) ∧ (∀ g, v2.ownBlock = some g → w.heap.size ≤ g ∧ v0.ownBlock ≠ some g ∧ v1.ownBlock ≠ some g) ∧
    (∀ g, v3.ownBlock = some g → w.heap.size ≤ g ∧ v0.ownBlock ≠ some g ∧ v1.ownBlock ≠ some g ∧ v2.ownBlock ≠ some g)

/-- The first holds what it held; the others hold some numbers. -/
def Four (w wr : World) (zs : List Int) (v0 : Value) (n0 : Nat) (v1 : Value) (n1 : Nat) (v2 : Value) (n2 : Nat) (v3 : Value) (n3 : Nat) : Prop :=
  Below w.heap.size w wr ∧ Sl wr 3 v0 n0 (zs.map (Value.int .i64)) ∧ (∃ xs : List Int, Sl wr 3 v1 n1 (xs.map (Value.int .i64))) ∧ (∃ xs : List Int, Sl wr 3 v2 n2 (xs.map (Value.int .i64))) ∧ (∃ xs : List Int, Sl wr 3 v3 n3 (xs.map (Value.int .i64)))

section
variable {w wr : World} {zs : List Int} {v0 v1 v2 v3 : Value} {n0 n1 n2 n3 : Nat}

theorem sl_other {w wr : World} {zs : List Int} {v : Value} {n g i : Nat} {x : Value} (h : Sl wr 3 v n (zs.map (Value.int .i64))) (hne : v.ownBlock ≠ some g) : Sl (wr.setCell ⟨g, i, none⟩ x) 3 v n (zs.map (Value.int .i64)) :=
  h.kept (S := fun k => k = g) ((Kept.refl (fun k => k = g) wr).setCell (p := ⟨g, i, none⟩) (fun _ => rfl) x) (fun k hk e => hne (by rw [hk, e]))

theorem sl_this {w wr : World} {zs : List Int} {n g i c : Nat} {x : Int} (h : Sl wr 3 (.slice (some ⟨g, 0, none⟩) n c) n (zs.map (Value.int .i64))) :
    ∃ xs : List Int, Sl (wr.setCell ⟨g, i, none⟩ (.int .i64 x)) 3 (.slice (some ⟨g, 0, none⟩) n c) n (xs.map (Value.int .i64)) := by
  have hst := World.ownsRow.stored h i (.int .i64 x)
  rw [← List.map_set] at hst
  exact ⟨_, hst.1⟩

theorem four_1 {g c i : Nat} {x : Int} (ha : Apart4 w v0 (.slice (some ⟨g, 0, none⟩) n1 c) v2 v3) (h : Four w wr zs v0 n0 (.slice (some ⟨g, 0, none⟩) n1 c) n1 v2 n2 v3 n3) :
    Four w (wr.setCell ⟨g, i, none⟩ (.int .i64 x)) zs v0 n0 (.slice (some ⟨g, 0, none⟩) n1 c) n1 v2 n2 v3 n3 := by
  obtain ⟨a0, a1, a2, a3⟩ := ha
  obtain ⟨h0, h1, ⟨x1, h2⟩, ⟨x2, h3⟩, ⟨x3, h4⟩⟩ := h
  refine ⟨h0.setCell (a1 g rfl).1 _, sl_other (w := w) h1 (a1 g rfl).2, sl_this (w := w) h2, ⟨x2, sl_other (w := w) h3 (fun e => (a2 g e).2.2 rfl)⟩, ⟨x3, sl_other (w := w) h4 (fun e => (a3 g e).2.2.1 rfl)⟩⟩

theorem four_2 {g c i : Nat} {x : Int} (ha : Apart4 w v0 v1 (.slice (some ⟨g, 0, none⟩) n2 c) v3) (h : Four w wr zs v0 n0 v1 n1 (.slice (some ⟨g, 0, none⟩) n2 c) n2 v3 n3) :
    Four w (wr.setCell ⟨g, i, none⟩ (.int .i64 x)) zs v0 n0 v1 n1 (.slice (some ⟨g, 0, none⟩) n2 c) n2 v3 n3 := by
  obtain ⟨a0, a1, a2, a3⟩ := ha
  obtain ⟨h0, h1, ⟨x1, h2⟩, ⟨x2, h3⟩, ⟨x3, h4⟩⟩ := h
  refine ⟨h0.setCell (a2 g rfl).1 _, sl_other (w := w) h1 (a2 g rfl).2.1, ⟨x1, sl_other (w := w) h2 (a2 g rfl).2.2⟩, sl_this (w := w) h3, ⟨x3, sl_other (w := w) h4 (fun e => (a3 g e).2.2.2 rfl)⟩⟩

theorem four_3 {g c i : Nat} {x : Int} (ha : Apart4 w v0 v1 v2 (.slice (some ⟨g, 0, none⟩) n3 c)) (h : Four w wr zs v0 n0 v1 n1 v2 n2 (.slice (some ⟨g, 0, none⟩) n3 c) n3) :
    Four w (wr.setCell ⟨g, i, none⟩ (.int .i64 x)) zs v0 n0 v1 n1 v2 n2 (.slice (some ⟨g, 0, none⟩) n3 c) n3 := by
  obtain ⟨a0, a1, a2, a3⟩ := ha
  obtain ⟨h0, h1, ⟨x1, h2⟩, ⟨x2, h3⟩, ⟨x3, h4⟩⟩ := h
  exact ⟨h0.setCell (a3 g rfl).1 _, sl_other (w := w) h1 (a3 g rfl).2.1, ⟨x1, sl_other (w := w) h2 (a3 g rfl).2.2.1⟩, ⟨x2, sl_other (w := w) h3 (a3 g rfl).2.2.2⟩, sl_this (w := w) h4⟩
end

/-- A cell of a slice that holds some numbers. -/
theorem row_of_sl {k : IntKind} {e : TypeId} {w : World} {v : Value} {n : Nat} {zs : List Int} (h : Sl w e v n (zs.map (Value.int k))) : zs.length = n ∧ ∃ a cap, v = .slice a n cap ∧ RowAt k w a n zs := by
  have hl : zs.length = n := sl_ints h
  subst hl
  obtain ⟨a, cap, rfl, _⟩ := h.shape
  have : MadeInts k e ⟨#[], w.tape, w.drawn, w.os, w.output⟩ w (.slice a zs.length cap) zs := ⟨h, ⟨rfl, rfl, rfl, Nat.zero_le _, fun k hk => absurd hk (by simp)⟩, fun g _ => Nat.zero_le _⟩
  exact ⟨rfl, a, cap, rfl, made_rowAt this⟩

theorem some_cell {wr : World} {a : Option Addr} {n c : Nat} (h : ∃ xs : List Int, Sl wr 3 (.slice a n c) n (xs.map (Value.int .i64))) (k : Nat) (hk : k < n) :
    ∃ g y, a = some ⟨g, 0, none⟩ ∧ wr.cell? ⟨g, k, none⟩ = some (.int .i64 y) ∧ wr.frozen? ⟨g, k, none⟩ = false := by
  obtain ⟨xs, h⟩ := h
  obtain ⟨a', c', e, hc⟩ := h.shape
  cases e
  obtain ⟨g, rfl, _, _⟩ := hc k hk
  obtain ⟨h1, h2⟩ := sl_cell h k hk
  exact ⟨g, _, rfl, h1, h2⟩

set_option maxHeartbeats 2000000 in
theorem chansApart_walk (a : Option Addr) (n cap : Nat) (zs : List Int) (x : Int) (w : World) (hl : n ≤ cap) (hcm : cap ≤ 9223372036854775807) (hn : n * 8 ≤ 140737488351232) (hr : RowAt .i64 w a n zs) (hnil : a = none → n = 0 ∧ cap = 0) :
    Calls Try.prog 4 #[.slice a n cap, .int .i64 x] w fun e w' => e = .returned (.bool true) ∧ Below w.heap.size w w' := by
  obtain ⟨i0, hi0, hz0, hz1, hz2⟩ := info_parts Try.info3
  have HR := Lib.hid hr
  have HN := Lib.hid hnil
  have hlen : Hid (zs.length = n) := hr.1
  have hS : Hid ((zs == zs) = true) := beq_self_eq_true _
  clear hr hnil
  go_enter Try.func4, Try.ntmps4
  go_wp2_with (at_builtin; refine wpList_clone rfl (.tmp 15) (.tmp 16) 22 rfl .i64 3 i0 (.int .i64 0) 8 Try.underlying22 hi0 hz0 hz1 hz2 rfl (by decide) rfl _ _ _ zs rfl HR.out HN.out (by omega) ?_; intro aw cw w1 hm1; have HM1 := Lib.hid hm1; have hcw := made_cap hm1; clear hm1)
  refine (put_any _ _ _ zs _ _ hl hcm hn (HR.out.below (made_below HM1.out))).mono ?_
  rintro e w2 ⟨v2, rfl, hm2⟩
  obtain ⟨a2, c2, rfl, _⟩ := made_row hm2
  have HM2 := Lib.hid hm2
  have HB2 := Lib.hid (below_then (made_below HM1.out) (made_below hm2))
  clear hm2
  unfold maxLen at hcw
  go_wp2_with fail
  refine (take_any _ _ _ zs _ hl hcm hn (HR.out.below HB2.out)).mono ?_
  rintro e w4 ⟨v4, rfl, hm4⟩
  obtain ⟨a4, c4, rfl, _⟩ := made_row hm4
  have HM4 := Lib.hid hm4
  have HB4 := Lib.hid (below_then HB2.out (made_below hm4))
  clear hm4
  go_wp2_with fail
  refine (items_any _ _ _ zs _ hl hcm hn (HR.out.below HB4.out)).mono ?_
  rintro e w5 ⟨v5, rfl, hm5⟩
  obtain ⟨a5, c5, rfl, _⟩ := made_row hm5
  have HM5 := Lib.hid hm5
  have HB5 := Lib.hid (below_then HB4.out (made_below hm5))
  clear hm5
  have L2 : (putL zs x).length ≤ 9223372036854775807 := by have := (made_cap HM2.out); unfold maxLen at this; omega
  have L4 : (takeL zs).length ≤ 9223372036854775807 := by have := (made_cap HM4.out); unfold maxLen at this; omega
  have L5 : (items zs).length ≤ 9223372036854775807 := by have := (made_cap HM5.out); unfold maxLen at this; omega
  have HAP : Hid (Apart4 w (.slice aw n cw) (.slice a2 (putL zs x).length c2) (.slice a4 (takeL zs).length c4) (.slice a5 (items zs).length c5)) := by
    have s1 := (made_below HM1.out).size
    have s2 := (made_below HM2.out).size
    have s4 := (made_below HM4.out).size
    refine ⟨HM1.out.2.2, fun g hg => ⟨?_, fun e => ?_⟩, fun g hg => ⟨?_, fun e => ?_, fun e => ?_⟩, fun g hg => ⟨?_, fun e => ?_, fun e => ?_, fun e => ?_⟩⟩
    · have := HM2.out.2.2 g hg; omega
    · have := HM2.out.2.2 g hg; have := HM1.out.1.lt g e; omega
    · have := HM4.out.2.2 g hg; omega
    · have := HM4.out.2.2 g hg; have := HM1.out.1.lt g e; omega
    · have := HM4.out.2.2 g hg; have := HM2.out.1.lt g e; omega
    · have := HM5.out.2.2 g hg; omega
    · have := HM5.out.2.2 g hg; have := HM1.out.1.lt g e; omega
    · have := HM5.out.2.2 g hg; have := HM2.out.1.lt g e; omega
    · have := HM5.out.2.2 g hg; have := HM4.out.1.lt g e; omega
  have HF : Hid (Four w w5 zs (.slice aw n cw) n (.slice a2 (putL zs x).length c2) (putL zs x).length (.slice a4 (takeL zs).length c4) (takeL zs).length (.slice a5 (items zs).length c5) (items zs).length) := by
    have k1 := (made_to (made_to (made_to HM1.out (made_below HM2.out)) (made_below HM4.out)) (made_below HM5.out)).1
    rw [hlen.out] at k1
    exact ⟨HB5.out, k1, ⟨_, (made_to (made_to HM2.out (made_below HM4.out)) (made_below HM5.out)).1⟩, ⟨_, (made_to HM4.out (made_below HM5.out)).1⟩, ⟨_, HM5.out.1⟩⟩
  clear HM1 HM2 HM4 HM5 HB2 HB4 HB5
  generalize (putL zs x).length = n2 at *
  generalize (takeL zs).length = n4 at *
  generalize (items zs).length = n5 at *
  go_wp2
  go_loopw [12, 34] (fun _ i wr => ∃ k : Nat, k ≤ n2 ∧ i = .int .i64 k ∧ Hid (Four w wr zs (.slice aw n cw) n (.slice a2 n2 c2) n2 (.slice a4 n4 c4) n4 (.slice a5 n5 c5) n5)) (fun _ i _ => n2 - (intOf i).toNat)
  case atStart => exact ⟨0, Nat.zero_le _, rfl, HF⟩
  case round =>
    obtain ⟨k, hk, rfl, hF⟩ := hrel
    by_cases hlt : k < n2
    · obtain ⟨g, y, rfl, hc, hfz⟩ := some_cell hF.out.2.2.1 k hlt
      go_wp2
      go_roundw
      case rel => exact ⟨k + 1, by omega, by go_num, four_1 HAP.out hF.out⟩
      case measure => simp [intOf]; omega
    · clear HF
      go_wp2
      clear hlt hk
      rename_i wr1
      go_loopw [13, 46] (fun _ i wr => ∃ k : Nat, k ≤ n4 ∧ i = .int .i64 k ∧ Hid (Four w wr zs (.slice aw n cw) n (.slice a2 n2 c2) n2 (.slice a4 n4 c4) n4 (.slice a5 n5 c5) n5)) (fun _ i _ => n4 - (intOf i).toNat)
      case atStart => exact ⟨0, Nat.zero_le _, rfl, hF⟩
      case round =>
        obtain ⟨k2, hk, rfl, hF2⟩ := hrel
        by_cases hlt : k2 < n4
        · obtain ⟨g, y, rfl, hc, hfz⟩ := some_cell hF2.out.2.2.2.1 k2 hlt
          go_wp2
          go_roundw
          case rel => exact ⟨k2 + 1, by omega, by go_num, four_2 HAP.out hF2.out⟩
          case measure => simp [intOf]; omega
        · clear hF
          go_wp2
          clear hlt hk
          go_loopw [14, 58] (fun _ i wr => ∃ k : Nat, k ≤ n5 ∧ i = .int .i64 k ∧ Hid (Four w wr zs (.slice aw n cw) n (.slice a2 n2 c2) n2 (.slice a4 n4 c4) n4 (.slice a5 n5 c5) n5)) (fun _ i _ => n5 - (intOf i).toNat)
          case atStart => exact ⟨0, Nat.zero_le _, rfl, hF2⟩
          case round =>
            obtain ⟨k3, hk, rfl, hF3⟩ := hrel
            by_cases hlt : k3 < n5
            · obtain ⟨g, y, rfl, hc, hfz⟩ := some_cell hF3.out.2.2.2.2 k3 hlt
              go_wp2
              go_roundw
              case rel => exact ⟨k3 + 1, by omega, by go_num, four_3 HAP.out hF3.out⟩
              case measure => simp [intOf]; omega
            · clear hF2
              obtain ⟨_, aw', cw', ew, hrw⟩ := row_of_sl hF3.out.2.1
              simp only [Value.slice.injEq, true_and] at ew
              obtain ⟨rfl, rfl⟩ := ew
              have HRW := Lib.hid hrw
              have HB := Lib.hid hF3.out.1
              clear hrw hF3 HAP
              go_wp2_with fail
              refine (same_any _ _ n n cap cw zs zs _ (by omega) (by omega) (HR.out.below HB.out) HRW.out).mono ?_
              rintro e w8 ⟨rfl, hb8⟩
              rw [hS.out]
              have HB8 := Lib.hid (below_then HB.out hb8)
              clear hb8
              go_wp2_with fail
              refine (lives_any _).mono ?_
              rintro e w9 ⟨rfl, hb9⟩
              have HB9 := Lib.hid (below_then HB8.out hb9)
              clear hb9
              go_wp2
              go_ret
              exact ⟨rfl, HB9.out⟩

theorem chansApart_law (a : Option Addr) (n cap : Nat) (zs : List Int) (x : Int) (w : World) (hr : RowAt .i64 w a n zs) (_ : ∀ z ∈ zs, (Lit.int .i64 z).wf = true) (hl : n ≤ cap) (hm : cap ≤ maxLen) (hs : cap * 8 ≤ 140737488351232) (hnil : a = none → n = 0 ∧ cap = 0) (_ : (Lit.int .i64 x).wf = true) :
    Calls Try.prog 4 #[.slice a n cap, .int .i64 x] w fun e w' => e = .returned (.bool true) ∧ Below w.heap.size w w' :=
  chansApart_walk a n cap zs x w hl hm (by omega) hr hnil
end Go.Proofs.Ytcbeeapcbnnmpaa
