/- The walk of the law SccLive. -/
import Derived.Test.YtnkfmhhfeaohbaaR
import Derived.Test.YtnkfmhhfeaohbaaV
import Derived.Test.YtnkfmhhfeaohbaaU
import Derived.Test.YtnkfmhhfeaohbaaB
import Derived.Deep.RegionHeld3
namespace Go.Proofs.Ytnkfmhhfeaohbaa
open Go.RowKit Go.Own

theorem sl_boolAt {w : World} {a : Option Addr} {n c : Nat} {f : Nat → Bool} (h : Sl w 4 (.slice a n c) n (boolsOf n f)) (k : Nat) (hk : k < n) : ∃ g, a = some ⟨g, 0, none⟩ ∧ w.cell? ⟨g, k, none⟩ = some (.bool (f k)) := by
  obtain ⟨a', c', ea, hc⟩ := h.shape
  cases ea
  obtain ⟨g, rfl, -, k0⟩ := hc k hk
  exact ⟨g, rfl, k0.trans (boolsOf_at _ _ _ hk)⟩
theorem sl_below {w w1 : World} {e : TypeId} {v : Value} {n : Nat} {xs : List Value} (h : Sl w e v n xs) (hb : Below w.heap.size w w1) : Sl w1 e v n xs :=
  Sl.kept h (Kept.ofBelow hb) (fun b e s => by have := h.lt b e; omega)

set_option maxHeartbeats 2000000 in
theorem sccLive_law (vi vl : Value) (ae : Option Addr) (n ce : Nat) (E : List (List Int)) (w : World) (hE : E.length = n) (he : EdgesAt w ae E) (hn : n ≤ 9223372036854775807) (hrow : ∀ i, i < E.length → (E.getD i []).length ≤ 140737488355328) :
    Calls Try.prog 6 #[.agg #[vi, .slice ae n ce, vl]] w fun e w' => e = .returned (.bool true) ∧ Below w.heap.size w w' := by
  have HE := Lib.hid hE
  have HED : Hid (∀ W, Below w.heap.size w W → EdgesAt W ae E) := fun W h => he.below h
  have HF : Hid (∀ W, Below w.heap.size w W → Calls Try.prog 8 #[.agg #[vi, .slice ae n ce, vl]] W (FarDone E W)) := fun W h => far_any vi vl ae n ce E W hE (he.below h) hn hrow
  have HB : Hid (∀ W, W = w.alloc (.cells #[vi, .slice ae n ce, vl] 26) → Below w.heap.size w W ∧ W.cell? ⟨w.heap.size, 0, none⟩ = some vi ∧ W.cell? ⟨w.heap.size, 1, none⟩ = some (.slice ae n ce) ∧ W.cell? ⟨w.heap.size, 2, none⟩ = some vl) := by
    rintro W rfl
    exact ⟨(Below.refl _ w).alloc (Nat.le_refl _) _, World.cell?_alloc_at (w := w) _ 26 w.heap.size 0 rfl, World.cell?_alloc_at (w := w) _ 26 w.heap.size 1 rfl, World.cell?_alloc_at (w := w) _ 26 w.heap.size 2 rfl⟩
  clear he hrow hE
  go_enter Try.func6, Try.ntmps6
  go_upto_region 1 with (fail)
  obtain ⟨hB1, c0, c1, c2⟩ := HB.out _ rfl
  have HB1 := Lib.hid hB1
  clear HB hB1
  generalize w.alloc (.cells #[vi, .slice ae n ce, vl] 26) = w1 at *
  have HC : Hid (∀ W, Hid (Below w1.heap.size w1 W) → W.cell? ⟨w.heap.size, 0, none⟩ = some vi ∧ W.cell? ⟨w.heap.size, 1, none⟩ = some (.slice ae n ce) ∧ W.cell? ⟨w.heap.size, 2, none⟩ = some vl ∧ Hid (Below w1.heap.size w1 W)) := fun W h => ⟨(h.out.cell (World.block_lt_of_cell? w1 _ c0)).trans c0, (h.out.cell (World.block_lt_of_cell? w1 _ c1)).trans c1, (h.out.cell (World.block_lt_of_cell? w1 _ c2)).trans c2, h⟩
  go_wp2_with (go_at_call 8; refine (HF.out w1 HB1.out).mono ?_; rintro e w2 ⟨b, rfl, hb, hbel⟩; have HFB := Lib.hid hb; have HBX := Lib.hid hbel; clear hb hbel)
  · clear c0 c1 c2
    refine (lives_any w2).mono ?_
    rintro e w3 ⟨rfl, hb⟩
    have HB3 := Lib.hid hb
    clear hb
    go_wp2_with fail
    go_ret
    exact ⟨rfl, HB1.out.trans ((HBX.out.trans (HB3.out.mono HBX.out.size)).mono HB1.out.size)⟩
  · have hbf : b = false := by first | assumption | simp_all
    subst hbf
    obtain ⟨h60, hr2⟩ := HFB.out rfl
    have hn60 : n ≤ 1000000 := by rw [← HE.out]; omega
    have HLV : Hid (∀ W, Below w.heap.size w W → Calls Try.prog 17 #[.agg #[vi, .slice ae n ce, vl]] W fun e w' => ∃ a c, e = .returned (.slice a n c) ∧ Sl w' 4 (.slice a n c) n (boolsOf n fun v => warB E n v v) ∧ Below W.heap.size W w') := fun W h =>
      (live_any vi vl ae n ce E W HE.out (HED.out W h) hn60 (fun i hi => by have := hr2 i hi; omega)).mono fun e w' ⟨a, c, h1, h2, h3⟩ => ⟨a, c, h1, by
        rw [boolsOf_congr (fun v hv => (by have := HE.out; subst this; exact liveB_war hv : liveB E n v = warB E n v v))] at h2; exact h2, h3⟩
    have HRF : Hid (∀ W, Below w.heap.size w W → Calls Try.prog 18 #[.agg #[vi, .slice ae n ce, vl]] W fun e w' => ∃ a c, e = .returned (.slice a n c) ∧ Sl w' 4 (.slice a n c) n (boolsOf n fun v => warB E n v v) ∧ Below W.heap.size W w') := fun W h =>
      refLive_any vi vl ae n ce E W HE.out (HED.out W h) hn60 (fun i hi => by have := hr2 i hi; omega)
    have HTR : Hid (∀ W, Hid (Below w1.heap.size w1 W) → Below w.heap.size w W) := fun W h => HB1.out.trans (h.out.mono HB1.out.size)
    have H0 : Hid (Below w1.heap.size w1 w2.drew) := HBX.out.drew
    clear c0 c1 c2 h60 hr2 HFB HED HF
    generalize (fun v => warB E n v v) = f at *
    go_region_held3 (fun W => W.cell? ⟨w.heap.size, 0, none⟩ = some vi ∧ W.cell? ⟨w.heap.size, 1, none⟩ = some (.slice ae n ce) ∧ W.cell? ⟨w.heap.size, 2, none⟩ = some vl ∧ Hid (Below w1.heap.size w1 W))
      (first | exact HC.out _ H0 | exact HC.out _ (by assumption))
      (first
        | (go_at_call 17; refine (HLV.out _ (HTR.out _ H0)).mono ?_; rintro e w3 ⟨a3, c3, rfl, h3, hb3⟩; have H3 : Hid (Below w1.heap.size w1 w3) := H0.out.trans (hb3.mono H0.out.size); have HA3 := Lib.hid h3; clear hb3 h3)
        | (go_at_call 18; refine (HRF.out _ (HTR.out _ H3)).mono ?_; rintro e w4 ⟨a4, c4, rfl, h4, hb4⟩; have H4 : Hid (Below w1.heap.size w1 w4) := H3.out.trans (hb4.mono H3.out.size); have HA4 := Lib.hid (sl_below HA3.out hb4); have HA5 := Lib.hid h4; clear hb4 h4))
    clear HLV HRF H0 H3 HA3
    go_wp2_with fail
    go_loopw [20] (fun x wr => ∃ k : Nat, k ≤ n ∧ x = .int .i64 k ∧ Hid (Below w4.heap.size w4 wr)) (fun x _ => n - (intOf x).toNat)
    case atStart => exact ⟨0, Nat.zero_le _, rfl, Below.refl _ _⟩
    case round =>
      obtain ⟨k, hk, rfl, hb⟩ := hrel
      by_cases hlt : k < n
      · have hltI : (k : Int) < (n : Int) := by omega
        obtain ⟨g, rfl, k0⟩ := sl_boolAt (sl_below HA4.out hb.out) k hlt
        obtain ⟨g', rfl, k1⟩ := sl_boolAt (sl_below HA5.out hb.out) k hlt
        generalize f k = fb at *
        have hne : (fb == fb) = true := beq_self_eq_true fb
        have H5 : Hid (Below wr.heap.size wr wr.drew) := (Below.refl _ _).drew
        have HC2 : Hid (∀ W, Hid (Below wr.heap.size wr W) → W.cell? ⟨g, k, none⟩ = some (.bool fb) ∧ W.cell? ⟨g', k, none⟩ = some (.bool fb) ∧ Hid (Below wr.heap.size wr W)) := fun W h => ⟨(h.out.cell (World.block_lt_of_cell? wr _ k0)).trans k0, (h.out.cell (World.block_lt_of_cell? wr _ k1)).trans k1, h⟩
        clear HA4 HA5
        go_upto_region 9 with (fail)
        go_region_held3 (fun W => W.cell? ⟨g, k, none⟩ = some (.bool fb) ∧ W.cell? ⟨g', k, none⟩ = some (.bool fb) ∧ Hid (Below wr.heap.size wr W))
          (first | exact HC2.out _ H5 | exact HC2.out _ (by assumption))
          (fail)
        go_wp2_with fail
        go_roundw
        case rel => exact ⟨k + 1, by omega, by go_num, hb.out.drew⟩
        case measure => simp [intOf]; omega
      · obtain rfl : n = k := by omega
        go_wp2_with (go_at_call 9; refine (lives_any wr).mono ?_; rintro e w5 ⟨rfl, hb5⟩; have HB5 := Lib.hid hb5; clear hb5)
        go_ret
        have h1 := H4.out.trans (hb.out.mono H4.out.size)
        have h2 := h1.trans (HB5.out.mono h1.size)
        exact ⟨rfl, HB1.out.trans (h2.mono HB1.out.size)⟩
end Go.Proofs.Ytnkfmhhfeaohbaa
