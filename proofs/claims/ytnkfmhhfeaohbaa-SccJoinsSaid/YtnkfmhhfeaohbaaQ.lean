/- The walk of Live, joined. -/
import Derived.Test.YtnkfmhhfeaohbaaO
import Derived.Test.YtnkfmhhfeaohbaaOff
namespace Go.Proofs.Ytnkfmhhfeaohbaa
open Go.RowKit Go.Own

theorem LS.row {w0 w3 w2 w : World} {go n R : Nat} {f : Nat → Bool} {aV : Value} {ap : Option Addr} {cp : Nat} {V : Nat → Value} {A : Nat → Nat} {X : Nat → List Int} (h : LS w0 w2 w go n f) (hp : PS w3 w2 aV (.slice ap R cp) V n R A X) (hgo : go < w3.heap.size) (k : Nat) (hk : k < R) :
    ∃ g a c, ap = some ⟨g, 0, none⟩ ∧ w.cell? ⟨g, k, none⟩ = some (.slice a (X k).length c) ∧ RowAt .i64 w a (X k).length (X k) ∧ V k = .slice a (X k).length c := by
  obtain ⟨g, c', e, hc⟩ := hp.at (by omega)
  cases e
  have h1 := hp.row k hk
  obtain ⟨a, c, e, _⟩ := h1.shape
  have hg := hp.new g rfl
  refine ⟨g, a, c, rfl, h.kept.cellSome (by rw [(hc k hk).1, e]) (fun e => by have e2 : g = go := e; omega), ?_⟩
  have h2 := Sl.kept h1 h.kept (fun b e e2 => by have := hp.newR k b hk e; omega)
  rw [e] at h2
  exact ⟨(SlO.of h2).rowAt, e⟩
theorem LS.below {w0 w2 w w' : World} {go n : Nat} {f : Nat → Bool} (h : LS w0 w2 w go n f) (hb : Below w.heap.size w w') : LS w0 w2 w' go n f :=
  ⟨Sl.kept h.out (Kept.ofBelow hb) (fun b e s => by have := h.out.lt b e; omega), h.kept.then (Kept.ofBelow hb) (fun i hi e => by have := h.kept.size; omega), h.low⟩
theorem LS.old {w0 w2 w : World} {go n : Nat} {f : Nat → Bool} (h : LS w0 w2 w go n f) (hb : Below w0.heap.size w0 w2) : Below w0.heap.size w0 w :=
  hb.trans (h.kept.below hb.size (fun k hk e => by have := h.low; omega))

set_option maxHeartbeats 2000000 in
theorem live_any (vi vl : Value) (ae : Option Addr) (n ce : Nat) (E : List (List Int)) (w : World) (hE : E.length = n) (he : EdgesAt w ae E) (hn : n ≤ 1000000) (hrow : ∀ i, i < E.length → (E.getD i []).length ≤ 1000000000) :
    Calls Try.prog 17 #[.agg #[vi, .slice ae n ce, vl]] w fun e w' => ∃ a c, e = .returned (.slice a n c) ∧ Sl w' 4 (.slice a n c) n (boolsOf n (liveB E n)) ∧ Below w.heap.size w w' := by
  obtain ⟨i4, hi4, hz4, hs4, hb4⟩ := info_parts Try.info4
  have HN := Lib.hid hn
  have HPA : Hid (∀ W, Below w.heap.size w W → Calls Try.prog 13 #[.agg #[vi, .slice ae n ce, vl]] W (PartsDone E n W)) := fun W h => parts_any vi vl ae n ce E W hE (he.below h) hn hrow
  have HCY : Hid (∀ W ap m cp zs, Below w.heap.size w W → RowAt .i64 W ap m zs → m ≤ 9223372036854775807 → Calls Try.prog 15 #[.agg #[vi, .slice ae n ce, vl], .slice ap m cp] W fun e w' => e = .returned (.bool (cycScan E n (-1) zs)) ∧ Below W.heap.size W w') :=
    fun W ap m cp zs h hz hm => cyclic_any vi vl ae n ce E ap m cp zs W hE (he.below h) hn hrow hz hm
  have HB : Hid (∀ W, W = w.alloc (.cells #[vi, .slice ae n ce, vl] 26) → Below w.heap.size w W ∧ W.heap.size = w.heap.size + 1 ∧ W.cell? ⟨w.heap.size, 0, none⟩ = some vi ∧ W.cell? ⟨w.heap.size, 1, none⟩ = some (.slice ae n ce) ∧ W.cell? ⟨w.heap.size, 2, none⟩ = some vl) := by
    rintro W rfl
    exact ⟨(Below.refl _ w).alloc (Nat.le_refl _) _, by simp, World.cell?_alloc_at (w := w) _ 26 w.heap.size 0 rfl, World.cell?_alloc_at (w := w) _ 26 w.heap.size 1 rfl, World.cell?_alloc_at (w := w) _ 26 w.heap.size 2 rfl⟩
  clear he hrow hE
  go_enter Try.func17, Try.ntmps17
  go_upto_region 1 with (fail)
  obtain ⟨hB1, hz1, c0, c1, c2⟩ := HB.out _ rfl
  have HB1 := Lib.hid hB1
  have HZ1 := Lib.hid hz1
  clear HB hB1 hz1
  generalize w.alloc (.cells #[vi, .slice ae n ce, vl] 26) = w1 at *
  generalize hgb : w.heap.size = gb at *
  have HGB := Lib.hid hgb
  clear hgb
  go_upto_region 2 with (at_make; refine wpList_make_full _ rfl _ _ 34 rfl 0 4 i4 (.bool false) 1 Try.underlying34 hi4 hz4 hs4 _ _ _ _ n rfl rfl rfl rfl (by rw [hb4]; omega) (by unfold maxLen; omega) (Nat.zero_le _) ?_; intro w3 hs hg; have HS3 := Lib.hid hs; have HG3 := Lib.hid hg; have d0 := hg.cell c0 (by simp); have d1 := hg.cell c1 (by simp); have d2 := hg.cell c2 (by simp); clear hs hg c0 c1 c2)
  have hk3 : Kept (fun _ => False) w1 w3 := ⟨HG3.out.os, HG3.out.tape, HG3.out.output, HG3.out.size, fun k hk _ => HG3.out.block k hk (by simp)⟩
  have hB3 : Below w.heap.size w w3 := by rw [HGB.out]; exact HB1.out.trans (hk3.below (by have := HZ1.out; omega) (fun _ _ h => h))
  have HB3 := Lib.hid hB3
  have HSL : Hid (Sl w3 4 (.slice (some ⟨w1.heap.size, 0, none⟩) n n) n (boolsOf n (fun _ => false))) := by
    have := HS3.out
    rw [madeCells_list (.bool false) rfl] at this
    rw [boolsOf_false]; exact this
  have HGO : Hid (w1.heap.size < w3.heap.size) := HSL.out.lt _ rfl
  have HLOW : Hid (gb < w1.heap.size) := by have := HZ1.out; show _ < _; omega
  clear hk3 hB3 HS3 HG3 HZ1 HB1
  generalize w1.heap.size = go at *
  go_wp2_with (go_at_call 13; refine (HPA.out w3 (by rw [← HGB.out]; exact HB3.out)).mono ?_; rintro e w2 ⟨ap, cp, aV, V, A, rfl, hp⟩; have HP := Lib.hid hp; have e0 := (hp.old.cell (World.block_lt_of_cell? w3 _ d0)).trans d0; have e1 := (hp.old.cell (World.block_lt_of_cell? w3 _ d1)).trans d1; have e2 := (hp.old.cell (World.block_lt_of_cell? w3 _ d2)).trans d2; clear hp d0 d1 d2)
  have HLS : Hid (LS w w2 w2 go n (fun _ => false)) := ⟨Sl.kept HSL.out (Kept.ofBelow HP.out.old) (fun b e s => by have := HSL.out.lt b e; omega), Kept.refl _ _, by rw [HGB.out]; have := HLOW.out; omega⟩
  have HB2 : Hid (Below w.heap.size w w2) := HB3.out.trans (HP.out.old.mono HB3.out.size)
  have HE0 := Lib.hid e0
  have HE1 := Lib.hid e1
  have HE2 := Lib.hid e2
  have hcn := cntL_le (lead E) n
  have HGL := Lib.hid (grp_len (lead E) n)
  clear HSL HPA HB3 e0 e1 e2
  generalize hR : cntL (lead E) n = R at *
  have HRR := Lib.hid hR
  clear hR
  go_loopw [16] (fun x wr => ∃ k : Nat, k ≤ R ∧ x = .int .i64 k ∧ ∃ f, Hid (LS w w2 wr go n f) ∧ Hid (LInv E n k 0 f)) (fun x _ => R - (intOf x).toNat)
  case atStart => exact ⟨0, Nat.zero_le _, rfl, _, HLS, fun v hv h => by rcases h with h | ⟨_, h⟩ <;> simp at h⟩
  case round =>
    clear HLS
    obtain ⟨k, hk, rfl, f, hs, hi⟩ := hrel
    by_cases hlt : k < R
    · have hltI : (k : Int) < (R : Int) := by omega
      have f0 := hs.out.kept.cellSome HE0.out (fun e => by have := HLOW.out; have e2 : gb = go := e; omega)
      have f1 := hs.out.kept.cellSome HE1.out (fun e => by have := HLOW.out; have e2 : gb = go := e; omega)
      have f2 := hs.out.kept.cellSome HE2.out (fun e => by have := HLOW.out; have e2 : gb = go := e; omega)
      obtain ⟨g, ar, cr, rfl, cg, hrow, hvk⟩ := hs.out.row HP.out HGO.out k hlt
      have hml : (grpRow (lead E) n k).length ≤ n := HGL.out _
      have HROW := Lib.hid hrow
      have HVK := Lib.hid hvk
      clear hvk
      obtain ⟨m, hm⟩ : ∃ m, (grpRow (lead E) n k).length = m := ⟨_, rfl⟩
      rw [hm] at hml cg HROW HVK
      have HM := Lib.hid hm
      have HC := Lib.hid (HCY.out wr ar m cr (grpRow (lead E) n k) (by rw [← HGB.out]; exact hs.out.old HB2.out) HROW.out (by omega))
      generalize hcb : cycScan E n (-1) (grpRow (lead E) n k) = cb at *
      have HCB := Lib.hid hcb
      clear hcb hm hrow
      go_wp2_with (go_at_call 15; refine HC.out.mono ?_; rintro e w4 ⟨rfl, hb4'⟩; have HS4 := Lib.hid (hs.out.below hb4'); have HROW4 := Lib.hid (HROW.out.below hb4'); clear hb4' hs HROW HC f0 f1 f2 cg)
      go_loopw [25] (fun x wr => ∃ j : Nat, j ≤ m ∧ x = .int .i64 j ∧ ∃ f, Hid (LS w w2 wr go n f) ∧ Hid (LInv E n k j f)) (fun x _ => m - (intOf x).toNat)
      case atStart => exact ⟨0, Nat.zero_le _, rfl, f, HS4, hi⟩
      case round =>
        clear HS4 hi HROW4
        obtain ⟨j, hj, rfl, f, hs, hi⟩ := hrel
        by_cases hjm : j < m
        · have hjmI : (j : Int) < (m : Int) := by omega
          obtain ⟨g', a', c', -, -, hr', hv'⟩ := hs.out.row HP.out HGO.out k hlt
          rw [HM.out] at hr' hv'
          rw [HVK.out] at hv'
          cases hv'
          obtain ⟨-, h0 | ⟨b, off, rfl, hc⟩⟩ := hr'
          · omega
          have hcj := hc j hjm
          obtain ⟨v, hv, -, ev'⟩ := grp_mem (f := lead E) (k := n) (u := (leads (lead E) n).getD k 0) (j := j) (by have := HM.out; unfold grpRow at this; rw [this]; exact hjm)
          have ev : (grpRow (lead E) n k).getD j 0 = (v : Int) := ev'
          have HIS : Hid (LInv E n k (j + 1) (up f v cb)) := by
            have := hi.out.set (by rw [HRR.out]; exact hlt) (by rw [HM.out]; exact hjm) ev
            rwa [HCB.out] at this
          rw [ev] at hcj
          obtain ⟨o1, o2, hset⟩ := hs.out.set v hv cb
          have HSS := Lib.hid hset
          have hvI : (v : Int) < (n : Int) := by omega
          clear hc ev ev' hset hs hi
          go_wp2_with fail
          go_roundw
          case rel => exact ⟨j + 1, by omega, by go_num, _, HSS, HIS⟩
          case measure => simp [intOf]; omega
        · obtain rfl : m = j := by omega
          have HX : Hid (LInv E n (k + 1) 0 f) := by have := hi.out; rw [← HM.out] at this; exact this.next
          go_wp2_with fail
          go_roundw
          case rel => exact ⟨k + 1, by omega, by go_num, f, hs, HX⟩
          case measure => simp [intOf]; omega
    · obtain rfl : R = k := by omega
      go_wp2_with fail
      go_ret
      refine ⟨_, _, rfl, ?_, by first | exact hs.out.old HB2.out | (rw [← HGB.out]; exact hs.out.old HB2.out)⟩
      have := hs.out.out
      have h2 : boolsOf n f = boolsOf n (liveB E n) := boolsOf_congr fun v hv => by
        have h := hi.out
        rw [← HRR.out] at h
        exact h.end v hv
      rw [h2] at this
      exact this
end Go.Proofs.Ytnkfmhhfeaohbaa
