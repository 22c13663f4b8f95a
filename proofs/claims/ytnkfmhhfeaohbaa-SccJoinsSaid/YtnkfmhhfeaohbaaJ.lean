/- The walk of the reference's Ways. -/
import Derived.Test.YtnkfmhhfeaohbaaI
import Derived.Test.YtnkfmhhfeaohbaaMat
namespace Go.Proofs.Ytnkfmhhfeaohbaa
open Go.RowKit Go.Own

/-- The rows in the world w, all made since w1. -/
def WM (w1 w : World) (v : Value) (V : Nat → Value) (R K n : Nat) (M : Nat → Nat → Bool) : Prop := MatV w1.heap.size w v V R K n M ∧ Below w1.heap.size w1 w

section
variable {w1 w w2 : World} {v : Value} {V : Nat → Value} {R K n : Nat} {M M' : Nat → Nat → Bool}

theorem WM.congr (h : WM w1 w v V R K n M) (hM : ∀ i, i < K → ∀ j, j < n → M i j = M' i j) : WM w1 w v V R K n M' := ⟨h.1.congr hM, h.2⟩
theorem WM.rd {a : Option Addr} {c : Nat} (h : WM w1 w (.slice a R c) V R K n M) (hRK : R ≤ K) (i j : Nat) (hi : i < R) (hj : j < n) :
    ∃ g b d, a = some ⟨g, 0, none⟩ ∧ w.cell? ⟨g, i, none⟩ = some (.slice (some ⟨b, 0, none⟩) n d) ∧ w.cell? ⟨b, j, none⟩ = some (.bool (M i j)) ∧ w.frozen? ⟨b, j, none⟩ = false ∧
      ∀ x, WM w1 (w.setCell ⟨b, j, none⟩ (.bool x)) (.slice a R c) V R K n (up M i (up (M i) j x)) := by
  obtain ⟨g, c', e, hc⟩ := h.1.at i hi
  cases e
  obtain ⟨b, d, e2, h2⟩ := h.1.val i (by omega) (by omega)
  refine ⟨g, b, d, rfl, by rw [hc i hi, e2], (h2 j hj).1, (h2 j hj).2, fun x => ⟨h.1.set (by omega) e2 hj x, h.1.setBelow h.2 (Nat.le_refl _) (by omega) e2 _⟩⟩
theorem WM.pend {g c : Nat} (h : WM w1 w v V R (R + 1) n M) (hV : V R = .slice (some ⟨g, 0, none⟩) n c) (j : Nat) (hj : j < n) :
    w.cell? ⟨g, j, none⟩ = some (.bool (M R j)) ∧ w.frozen? ⟨g, j, none⟩ = false ∧ ∀ x, WM w1 (w.setCell ⟨g, j, none⟩ (.bool x)) v V R (R + 1) n (up M R (up (M R) j x)) := by
  obtain ⟨b, d, e2, h2⟩ := h.1.val R (by omega) (by omega)
  rw [hV] at e2
  cases e2
  exact ⟨(h2 j hj).1, (h2 j hj).2, fun x => ⟨h.1.set (by omega) hV hj x, h.1.setBelow h.2 (Nat.le_refl _) (by omega) hV _⟩⟩
theorem WM.make (h : WM w1 w v V R R n M) (hf : ∀ j, M R j = false) (hs : w2.ownsRow 0 4 1 (.slice (some ⟨w.heap.size, 0, none⟩) n n) n (madeCells (Value.bool false).cells (n * 1)).toList) (hg : w.grownBy w2 none) :
    ∃ V2, V2 R = .slice (some ⟨w.heap.size, 0, none⟩) n n ∧ WM w1 w2 v V2 R (R + 1) n M := by
  have hk : Kept (fun _ => False) w w2 := ⟨hg.os, hg.tape, hg.output, hg.size, fun k hk _ => hg.block k hk (by simp)⟩
  rw [madeCells_list (.bool false) rfl] at hs
  exact ⟨_, up_same _ _ _, h.1.make h.2.size hs hk hf, h.2.trans (hk.below h.2.size (fun _ _ h => h))⟩
theorem WM.snoc {g c' : Nat} (h : WM w1 w v V R (R + 1) n M) {u : Value} (hu : V R = u) (hs : Sl w2 34 (.slice (some ⟨g, 0, none⟩) (R + 1) c') (R + 1) ((List.range R).map V ++ [u])) (hk : Kept (fun k => v.ownBlock = some k) w w2)
    (hm : v.ownBlock = some g ∨ w.heap.size ≤ g) : WM w1 w2 (.slice (some ⟨g, 0, none⟩) (R + 1) c') V (R + 1) (R + 1) n M := by
  subst hu
  exact ⟨h.1.snoc hs hk (fun b e => by cases e; exact hm) h.2.size, h.2.trans (hk.below h.2.size (fun k hlt e => by have := h.1.new k e; omega))⟩
theorem WM.mono {w0 : World} (h : WM w1 w v V R K n M) (hb : Below w0.heap.size w0 w1) : WM w0 w v V R K n M :=
  ⟨{ h.1 with new := fun b e => Nat.le_trans hb.size (h.1.new b e), newR := fun i b hi e => Nat.le_trans hb.size (h.1.newR i b hi e) }, hb.trans (h.2.mono hb.size)⟩
theorem WM.below (h : WM w1 w v V R K n M) (hb : Below w.heap.size w w2) : WM w1 w2 v V R K n M := ⟨h.1.below hb, h.2.trans (hb.mono h.2.size)⟩
end

theorem Try.info34 : (Try.prog.info? 34).map (fun i => (i.zero, i.size, i.bytes)) = some (some (.slice none 0 0), 1, 24) := by kernel_rfl
/-- What Ways leaves. -/
def WaysDone (E : List (List Int)) (n : Nat) (w : World) (e : Ending) (w' : World) : Prop := ∃ a c V, e = .returned (.slice a n c) ∧ WM w w' (.slice a n c) V n n n (warB E n)

set_option maxRecDepth 100000 in
set_option maxHeartbeats 2000000 in
theorem ways_any (vi vl : Value) (ae : Option Addr) (n ce : Nat) (E : List (List Int)) (w : World) (hE : E.length = n) (he : EdgesAt w ae E) (hn : n ≤ 1000000) (hrow : ∀ i, i < E.length → (E.getD i []).length ≤ 1000000000) :
    Calls Try.prog 20 #[.agg #[vi, .slice ae n ce, vl]] w (WaysDone E n w) := by
  obtain ⟨i4, hi4, hz4, hs4, hb4⟩ := info_parts Try.info4
  obtain ⟨i34, hi34, hz34, hs34, hb34⟩ := info_parts Try.info34
  have HE := Lib.hid hE
  have HRO := Lib.hid hrow
  have HN := Lib.hid hn
  have HB : Hid (∀ W, W = w.alloc (.cells #[vi, .slice ae n ce, vl] 26) → Below w.heap.size w W) := by rintro W rfl; exact (Below.refl _ w).alloc (Nat.le_refl _) _
  have HC1 : Hid (∀ W, W = w.alloc (.cells #[vi, .slice ae n ce, vl] 26) → W.cell? ⟨w.heap.size, 1, none⟩ = some (.slice ae n ce)) := by
    rintro W rfl; exact World.cell?_alloc_at (w := w) _ 26 w.heap.size 1 rfl
  have HED : Hid (∀ W, Below w.heap.size w W → EdgesAt W ae E) := fun W h => he.below h
  clear he hrow hE
  go_enter Try.func20, Try.ntmps20
  go_upto_region 1 with (fail)
  have HB1 := Lib.hid (HB.out _ rfl)
  have HCC := Lib.hid (HC1.out _ rfl)
  clear HB HC1
  have HE1 := Lib.hid (HED.out _ HB1.out)
  clear HED
  generalize w.alloc (.cells #[vi, .slice ae n ce, vl] 26) = w1 at *
  have HFIN : Hid (∀ W v V M, WM w1 W v V n n n M → WM w W v V n n n M) := fun W v V M h => h.mono HB1.out
  clear HB1
  generalize w.heap.size = gb at *
  have c1 := HCC.out
  go_upto_region 4 with (fail)
  clear c1
  go_loopw [4, 5] (fun v x wr => ∃ k : Nat, k ≤ n ∧ x = .int .i64 k ∧ ∃ V, Hid (WM w1 wr v V k k n (buildM E k 0))) (fun _ x _ => n - (intOf x).toNat)
  case atStart => exact ⟨0, Nat.zero_le _, rfl, fun _ => undef, ⟨MatV.start _ _ _ _ _, Below.refl _ _⟩⟩
  case round =>
    obtain ⟨k, hk, rfl, V, hm⟩ := hrel
    by_cases hlt : k < n
    · have hltI : (k : Int) < (n : Int) := by omega
      have c1 := (hm.out.2.cell (World.block_lt_of_cell? w1 _ HCC.out)).trans HCC.out
      have HM0 := Lib.hid (fun w2 hs hg => hm.out.make (w2 := w2) (buildM_new E k) hs hg)
      have HMV := Lib.hid hm.out
      clear hm
      go_wp2_with (at_make; refine wpList_make_full _ rfl _ _ 34 rfl 0 4 i4 (.bool false) 1 Try.underlying34 hi4 hz4 hs4 _ _ _ _ n rfl rfl rfl rfl (by rw [hb4]; omega) (by unfold maxLen; omega) (Nat.zero_le _) ?_; intro w2 hs hg; have HM2 := Lib.hid (HM0.out w2 hs hg); clear hs hg c1)
      clear HM0 HMV V
      obtain ⟨V, hV, hM2⟩ := HM2.out
      have HV := Lib.hid hV
      have HWM := Lib.hid hM2
      clear hV hM2 HM2
      generalize wr.heap.size = gr at *
      obtain ⟨m, hmE⟩ : ∃ m, (E.getD k []).length = m := ⟨_, rfl⟩
      have HML := Lib.hid hmE
      have hmx : m ≤ 1000000000 := by rw [← hmE]; exact HRO.out k (by rw [HE.out]; exact hlt)
      clear hmE
      go_loopw [7] (fun x wr => ∃ j : Nat, j ≤ m ∧ x = .int .i64 j ∧ Hid (WM w1 wr u4 V k (k + 1) n (buildM E k j))) (fun x _ => m - (intOf x).toNat)
      case atStart => exact ⟨0, Nat.zero_le _, rfl, HWM⟩
      case round =>
        clear HWM
        obtain ⟨j, hj, rfl, hm⟩ := hrel
        have c1 := (hm.out.2.cell (World.block_lt_of_cell? w1 _ HCC.out)).trans HCC.out
        obtain ⟨b, off, ai, ci, e, c2, hc2⟩ := (HE1.out.below hm.out.2).at k (by rw [HE.out]; exact hlt)
        rw [HML.out] at c2 hc2
        cases e
        by_cases hjm : j < m
        · have hjmI : (j : Int) < (m : Int) := by omega
          obtain ⟨b', off', rfl, c3, _⟩ := hc2 j hjm
          have HST := Lib.hid fun (y : Nat) => buildM_set (E := E) (i := k) (k := j) (y := y) (by rw [HML.out]; exact hjm)
          have HSK := Lib.hid (buildM_skip (E := E) (i := k) (k := j) (by rw [HML.out]; exact hjm) n)
          generalize (E.getD k []).getD j 0 = z at *
          clear hc2
          by_cases hneg : z < 0
          · have t0 : decide (0 ≤ z) = false := decide_eq_false (by omega)
            have HR : Hid (WM w1 wr u4 V k (k + 1) n (buildM E k (j + 1))) := hm.out.congr fun p _ q hq => HSK.out (fun q _ e => by omega) p q hq
            clear hm HST HSK
            go_wp2_with fail
            go_roundw
            case rel => exact ⟨j + 1, by omega, by go_num, HR⟩
            case measure => simp [intOf]; omega
          · have t0 : decide (0 ≤ z) = true := decide_eq_true (by omega)
            by_cases hbig : (n : Int) ≤ z
            · have t1 : decide (z < (n : Int)) = false := decide_eq_false (by omega)
              have HR : Hid (WM w1 wr u4 V k (k + 1) n (buildM E k (j + 1))) := hm.out.congr fun p _ q hq => HSK.out (fun q _ e => by omega) p q hq
              clear hm HST HSK
              go_wp2_with fail
              go_roundw
              case rel => exact ⟨j + 1, by omega, by go_num, HR⟩
              case measure => simp [intOf]; omega
            · obtain ⟨y, rfl⟩ : ∃ y : Nat, z = (y : Int) := ⟨z.toNat, by omega⟩
              have hy : y < n := by omega
              have hyI : (y : Int) < (n : Int) := by omega
              have t1 : decide ((y : Int) < (n : Int)) = true := decide_eq_true hyI
              have t2 : decide (y < n) = true := decide_eq_true hy
              obtain ⟨c4, f4, hset⟩ := hm.out.pend HV.out y hy
              have HR : Hid (WM w1 (wr.setCell ⟨gr, y, none⟩ (.bool true)) u4 V k (k + 1) n (buildM E k (j + 1))) := (hset true).congr fun p _ q _ => HST.out y rfl p q
              clear hm HST HSK hset
              go_wp2_with fail
              go_roundw
              case rel => exact ⟨j + 1, by omega, by go_num, HR⟩
              case measure => simp [intOf]; omega
        · obtain rfl : j = m := by omega
          have HA := Lib.hid hm.out
          clear hm hc2
          go_wp2_with (at_builtin; refine wpList_append_one_pos rfl (.tmp 51) (.tmp 53) 45 rfl 34 i34 (.slice none 0 0) 24 Try.underlying45 hi34 hz34 hs34 hb34 rfl (by decide) _ _ _ rfl HA.out.1.outer _ rfl rfl (by omega) ?_; intro g1 cc w3 hs hkp hmv; have HN2 := Lib.hid (HA.out.snoc HV.out hs hkp hmv); clear hs hkp hmv)
          go_roundw
          case rel => exact ⟨k + 1, by omega, by go_num, V, HN2.out.congr fun p hp q hq => by have := HML.out; subst this; exact buildM_done (by rw [HE.out]; exact hlt) hp (by rw [HE.out]; exact hq)⟩
          case measure => simp [intOf]; omega
    · obtain rfl : n = k := by omega
      obtain ⟨a, cc, e, _⟩ := hm.out.1.outer.shape
      subst e
      have HA : Hid (WM w1 wr (.slice a n cc) V n n n (warB E 0)) := hm.out.congr (fun p hp q _ => by have := HE.out; subst this; exact buildM_war hp)
      clear hm
      go_wp2_with fail
      go_loopw [9] (fun x wr => ∃ k : Nat, k ≤ n ∧ x = .int .i64 k ∧ Hid (WM w1 wr (.slice a n cc) V n n n (warB E k))) (fun x _ => n - (intOf x).toNat)
      case atStart => exact ⟨0, Nat.zero_le _, rfl, HA⟩
      case round =>
        clear HA
        obtain ⟨k, hk, rfl, hm⟩ := hrel
        by_cases hlt : k < n
        · have hltI : (k : Int) < (n : Int) := by omega
          have HA : Hid (WM w1 wr (.slice a n cc) V n n n (stageM E k 0 0)) := hm.out.congr (fun p _ q _ => (stageM_start E k p q).symm)
          clear hm
          go_wp2_with fail
          go_loopw [10] (fun x wr => ∃ i : Nat, i ≤ n ∧ x = .int .i64 i ∧ Hid (WM w1 wr (.slice a n cc) V n n n (stageM E k i 0))) (fun x _ => n - (intOf x).toNat)
          case atStart => exact ⟨0, Nat.zero_le _, rfl, HA⟩
          case round =>
            clear HA
            obtain ⟨i, hi, rfl, hm⟩ := hrel
            by_cases hil : i < n
            · have hilI : (i : Int) < (n : Int) := by omega
              obtain ⟨g, b, d, e, c1, c2, -, -⟩ := hm.out.rd (Nat.le_refl _) i k hil hlt
              cases e
              rw [stageM_ik] at c2
              by_cases hik : warB E k i k = true
              · rw [hik] at c2
                have HIK := Lib.hid hik
                clear hik
                go_wp2_with fail
                go_loopw [11] (fun x wr => ∃ j : Nat, j ≤ n ∧ x = .int .i64 j ∧ Hid (WM w1 wr (.slice (some ⟨g, 0, none⟩) n cc) V n n n (stageM E k i j))) (fun x _ => n - (intOf x).toNat)
                case atStart => exact ⟨0, Nat.zero_le _, rfl, hm⟩
                case round =>
                  clear hm c1 c2
                  obtain ⟨j, hj, rfl, hm⟩ := hrel
                  by_cases hjl : j < n
                  · have hjlI : (j : Int) < (n : Int) := by omega
                    obtain ⟨g1, b1, d1, e, c1, c2, -, -⟩ := hm.out.rd (Nat.le_refl _) k j hlt hjl
                    cases e
                    rw [stageM_k] at c2
                    obtain ⟨g2, b2, d2, e, c3, c4, f4, hset⟩ := hm.out.rd (Nat.le_refl _) i j hil hjl
                    cases e
                    by_cases hkj : warB E k k j = true
                    · rw [hkj] at c2
                      have HR : Hid (WM w1 (wr.setCell ⟨b2, j, none⟩ (.bool true)) (.slice (some ⟨g, 0, none⟩) n cc) V n n n (stageM E k i (j + 1))) := (hset true).congr fun p _ q _ => stageM_set HIK.out hkj p q
                      generalize stageM E k i j i j = old at *
                      clear hm hset hkj
                      go_wp2_with fail
                      go_roundw
                      case rel => exact ⟨j + 1, by omega, by go_num, HR⟩
                      case measure => simp [intOf]; omega
                    · have hkj0 : warB E k k j = false := by simpa using hkj
                      rw [hkj0] at c2
                      have HR : Hid (WM w1 wr (.slice (some ⟨g, 0, none⟩) n cc) V n n n (stageM E k i (j + 1))) := hm.out.congr fun p _ q _ => stageM_same hkj0 p q
                      clear hm hset hkj hkj0 c3 c4 f4
                      go_wp2_with fail
                      go_roundw
                      case rel => exact ⟨j + 1, by omega, by go_num, HR⟩
                      case measure => simp [intOf]; omega
                  · obtain rfl : n = j := by omega
                    have HR : Hid (WM w1 wr (.slice (some ⟨g, 0, none⟩) n cc) V n n n (stageM E k (i + 1) 0)) := hm.out.congr fun p _ q hq => stageM_row E k i n p q hq
                    clear hm
                    go_wp2_with fail
                    go_roundw
                    case rel => exact ⟨i + 1, by omega, by go_num, HR⟩
                    case measure => simp [intOf]; omega
              · have hik0 : warB E k i k = false := by simpa using hik
                rw [hik0] at c2
                have HR : Hid (WM w1 wr (.slice (some ⟨g, 0, none⟩) n cc) V n n n (stageM E k (i + 1) 0)) := hm.out.congr fun p _ q _ => stageM_skip hik0 p q
                clear hm hik hik0
                go_wp2_with fail
                go_roundw
                case rel => exact ⟨i + 1, by omega, by go_num, HR⟩
                case measure => simp [intOf]; omega
            · obtain rfl : n = i := by omega
              have HR : Hid (WM w1 wr (.slice a n cc) V n n n (warB E (k + 1))) := hm.out.congr fun p hp q _ => (stageM_end E k n p q hp).trans (stageM_start E (k + 1) p q)
              clear hm
              go_wp2_with fail
              go_roundw
              case rel => exact ⟨k + 1, by omega, by go_num, HR⟩
              case measure => simp [intOf]; omega
        · obtain rfl : n = k := by omega
          clear HCC HE1
          go_wp2_with fail
          go_ret
          exact ⟨a, cc, V, rfl, HFIN.out _ _ _ _ hm.out⟩
end Go.Proofs.Ytnkfmhhfeaohbaa
