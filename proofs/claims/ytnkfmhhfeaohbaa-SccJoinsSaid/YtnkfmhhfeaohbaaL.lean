/- The walk of Parts. -/
import Derived.Test.YtnkfmhhfeaohbaaK
import Derived.Test.YtnkfmhhfeaohbaaGrp
namespace Go.Proofs.Ytnkfmhhfeaohbaa
open Go.RowKit Go.Own

/-- The least node of a node's part. -/
def lead (E : List (List Int)) (v : Nat) : Nat := leastB E v v v
theorem lead_isMin (E : List (List Int)) (v : Nat) : IsMin E v (lead E v) := leastB_isMin E v
theorem lead_le (E : List (List Int)) (v : Nat) : lead E v ≤ v := (lead_isMin E v).2 v (Scc.refl E v)
theorem lead_lead (E : List (List Int)) (v : Nat) : lead E (lead E v) = lead E v := by
  have h := lead_isMin E v
  exact (lead_isMin E (lead E v)).unique ⟨Scc.refl E _, fun u hu => h.2 u (h.1.trans hu)⟩

theorem ps_below {w2 w w1 : World} {aV v : Value} {V : Nat → Value} {n R : Nat} {A : Nat → Nat} {X : Nat → List Int} (h : PS w2 w aV v V n R A X) (hb : Below w.heap.size w w1) : PS w2 w1 aV v V n R A X :=
  { h with outer := Sl.kept h.outer (Kept.ofBelow hb) (fun b e s => by have := h.outer.lt b e; omega),
           row := fun i hi => Sl.kept (h.row i hi) (Kept.ofBelow hb) (fun b e s => by have := (h.row i hi).lt b e; omega),
           arr := Sl.kept h.arr (Kept.ofBelow hb) (fun b e s => by have := h.arr.lt b e; omega),
           old := h.old.trans (hb.mono h.old.size) }
theorem _root_.Go.Own.PS.below {w2 w w1 : World} {aV v : Value} {V : Nat → Value} {n R : Nat} {A : Nat → Nat} {X : Nat → List Int} (h : PS w2 w aV v V n R A X) (hb : Below w.heap.size w w1) : PS w2 w1 aV v V n R A X := ps_below h hb
theorem ps_mono {w0 w2 w : World} {aV v : Value} {V : Nat → Value} {n R : Nat} {A : Nat → Nat} {X : Nat → List Int} (h : PS w2 w aV v V n R A X) (hb : Below w0.heap.size w0 w2) : PS w0 w aV v V n R A X :=
  { h with new := fun b e => Nat.le_trans hb.size (h.new b e), newR := fun i b hi e => Nat.le_trans hb.size (h.newR i b hi e), anew := fun b e => Nat.le_trans hb.size (h.anew b e), old := hb.trans (h.old.mono hb.size) }
theorem ps_start {w2 w3 : World} {n : Nat} {V : Nat → Value} {X : Nat → List Int} (hs : w3.ownsRow 0 3 1 (.slice (some ⟨w2.heap.size, 0, none⟩) n n) n (madeCells (Value.int .i64 0).cells (n * 1)).toList) (hg : w2.grownBy w3 none) :
    PS w2 w3 (.slice (some ⟨w2.heap.size, 0, none⟩) n n) (.slice none 0 0) V n 0 (fun _ => 0) X := by
  have hk : Kept (fun _ => False) w2 w3 := ⟨hg.os, hg.tape, hg.output, hg.size, fun k hk _ => hg.block k hk (by simp)⟩
  rw [madeCells_list (.int .i64 0) rfl] at hs
  exact ⟨World.ownsRow_nil _ _ _ _, fun i h => absurd h (Nat.not_lt_zero i), fun i _ _ h => absurd h (Nat.not_lt_zero i), fun i _ h => absurd h (Nat.not_lt_zero i), fun b h => (by cases h), fun i _ h => absurd h (Nat.not_lt_zero i),
    by rw [numsOf_zero]; exact hs, fun b _ e => (by cases e), fun i _ h => absurd h (Nat.not_lt_zero i), fun b e => by cases e; exact Nat.le_refl _, hk.below (Nat.le_refl _) (fun _ _ h => h)⟩
/-- What region 10 needs of a row. -/
theorem ps_row {w2 w : World} {aV v : Value} {V : Nat → Value} {n R : Nat} {A : Nat → Nat} {X : Nat → List Int} (h : PS w2 w aV v V n R A X) (r : Nat) (hr : r < R) : ∃ a c, V r = .slice a (X r).length c := by
  obtain ⟨a, c, e, _⟩ := (h.row r hr).shape
  exact ⟨a, c, e⟩
theorem r10_facts {w2 w4 : World} {gat g4 c4 n R u r k lr cr : Nat} {ar : Option Addr} {V4 : Nat → Value} {A4 : Nat → Nat} {X4 : Nat → List Int} (h : PS w2 w4 (.slice (some ⟨gat, 0, none⟩) n n) (.slice (some ⟨g4, 0, none⟩) R c4) V4 n R A4 X4) (hr : r < R) (hu : u < n) (hA : A4 u = r)
    (hV : V4 r = .slice ar lr cr) (hl : (X4 r).length = lr) : w4.cell? ⟨gat, u, none⟩ = some (.int .i64 (r : Int)) ∧ w4.cell? ⟨g4, r, none⟩ = some (.slice ar lr cr) ∧
      Hid (∀ W, PS w2 W (.slice (some ⟨gat, 0, none⟩) n n) (.slice (some ⟨g4, 0, none⟩) R c4) V4 n R A4 X4 → Sl W 3 (.slice ar lr cr) lr ((X4 r).map (Value.int .i64))) ∧
      Hid (∀ W w6, PS w2 W (.slice (some ⟨gat, 0, none⟩) n n) (.slice (some ⟨g4, 0, none⟩) R c4) V4 n R A4 X4 → Kept (fun k => (Value.slice ar lr cr).ownBlock = some k) W w6 → w6.frozen? ⟨g4, r, none⟩ = false) ∧
      Hid (∀ W w6 v6, PS w2 W (.slice (some ⟨gat, 0, none⟩) n n) (.slice (some ⟨g4, 0, none⟩) R c4) V4 n R A4 X4 → Sl w6 3 v6 (lr + 1) ((X4 r).map (Value.int .i64) ++ [.int .i64 (k : Int)]) → Kept (fun k => (Value.slice ar lr cr).ownBlock = some k) W w6 → Moved W (.slice ar lr cr) v6 →
        PS w2 (w6.setCell ⟨g4, r, none⟩ v6) (.slice (some ⟨gat, 0, none⟩) n n) (.slice (some ⟨g4, 0, none⟩) R c4) (up V4 r v6) n R A4 (up X4 r (X4 r ++ [(k : Int)]))) := by
  obtain ⟨b, c, e, hc⟩ := h.arrAt (by omega)
  cases e
  obtain ⟨g, c', e, hc'⟩ := h.at (by omega)
  cases e
  refine ⟨by rw [(hc u hu).1, hA], by rw [(hc' r hr).1, hV], fun W hW => ?_, fun W w6 hW hk => ?_, fun W w6 v6 hW hs hk hm => ?_⟩
  · have := hW.row r hr
    rwa [hV, hl] at this
  · obtain ⟨g', c'', e, hc2⟩ := hW.at (by omega)
    cases e
    have hg : g4 < W.heap.size := hW.outer.lt g4 rfl
    exact (World.frozen?_of_block (hk.block g4 hg (fun e => hW.off r g4 hr (by rw [hV]; exact e) rfl))).trans (hc2 r hr).2
  · rw [← hV] at hk hm
    rw [← hl] at hs
    exact hW.push hr hs hk hm rfl
theorem Try.info22 : (Try.prog.info? 22).map (fun i => (i.zero, i.size, i.bytes)) = some (some (.slice none 0 0), 1, 24) := by kernel_rfl

def PartsDone (E : List (List Int)) (n : Nat) (w : World) (e : Ending) (w' : World) : Prop :=
  ∃ a c aV V A, e = .returned (.slice a (cntL (lead E) n) c) ∧ PS w w' aV (.slice a (cntL (lead E) n) c) V n (cntL (lead E) n) A (grpRow (lead E) n)
theorem grp_len (f : Nat → Nat) (k u : Nat) : (grp f k u).length ≤ k := by
  unfold grp
  rw [List.length_map]
  exact Nat.le_trans (List.length_filter_le _ _) (by simp)

set_option maxRecDepth 100000 in
set_option maxHeartbeats 2000000 in
theorem parts_any (vi vl : Value) (ae : Option Addr) (n ce : Nat) (E : List (List Int)) (w : World) (hE : E.length = n) (he : EdgesAt w ae E) (hn : n ≤ 1000000) (hrow : ∀ i, i < E.length → (E.getD i []).length ≤ 1000000000) :
    Calls Try.prog 13 #[.agg #[vi, .slice ae n ce, vl]] w (PartsDone E n w) := by
  obtain ⟨i3, hi3, hz3, hs3, hb3⟩ := info_parts Try.info3
  obtain ⟨i22, hi22, hz22, hs22, hb22⟩ := info_parts Try.info22
  have HE := Lib.hid hE
  have HN := Lib.hid hn
  have HB : Hid (∀ W, W = w.alloc (.cells #[vi, .slice ae n ce, vl] 26) → Below w.heap.size w W) := by rintro W rfl; exact (Below.refl _ w).alloc (Nat.le_refl _) _
  have HB1 := Lib.hid (HB.out _ rfl)
  have HOF : Hid (Calls Try.prog 11 #[.agg #[vi, .slice ae n ce, vl]] (w.alloc (.cells #[vi, .slice ae n ce, vl] 26)) fun e w' => ∃ a c, e = .returned (.slice a n c) ∧ MadeInts .i64 3 (w.alloc (.cells #[vi, .slice ae n ce, vl] 26)) w' (.slice a n c) (sccOf E)) := by
    have h := of_any vi vl ae n ce E _ hE (he.below HB1.out) hn hrow
    subst hE; exact h
  clear HB he hrow hE
  go_enter Try.func13, Try.ntmps13
  go_wp2_with (first | (go_at_call 11; refine HOF.out.mono ?_; rintro e w2 ⟨al, cl, rfl, hM⟩; have HM := Lib.hid hM; clear hM) | (at_make; refine wpList_make_full _ rfl _ _ 22 rfl 0 3 i3 (.int .i64 0) 1 Try.underlying22 hi3 hz3 hs3 _ _ _ _ n rfl rfl rfl rfl (by rw [hb3]; omega) (by unfold maxLen; omega) (Nat.zero_le _) ?_; intro w3 hs hg; have HPS := Lib.hid (ps_start (V := fun _ => undef) (X := grpRow (lead E) 0) hs hg); clear hs hg))
  have HFIN : Hid (∀ W aV v V R A X, PS w2 W aV v V n R A X → PS w W aV v V n R A X) := fun W aV v V R A X h => ps_mono h (HB1.out.trans ((made_below HM.out).mono HB1.out.size))
  have HL : Hid (RowAt .i64 w2 al n (sccOf E)) := made_rowAt HM.out
  clear HM HOF HB1
  generalize w2.heap.size = gat at *
  go_loopw [5, 15] (fun v x wr => ∃ k : Nat, k ≤ n ∧ x = .int .i64 k ∧ ∃ V A, Hid (PS w2 wr (.slice (some ⟨gat, 0, none⟩) n n) v V n (cntL (lead E) k) A (grpRow (lead E) k)) ∧ Hid (∀ u, u < k → lead E u = u → A u = cntL (lead E) u)) (fun _ x _ => n - (intOf x).toNat)
  case atStart => exact ⟨0, Nat.zero_le _, rfl, _, _, HPS, fun u h => absurd h (Nat.not_lt_zero u)⟩
  case round =>
    clear HPS
    obtain ⟨k, hk, rfl, V, A, hp, hA⟩ := hrel
    obtain ⟨ap, cp, ev, -⟩ := hp.out.outer.shape
    by_cases hlt : k < n
    · have hltI : (k : Int) < (n : Int) := by omega
      subst ev
      obtain ⟨-, h0 | ⟨bl, ol, rfl, hcl⟩⟩ := HL.out
      · omega
      have cl1 := hcl k hlt
      have hat : (sccOf E).getD k 0 = ((lead E k : Nat) : Int) := sccOf_at (by rw [HE.out]; exact hlt)
      rw [hat] at cl1
      have cl2 := (hp.out.old.cell (World.block_lt_of_cell? w2 _ cl1)).trans cl1
      have hle := lead_le E k
      have hcn := cntL_le (lead E) k
      clear hcl cl1 hat
      by_cases hkk : lead E k = k
      · have HKK := Lib.hid hkk
        rw [hkk] at cl2
        have R1 : Hid (cntL (lead E) (k + 1) = cntL (lead E) k + 1) := by show _ = _; rw [cntL_succ, if_pos hkk]
        obtain ⟨ba, ca, ea, hca⟩ := hp.out.arrAt (by omega)
        cases ea
        have fa := (hca k hlt).2
        have ca1 := (hca k hlt).1
        have HP1 := Lib.hid (hp.out.setArr rfl hlt (cntL (lead E) k))
        clear hkk hca hle
        have hcx : cntL (lead E) k ≤ 1000000 := by omega
        generalize hr0 : cntL (lead E) k = r at *
        have HR0 := Lib.hid hr0
        clear hr0
        go_upto_region 9 with (fail)
        generalize wr.setCell ⟨gat, k, none⟩ (.int .i64 (r : Int)) = w3 at *
        go_upto_region 10 with (at_builtin; (refine wpList_append_one_pos rfl (.tmp 28) (.tmp 29) 31 rfl 22 i22 (.slice none 0 0) 24 Try.underlying31 hi22 hz22 hs22 hb22 rfl (by decide) _ _ _ rfl HP1.out.outer _ rfl rfl (by omega) ?_; intro g4 c4 w4 hs hkp hmv; have HP2 := Lib.hid (HP1.out.snoc hs hkp hmv); clear hs hkp hmv))
        have hr : r < r + 1 := Nat.lt_succ_self r
        have hrI : (r : Int) < (r : Int) + 1 := by omega
        have HV : Hid (up V r (Value.slice none 0 0) r = .slice none 0 0) := up_same _ _ _
        obtain ⟨q1, q2, HSR, HFR, HPU⟩ := r10_facts (k := k) HP2.out hr hlt (up_same _ _ _) HV.out (lr := 0) (by rw [up_same]; rfl)
        have HP := HP2
        have HXN := Lib.hid (fun i (hi : i < r + 1) => grpRow_new (lead_le E) HKK.out i (by rw [HR0.out]; exact hi))
        rw [HR0.out] at HXN
        clear HP2 HP1 hp cl2 fa ca1
        generalize up V r (Value.slice none 0 0) = V4 at *
        generalize hX4 : up (grpRow (lead E) k) r [] = X4 at *
        clear hX4
        generalize hA4 : up A k r = A4 at *
        have HA4 := Lib.hid hA4
        clear hA4
        refine wp_region_bar 15 (S := fun w' => w'.cell? ⟨gat, k, none⟩ = some (.int .i64 (r : Int)) ∧ w'.cell? ⟨g4, r, none⟩ = some (.slice none 0 0)) (by kernel_rfl) (⟨q1, q2⟩) (fun hHeld => ?_)
        refine' wpAnyB_take (i := 0) [0] (v := _) rfl (by kernel_rfl) (fun _ _ _ h => h) (Or.inl ⟨by rfl, ?hy0⟩) (by assumption) ?rest0
        case hy0 => (intro w' hSw; (try dsimp only at hSw); go_simp; (try with_reducible rfl))
        try simp only [Act.put, List.getElem_toArray, List.getElem_cons_zero, List.getElem_cons_succ, List.setIfInBounds_toArray, List.set_cons_zero, List.set_cons_succ]
        refine' wpAnyB_take (i := 1) [1] (v := _) rfl (by kernel_rfl) (fun _ _ _ h => h) (Or.inl ⟨by rfl, ?hy1⟩) (by assumption) ?rest1
        case hy1 => (intro w' hSw; (try dsimp only at hSw); go_simp; (try with_reducible rfl))
        try simp only [Act.put, List.getElem_toArray, List.getElem_cons_zero, List.getElem_cons_succ, List.setIfInBounds_toArray, List.set_cons_zero, List.set_cons_succ]
        refine' wpAnyB_take (i := 2) [2] (v := _) rfl (by kernel_rfl) (fun _ _ _ h => h) (Or.inl ⟨by rfl, ?hy2⟩) (by assumption) ?rest2
        case hy2 => (intro w' hSw; (try dsimp only at hSw); go_simp; (try with_reducible rfl))
        try simp only [Act.put, List.getElem_toArray, List.getElem_cons_zero, List.getElem_cons_succ, List.setIfInBounds_toArray, List.set_cons_zero, List.set_cons_succ]
        refine' wpAnyB_take (i := 3) [3] (v := _) rfl (by kernel_rfl) (fun _ _ _ h => h) (Or.inl ⟨by rfl, ?hy3⟩) (by assumption) ?rest3
        case hy3 => (intro w' hSw; (try dsimp only at hSw); go_simp; (try with_reducible rfl))
        try simp only [Act.put, List.getElem_toArray, List.getElem_cons_zero, List.getElem_cons_succ, List.setIfInBounds_toArray, List.set_cons_zero, List.set_cons_succ]
        refine' wpAnyB_take (i := 4) [4] (v := _) rfl (by kernel_rfl) (fun _ _ _ h => h) (Or.inl ⟨by rfl, ?hy4⟩) (by assumption) ?rest4
        case hy4 => (intro w' hSw; (try dsimp only at hSw); go_simp; (try with_reducible rfl))
        try simp only [Act.put, List.getElem_toArray, List.getElem_cons_zero, List.getElem_cons_succ, List.setIfInBounds_toArray, List.set_cons_zero, List.set_cons_succ]
        refine' wpAnyB_take (i := 5) [5] (v := _) rfl (by kernel_rfl) (fun _ _ _ h => h) (Or.inl ⟨by rfl, ?hy5⟩) (by assumption) ?rest5
        case hy5 => (intro w' hSw; (try dsimp only at hSw); go_simp; (try with_reducible rfl))
        try simp only [Act.put, List.getElem_toArray, List.getElem_cons_zero, List.getElem_cons_succ, List.setIfInBounds_toArray, List.set_cons_zero, List.set_cons_succ]
        refine' wpAnyB_take (i := 6) [6] (v := _) rfl (by kernel_rfl) (fun _ _ _ h => h) (Or.inl ⟨by rfl, ?hy6⟩) (by assumption) ?rest6
        case hy6 => (intro w' hSw; (try dsimp only at hSw); go_simp; (try with_reducible rfl))
        try simp only [Act.put, List.getElem_toArray, List.getElem_cons_zero, List.getElem_cons_succ, List.setIfInBounds_toArray, List.set_cons_zero, List.set_cons_succ]
        refine' wpAnyB_take (i := 7) [7] (v := _) rfl (by kernel_rfl) (fun _ _ _ h => h) (Or.inl ⟨by rfl, ?hy7⟩) (by assumption) ?rest7
        case hy7 => (intro w' hSw; (try dsimp only at hSw); go_simp; (try with_reducible rfl))
        try simp only [Act.put, List.getElem_toArray, List.getElem_cons_zero, List.getElem_cons_succ, List.setIfInBounds_toArray, List.set_cons_zero, List.set_cons_succ]
        refine' wpAnyB_take (i := 8) [8] (v := _) rfl (by kernel_rfl) (fun _ _ _ h => h) (Or.inl ⟨by rfl, ?hy8⟩) (by assumption) ?rest8
        case hy8 => (intro w' hSw; (try dsimp only at hSw); go_simp; (try with_reducible rfl))
        try simp only [Act.put, List.getElem_toArray, List.getElem_cons_zero, List.getElem_cons_succ, List.setIfInBounds_toArray, List.set_cons_zero, List.set_cons_succ]
        refine' wpAnyB_take (i := 9) [9] (v := _) rfl (by kernel_rfl) (fun _ _ _ h => h) (Or.inl ⟨by rfl, ?hy9⟩) (by assumption) ?rest9
        case hy9 => (intro w' hSw; (try dsimp only at hSw); go_simp; (try with_reducible rfl))
        try simp only [Act.put, List.getElem_toArray, List.getElem_cons_zero, List.getElem_cons_succ, List.setIfInBounds_toArray, List.set_cons_zero, List.set_cons_succ]
        refine' wpAnyB_take (i := 10) [10] (v := _) rfl (by kernel_rfl) (fun _ _ _ h => h) (Or.inl ⟨by rfl, ?hy10⟩) (by assumption) ?rest10
        case hy10 => (intro w' hSw; (try dsimp only at hSw); go_simp; (try with_reducible rfl))
        try simp only [Act.put, List.getElem_toArray, List.getElem_cons_zero, List.getElem_cons_succ, List.setIfInBounds_toArray, List.set_cons_zero, List.set_cons_succ]
        refine' wpAnyB_take (i := 11) [11] (v := _) rfl (by kernel_rfl) (fun _ _ _ h => h) (Or.inl ⟨by rfl, ?hy11⟩) (by assumption) ?rest11
        case hy11 => (intro w' hSw; (try dsimp only at hSw); go_simp; (try with_reducible rfl))
        try simp only [Act.put, List.getElem_toArray, List.getElem_cons_zero, List.getElem_cons_succ, List.setIfInBounds_toArray, List.set_cons_zero, List.set_cons_succ]
        refine' wpAnyB_take (i := 12) [12] (v := _) rfl (by kernel_rfl) (fun _ _ _ h => h) (Or.inl ⟨by rfl, ?hy12⟩) (by assumption) ?rest12
        case hy12 => (intro w' hSw; (try dsimp only at hSw); go_simp; (try with_reducible rfl))
        try simp only [Act.put, List.getElem_toArray, List.getElem_cons_zero, List.getElem_cons_succ, List.setIfInBounds_toArray, List.set_cons_zero, List.set_cons_succ]
        have HB5 : Hid (Below (w4).heap.size (w4) (((w4).alloc (.cells #[.int .i64 (k : Int)] 3)).drew)) := ((Below.refl _ _).alloc (Nat.le_refl _) _).drew
        have c5 : ((w4).alloc (.cells #[.int .i64 (k : Int)] 3)).drew.cell? ⟨(w4).heap.size, 0, none⟩ = some (.int .i64 (k : Int)) := World.cell?_alloc_at (w := (w4)) _ 3 (w4).heap.size 0 rfl
        have q1' := (HB5.out.cell (World.block_lt_of_cell? _ _ q1)).trans q1
        have q2' := (HB5.out.cell (World.block_lt_of_cell? _ _ q2)).trans q2
        refine wpAnyB_ready (rs := [13]) (by kernel_rfl) (by simp) (AllReadyB.cons rfl (fun K hK => ?_) AllReadyB.nil)
        go_simp
        refine hK.out _ _ (fun _ => ⟨q1', q2'⟩) ?_
        clear hK K
        try simp only [Act.put, List.getElem_toArray, List.getElem_cons_zero, List.getElem_cons_succ, List.setIfInBounds_toArray, List.set_cons_zero, List.set_cons_succ]
        have HP5 := Lib.hid (HP.out.below HB5.out)
        clear hHeld q1 q2 HP HB5
        generalize ((w4).alloc (.cells #[.int .i64 (k : Int)] 3)).drew = w5 at *
        generalize (w4).heap.size = h5 at *
        refine wpAnyB_ready (rs := [14]) (by kernel_rfl) (by simp) (AllReadyB.cons rfl (fun K hK => ?_) AllReadyB.nil)
        rw [if_pos (by rfl)]
        apply OpGoal.out
        refine op_append (.tmp 42) (.tmp 44) 22 rfl 3 i3 (.int .i64 0) 8 Try.underlying22 hi3 hz3 hs3 hb3 rfl (by decide) (.slice none 0 0) 0 _ rfl (HSR.out _ HP5.out) ⟨h5, 0, none⟩ (.int .i64 (k : Int)) rfl rfl c5 (by omega) (fun v6 w6 hs6 hk6 hm6 => ?_)
        have q1 := hk6.cellSome q1' (fun e => HP5.out.aoffR r gat hr rfl (by rw [HV.out]; exact e))
        have q2 := hk6.cellSome q2' (fun e => HP5.out.off r g4 hr (by rw [HV.out]; exact e) rfl)
        have f6 := HFR.out _ _ HP5.out hk6
        have HP6 := Lib.hid (HPU.out _ _ _ HP5.out hs6 hk6 hm6)
        obtain ⟨a6, l6, c6, e6⟩ : ∃ a l c, v6 = .slice a l c := by obtain ⟨a, c, e, -⟩ := hs6.shape; exact ⟨a, _, c, e⟩
        clear hs6 hm6 hk6 q1' q2' c5 HP5
        subst e6
        have hHeld := And.intro q1 q2
        refine hK.out _ _ (fun _ => ⟨q1, q2⟩) ?_
        clear hK K
        try simp only [Act.put, List.getElem_toArray, List.getElem_cons_zero, List.getElem_cons_succ, List.setIfInBounds_toArray, List.set_cons_zero, List.set_cons_succ]
        refine wpAnyB_ready (rs := [15]) (by kernel_rfl) (by simp) (AllReadyB.cons rfl (fun K hK => ?_) AllReadyB.nil)
        go_simp
        refine hK.out _ _ (fun e => nomatch e) ?_
        clear hK K
        try simp only [Act.put, List.getElem_toArray, List.getElem_cons_zero, List.getElem_cons_succ, List.setIfInBounds_toArray, List.set_cons_zero, List.set_cons_succ]
        refine wpAnyB_ready (rs := [16]) (by kernel_rfl) (by simp) (AllReadyB.cons rfl (fun K hK => ?_) AllReadyB.nil)
        go_simp
        refine hK.out _ _ (fun e => nomatch e) ?_
        clear hK K
        try simp only [Act.put, List.getElem_toArray, List.getElem_cons_zero, List.getElem_cons_succ, List.setIfInBounds_toArray, List.set_cons_zero, List.set_cons_succ]
        refine wpAnyB_done (by kernel_rfl) ?_
        have HP7 := Lib.hid (HP6.out.congr HXN.out)
        clear hHeld q1 q2 f6 HP6 HPU HFR HSR HV
        generalize w6.setCell ⟨g4, r, none⟩ (.slice a6 l6 c6) = w7 at *
        go_wp2_with fail
        go_roundw
        case rel => exact ⟨k + 1, by omega, by go_num, _, A4, by rw [R1.out]; exact HP7.out, fun u hu h => by
          by_cases e : u = k
          · subst e; rw [← HA4.out, up_same, HR0.out]
          · rw [← HA4.out, up_other _ _ _ _ e]; exact hA.out u (by omega) h⟩
        case measure => simp [intOf]; omega
      · have hult : lead E k < k := by omega
        have hul := lead_lead E k
        obtain ⟨hru, hlu⟩ := leads_at hul k hult
        have hAu := hA.out (lead E k) hult hul
        have R1 : Hid (cntL (lead E) (k + 1) = cntL (lead E) k) := by show _ = _; rw [cntL_succ, if_neg hkk, Nat.add_zero]
        have HXN := Lib.hid (fun i (hi : i < cntL (lead E) k) => grpRow_push hul hult i hi)
        have HA2 : Hid (∀ u, u < k + 1 → lead E u = u → A u = cntL (lead E) u) := fun u hu h => by
          by_cases e : u = k
          · subst e; exact absurd h hkk
          · exact hA.out u (by omega) h
        obtain ⟨g4, c4, e, -⟩ := hp.out.at (by omega)
        cases e
        obtain ⟨ar, cr, hv⟩ := ps_row hp.out (cntL (lead E) (lead E k)) hru
        have hll : (grpRow (lead E) k (cntL (lead E) (lead E k))).length ≤ k := grp_len _ _ _
        obtain ⟨lr, hlr⟩ : ∃ lr, (grpRow (lead E) k (cntL (lead E) (lead E k))).length = lr := ⟨_, rfl⟩
        rw [hlr] at hv hll
        obtain ⟨q1, q2, HSR, HFR, HPU⟩ := r10_facts (k := k) hp.out hru (by omega) hAu hv hlr
        have HV := Lib.hid hv
        have HP := hp
        clear hv hlr hlu hA hAu hul hp hle
        have hcx : cntL (lead E) k ≤ 1000000 := by omega
        generalize grpRow (lead E) k = X4 at *
        generalize lead E k = u at *
        generalize cntL (lead E) u = r at *
        generalize hRR : cntL (lead E) k = R at *
        clear hRR
        have hr := hru
        have hrI : (r : Int) < (R : Int) := by omega
        have huI : (u : Int) < (n : Int) := by omega
        have t0 : ((u : Int) == (k : Int)) = false := beq_eq_false_iff_ne.2 (by omega)
        have t1 : (u == k) = false := beq_eq_false_iff_ne.2 hkk
        go_upto_region 10 with (fail)
        refine wp_region_bar 15 (S := fun w' => w'.cell? ⟨gat, u, none⟩ = some (.int .i64 (r : Int)) ∧ w'.cell? ⟨g4, r, none⟩ = some (.slice ar lr cr)) (by kernel_rfl) (⟨q1, q2⟩) (fun hHeld => ?_)
        refine' wpAnyB_take (i := 0) [0] (v := _) rfl (by kernel_rfl) (fun _ _ _ h => h) (Or.inl ⟨by rfl, ?hyb0⟩) (by assumption) ?restb0
        case hyb0 => (intro w' hSw; (try dsimp only at hSw); go_simp; (try with_reducible rfl))
        try simp only [Act.put, List.getElem_toArray, List.getElem_cons_zero, List.getElem_cons_succ, List.setIfInBounds_toArray, List.set_cons_zero, List.set_cons_succ]
        refine' wpAnyB_take (i := 1) [1] (v := _) rfl (by kernel_rfl) (fun _ _ _ h => h) (Or.inl ⟨by rfl, ?hyb1⟩) (by assumption) ?restb1
        case hyb1 => (intro w' hSw; (try dsimp only at hSw); go_simp; (try with_reducible rfl))
        try simp only [Act.put, List.getElem_toArray, List.getElem_cons_zero, List.getElem_cons_succ, List.setIfInBounds_toArray, List.set_cons_zero, List.set_cons_succ]
        refine' wpAnyB_take (i := 2) [2] (v := _) rfl (by kernel_rfl) (fun _ _ _ h => h) (Or.inl ⟨by rfl, ?hyb2⟩) (by assumption) ?restb2
        case hyb2 => (intro w' hSw; (try dsimp only at hSw); go_simp; (try with_reducible rfl))
        try simp only [Act.put, List.getElem_toArray, List.getElem_cons_zero, List.getElem_cons_succ, List.setIfInBounds_toArray, List.set_cons_zero, List.set_cons_succ]
        refine' wpAnyB_take (i := 3) [3] (v := _) rfl (by kernel_rfl) (fun _ _ _ h => h) (Or.inl ⟨by rfl, ?hyb3⟩) (by assumption) ?restb3
        case hyb3 => (intro w' hSw; (try dsimp only at hSw); go_simp; (try with_reducible rfl))
        try simp only [Act.put, List.getElem_toArray, List.getElem_cons_zero, List.getElem_cons_succ, List.setIfInBounds_toArray, List.set_cons_zero, List.set_cons_succ]
        refine' wpAnyB_take (i := 4) [4] (v := _) rfl (by kernel_rfl) (fun _ _ _ h => h) (Or.inl ⟨by rfl, ?hyb4⟩) (by assumption) ?restb4
        case hyb4 => (intro w' hSw; (try dsimp only at hSw); go_simp; (try with_reducible rfl))
        try simp only [Act.put, List.getElem_toArray, List.getElem_cons_zero, List.getElem_cons_succ, List.setIfInBounds_toArray, List.set_cons_zero, List.set_cons_succ]
        refine' wpAnyB_take (i := 5) [5] (v := _) rfl (by kernel_rfl) (fun _ _ _ h => h) (Or.inl ⟨by rfl, ?hyb5⟩) (by assumption) ?restb5
        case hyb5 => (intro w' hSw; (try dsimp only at hSw); go_simp; (try with_reducible rfl))
        try simp only [Act.put, List.getElem_toArray, List.getElem_cons_zero, List.getElem_cons_succ, List.setIfInBounds_toArray, List.set_cons_zero, List.set_cons_succ]
        refine' wpAnyB_take (i := 6) [6] (v := _) rfl (by kernel_rfl) (fun _ _ _ h => h) (Or.inl ⟨by rfl, ?hyb6⟩) (by assumption) ?restb6
        case hyb6 => (intro w' hSw; (try dsimp only at hSw); go_simp; (try with_reducible rfl))
        try simp only [Act.put, List.getElem_toArray, List.getElem_cons_zero, List.getElem_cons_succ, List.setIfInBounds_toArray, List.set_cons_zero, List.set_cons_succ]
        refine' wpAnyB_take (i := 7) [7] (v := _) rfl (by kernel_rfl) (fun _ _ _ h => h) (Or.inl ⟨by rfl, ?hyb7⟩) (by assumption) ?restb7
        case hyb7 => (intro w' hSw; (try dsimp only at hSw); go_simp; (try with_reducible rfl))
        try simp only [Act.put, List.getElem_toArray, List.getElem_cons_zero, List.getElem_cons_succ, List.setIfInBounds_toArray, List.set_cons_zero, List.set_cons_succ]
        refine' wpAnyB_take (i := 8) [8] (v := _) rfl (by kernel_rfl) (fun _ _ _ h => h) (Or.inl ⟨by rfl, ?hyb8⟩) (by assumption) ?restb8
        case hyb8 => (intro w' hSw; (try dsimp only at hSw); go_simp; (try with_reducible rfl))
        try simp only [Act.put, List.getElem_toArray, List.getElem_cons_zero, List.getElem_cons_succ, List.setIfInBounds_toArray, List.set_cons_zero, List.set_cons_succ]
        refine' wpAnyB_take (i := 9) [9] (v := _) rfl (by kernel_rfl) (fun _ _ _ h => h) (Or.inl ⟨by rfl, ?hyb9⟩) (by assumption) ?restb9
        case hyb9 => (intro w' hSw; (try dsimp only at hSw); go_simp; (try with_reducible rfl))
        try simp only [Act.put, List.getElem_toArray, List.getElem_cons_zero, List.getElem_cons_succ, List.setIfInBounds_toArray, List.set_cons_zero, List.set_cons_succ]
        refine' wpAnyB_take (i := 10) [10] (v := _) rfl (by kernel_rfl) (fun _ _ _ h => h) (Or.inl ⟨by rfl, ?hyb10⟩) (by assumption) ?restb10
        case hyb10 => (intro w' hSw; (try dsimp only at hSw); go_simp; (try with_reducible rfl))
        try simp only [Act.put, List.getElem_toArray, List.getElem_cons_zero, List.getElem_cons_succ, List.setIfInBounds_toArray, List.set_cons_zero, List.set_cons_succ]
        refine' wpAnyB_take (i := 11) [11] (v := _) rfl (by kernel_rfl) (fun _ _ _ h => h) (Or.inl ⟨by rfl, ?hyb11⟩) (by assumption) ?restb11
        case hyb11 => (intro w' hSw; (try dsimp only at hSw); go_simp; (try with_reducible rfl))
        try simp only [Act.put, List.getElem_toArray, List.getElem_cons_zero, List.getElem_cons_succ, List.setIfInBounds_toArray, List.set_cons_zero, List.set_cons_succ]
        refine' wpAnyB_take (i := 12) [12] (v := _) rfl (by kernel_rfl) (fun _ _ _ h => h) (Or.inl ⟨by rfl, ?hyb12⟩) (by assumption) ?restb12
        case hyb12 => (intro w' hSw; (try dsimp only at hSw); go_simp; (try with_reducible rfl))
        try simp only [Act.put, List.getElem_toArray, List.getElem_cons_zero, List.getElem_cons_succ, List.setIfInBounds_toArray, List.set_cons_zero, List.set_cons_succ]
        have HB5 : Hid (Below (wr).heap.size (wr) (((wr).alloc (.cells #[.int .i64 (k : Int)] 3)).drew)) := ((Below.refl _ _).alloc (Nat.le_refl _) _).drew
        have c5 : ((wr).alloc (.cells #[.int .i64 (k : Int)] 3)).drew.cell? ⟨(wr).heap.size, 0, none⟩ = some (.int .i64 (k : Int)) := World.cell?_alloc_at (w := (wr)) _ 3 (wr).heap.size 0 rfl
        have q1' := (HB5.out.cell (World.block_lt_of_cell? _ _ q1)).trans q1
        have q2' := (HB5.out.cell (World.block_lt_of_cell? _ _ q2)).trans q2
        refine wpAnyB_ready (rs := [13]) (by kernel_rfl) (by simp) (AllReadyB.cons rfl (fun K hK => ?_) AllReadyB.nil)
        go_simp
        refine hK.out _ _ (fun _ => ⟨q1', q2'⟩) ?_
        clear hK K
        try simp only [Act.put, List.getElem_toArray, List.getElem_cons_zero, List.getElem_cons_succ, List.setIfInBounds_toArray, List.set_cons_zero, List.set_cons_succ]
        have HP5 := Lib.hid (HP.out.below HB5.out)
        clear hHeld q1 q2 HP HB5
        generalize ((wr).alloc (.cells #[.int .i64 (k : Int)] 3)).drew = w5 at *
        generalize (wr).heap.size = h5 at *
        refine wpAnyB_ready (rs := [14]) (by kernel_rfl) (by simp) (AllReadyB.cons rfl (fun K hK => ?_) AllReadyB.nil)
        rw [if_pos (by rfl)]
        apply OpGoal.out
        refine op_append (.tmp 42) (.tmp 44) 22 rfl 3 i3 (.int .i64 0) 8 Try.underlying22 hi3 hz3 hs3 hb3 rfl (by decide) (.slice ar lr cr) lr _ rfl (HSR.out _ HP5.out) ⟨h5, 0, none⟩ (.int .i64 (k : Int)) rfl rfl c5 (by omega) (fun v6 w6 hs6 hk6 hm6 => ?_)
        have q1 := hk6.cellSome q1' (fun e => HP5.out.aoffR r gat hr rfl (by rw [HV.out]; exact e))
        have q2 := hk6.cellSome q2' (fun e => HP5.out.off r g4 hr (by rw [HV.out]; exact e) rfl)
        have f6 := HFR.out _ _ HP5.out hk6
        have HP6 := Lib.hid (HPU.out _ _ _ HP5.out hs6 hk6 hm6)
        obtain ⟨a6, l6, c6, e6⟩ : ∃ a l c, v6 = .slice a l c := by obtain ⟨a, c, e, -⟩ := hs6.shape; exact ⟨a, _, c, e⟩
        clear hs6 hm6 hk6 q1' q2' c5 HP5
        subst e6
        have hHeld := And.intro q1 q2
        refine hK.out _ _ (fun _ => ⟨q1, q2⟩) ?_
        clear hK K
        try simp only [Act.put, List.getElem_toArray, List.getElem_cons_zero, List.getElem_cons_succ, List.setIfInBounds_toArray, List.set_cons_zero, List.set_cons_succ]
        refine wpAnyB_ready (rs := [15]) (by kernel_rfl) (by simp) (AllReadyB.cons rfl (fun K hK => ?_) AllReadyB.nil)
        go_simp
        refine hK.out _ _ (fun e => nomatch e) ?_
        clear hK K
        try simp only [Act.put, List.getElem_toArray, List.getElem_cons_zero, List.getElem_cons_succ, List.setIfInBounds_toArray, List.set_cons_zero, List.set_cons_succ]
        refine wpAnyB_ready (rs := [16]) (by kernel_rfl) (by simp) (AllReadyB.cons rfl (fun K hK => ?_) AllReadyB.nil)
        go_simp
        refine hK.out _ _ (fun e => nomatch e) ?_
        clear hK K
        try simp only [Act.put, List.getElem_toArray, List.getElem_cons_zero, List.getElem_cons_succ, List.setIfInBounds_toArray, List.set_cons_zero, List.set_cons_succ]
        refine wpAnyB_done (by kernel_rfl) ?_
        have HP7 := Lib.hid (HP6.out.congr HXN.out)
        clear hHeld q1 q2 f6 HP6 HPU HFR HSR HV
        generalize w6.setCell ⟨g4, r, none⟩ (.slice a6 l6 c6) = w7 at *
        go_wp2_with fail
        go_roundw
        case rel => exact ⟨k + 1, by omega, by go_num, _, A, by rw [R1.out]; exact HP7.out, HA2⟩
        case measure => simp [intOf]; omega
    · obtain rfl : n = k := by omega
      subst ev
      go_wp2_with fail
      go_ret
      exact ⟨ap, cp, _, V, A, rfl, HFIN.out _ _ _ _ _ _ _ hp.out⟩
end Go.Proofs.Ytnkfmhhfeaohbaa
