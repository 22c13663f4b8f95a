/- The walk of the reference's Parts. -/
import Derived.Test.YtnkfmhhfeaohbaaL
namespace Go.Proofs.Ytnkfmhhfeaohbaa
open Go.RowKit Go.Own

/-- A row that was made since goes into the outer slice. -/
theorem ps_snocMade {w2 wr w w1 : World} {aV v : Value} {V : Nat → Value} {n R : Nat} {A : Nat → Nat} {X : Nat → List Int} {u : Value} {zs : List Int} {g c' : Nat} (h : PS w2 wr aV v V n R A X) (hmd : MadeInts .i64 3 wr w u zs)
    (hs : Sl w1 22 (.slice (some ⟨g, 0, none⟩) (R + 1) c') (R + 1) ((List.range R).map V ++ [u])) (hk : Kept (fun k => v.ownBlock = some k) w w1)
    (hm : v.ownBlock = some g ∨ w.heap.size ≤ g) : PS w2 w1 aV (.slice (some ⟨g, 0, none⟩) (R + 1) c') (up V R u) n (R + 1) A (up X R zs) := by
  have h' : PS w2 w aV v V n R A X := h.below hmd.2.1
  have hu : ∀ b, u.ownBlock = some b → wr.heap.size ≤ b ∧ b < w.heap.size := fun b e => ⟨hmd.2.2 b e, hmd.1.lt b e⟩
  have hvu : ∀ b, v.ownBlock = some b → u.ownBlock ≠ some b := fun b e e2 => by
    have h1 := h.outer.lt b e
    have h2 := (hu b e2).1
    omega
  have hV : ∀ i, i < R → up V R u i = V i := fun i hi => up_other _ _ _ _ (by omega)
  have hX : ∀ i, i < R → up X R zs i = X i := fun i hi => up_other _ _ _ _ (by omega)
  have hg : ∀ b, (Value.slice (some ⟨g, 0, none⟩) (R + 1) c').ownBlock = some b → b = g := fun b e => by cases e; rfl
  have hRV : up V R u R = u := up_same _ _ _
  have hold : ∀ i b, i < R + 1 → (up V R u i).ownBlock = some b → (i < R ∧ (V i).ownBlock = some b) ∨ (i = R ∧ u.ownBlock = some b) := fun i b hi e => by
    by_cases ei : i = R
    · subst ei; rw [hRV] at e; exact .inr ⟨rfl, e⟩
    · rw [hV i (by omega)] at e; exact .inl ⟨by omega, e⟩
  have hws := hmd.2.1.size
  refine ⟨?_, fun i hi => ?_, fun i j b hi hj e1 e2 => ?_, fun i b hi e e2 => ?_, fun b e => ?_, fun i b hi e => ?_, Sl.kept h'.arr hk (fun b e e2 => h'.aoff b e e2), fun b e e2 => ?_, fun i b hi e e2 => ?_, h'.anew, h'.old.trans (hk.below h'.old.size (fun k hlt e => by have := h'.new k e; omega))⟩
  · rw [List.range_succ, List.map_append]
    have : (List.range R).map (up V R u) = (List.range R).map V := List.map_congr_left fun i hi => hV i (List.mem_range.1 hi)
    rw [this]
    simpa [hRV] using hs
  · by_cases ei : i = R
    · subst ei; rw [hRV, up_same]; exact Sl.kept hmd.1 hk (fun b e e2 => hvu b e2 e)
    · rw [hV i (by omega), hX i (by omega)]
      exact Sl.kept (h'.row i (by omega)) hk (fun b e e2 => h'.off i b (by omega) e e2)
  · rcases hold i b hi e1 with ⟨h1, f1⟩ | ⟨h1, f1⟩
    · rcases hold j b hj e2 with ⟨h2, f2⟩ | ⟨h2, f2⟩
      · exact h.apart i j b h1 h2 f1 f2
      · have q1 := (h.row i h1).lt b f1
        have q2 := (hu b f2).1
        omega
    · rcases hold j b hj e2 with ⟨h2, f2⟩ | ⟨h2, f2⟩
      · have q1 := (h.row j h2).lt b f2
        have q2 := (hu b f1).1
        omega
      · omega
  · obtain rfl := hg b e2
    rcases hold i _ hi e with ⟨h1, f1⟩ | ⟨h1, f1⟩
    · rcases hm with hm | hm
      · exact h.off i _ h1 f1 hm
      · have q1 := (h'.row i h1).lt _ f1; omega
    · rcases hm with hm | hm
      · exact hvu _ hm f1
      · have q1 := (hu _ f1).2; omega
  · obtain rfl := hg b e
    rcases hm with hm | hm
    · exact h.new _ hm
    · exact Nat.le_trans h'.old.size hm
  · rcases hold i b hi e with ⟨h1, f1⟩ | ⟨h1, f1⟩
    · exact h.newR i b h1 f1
    · exact Nat.le_trans h.old.size (hu b f1).1
  · obtain rfl := hg b e2
    rcases hm with hm | hm
    · exact h.aoff _ e hm
    · have q1 := h'.arr.lt _ e; omega
  · rcases hold i b hi e2 with ⟨h1, f1⟩ | ⟨h1, f1⟩
    · exact h.aoffR i b h1 e f1
    · have q1 := h.arr.lt b e
      have q2 := (hu b f1).1
      omega
theorem ps_nil (w : World) (X : Nat → List Int) : PS w w (.slice none 0 0) (.slice none 0 0) (fun _ => undef) 0 0 (fun _ => 0) X :=
  ⟨World.ownsRow_nil _ _ _ _, fun i h => absurd h (Nat.not_lt_zero i), fun i _ _ h => absurd h (Nat.not_lt_zero i), fun i _ h => absurd h (Nat.not_lt_zero i), fun b h => (by cases h), fun i _ h => absurd h (Nat.not_lt_zero i),
    World.ownsRow_nil _ _ _ _, fun b e => (by cases e), fun i _ h => absurd h (Nat.not_lt_zero i), fun b e => (by cases e), Below.refl _ _⟩

/-- What the reference's Parts leaves. -/
def RefPartsDone (E : List (List Int)) (n : Nat) (w : World) (e : Ending) (w' : World) : Prop :=
  ∃ a c V, e = .returned (.slice a (cntL (lead E) n) c) ∧ PS w w' (.slice none 0 0) (.slice a (cntL (lead E) n) c) V 0 (cntL (lead E) n) (fun _ => 0) (grpRow (lead E) n)

set_option maxRecDepth 100000 in
set_option maxHeartbeats 2000000 in
theorem refParts_any (vi vl : Value) (ae : Option Addr) (n ce : Nat) (E : List (List Int)) (w : World) (hE : E.length = n) (he : EdgesAt w ae E) (hn : n ≤ 1000000) (hrow : ∀ i, i < E.length → (E.getD i []).length ≤ 1000000000) :
    Calls Try.prog 14 #[.agg #[vi, .slice ae n ce, vl]] w (RefPartsDone E n w) := by
  obtain ⟨i3, hi3, hz3, hs3, hb3⟩ := info_parts Try.info3
  obtain ⟨i22, hi22, hz22, hs22, hb22⟩ := info_parts Try.info22
  have HE := Lib.hid hE
  have HN := Lib.hid hn
  have HB : Hid (∀ W, W = w.alloc (.cells #[vi, .slice ae n ce, vl] 26) → Below w.heap.size w W) := by rintro W rfl; exact (Below.refl _ w).alloc (Nat.le_refl _) _
  have HB1 := Lib.hid (HB.out _ rfl)
  have HOF : Hid (Calls Try.prog 12 #[.agg #[vi, .slice ae n ce, vl]] (w.alloc (.cells #[vi, .slice ae n ce, vl] 26)) fun e w' => ∃ a c, e = .returned (.slice a n c) ∧ MadeInts .i64 3 (w.alloc (.cells #[vi, .slice ae n ce, vl] 26)) w' (.slice a n c) (sccOf E)) := by
    have h := refOf_any vi vl ae n ce E _ hE (he.below HB1.out) hn hrow
    subst hE; exact h
  clear HB he hrow hE
  go_enter Try.func14, Try.ntmps14
  go_wp2_with (go_at_call 12; refine HOF.out.mono ?_; rintro e w2 ⟨al, cl, rfl, hM⟩; have HM := Lib.hid hM; clear hM)
  have HFIN : Hid (Below w.heap.size w w2) := HB1.out.trans ((made_below HM.out).mono HB1.out.size)
  have HL : Hid (RowAt .i64 w2 al n (sccOf E)) := made_rowAt HM.out
  clear HM HOF HB1
  go_loopw [4, 5] (fun v x wr => ∃ k : Nat, k ≤ n ∧ x = .int .i64 k ∧ ∃ V, Hid (PS w2 wr (.slice none 0 0) v V 0 (cntL (lead E) k) (fun _ => 0) (grpRow (lead E) n))) (fun _ x _ => n - (intOf x).toNat)
  case atStart => exact ⟨0, Nat.zero_le _, rfl, _, ps_nil w2 _⟩
  case round =>
    obtain ⟨k, hk, rfl, V, hp⟩ := hrel
    obtain ⟨ap, cp, ev, -⟩ := hp.out.outer.shape
    subst ev
    by_cases hlt : k < n
    · have hltI : (k : Int) < (n : Int) := by omega
      obtain ⟨-, h0 | ⟨bl, ol, rfl, hcl⟩⟩ := HL.out
      · omega
      have cl1 := hcl k hlt
      have hat : (sccOf E).getD k 0 = ((lead E k : Nat) : Int) := sccOf_at (by rw [HE.out]; exact hlt)
      rw [hat] at cl1
      have HLC : Hid (∀ q, q < n → w2.cell? ⟨bl, ol + q, none⟩ = some (.int .i64 ((lead E q : Nat) : Int))) := fun q hq => by
        have h1 := hcl q hq
        rw [sccOf_at (by rw [HE.out]; exact hq)] at h1
        exact h1
      have cl2 := (hp.out.old.cell (World.block_lt_of_cell? w2 _ cl1)).trans cl1
      have hle := lead_le E k
      have hcn := cntL_le (lead E) k
      clear hcl cl1 hat
      by_cases hkk : lead E k = k
      · have R1 : Hid (cntL (lead E) (k + 1) = cntL (lead E) k + 1) := by show _ = _; rw [cntL_succ, if_pos hkk]
        have HROW : Hid (grpRow (lead E) n (cntL (lead E) k) = grp (lead E) n k) := by
          show grp _ _ _ = _
          rw [(leads_at hkk n hlt).2]
        rw [hkk] at cl2
        have hcx : cntL (lead E) k ≤ 1000000 := by omega
        clear hle hcn
        generalize cntL (lead E) k = r at *
        go_upto_region 9 with (fail)
        generalize wr = w3 at *
        go_loopw [6, 7] (fun u x wr' => ∃ q : Nat, q ≤ n ∧ x = .int .i64 q ∧ Hid (MadeInts .i64 3 w3 wr' u (grp (lead E) q k))) (fun _ x _ => n - (intOf x).toNat)
        case atStart => exact ⟨0, Nat.zero_le _, rfl, made_nil _ _ _⟩
        case round =>
          obtain ⟨q, hq, rfl, hm⟩ := hrel
          obtain ⟨au, cu, eu, -⟩ := made_row hm.out
          have hgl := grp_len (lead E) q k
          by_cases hqn : q < n
          · have hqI : (q : Int) < (n : Int) := by omega
            have c1 := HLC.out q hqn
            have c2 := (hp.out.old.cell (World.block_lt_of_cell? w2 _ c1)).trans c1
            have c3 := ((made_below hm.out).cell (World.block_lt_of_cell? w3 _ c2)).trans c2
            clear c1 c2
            by_cases hqk : lead E q = k
            · have HG : Hid (grp (lead E) (q + 1) k = grp (lead E) q k ++ [(q : Int)]) := by show _ = _; rw [grp_succ, if_pos hqk]
              rw [hqk] at c3
              have t0 : ((k : Int) == (k : Int)) = true := beq_self_eq_true _
              have HO := Lib.hid hm.out.1
              generalize hgr : grp (lead E) q k = G at *
              obtain ⟨m, hm2⟩ : ∃ m, G.length = m := ⟨_, rfl⟩
              have HM2 := Lib.hid hm2
              rw [hm2] at HO eu hgl
              clear hm2 hgr
              go_wp2_with (at_builtin; refine wpList_append_one_pos rfl (.tmp 34) (.tmp 36) 22 rfl 3 i3 (.int .i64 0) 8 Try.underlying22 hi3 hz3 hs3 hb3 rfl (by decide) _ _ _ rfl HO.out _ rfl rfl (by omega) ?_; intro g1 c1 w4 hs hkp hmv; have HN2 := Lib.hid (made_step_pos hm.out HM2.out hs hkp hmv); clear hs hkp hmv)
              go_roundw
              case rel => exact ⟨q + 1, by omega, by go_num, by rw [HG.out]; exact HN2.out⟩
              case measure => simp [intOf]; omega
            · have HG : Hid (grp (lead E) (q + 1) k = grp (lead E) q k) := by show _ = _; rw [grp_succ, if_neg hqk, List.append_nil]
              generalize lead E q = y at *
              have t0 : ((y : Int) == (k : Int)) = false := beq_eq_false_iff_ne.2 (by omega)
              have t1 : (y == k) = false := beq_eq_false_iff_ne.2 hqk
              go_wp2_with fail
              go_roundw
              case rel => exact ⟨q + 1, by omega, by go_num, by rw [HG.out]; exact hm⟩
              case measure => simp [intOf]; omega
          · obtain rfl : n = q := by omega
            have HO := Lib.hid (hp.out.below (made_below hm.out)).outer
            have HMD := hm
            rw [eu] at HMD
            generalize hgr : grp (lead E) n k = G at *
            have HGR := Lib.hid hgr
            obtain ⟨m, hm2⟩ : ∃ m, G.length = m := ⟨_, rfl⟩
            rw [hm2] at eu hgl HMD
            subst eu
            clear hm2 hgr hm HLC
            go_wp2_with (at_builtin; refine wpList_append_one_pos rfl (.tmp 38) (.tmp 40) 31 rfl 22 i22 (.slice none 0 0) 24 Try.underlying31 hi22 hz22 hs22 hb22 rfl (by decide) _ _ _ rfl HO.out _ rfl rfl (by omega) ?_; intro g1 c1 w4 hs hkp hmv; have HN2 := Lib.hid (ps_snocMade hp.out HMD.out hs hkp hmv); clear hs hkp hmv)
            go_roundw
            case rel => exact ⟨k + 1, by omega, by go_num, _, by
              rw [R1.out]
              refine HN2.out.congr fun i hi => ?_
              by_cases e : i = r
              · subst e; rw [up_same, HROW.out]
              · rw [up_other _ _ _ _ e]⟩
            case measure => simp [intOf]; omega
      · have R1 : Hid (cntL (lead E) (k + 1) = cntL (lead E) k) := by show _ = _; rw [cntL_succ, if_neg hkk, Nat.add_zero]
        generalize lead E k = y at *
        have t0 : ((y : Int) == (k : Int)) = false := beq_eq_false_iff_ne.2 (by omega)
        have t1 : (y == k) = false := beq_eq_false_iff_ne.2 hkk
        go_wp2_with fail
        go_roundw
        case rel => exact ⟨k + 1, by omega, by go_num, V, by rw [R1.out]; exact hp⟩
        case measure => simp [intOf]; omega
    · obtain rfl : n = k := by omega
      go_wp2_with fail
      go_ret
      exact ⟨_, _, _, rfl, ps_mono hp.out HFIN.out⟩
end Go.Proofs.Ytnkfmhhfeaohbaa
