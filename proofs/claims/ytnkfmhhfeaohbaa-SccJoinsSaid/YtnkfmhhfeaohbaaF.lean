/- The walk of leave. -/
import Derived.Test.YtnkfmhhfeaohbaaE
namespace Go.Proofs.Ytnkfmhhfeaohbaa
open Go.RowKit Go.Own

set_option maxHeartbeats 1000000 in
theorem leave_stay (g : Nat) (ev : Value) (n : Nat) (s : St) (F : Nat → Prop) (w : World) (h : IsS w g ev n s F) (x : Nat) (hx : x < n) (hne : s.low x ≠ s.num x) :
    Calls Try.prog 24 #[.pointer (some ⟨g, 0, none⟩), .int .i64 (x : Int)] w fun e w' => e = .returned (.tuple #[]) ∧ SDone g ev n s F w w' := by
  obtain ⟨C, X, h⟩ := h
  obtain ⟨b1, d1, E1, cc1, _⟩ := h.arr 1 ⟨by decide, by decide⟩ (by rw [h.num, numsOf_len]) (by omega)
  obtain ⟨b2, d2, E2, cc2, _⟩ := h.arr 2 ⟨by decide, by decide⟩ (by rw [h.low, numsOf_len]) (by omega)
  have c1 := h.str.cell 1 (by decide)
  have c2 := h.str.cell 2 (by decide)
  rw [E1] at c1
  rw [E2] at c2
  have x1 := (cc1 x hx).1
  have x2 := (cc2 x hx).1
  rw [h.num, numsOf_at _ _ _ hx] at x1
  rw [h.low, numsOf_at _ _ _ hx] at x2
  have hxI : (x : Int) < (n : Int) := by omega
  have HF : Hid (∀ q, SDone g ev n s F w (w.drewN q)) := fun q => ⟨F, IsS.below (⟨C, X, h⟩ : IsS w g ev n s F) (below_drewN w q), Kept.mono (Kept.ofBelow (below_drewN w q)) (fun k hk hle => by omega), fun _ h => .inl h⟩
  have hq : ((s.low x : Int) == (s.num x : Int)) = false := beq_eq_false_iff_ne.2 (by omega)
  have hq2 : (s.low x == s.num x) = false := beq_eq_false_iff_ne.2 hne
  have hq3 : ((s.low x : Int) != (s.num x : Int)) = true := by rw [bne, hq]; rfl
  have hq4 : (s.low x != s.num x) = true := by rw [bne, hq2]; rfl
  clear h E1 E2 cc1 cc2 hne
  generalize s.low x = lx at *
  generalize s.num x = nx at *
  go_enter Try.func24, Try.ntmps24
  go_wp2_with fail
  go_quiet (fail)
  go_wp2
  exact bodyPost_ret (results_none rfl _ _ _) rfl ⟨rfl, HF.out _⟩

theorem part_next {l : List Nat} {m : Nat} {p : Nat → Nat} {k : Nat} (h : k < l.length) : up (fun v => if v ∈ l.take k then m else p v) (l.getD k 0) m = fun v => if v ∈ l.take (k + 1) then m else p v := by
  have e : l.take (k + 1) = l.take k ++ [l.getD k 0] := by
    rw [List.take_succ_eq_append_getElem h]; simp [List.getD, h]
  funext v
  unfold up
  rw [e]
  by_cases h1 : v = l.getD k 0
  · subst h1
    rw [if_pos rfl, if_pos (by simp)]
  · rw [if_neg h1]
    by_cases h2 : v ∈ l.take k
    · rw [if_pos (List.mem_append_left _ h2)]; exact if_pos h2
    · rw [if_neg (c := v ∈ l.take k ++ [l.getD k 0]) (by rw [List.mem_append, List.mem_singleton]; rintro (h | h); exact h2 h; exact h1 h)]; exact if_neg h2
theorem inn_next {l : List Nat} {p : Nat → Bool} {k : Nat} (h : k < l.length) : up (fun v => if v ∈ l.take k then false else p v) (l.getD k 0) false = fun v => if v ∈ l.take (k + 1) then false else p v := by
  have e : l.take (k + 1) = l.take k ++ [l.getD k 0] := by
    rw [List.take_succ_eq_append_getElem h]; simp [List.getD, h]
  funext v
  unfold up
  rw [e]
  by_cases h1 : v = l.getD k 0
  · subst h1
    rw [if_pos rfl, if_pos (by simp)]
  · rw [if_neg h1]
    by_cases h2 : v ∈ l.take k
    · rw [if_pos (List.mem_append_left _ h2)]; exact if_pos h2
    · rw [if_neg (c := v ∈ l.take k ++ [l.getD k 0]) (by rw [List.mem_append, List.mem_singleton]; rintro (h | h); exact h2 h; exact h1 h)]; exact if_neg h2

set_option maxRecDepth 100000 in
set_option maxHeartbeats 4000000 in
theorem leave_root (g : Nat) (ev : Value) (n : Nat) (s : St) (F : Nat → Prop) (w : World) (h : IsS w g ev n s F) (x : Nat) (A B : List Nat) (hs : s.stack = A ++ x :: B) (hxB : x ∉ B) (hlt : ∀ v ∈ x :: B, v < n) (hlow : s.low x = s.num x) (hn : n ≤ 1000000000) (hsz : s.stack.length ≤ 1000000000) :
    Calls Try.prog 24 #[.pointer (some ⟨g, 0, none⟩), .int .i64 (x : Int)] w fun e w' => e = .returned (.tuple #[]) ∧ SDone g ev n (s.off s.way A (x :: B) (minL (x :: B))) F w w' := by
  obtain ⟨C, X, h⟩ := h
  have hx : x < n := hlt x List.mem_cons_self
  have H := Lib.hid h
  obtain ⟨b1, d1, E1, cc1, _⟩ := h.arr 1 ⟨by decide, by decide⟩ (by rw [h.num, numsOf_len]) (by omega)
  obtain ⟨b2, d2, E2, cc2, _⟩ := h.arr 2 ⟨by decide, by decide⟩ (by rw [h.low, numsOf_len]) (by omega)
  have c1 := h.str.cell 1 (by decide)
  have c2 := h.str.cell 2 (by decide)
  rw [E1] at c1
  rw [E2] at c2
  have x1 := (cc1 x hx).1
  have x2 := (cc2 x hx).1
  rw [h.num, numsOf_at _ _ _ hx] at x1
  rw [h.low, numsOf_at _ _ _ hx, hlow] at x2
  have hxI : (x : Int) < (n : Int) := by omega
  have hsl : (X 4).length = A.length + B.length + 1 := by rw [h.stack, natsOf_len, hs, List.length_append, List.length_cons]; omega
  obtain ⟨a4, d4, E4, h41, h42, _, h4c⟩ := h.str.val 4 ⟨by decide, by decide⟩
  rw [hsl] at E4 h41 h4c
  obtain ⟨b4, rfl, _, _⟩ := h4c 0 (by omega)
  have c4 := h.str.cell 4 (by decide)
  rw [E4] at c4
  have HC4 : Hid (∀ i, i < A.length + B.length + 1 → w.cell? ⟨b4, i, none⟩ = some (.int .i64 (((A ++ x :: B).getD i 0 : Nat) : Int))) := fun i hi => by
    obtain ⟨b', e', h1, _⟩ := h4c i hi
    cases e'
    rw [h1, h.stack, hs]
    exact natsOf_at _ _ (by rw [List.length_append, List.length_cons]; omega)
  have HL : Hid (A.length + B.length + 1 ≤ 1000000000) := by
    have := hsz; rw [hs, List.length_append, List.length_cons] at this; show _ ≤ _; omega
  have hAB := HL.out
  have HE4 := Lib.hid E4
  have hA1 : Hid ((A ++ x :: B).getD A.length 0 = x) := by show _ = _; simp [List.getD]
  have hA2 : Hid (∀ k, A.length < k → k ≤ A.length + B.length → (A ++ x :: B).getD k 0 ≠ x) := fun k h1 h2 e => by
    have : (A ++ x :: B).getD k 0 = B.getD (k - A.length - 1) 0 := by
      rw [List.getD_eq_getElem?_getD, List.getElem?_append_right (by omega), show k - A.length = (k - A.length - 1) + 1 by omega, List.getElem?_cons_succ, ← List.getD_eq_getElem?_getD]
      rfl
    rw [this] at e
    have hlt' : k - A.length - 1 < B.length := by omega
    refine hxB ?_
    rw [← e, List.getD_eq_getElem?_getD, List.getElem?_eq_getElem hlt']
    exact List.getElem_mem _
  have HS := Lib.hid hs
  have HLT := Lib.hid hlt
  clear h E1 E2 cc1 cc2 hlow hs hxB hlt h4c hsl E4 hsz
  generalize s.num x = nx at *
  go_enter Try.func24, Try.ntmps24
  go_wp2_with fail
  go_quiet (fail)
  go_wp2
  go_loop [4] (fun i => ∃ k : Nat, A.length ≤ k ∧ k ≤ A.length + B.length ∧ i = .int .i64 k) (fun i => (intOf i).toNat)
  case atStart => exact ⟨A.length + B.length, by omega, Nat.le_refl _, by go_num⟩
  case round =>
    obtain ⟨k, hk1, hk2, rfl⟩ := hrel
    have hkI : (k : Int) < (A.length : Int) + (B.length : Int) + 1 := by omega
    have ck := HC4.out k (by omega)
    by_cases hkA : k = A.length
    · subst hkA
      rw [hA1.out] at ck
      go_wp2_with fail
      have hnl : Hid (A.length + B.length + 1 - A.length = (x :: B).length) := by show _ = _; rw [List.length_cons]; omega
      have hget : Hid (∀ i, (A ++ x :: B).getD (A.length + i) 0 = (x :: B).getD i 0) := fun i => by
        rw [List.getD_eq_getElem?_getD, List.getElem?_append_right (by omega), Nat.add_sub_cancel_left, ← List.getD_eq_getElem?_getD]
      have hpos : 0 < (x :: B).length := by simp
      have hll : (x :: B).length ≤ 1000000000 := by rw [List.length_cons]; omega
      have hAl : A.length + (x :: B).length = A.length + B.length + 1 := by rw [List.length_cons]; omega
      have hm0 := minL_mem x B
      have HMN : Hid (minL (x :: B) < n) := HLT.out _ hm0
      rw [hnl.out]
      have hAd : (A.length : Int) ≤ (d4 : Int) := by omega
      have hAd2 : A.length ≤ d4 := by omega
      clear hA1 hA2 ck hm0 hkI hk1 hk2
      have HAL := Lib.hid hAl
      clear hAl
      generalize hlx : x :: B = L at *
      have HLX := Lib.hid hlx
      clear hlx
      generalize hmL : minL L = m at *
      have HML := Lib.hid hmL
      clear hmL
      generalize A.length + B.length + 1 = T4 at *
      refine (min_any b4 A.length L.length (d4 - A.length) L _ rfl hpos (by omega) (fun i hi => ?_)).mono ?_
      · have := HC4.out (A.length + i) (by rw [← HAL.out]; omega)
        rw [hget.out i] at this
        exact this
      rintro e w1 ⟨rfl, rfl⟩
      rw [HML.out]
      have HQ : Hid (∃ X', Srch (w.drewN nq) g ev n { s with part := fun v => if v ∈ L.take 0 then m else s.part v, inn := fun v => if v ∈ L.take 0 then false else s.inn v } F C X' ∧ Kept F w (w.drewN nq)) := by
        refine ⟨X, ?_, Kept.mono (Kept.ofBelow (below_drewN w nq)) (fun k hk hle => by omega)⟩
        have : ({ s with part := fun v => if v ∈ L.take 0 then m else s.part v, inn := fun v => if v ∈ L.take 0 then false else s.inn v } : St) = s := by
          have e1 : (fun v => if v ∈ L.take 0 then m else s.part v) = s.part := by funext v; rw [if_neg (by rw [List.take_zero]; exact fun h => by cases h)]
          have e2 : (fun v => if v ∈ L.take 0 then false else s.inn v) = s.inn := by funext v; rw [if_neg (by rw [List.take_zero]; exact fun h => by cases h)]
          rw [e1, e2]
        rw [this]
        exact H.out.kept (Kept.ofBelow (below_drewN w nq)) (fun b hF => by have := H.out.lt b hF; omega)
      obtain ⟨b6, d6, E6, _, _⟩ := H.out.arr 6 ⟨by decide, by decide⟩ (by rw [H.out.inn, boolsOf_len]) (by omega)
      obtain ⟨b7, d7, E7, _, _⟩ := H.out.arr 7 ⟨by decide, by decide⟩ (by rw [H.out.part, numsOf_len]) (by omega)
      have HE6 := Lib.hid E6
      have HE7 := Lib.hid E7
      have hb67 : Hid (b7 ≠ b6) := fun e => by
        have := H.out.str.apart 6 7 b6 ⟨by decide, by decide⟩ ⟨by decide, by decide⟩ (by rw [E6]; rfl) (by rw [E7, e]; rfl)
        omega
      have hX4 : Hid ((X 4).length = T4) := by rw [H.out.stack, natsOf_len, HS.out, List.length_append, HAL.out]; rfl
      clear E6 E7 c1 c2 x1 x2 c4
      generalize w.drewN nq = w1 at *
      go_wp2
      go_loopw [51] (fun iv wr => ∃ i : Nat, i ≤ L.length ∧ iv = .int .i64 i ∧ Hid (∃ X', Srch wr g ev n { s with part := fun v => if v ∈ L.take i then m else s.part v, inn := fun v => if v ∈ L.take i then false else s.inn v } F C X' ∧ Kept F w wr)) (fun iv _ => L.length - (intOf iv).toNat)
      case atStart => exact ⟨0, Nat.zero_le _, rfl, HQ⟩
      case round =>
        obtain ⟨i, hi, rfl, HR⟩ := hrel
        obtain ⟨X', hr, kr⟩ := HR.out
        have HRS := Lib.hid hr
        have HKR := Lib.hid kr
        clear hr kr HR
        by_cases hil : i < L.length
        · have hiI : (i : Int) < (L.length : Int) := by omega
          have hv : L.getD i 0 < n := HLT.out _ (by rw [show L.getD i 0 = L[i] by simp [List.getD, hil]]; exact List.getElem_mem hil)
          have cl : wr.cell? ⟨b4, A.length + i, none⟩ = some (.int .i64 ((L.getD i 0 : Nat) : Int)) := by
            have h1 := (HRS.out.arrAt 4 ⟨by decide, by decide⟩ HE4.out (A.length + i) (by rw [HRS.out.stack, natsOf_len]; show _ < s.stack.length; rw [HS.out, List.length_append]; omega)).1
            rw [HRS.out.stack] at h1
            have h2 : (natsOf s.stack)[A.length + i]? = some (.int .i64 ((s.stack.getD (A.length + i) 0 : Nat) : Int)) := natsOf_at _ _ (by rw [HS.out, List.length_append]; omega)
            rw [HS.out, hget.out i] at h2
            rw [h1]; show (natsOf s.stack)[A.length + i]? = _; rw [HS.out]; exact h2
          have PN := Lib.hid (part_next (m := m) (p := s.part) hil)
          have IN := Lib.hid (inn_next (p := s.inn) hil)
          generalize L.getD i 0 = v at *
          have hvI : (v : Int) < (n : Int) := by omega
          have HV := Lib.hid hv
          have v7 := HRS.out.arrAt 7 ⟨by decide, by decide⟩ HE7.out v (by rw [HRS.out.part, numsOf_len]; exact hv)
          have v6 := HRS.out.arrAt 6 ⟨by decide, by decide⟩ HE6.out v (by rw [HRS.out.inn, boolsOf_len]; exact hv)
          rw [HRS.out.part, numsOf_at _ _ _ hv] at v7
          rw [HRS.out.inn, boolsOf_at _ _ _ hv] at v6
          obtain ⟨v7a, v7b⟩ := v7
          obtain ⟨v6a, v6b⟩ := v6
          generalize ((if v ∈ L.take i then m else s.part v : Nat) : Int) = pv at *
          generalize (if v ∈ L.take i then false else s.inn v) = qv at *
          have c6 := HRS.out.str.cell 6 (by decide)
          have c7 := HRS.out.str.cell 7 (by decide)
          rw [HE6.out] at c6
          rw [HE7.out] at c7
          obtain ⟨v6c, v6d⟩ := tailSet (v := .int .i64 (m : Int)) (p := ⟨b7, v, none⟩) (fun e => hb67.out (by cases e; rfl)) v6a v6b
          have HST : Hid (∃ X2, Srch (((wr.setCell ⟨b7, v, none⟩ (.int .i64 (m : Int))).setCell ⟨b6, v, none⟩ (.bool false)).drew) g ev n { s with part := fun v => if v ∈ L.take (i + 1) then m else s.part v, inn := fun v => if v ∈ L.take (i + 1) then false else s.inn v } F C X2 ∧ Kept F w (((wr.setCell ⟨b7, v, none⟩ (.int .i64 (m : Int))).setCell ⟨b6, v, none⟩ (.bool false)).drew)) := by
            have a1 := HRS.out.setPart HE7.out v m HV.out
            have a2 := a1.setInn HE6.out v false HV.out
            have a3 := a2.drew
            simp only [PN.out, IN.out] at a3
            exact ⟨_, a3, ((HKR.out.setCell (fun _ => H.out.foot b7 (.inr ⟨7, ⟨by decide, by decide⟩, by rw [HE7.out]; rfl⟩)) _).setCell (fun _ => H.out.foot b6 (.inr ⟨6, ⟨by decide, by decide⟩, by rw [HE6.out]; rfl⟩)) _).drew⟩
          clear hv
          go_wp2_with fail
          refine wp_region_bar 12 (S := fun w' => w'.cell? ⟨g, 6, none⟩ = some (.slice (some ⟨b6, 0, none⟩) n d6) ∧ w'.cell? ⟨g, 7, none⟩ = some (.slice (some ⟨b7, 0, none⟩) n d7)) (by kernel_rfl) (⟨c6, c7⟩) (fun hHeld => ?_)
          refine' wpAnyB_take (i := 0) [0] (v := _) rfl (by kernel_rfl) (fun _ _ _ h => h) (Or.inl ⟨by rfl, ?hy0⟩) (by assumption) ?rest0
          case hy0 => (intro w' hSw; (try dsimp only at hSw); go_simp; (try with_reducible rfl))
          try simp only [Act.put, List.getElem_toArray, List.getElem_cons_zero, List.getElem_cons_succ, List.setIfInBounds_toArray, List.set_cons_zero, List.set_cons_succ]
          refine' wpAnyB_take (i := 1) [1] (v := _) rfl (by kernel_rfl) (fun _ _ _ h => h) (Or.inl ⟨by rfl, ?hy1⟩) (by assumption) ?rest1
          case hy1 => (intro w' hSw; (try dsimp only at hSw); go_simp; (try with_reducible rfl))
          try simp only [Act.put, List.getElem_toArray, List.getElem_cons_zero, List.getElem_cons_succ, List.setIfInBounds_toArray, List.set_cons_zero, List.set_cons_succ]
          refine' wpAnyB_take (i := 2) [2] (v := _) rfl (by kernel_rfl) (fun _ _ _ h => h) (Or.inl ⟨by rfl, ?hy2⟩) (by assumption) ?rest2
          case hy2 => (intro w' hSw; (try dsimp only at hSw); go_simp; (try with_reducible rfl))
          try simp only [Act.put, List.getElem_toArray, List.getElem_cons_zero, List.getElem_cons_succ, List.setIfInBounds_toArray, List.set_cons_zero, List.set_cons_succ]
          refine' wpAnyB_take (i := 3) [3] (v := _) rfl (by kernel_rfl) (fun _ _ _ h => h) (Or.inl ⟨by rfl, ?hy3⟩) (by assumption) ?rest3
          case hy3 => (intro w' hSw; (try dsimp only at hSw); go_simp; (try with_reducible rfl))
          try simp only [Act.put, List.getElem_toArray, List.getElem_cons_zero, List.getElem_cons_succ, List.setIfInBounds_toArray, List.set_cons_zero, List.set_cons_succ]
          refine' wpAnyB_take (i := 4) [4] (v := _) rfl (by kernel_rfl) (fun _ _ _ h => h) (Or.inl ⟨by rfl, ?hy4⟩) (by assumption) ?rest4
          case hy4 => (intro w' hSw; (try dsimp only at hSw); go_simp; (try with_reducible rfl))
          try simp only [Act.put, List.getElem_toArray, List.getElem_cons_zero, List.getElem_cons_succ, List.setIfInBounds_toArray, List.set_cons_zero, List.set_cons_succ]
          refine' wpAnyB_take (i := 5) [8, 7, 6, 5] (v := _) rfl (by kernel_rfl) (fun _ _ _ h => h) (Or.inl ⟨by rfl, ?hy5⟩) (by assumption) ?rest5
          case hy5 => (intro w' hSw; (try dsimp only at hSw); go_simp; (try with_reducible rfl))
          try simp only [Act.put, List.getElem_toArray, List.getElem_cons_zero, List.getElem_cons_succ, List.setIfInBounds_toArray, List.set_cons_zero, List.set_cons_succ]
          refine' wpAnyB_take (i := 6) [8, 7, 6] (v := _) rfl (by kernel_rfl) (fun _ _ _ h => h) (Or.inl ⟨by rfl, ?hy6⟩) (by assumption) ?rest6
          case hy6 => (intro w' hSw; (try dsimp only at hSw); go_simp; (try with_reducible rfl))
          try simp only [Act.put, List.getElem_toArray, List.getElem_cons_zero, List.getElem_cons_succ, List.setIfInBounds_toArray, List.set_cons_zero, List.set_cons_succ]
          refine' wpAnyB_take (i := 7) [8, 7] (v := _) rfl (by kernel_rfl) (fun _ _ _ h => h) (Or.inl ⟨by rfl, ?hy7⟩) (by assumption) ?rest7
          case hy7 => (intro w' hSw; (try dsimp only at hSw); go_simp; (try with_reducible rfl))
          try simp only [Act.put, List.getElem_toArray, List.getElem_cons_zero, List.getElem_cons_succ, List.setIfInBounds_toArray, List.set_cons_zero, List.set_cons_succ]
          refine' wpAnyB_take (i := 8) [8] (v := _) rfl (by kernel_rfl) (fun _ _ _ h => h) (Or.inl ⟨by rfl, ?hy8⟩) (by assumption) ?rest8
          case hy8 => (intro w' hSw; (try dsimp only at hSw); go_simp; (try with_reducible rfl))
          try simp only [Act.put, List.getElem_toArray, List.getElem_cons_zero, List.getElem_cons_succ, List.setIfInBounds_toArray, List.set_cons_zero, List.set_cons_succ]
          refine' wpAnyB_take0 (i := 9) (v := _) rfl (by kernel_rfl) (fun _ _ _ h => h) (Or.inl ⟨by rfl, ?hy9⟩) (by assumption) ?rest9
          case hy9 => (intro w' hSw; go_simp; (try with_reducible rfl))
          try simp only [Act.put, List.getElem_toArray, List.getElem_cons_zero, List.getElem_cons_succ, List.setIfInBounds_toArray, List.set_cons_zero, List.set_cons_succ]
          refine' wpAnyB_take (i := 10) [10] (v := _) rfl (by kernel_rfl) (fun _ _ _ h => h) (Or.inl ⟨by rfl, ?hy10⟩) (by assumption) ?rest10
          case hy10 => (intro w' hSw; (try dsimp only at hSw); go_simp; (try with_reducible rfl))
          try simp only [Act.put, List.getElem_toArray, List.getElem_cons_zero, List.getElem_cons_succ, List.setIfInBounds_toArray, List.set_cons_zero, List.set_cons_succ]
          refine' wpAnyB_take (i := 11) [11] (v := _) rfl (by kernel_rfl) (fun _ _ _ h => h) (Or.inl ⟨by rfl, ?hy11⟩) (by assumption) ?rest11
          case hy11 => (intro w' hSw; (try dsimp only at hSw); go_simp; (try with_reducible rfl))
          try simp only [Act.put, List.getElem_toArray, List.getElem_cons_zero, List.getElem_cons_succ, List.setIfInBounds_toArray, List.set_cons_zero, List.set_cons_succ]
          refine wpAnyB_ready (rs := [12]) (by kernel_rfl) (by simp) (AllReadyB.cons rfl (fun K hK => ?_) AllReadyB.nil)
          go_simp
          refine hK.out _ _ (fun e => nomatch e) ?_
          clear hK K
          try simp only [Act.put, List.getElem_toArray, List.getElem_cons_zero, List.getElem_cons_succ, List.setIfInBounds_toArray, List.set_cons_zero, List.set_cons_succ]
          refine wpAnyB_ready (rs := [13]) (by kernel_rfl) (by simp) (AllReadyB.cons rfl (fun K hK => ?_) AllReadyB.nil)
          go_simp
          refine hK.out _ _ (fun e => nomatch e) ?_
          clear hK K
          try simp only [Act.put, List.getElem_toArray, List.getElem_cons_zero, List.getElem_cons_succ, List.setIfInBounds_toArray, List.set_cons_zero, List.set_cons_succ]
          refine wpAnyB_ready (rs := [14]) (by kernel_rfl) (by simp) (AllReadyB.cons rfl (fun K hK => ?_) AllReadyB.nil)
          go_simp
          refine hK.out _ _ (fun e => nomatch e) ?_
          clear hK K
          try simp only [Act.put, List.getElem_toArray, List.getElem_cons_zero, List.getElem_cons_succ, List.setIfInBounds_toArray, List.set_cons_zero, List.set_cons_succ]
          refine wpAnyB_done (by kernel_rfl) ?_
          clear hHeld c6 c7 v7a v7b v6a v6b v6c v6d cl
          go_wp2
          go_roundw
          case rel => exact ⟨i + 1, by omega, by go_num, HST⟩
          case measure => simp [intOf]; omega
        · obtain rfl : i = L.length := by omega
          have hcut := HRS.out.cutStack HE4.out A.length (by show A.length ≤ s.stack.length; rw [HS.out, List.length_append]; omega)
          have HF : Hid (∀ W, W = wr.setCell ⟨g, 4, none⟩ (.slice (some ⟨b4, 0, none⟩) A.length d4) → SDone g ev n (s.off s.way A L m) F w W) := by
            rintro W rfl
            have e1 : (s.stack.take A.length) = A := by rw [HS.out, List.take_left]
            have h1 := hcut
            rw [show ({ s with part := fun v => if v ∈ L.take L.length then m else s.part v, inn := fun v => if v ∈ L.take L.length then false else s.inn v } : St).stack.take A.length = A from e1] at h1
            rw [List.take_length] at h1
            exact ⟨F, ⟨_, _, h1⟩, HKR.out.setCell (fun _ => H.out.foot g (.inl rfl)) _, fun _ h => .inl h⟩
          have c4 := HRS.out.str.cell 4 (by decide)
          rw [HE4.out] at c4
          have f4 := HRS.out.str.froz 4
          clear hcut
          go_wp2
          go_end0
          exact ⟨rfl, by rw [HLX.out, HML.out]; exact HF.out _ rfl⟩
    · have hz := hA2.out k (by omega) hk2
      have hzI : (((A ++ x :: B).getD k 0 : Nat) : Int) ≠ (x : Int) := by omega
      have hq : ((((A ++ x :: B).getD k 0 : Nat) : Int) == (x : Int)) = false := beq_eq_false_iff_ne.2 hzI
      have hq2 : (((A ++ x :: B).getD k 0) == x) = false := beq_eq_false_iff_ne.2 hz
      have hq3 : ((((A ++ x :: B).getD k 0 : Nat) : Int) != (x : Int)) = true := by rw [bne, hq]; rfl
      have hq4 : (((A ++ x :: B).getD k 0) != x) = true := by rw [bne, hq2]; rfl
      have hk0 : (1 : Int) ≤ (k : Int) := by omega
      have hke : Hid ((k : Int) - 1 = ((k - 1 : Nat) : Int)) := by show _ = _; omega
      have hk3 : A.length < k := by omega
      clear hz hzI hkA
      generalize (A ++ x :: B).getD k 0 = z at *
      go_wp2
      go_round
      case rel => exact ⟨k - 1, by omega, by omega, by rw [hke.out]⟩
      case measure => show ((k : Int) - 1).toNat < ((k : Int)).toNat; omega
end Go.Proofs.Ytnkfmhhfeaohbaa
