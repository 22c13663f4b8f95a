/- The walk of scc.Of. -/
import Derived.Test.YtnkfmhhfeaohbaaH
import Derived.Test.YtnkfmhhfeaohbaaMakes
namespace Go.Proofs.Ytnkfmhhfeaohbaa
open Go.RowKit Go.Own

theorem Try.info4 : (Try.prog.info? 4).map (fun i => (i.zero, i.size, i.bytes)) = some (some (.bool false), 1, 1) := by kernel_rfl
theorem built43 (a0 a1 a2 a3 a6 a7 : Option Addr) (n0 c0 n : Nat) : Try.prog.built 43 [(0, .slice a0 n0 c0), (1, .slice a1 n n), (2, .slice a2 n n), (3, .slice a3 n n), (6, .slice a6 n n), (7, .slice a7 n n)] =
    some #[.slice a0 n0 c0, .slice a1 n n, .slice a2 n n, .slice a3 n n, .slice none 0 0, .slice none 0 0, .slice a6 n n, .slice a7 n n, .int .i64 0] := by kernel_rfl

/-- The search before it begins. -/
def St.start : St := ⟨fun _ => 0, fun _ => 0, fun _ => 0, fun _ => 0, fun _ => false, [], [], 0⟩
theorem numsOf_zero (n : Nat) : numsOf n (fun _ => 0) = List.replicate n (.int .i64 0) := by
  refine List.ext_getElem (by simp [numsOf]) fun i h1 h2 => ?_
  simp [numsOf]
theorem boolsOf_false (n : Nat) : boolsOf n (fun _ => false) = List.replicate n (.bool false) := by
  refine List.ext_getElem (by simp [boolsOf]) fun i h1 h2 => ?_
  simp [boolsOf]
theorem PInv.start (E : List (List Int)) : PInv E (fun _ => False) St.start where
  inv := {
    mem := fun v hv => by cases hv
    inn := fun v _ => ⟨fun h => (by cases h), fun h => (by cases h)⟩
    sorted := List.Pairwise.nil
    sub := List.Sublist.slnil
    cnt := fun v _ => Nat.le_refl _
    chain := List.Pairwise.nil
    seg := fun v hv => by cases hv
    seen := fun v y _ h => by have h2 := h.2; rw [show St.start.next v = 0 from rfl, List.take_zero] at h2; cases h2
    low := fun v hv => by cases hv
    done := fun v _ h => absurd rfl h
    full := fun v _ h => absurd rfl h
    next := fun v _ => Nat.zero_le _
    fresh := fun v _ _ => rfl }
  cnt := by
    show 0 + unv E.length St.start = E.length
    unfold unv
    rw [Nat.zero_add]
    have : (List.range E.length).countP (fun v => decide (St.start.num v = 0)) = (List.range E.length).length := by
      rw [List.countP_eq_length]; intro v _; rfl
    rw [this, List.length_range]
  len := Nat.le_refl _
  seen := fun v h => h.elim

/-- Each node's part's least node. -/
def sccOf (E : List (List Int)) : List Int := (List.range E.length).map fun i => ((leastB E i i i : Nat) : Int)
theorem PInv.parts {E : List (List Int)} {Z : Nat → Prop} {s : St} (h : PInv E Z s) (hw : s.way = []) (hall : ∀ v, v < E.length → s.num v ≠ 0) : numsOf E.length s.part = (sccOf E).map (Value.int .i64) := by
  unfold numsOf sccOf
  rw [List.map_map]
  refine List.map_congr_left fun i hi => ?_
  have hi' := List.mem_range.1 hi
  have h1 := (h.inv.done i hi' (hall i hi') (by rw [h.inv.empty hw]; exact fun h => by cases h)).1
  show Value.int .i64 (s.part i : Int) = Value.int .i64 _
  rw [h1.unique (leastB_isMin E i)]
def OfDone (E : List (List Int)) (w : World) (e : Ending) (w' : World) : Prop := ∃ a c, e = .returned (.slice a E.length c) ∧ MadeInts .i64 3 w w' (.slice a E.length c) (sccOf E)

/-- The state between two searches. -/
def OfR (w w' : World) (g : Nat) (ev : Value) (n : Nat) (E : List (List Int)) (i : Nat) : Prop :=
  ∃ s F, IsS w' g ev n s F ∧ (∀ b, F b → w.heap.size ≤ b) ∧ Below w.heap.size w w' ∧ PInv E (fun v => v < i) s ∧ s.way = []
theorem sccOf_len (E : List (List Int)) : (sccOf E).length = E.length := by simp [sccOf]
theorem OfR.end {w w' : World} {g : Nat} {ev : Value} {E : List (List Int)} (h : OfR w w' g ev E.length E E.length) :
    ∃ a c, w'.cell? ⟨g, 7, none⟩ = some (.slice a E.length c) ∧ MadeInts .i64 3 w w' (.slice a E.length c) (sccOf E) := by
  obtain ⟨s, F, ⟨C, X, h1⟩, h2, h3, h4, h5⟩ := h
  have e1 := h4.parts h5 (fun v hv => h4.seen v hv)
  obtain ⟨a, c, E7, _⟩ := h1.str.val 7 ⟨by decide, by decide⟩
  have l7 : (X 7).length = E.length := by rw [h1.part, numsOf_len]
  have o7 := h1.str.own 7 ⟨by decide, by decide⟩
  rw [l7] at E7 o7
  rw [E7, h1.part, e1] at o7
  refine ⟨a, c, by rw [h1.str.cell 7 (by decide), E7], ⟨by rw [sccOf_len]; exact o7, h3, fun b hb => h2 b (h1.foot b (.inr ⟨7, ⟨by decide, by decide⟩, by rw [E7]; exact hb⟩))⟩⟩

theorem op_build {P : Program} {w : World} {o : Oper} {a : Act} {K : Act → World → Prop} {Q : Exit → Act → World → Prop} (t : TypeId) (fs : Array (Nat × Operand)) (hop : o.op = Op.build t fs) (vs : List (Nat × Value))
    (hv : (fs.map fun (i, x) => (i, a.eval x)).toList = vs) (cs : Array Value) (hb : P.built t vs = some cs) (hK : K (a.put o.dst (.agg cs)) w) : OpGoal P o a w K Q := by
  subst hv
  constructor
  refine wp_build t fs hop ?_ ?_
  · rw [hb]; rfl
  · rw [hb]; exact hK

theorem run_box (P : Program) (t : TypeId) (cs : Array Value) (w : World) : (Instr.box t (.agg cs)).run P w = .ok (.pointer (some ⟨w.heap.size, 0, none⟩)) (w.alloc (.cells cs t)) := rfl
theorem op_box {P : Program} {w : World} {o : Oper} {a : Act} {K : Act → World → Prop} {Q : Exit → Act → World → Prop} (t : TypeId) (x : Operand) (hop : o.op = Op.box t x) (cs : Array Value)
    (hx : a.eval x = .agg cs) (hK : K (a.put o.dst (.pointer (some ⟨w.heap.size, 0, none⟩))) (w.alloc (.cells cs t))) : OpGoal P o a w K Q := by
  constructor
  unfold Oper.wp
  simp only [execOp, hop, hx, run_box, Sem.run_bind, Result.andThen_ok]
  exact hK

/-- The five slices that Of makes. -/
abbrev MJ (n : Nat) (w1 : World) (V : Nat → Value) (w : World) : Prop :=
  MakesJ [3, 5, 7, 9, 11] (fun i => i + 9) (fun i => if i = 9 then 4 else 3) (fun i => if i = 9 then .bool false else .int .i64 0) n w1 #[true, true, true, true, true, true, true, true, true, true, true, true, false, false, false] V w
def startCells (ev : Value) (n b1 b2 b3 b6 b7 : Nat) : Array Value := #[ev, .slice (some ⟨b1, 0, none⟩) n n, .slice (some ⟨b2, 0, none⟩) n n, .slice (some ⟨b3, 0, none⟩) n n, .slice none 0 0, .slice none 0 0, .slice (some ⟨b6, 0, none⟩) n n, .slice (some ⟨b7, 0, none⟩) n n, .int .i64 0]
theorem start_built (ae : Option Addr) (n ce b1 b2 b3 b6 b7 : Nat) : Try.prog.built 43 [(0, .slice ae n ce), (1, .slice (some ⟨b1, 0, none⟩) n n), (2, .slice (some ⟨b2, 0, none⟩) n n), (3, .slice (some ⟨b3, 0, none⟩) n n), (6, .slice (some ⟨b6, 0, none⟩) n n), (7, .slice (some ⟨b7, 0, none⟩) n n)] = some (startCells (.slice ae n ce) n b1 b2 b3 b6 b7) := built43 _ _ _ _ _ _ _ _ _
def startRows (n : Nat) (k : Nat) : List Value := if k = 6 then List.replicate n (.bool false) else if k = 4 ∨ k = 5 then [] else List.replicate n (.int .i64 0)
theorem below_of_false {w w1 wz : World} (hB : Below w.heap.size w w1) (h : Kept (fun _ => False) w1 wz) : Below w.heap.size w wz :=
  hB.trans (h.below hB.size (fun _ _ h => h.elim))
theorem ofR_start {w w1 wz : World} {ev : Value} {n : Nat} {E : List (List Int)} {V : Nat → Value} {b1 b2 b3 b6 b7 : Nat} (hB : Below w.heap.size w w1) (hJ : MJ n w1 V wz)
    (e1 : V 12 = .slice (some ⟨b1, 0, none⟩) n n) (e2 : V 14 = .slice (some ⟨b2, 0, none⟩) n n) (e3 : V 16 = .slice (some ⟨b3, 0, none⟩) n n) (e6 : V 18 = .slice (some ⟨b6, 0, none⟩) n n) (e7 : V 20 = .slice (some ⟨b7, 0, none⟩) n n) :
    OfR w (wz.alloc (.cells (startCells ev n b1 b2 b3 b6 b7) 43)) wz.heap.size ev n E 0 := by
  have m1 := hJ.made 3 (by simp) (by decide)
  have m2 := hJ.made 5 (by simp) (by decide)
  have m3 := hJ.made 7 (by simp) (by decide)
  have m6 := hJ.made 9 (by simp) (by decide)
  have m7 := hJ.made 11 (by simp) (by decide)
  have a12 := hJ.apart 3 (by simp) 5 (by simp) (by decide) (by decide) (by decide)
  have a13 := hJ.apart 3 (by simp) 7 (by simp) (by decide) (by decide) (by decide)
  have a16 := hJ.apart 3 (by simp) 9 (by simp) (by decide) (by decide) (by decide)
  have a17 := hJ.apart 3 (by simp) 11 (by simp) (by decide) (by decide) (by decide)
  have a23 := hJ.apart 5 (by simp) 7 (by simp) (by decide) (by decide) (by decide)
  have a26 := hJ.apart 5 (by simp) 9 (by simp) (by decide) (by decide) (by decide)
  have a27 := hJ.apart 5 (by simp) 11 (by simp) (by decide) (by decide) (by decide)
  have a36 := hJ.apart 7 (by simp) 9 (by simp) (by decide) (by decide) (by decide)
  have a37 := hJ.apart 7 (by simp) 11 (by simp) (by decide) (by decide) (by decide)
  have a67 := hJ.apart 9 (by simp) 11 (by simp) (by decide) (by decide) (by decide)
  simp only [Nat.reduceAdd, Nat.reduceEqDiff, if_true, if_false, e1, e2, e3, e6, e7, Value.ownBlock, ne_eq, Option.some.injEq] at m1 m2 m3 m6 m7 a12 a13 a16 a17 a23 a26 a27 a36 a37 a67
  obtain ⟨m1, _, q1, l1⟩ := m1
  obtain ⟨m2, _, q2, l2⟩ := m2
  obtain ⟨m3, _, q3, l3⟩ := m3
  obtain ⟨m6, _, q6, l6⟩ := m6
  obtain ⟨m7, _, q7, l7⟩ := m7
  cases q1; cases q2; cases q3; cases q6; cases q7
  have t1 := m1.lt b1 rfl
  have t2 := m2.lt b2 rfl
  have t3 := m3.lt b3 rfl
  have t6 := m6.lt b6 rfl
  have t7 := m7.lt b7 rfl
  have hb2 : Below w.heap.size w wz := below_of_false hB hJ.kept
  have hs7 : ∀ k, sl7 k → k = 1 ∨ k = 2 ∨ k = 3 ∨ k = 4 ∨ k = 5 ∨ k = 6 ∨ k = 7 := fun k ⟨h1, h2⟩ => by omega
  have hrec : Rec 9 sl7 ty7 (wz.alloc (.cells (startCells ev n b1 b2 b3 b6 b7) 43)) wz.heap.size (fun k => (startCells ev n b1 b2 b3 b6 b7).getD k undef) (startRows n) := {
    cell := fun k hk => by
      rw [World.cell?_alloc_at _ 43 wz.heap.size k rfl]
      have : k < (startCells ev n b1 b2 b3 b6 b7).size := hk
      simp [this]
    froz := fun k => World.frozen?_alloc_at _ 43 wz.heap.size k rfl
    lim := fun k h => by have := h.2; omega
    own := fun k hk => by
      rcases hs7 k hk with rfl | rfl | rfl | rfl | rfl | rfl | rfl
      · have := m1.alloc (.cells (startCells ev n b1 b2 b3 b6 b7) 43); simpa [startRows, startCells, ty7] using this
      · have := m2.alloc (.cells (startCells ev n b1 b2 b3 b6 b7) 43); simpa [startRows, startCells, ty7] using this
      · have := m3.alloc (.cells (startCells ev n b1 b2 b3 b6 b7) 43); simpa [startRows, startCells, ty7] using this
      · exact World.ownsRow_nil _ _ _ _
      · exact World.ownsRow_nil _ _ _ _
      · have := m6.alloc (.cells (startCells ev n b1 b2 b3 b6 b7) 43); simpa [startRows, startCells, ty7] using this
      · have := m7.alloc (.cells (startCells ev n b1 b2 b3 b6 b7) 43); simpa [startRows, startCells, ty7] using this
    apart := fun i j b hi hj h1 h2 => by
      rcases hs7 i hi with rfl | rfl | rfl | rfl | rfl | rfl | rfl <;> rcases hs7 j hj with rfl | rfl | rfl | rfl | rfl | rfl | rfl <;>
        simp [startCells, Value.ownBlock] at h1 h2 <;> first | rfl | omega
    off := fun i hi h1 => by
      rcases hs7 i hi with rfl | rfl | rfl | rfl | rfl | rfl | rfl <;> simp [startCells, Value.ownBlock] at h1 <;> omega
    pos := by decide }
  refine ⟨St.start, RFoot sl7 wz.heap.size (fun k => (startCells ev n b1 b2 b3 b6 b7).getD k undef), ⟨_, _, {
    str := hrec, edges := rfl, cnt := rfl
    num := (numsOf_zero n).symm, low := (numsOf_zero n).symm, next := (numsOf_zero n).symm, stack := rfl, way := rfl, inn := (boolsOf_false n).symm, part := (numsOf_zero n).symm
    foot := fun _ h => h, lt := hrec.foot_lt }⟩, ?_, hb2.alloc hb2.size _, (PInv.start E).mono (fun v h => absurd h (Nat.not_lt_zero v)), rfl⟩
  rintro b (rfl | ⟨k, hk, e⟩)
  · exact hb2.size
  · have := hB.size
    rcases hs7 k hk with rfl | rfl | rfl | rfl | rfl | rfl | rfl <;> simp [startCells, Value.ownBlock] at e <;> omega

theorem OfR.end' {w w' : World} {g n : Nat} {ev : Value} {E : List (List Int)} (hE : E.length = n) (h : OfR w w' g ev n E n) :
    ∃ a c, w'.cell? ⟨g, 7, none⟩ = some (.slice a n c) ∧ MadeInts .i64 3 w w' (.slice a n c) (sccOf E) := by
  subst hE; exact h.end
/-- What the loop reads of the state. -/
theorem OfR.rd {w w' : World} {g : Nat} {ev : Value} {n : Nat} {E : List (List Int)} {i : Nat} (h : OfR w w' g ev n E i) (hi : i < n) :
    ∃ b c m, w'.cell? ⟨g, 1, none⟩ = some (.slice (some ⟨b, 0, none⟩) n c) ∧ w'.cell? ⟨b, i, none⟩ = some (.int .i64 ((m : Nat) : Int)) ∧
      (m ≠ 0 → OfR w w' g ev n E (i + 1)) ∧ (m = 0 → ∃ s F, IsS w' g ev n s F ∧ (∀ b, F b → w.heap.size ≤ b) ∧ Below w.heap.size w w' ∧ PInv E (fun v => v < i) s ∧ s.way = [] ∧ s.num i = 0) := by
  obtain ⟨s, F, ⟨C, X, h1⟩, h2, h3, h4, h5⟩ := h
  obtain ⟨b, c, e, hc, _⟩ := h1.arr 1 ⟨by decide, by decide⟩ (by rw [h1.num, numsOf_len]) (by omega)
  refine ⟨b, c, s.num i, by rw [h1.str.cell 1 (by decide), e], ?_, fun hm => ?_, fun hm => ?_⟩
  · rw [(hc i hi).1, h1.num, numsOf_at _ _ _ hi]
  · exact ⟨s, F, ⟨C, X, h1⟩, h2, h3, ⟨h4.inv, h4.cnt, h4.len, fun v hv => by
      by_cases e : v = i
      · rw [e]; exact hm
      · exact h4.seen v (by omega)⟩, h5⟩
  · exact ⟨s, F, ⟨C, X, h1⟩, h2, h3, h4, h5, hm⟩
theorem OfR.call {w w' : World} {g : Nat} {ae : Option Addr} {n ce : Nat} {E : List (List Int)} {i : Nat} (hE : E.length = n) (he : EdgesAt w ae E) (hn : n ≤ 1000000) (hrow : ∀ i, i < E.length → (E.getD i []).length ≤ 1000000000) (hi : i < n)
    (h : ∃ s F, IsS w' g (.slice ae n ce) n s F ∧ (∀ b, F b → w.heap.size ≤ b) ∧ Below w.heap.size w w' ∧ PInv E (fun v => v < i) s ∧ s.way = [] ∧ s.num i = 0) :
    Calls Try.prog 19 #[.pointer (some ⟨g, 0, none⟩), .int .i64 (i : Int)] w' fun e w2 => e = .returned (.tuple #[]) ∧ Hid (OfR w w2 g (.slice ae n ce) n E (i + 1)) := by
  obtain ⟨s, F, h1, h2, h3, h4, h5, h6⟩ := h
  refine (walk_any w w' g ae n ce E s F _ hE he hn hrow h1 h2 h3 h4 h5 i hi h6).mono ?_
  rintro e w2 ⟨rfl, s2, F2, k1, k2, k3, k4, k5⟩
  exact ⟨rfl, s2, F2, k1, k2, k3, k4.mono (fun v hv => by omega), k5⟩


set_option maxHeartbeats 1000000 in
theorem of_any (vi vl : Value) (ae : Option Addr) (n ce : Nat) (E : List (List Int)) (w : World) (hE : E.length = n) (he : EdgesAt w ae E) (hn : n ≤ 1000000) (hrow : ∀ i, i < E.length → (E.getD i []).length ≤ 1000000000) :
    Calls Try.prog 11 #[.agg #[vi, .slice ae n ce, vl]] w (OfDone E w) := by
  subst hE
  obtain ⟨i3, hi3, hz3, hs3, hb3⟩ := info_parts Try.info3
  obtain ⟨i4, hi4, hz4, hs4, hb4⟩ := info_parts Try.info4
  have HED := Lib.hid he
  have HRO := Lib.hid hrow
  have HN := Lib.hid hn
  have HB : Hid (∀ W, W = w.alloc (.cells #[vi, .slice ae E.length ce, vl] 26) → Below w.heap.size w W) := by rintro W rfl; exact (Below.refl _ w).alloc (Nat.le_refl _) _
  have HC1 : Hid (∀ W, W = w.alloc (.cells #[vi, .slice ae E.length ce, vl] 26) → W.cell? ⟨w.heap.size, 1, none⟩ = some (.slice ae E.length ce)) := by
    rintro W rfl; exact World.cell?_alloc_at (w := w) _ 26 w.heap.size 1 rfl
  have hmx : Hid (E.length ≤ maxLen) := by have := hn; show _ ≤ _; unfold maxLen; omega
  clear he hrow
  have HEL : Hid (∃ n, n = E.length) := ⟨_, rfl⟩
  generalize hnn : E.length = n at *
  have HNN := Lib.hid hnn
  clear hnn HEL
  go_enter Try.func11, Try.ntmps11
  go_upto_region 2 with (fail)
  have c1 := HC1.out _ rfl
  have HB1 := Lib.hid (HB.out _ rfl)
  clear HB HC1
  generalize w.alloc (.cells #[vi, .slice ae n ce, vl] 26) = w1 at *
  generalize hgb : w.heap.size = gb at *
  have HGB := Lib.hid hgb
  clear hgb
  have HCC := Lib.hid c1
  refine wp_region_bar 14 (S := fun w' => w'.cell? ⟨gb, 1, none⟩ = some (.slice ae n ce)) (by kernel_rfl) (c1) (fun hHeld => ?_)
  refine' wpAnyB_take (i := 0) [0] (v := _) rfl (by kernel_rfl) (fun _ _ _ h => h) (Or.inl ⟨by rfl, ?hy0⟩) (by assumption) ?rest0
  case hy0 => (intro w' hSw; (try dsimp only at hSw); go_simp; (try with_reducible rfl))
  try simp only [Act.put, List.getElem_toArray, List.getElem_cons_zero, List.getElem_cons_succ, List.setIfInBounds_toArray, List.set_cons_zero, List.set_cons_succ]
  refine' wpAnyB_take (i := 1) [1] (v := _) rfl (by kernel_rfl) (fun _ _ _ h => h) (Or.inl ⟨by rfl, ?hy1⟩) (by assumption) ?rest1
  case hy1 => (intro w' hSw; (try dsimp only at hSw); go_simp; (try with_reducible rfl))
  try simp only [Act.put, List.getElem_toArray, List.getElem_cons_zero, List.getElem_cons_succ, List.setIfInBounds_toArray, List.set_cons_zero, List.set_cons_succ]
  refine' wpAnyB_take (i := 2) [2] (v := _) rfl (by kernel_rfl) (fun _ _ _ h => h) (Or.inl ⟨by rfl, ?hy2⟩) (by assumption) ?rest2
  case hy2 => (intro w' hSw; (try dsimp only at hSw); go_simp; (try with_reducible rfl))
  try simp only [Act.put, List.getElem_toArray, List.getElem_cons_zero, List.getElem_cons_succ, List.setIfInBounds_toArray, List.set_cons_zero, List.set_cons_succ]
  refine' wpAnyB_take (i := 4) [4] (v := _) rfl (by kernel_rfl) (fun _ _ _ h => h) (Or.inl ⟨by rfl, ?hy4⟩) (by assumption) ?rest4
  case hy4 => (intro w' hSw; (try dsimp only at hSw); go_simp; (try with_reducible rfl))
  try simp only [Act.put, List.getElem_toArray, List.getElem_cons_zero, List.getElem_cons_succ, List.setIfInBounds_toArray, List.set_cons_zero, List.set_cons_succ]
  refine' wpAnyB_take (i := 6) [6] (v := _) rfl (by kernel_rfl) (fun _ _ _ h => h) (Or.inl ⟨by rfl, ?hy6⟩) (by assumption) ?rest6
  case hy6 => (intro w' hSw; (try dsimp only at hSw); go_simp; (try with_reducible rfl))
  try simp only [Act.put, List.getElem_toArray, List.getElem_cons_zero, List.getElem_cons_succ, List.setIfInBounds_toArray, List.set_cons_zero, List.set_cons_succ]
  refine' wpAnyB_take (i := 8) [8] (v := _) rfl (by kernel_rfl) (fun _ _ _ h => h) (Or.inl ⟨by rfl, ?hy8⟩) (by assumption) ?rest8
  case hy8 => (intro w' hSw; (try dsimp only at hSw); go_simp; (try with_reducible rfl))
  try simp only [Act.put, List.getElem_toArray, List.getElem_cons_zero, List.getElem_cons_succ, List.setIfInBounds_toArray, List.set_cons_zero, List.set_cons_succ]
  refine' wpAnyB_take (i := 10) [10] (v := _) rfl (by kernel_rfl) (fun _ _ _ h => h) (Or.inl ⟨by rfl, ?hy10⟩) (by assumption) ?rest10
  case hy10 => (intro w' hSw; (try dsimp only at hSw); go_simp; (try with_reducible rfl))
  try simp only [Act.put, List.getElem_toArray, List.getElem_cons_zero, List.getElem_cons_succ, List.setIfInBounds_toArray, List.set_cons_zero, List.set_cons_succ]
  refine wpAnyB_phase [3, 5, 7, 9, 11] (fun i => i + 9) #[true, true, true, true, true, true, true, true, true, true, true, true, false, false, false] 3
    (fun l V w => l.size = 15 ∧ MakesJ [3, 5, 7, 9, 11] (fun i => i + 9) (fun i => if i = 9 then 4 else 3) (fun i => if i = 9 then .bool false else .int .i64 0) n w1 l V w) (by kernel_rfl) (by kernel_rfl) rfl ?c1 ?c2 ?c3 ?c4
  case c1 =>
    refine ⟨by kernel_rfl, (Kept.refl _ w1).drew, fun j hj hl => ?_, fun j hj k hk hjk hl _ => ?_⟩
    · exfalso
      simp only [List.mem_cons, List.not_mem_nil, or_false] at hj
      rcases hj with rfl | rfl | rfl | rfl | rfl <;> exact absurd hl (by decide)
    · exfalso
      simp only [List.mem_cons, List.not_mem_nil, or_false] at hj
      rcases hj with rfl | rfl | rfl | rfl | rfl <;> exact absurd hl (by decide)
  case c2 =>
    rintro l V w ⟨_, hJ⟩
    exact hJ.kept.cellSome HCC.out (fun h => h)
  case c3 =>
    rintro l V w i o hl hcl hi ho hr ⟨hl', hJ⟩ K hK
    clear hHeld c1
    simp only [List.mem_cons, List.not_mem_nil, or_false] at hi
    rcases hi with rfl | rfl | rfl | rfl | rfl
    · simp only [List.getElem?_toArray, List.getElem?_cons_succ, List.getElem?_cons_zero, Option.some.injEq] at ho
      subst ho
      refine op_make (.tmp 11) (.tmp 11) 22 rfl 3 i3 (.int .i64 0) Try.underlying22 hi3 hz3 hs3 rfl n ((putAll_eval _ _ _ _ (by decide)).trans rfl) ((putAll_eval _ _ _ _ (by decide)).trans rfl) ?_ hmx.out (fun w' k1 k2 => ?_)
      · rw [hb3]; omega
      · have hj2 := hJ.step (w' := w') 3 (by simp) (by decide) (by rw [hl']; decide) k1 k2
        exact hK _ w' ⟨by rw [Array.size_setIfInBounds]; exact hl', hj2⟩
    · simp only [List.getElem?_toArray, List.getElem?_cons_succ, List.getElem?_cons_zero, Option.some.injEq] at ho
      subst ho
      refine op_make (.tmp 13) (.tmp 13) 22 rfl 3 i3 (.int .i64 0) Try.underlying22 hi3 hz3 hs3 rfl n ((putAll_eval _ _ _ _ (by decide)).trans rfl) ((putAll_eval _ _ _ _ (by decide)).trans rfl) ?_ hmx.out (fun w' k1 k2 => ?_)
      · rw [hb3]; omega
      · have hj2 := hJ.step (w' := w') 5 (by simp) (by decide) (by rw [hl']; decide) k1 k2
        exact hK _ w' ⟨by rw [Array.size_setIfInBounds]; exact hl', hj2⟩
    · simp only [List.getElem?_toArray, List.getElem?_cons_succ, List.getElem?_cons_zero, Option.some.injEq] at ho
      subst ho
      refine op_make (.tmp 15) (.tmp 15) 22 rfl 3 i3 (.int .i64 0) Try.underlying22 hi3 hz3 hs3 rfl n ((putAll_eval _ _ _ _ (by decide)).trans rfl) ((putAll_eval _ _ _ _ (by decide)).trans rfl) ?_ hmx.out (fun w' k1 k2 => ?_)
      · rw [hb3]; omega
      · have hj2 := hJ.step (w' := w') 7 (by simp) (by decide) (by rw [hl']; decide) k1 k2
        exact hK _ w' ⟨by rw [Array.size_setIfInBounds]; exact hl', hj2⟩
    · simp only [List.getElem?_toArray, List.getElem?_cons_succ, List.getElem?_cons_zero, Option.some.injEq] at ho
      subst ho
      refine op_make (.tmp 17) (.tmp 17) 34 rfl 4 i4 (.bool false) Try.underlying34 hi4 hz4 hs4 rfl n ((putAll_eval _ _ _ _ (by decide)).trans rfl) ((putAll_eval _ _ _ _ (by decide)).trans rfl) ?_ hmx.out (fun w' k1 k2 => ?_)
      · rw [hb4]; omega
      · have hj2 := hJ.step (w' := w') 9 (by simp) (by decide) (by rw [hl']; decide) k1 k2
        exact hK _ w' ⟨by rw [Array.size_setIfInBounds]; exact hl', hj2⟩
    · simp only [List.getElem?_toArray, List.getElem?_cons_succ, List.getElem?_cons_zero, Option.some.injEq] at ho
      subst ho
      refine op_make (.tmp 19) (.tmp 19) 22 rfl 3 i3 (.int .i64 0) Try.underlying22 hi3 hz3 hs3 rfl n ((putAll_eval _ _ _ _ (by decide)).trans rfl) ((putAll_eval _ _ _ _ (by decide)).trans rfl) ?_ hmx.out (fun w' k1 k2 => ?_)
      · rw [hb3]; omega
      · have hj2 := hJ.step (w' := w') 11 (by simp) (by decide) (by rw [hl']; decide) k1 k2
        exact hK _ w' ⟨by rw [Array.size_setIfInBounds]; exact hl', hj2⟩
  case c4 =>
    rintro V wz ⟨_, hJ⟩
    clear hHeld c1
    change wpAnyB _ _ _ _ _ _ _ _ (putAll _ [12, 14, 16, 18, 20] V) wz
    simp only [putAll, Act.put, List.setIfInBounds_toArray, List.set_cons_zero, List.set_cons_succ]
    obtain ⟨-, b1, e1, -⟩ := hJ.made 3 (by simp) (by decide)
    obtain ⟨-, b2, e2, -⟩ := hJ.made 5 (by simp) (by decide)
    obtain ⟨-, b3, e3, -⟩ := hJ.made 7 (by simp) (by decide)
    obtain ⟨-, b6, e6, -⟩ := hJ.made 9 (by simp) (by decide)
    obtain ⟨-, b7, e7, -⟩ := hJ.made 11 (by simp) (by decide)
    replace e1 : V 12 = .slice (some ⟨b1, 0, none⟩) n n := e1
    replace e2 : V 14 = .slice (some ⟨b2, 0, none⟩) n n := e2
    replace e3 : V 16 = .slice (some ⟨b3, 0, none⟩) n n := e3
    replace e6 : V 18 = .slice (some ⟨b6, 0, none⟩) n n := e6
    replace e7 : V 20 = .slice (some ⟨b7, 0, none⟩) n n := e7
    have HR := Lib.hid (ofR_start (ev := .slice ae n ce) (E := E) (by rw [HGB.out]; exact HB1.out) hJ e1 e2 e3 e6 e7)
    have hcz : wz.cell? ⟨gb, 1, none⟩ = some (.slice ae n ce) := hJ.kept.cellSome HCC.out (fun h => h)
    rw [e1, e2, e3, e6, e7]
    clear hJ e1 e2 e3 e6 e7 V
    refine wpAnyB_ready (rs := [12]) (by kernel_rfl) (by simp) (AllReadyB.cons rfl (fun K hK => ?_) AllReadyB.nil)
    rw [if_pos (by rfl)]
    apply OpGoal.out
    refine op_build (Q := _) 43 #[(0, .tmp 10), (1, .tmp 12), (2, .tmp 14), (3, .tmp 16), (6, .tmp 18), (7, .tmp 20)] rfl [(0, .slice ae n ce), (1, .slice (some ⟨b1, 0, none⟩) n n), (2, .slice (some ⟨b2, 0, none⟩) n n), (3, .slice (some ⟨b3, 0, none⟩) n n), (6, .slice (some ⟨b6, 0, none⟩) n n), (7, .slice (some ⟨b7, 0, none⟩) n n)]
      (by simp [Act.eval]) (startCells (.slice ae n ce) n b1 b2 b3 b6 b7) (start_built ae n ce b1 b2 b3 b6 b7) ?_
    refine hK.out _ _ (fun _ => hcz) ?_
    clear hK K
    try simp only [Act.put, List.getElem_toArray, List.getElem_cons_zero, List.getElem_cons_succ, List.setIfInBounds_toArray, List.set_cons_zero, List.set_cons_succ]
    refine wpAnyB_ready (rs := [13]) (by kernel_rfl) (by simp) (AllReadyB.cons rfl (fun K hK => ?_) AllReadyB.nil)
    rw [if_pos (by rfl)]
    apply OpGoal.out
    refine op_box 43 (.tmp 21) rfl (startCells (.slice ae n ce) n b1 b2 b3 b6 b7) rfl ?_
    have hcz2 : Hid (∀ W, W = wz.alloc (.cells (startCells (.slice ae n ce) n b1 b2 b3 b6 b7) 43) → W.cell? ⟨gb, 1, none⟩ = some (.slice ae n ce)) := by
      rintro W rfl
      exact (((Below.refl wz.heap.size wz).alloc (Nat.le_refl _) _).cell (World.block_lt_of_cell? wz _ hcz)).trans hcz
    generalize hsc : startCells (.slice ae n ce) n b1 b2 b3 b6 b7 = sc at *
    clear hsc
    have hc2 := hcz2.out _ rfl
    refine hK.out _ _ (fun _ => hc2) ?_
    clear hK K hcz hcz2
    generalize wz.alloc (.cells sc 43) = w2 at *
    generalize wz.heap.size = g at *
    try simp only [Act.put, List.getElem_toArray, List.getElem_cons_zero, List.getElem_cons_succ, List.setIfInBounds_toArray, List.set_cons_zero, List.set_cons_succ]
    refine wpAnyB_ready (rs := [14]) (by kernel_rfl) (by simp) (AllReadyB.cons rfl (fun K hK => ?_) AllReadyB.nil)
    go_simp
    refine hK.out _ _ (fun _ => hc2) ?_
    clear hK K
    try simp only [Act.put, List.getElem_toArray, List.getElem_cons_zero, List.getElem_cons_succ, List.setIfInBounds_toArray, List.set_cons_zero, List.set_cons_succ]
    refine wpAnyB_done (by kernel_rfl) ?_
    go_wp2_with fail
    go_loopw [26] (fun v wr => ∃ k : Nat, k ≤ n ∧ v = .int .i64 k ∧ Hid (OfR w wr g (.slice ae n ce) n E k)) (fun v _ => n - (intOf v).toNat)
    case atStart => exact ⟨0, Nat.zero_le _, rfl, HR⟩
    case round =>
      clear HR hc2
      obtain ⟨k, hk, rfl, hr⟩ := hrel
      by_cases hlt : k < n
      · obtain ⟨b, c, m, c1, c2, hs, hz⟩ := hr.out.rd hlt
        have hltI : (k : Int) < (n : Int) := by omega
        by_cases hm : m = 0
        · subst hm
          have HC := Lib.hid (OfR.call HNN.out HED.out HN.out (fun i h => HRO.out i (by rw [← HNN.out]; exact h)) hlt (hz rfl))
          have c2' : wr.cell? ⟨b, k, none⟩ = some (.int .i64 0) := c2
          clear hs hz hr c2
          go_wp2_with (go_at_call 19; refine HC.out.mono ?_; rintro e w3 ⟨rfl, HR3⟩; clear HC c1 c2')
          go_roundw
          case rel => exact ⟨k + 1, by omega, by go_num, HR3⟩
          case measure => simp [intOf]; omega
        · have HR3 := Lib.hid (hs hm)
          have hmI : ((m : Int) == 0) = false := by simp [hm]
          have hmJ : (m == 0) = false := beq_eq_false_iff_ne.2 hm
          clear hs hz hr
          go_wp2
          go_roundw
          case rel => exact ⟨k + 1, by omega, by go_num, HR3⟩
          case measure => simp [intOf]; omega
      · obtain rfl : k = n := by omega
        obtain ⟨a, c, c7, hm⟩ := OfR.end' HNN.out hr.out
        have HM := Lib.hid hm
        clear hm hr
        go_wp2
        go_ret
        exact ⟨a, c, (by rw [HNN.out]; rfl), by rw [HNN.out]; exact HM.out⟩
end Go.Proofs.Ytnkfmhhfeaohbaa
