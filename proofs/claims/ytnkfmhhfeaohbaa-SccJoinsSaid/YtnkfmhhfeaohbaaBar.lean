/- A region that draws its order and writes at its end: a condition on the world that holds till one operation (the barrier) comes up; and a phase of operations that come up in whatever order, each gone through once. -/
import Derived.Test.YtnkfmhhfeaohbaaInv
import Derived.Test.YtnkfmhhfeaohbaaTarjan
namespace Go.Own
open Go.RowKit

section
variable {P : Program} {ops : Array Oper} {Q : Exit → Act → World → Prop} {md : Region.Mode} {S : World → Prop} {β : Nat}

def wpAnyB (P : Program) (md : Region.Mode) (ops : Array Oper) (Q : Exit → Act → World → Prop) (S : World → Prop) (β : Nat) : Nat → Array Bool → Act → World → Prop
  | 0, listed, a, w => Region.ready md ops listed = [] ∧ Q .normal a w
  | fuel + 1, listed, a, w =>
    (Region.ready md ops listed = [] → Q .normal a w) ∧
    ∀ i ∈ Region.ready md ops listed, wpOp P ops Q i (fun a' w' => ((listed.setIfInBounds i true).getD β false = false → S w') ∧ wpAnyB P md ops Q S β fuel (listed.setIfInBounds i true) a' w') a w

theorem wpAny_of_B : ∀ (fuel : Nat) (listed : Array Bool) (a : Act) (w : World), wpAnyB P md ops Q S β fuel listed a w → wpAny P md ops Q fuel listed a w
  | 0, _, _, _, h => h
  | fuel + 1, _, _, _, h => ⟨h.1, fun i hi => wpOp_mono (fun a' w' h' => wpAny_of_B fuel _ a' w' h'.2) (h.2 i hi)⟩

/-- What came up has all behind it that it waits for. -/
def Closed (md : Region.Mode) (ops : Array Oper) (listed : Array Bool) : Prop :=
  ∀ j oj, ops[j]? = some oj → listed.getD j false = true → ∀ e ∈ oj.after, Region.binds md e = true → listed.getD e.on false = true
theorem getD_none (n j : Nat) : (Array.replicate n false).getD j false = false := by
  rcases Nat.lt_or_ge j n with h | h
  · simp [h]
  · simp [h]
theorem Closed.start (n : Nat) : Closed md ops (Array.replicate n false) := fun j oj _ hl => by rw [getD_none] at hl; cases hl
theorem Closed.set {listed : Array Bool} {i : Nat} (h : Closed md ops listed) (hi : i ∈ Region.ready md ops listed) : Closed md ops (listed.setIfInBounds i true) := by
  intro j oj hj hl e he hb
  obtain ⟨_, oi, hoi, hall⟩ := mem_ready.1 hi
  by_cases hij : i = j
  · subst hij
    have : oj = oi := Option.some.inj (hj.symm.trans hoi)
    subst this
    exact getD_set_true (hall e he hb)
  · rw [getD_set_ne false hij] at hl
    exact getD_set_true (h j oj hj hl e he hb)
/-- Each of the row waits for the next one. -/
def pathB (md : Region.Mode) (ops : Array Oper) : List Nat → Bool
  | x :: y :: l => (match ops[x]? with | some o => o.after.any fun e => Region.binds md e && e.on == y | none => false) && pathB md ops (y :: l)
  | _ => true
def lastOf : Nat → List Nat → Nat
  | x, [] => x
  | _, y :: l => lastOf y l
theorem closed_path {listed : Array Bool} (h : Closed md ops listed) : ∀ (l : List Nat) (x : Nat), pathB md ops (x :: l) = true → listed.getD x false = true → listed.getD (lastOf x l) false = true
  | [], x, _, hx => hx
  | y :: l, x, hp, hx => by
    unfold pathB at hp
    rw [Bool.and_eq_true] at hp
    obtain ⟨h1, h2⟩ := hp
    refine closed_path h l y h2 ?_
    cases ho : ops[x]? with
    | none => rw [ho] at h1; cases h1
    | some o =>
      rw [ho] at h1
      dsimp only at h1
      obtain ⟨e, he, h3⟩ := Array.any_eq_true'.1 h1
      rw [Bool.and_eq_true, beq_iff_eq] at h3
      have := h x o ho hx e he h3.1
      rwa [h3.2] at this

theorem false_of {listed : Array Bool} {i : Nat} (h : listed.getD i true = false) : listed.getD i false = false := by
  rcases Nat.lt_or_ge i listed.size with h' | h'
  · simp [h'] at h ⊢; exact h
  · simp [Array.getElem?_eq_none h'] at h

theorem wpAnyB_first {i : Nat} {oi : Oper} {v : Value} (hi : ops[i]? = some oi) (hsel : ∀ (j : Nat) (o : Oper) cs b, ops[j]? = some o → o.op ≠ .select cs b)
    (hQ : ∀ c a w, Q (.panic c) (a.put oi.dst v) w → Q (.panic c) a w) (hib : i ≠ β) (p : List Nat) (hp : pathB md ops (β :: p) = true) (hl : lastOf β p = i) :
    ∀ (fuel : Nat) (listed : Array Bool) (a : Act) (w : World), Closed md ops listed →
      (∀ j oj, ops[j]? = some oj → j ≠ i → listed.getD j true = false → (∀ e ∈ oj.after, Region.binds md e = true → e.on ≠ i) → oi.apart ops oj = true) →
      i ∈ Region.ready md ops listed → YieldsIf P ops S oi v a → S w →
      wpAnyB P md ops Q S β fuel (listed.setIfInBounds i true) (a.put oi.dst v) w → wpAnyB P md ops Q S β (fuel + 1) listed a w := by
  have hbar : ∀ l : Array Bool, Closed md ops l → l.getD i false = false → l.getD β false = false := fun l hc hf => by
    by_cases hb : l.getD β false = true
    · have := closed_path hc p β hp hb
      rw [hl, hf] at this; cases this
    · simpa using hb
  intro fuel
  induction fuel with
  | zero =>
    intro listed a w _ _ hr hy hS H
    refine ⟨fun h => (by rw [h] at hr; cases hr), fun j hj => ?_⟩
    by_cases hji : j = i
    · subst hji; exact hy.wpOp hi hS ⟨fun _ => hS, H⟩
    · have := ready_mono hj hji
      rw [H.1] at this
      cases this
  | succ fuel ih =>
    intro listed a w hcl hfree hr hy hS H
    refine ⟨fun h => (by rw [h] at hr; cases hr), fun j hj => ?_⟩
    by_cases hji : j = i
    · subst hji; exact hy.wpOp hi hS ⟨fun _ => hS, H⟩
    · have h1 := H.2 j (ready_mono hj hji)
      obtain ⟨hjun, oj, hoj, hall⟩ := mem_ready.1 hj
      have hnot : ∀ e ∈ oj.after, Region.binds md e = true → e.on ≠ i := fun e he hb heq => by
        have h1 := hall e he hb
        have h0 := (mem_ready.1 hr).1
        rw [heq] at h1
        rw [false_of h0] at h1; cases h1
      have h2 := wpOp_putIf hoj (hfree j oj hoj hji hjun hnot) (fun cs b => hsel i oi cs b hi) (fun cs b => hsel j oj cs b hoj) hQ hy h1
      have hfree' : ∀ k ok, ops[k]? = some ok → k ≠ i → (listed.setIfInBounds j true).getD k true = false →
          (∀ e ∈ ok.after, Region.binds md e = true → e.on ≠ i) → oi.apart ops ok = true := fun k ok hk hki hun hno => by
        refine hfree k ok hk hki ?_ hno
        by_cases hjk : j = k
        · subst hjk; exact hjun
        · rw [getD_set_ne true hjk] at hun; exact hun
      have hcl' := hcl.set hj
      have hin : (listed.setIfInBounds j true).getD i false = false := by
        rw [getD_set_ne false hji]; exact false_of (mem_ready.1 hr).1
      have hbn := hbar _ hcl' hin
      have hbn2 : ((listed.setIfInBounds i true).setIfInBounds j true).getD β false = false := by
        rw [Array.setIfInBounds_comm _ _ (Ne.symm hji), getD_set_ne false hib]; exact hbn
      refine wpOp_mono (fun a' w' h3 => ?_) h2
      have hS' := h3.2.1 hbn2
      refine ⟨fun _ => hS', ih (listed.setIfInBounds j true) a' w' hcl' hfree' (ready_mono hr (Ne.symm hji)) h3.1 hS' ?_⟩
      rw [Array.setIfInBounds_comm _ _ hji]
      exact h3.2.2

def closedB (md : Region.Mode) (ops : Array Oper) (listed : Array Bool) : Bool := (List.range ops.size).all fun j => !listed.getD j false || (match ops[j]? with | some o => o.after.all fun e => !Region.binds md e || listed.getD e.on false | none => true)
theorem closedB_of {listed : Array Bool} (h : Closed md ops listed) : closedB md ops listed = true := by
  refine List.all_eq_true.2 fun j hj => ?_
  have hlt : j < ops.size := List.mem_range.1 hj
  rw [Array.getElem?_eq_getElem hlt, Bool.or_eq_true]
  cases hl : listed.getD j false with
  | false => exact .inl rfl
  | true =>
    refine .inr (Array.all_eq_true'.2 fun e he => ?_)
    rw [Bool.or_eq_true]
    cases hb : Region.binds md e with
    | false => exact .inl rfl
    | true => exact .inr (h j ops[j] (Array.getElem?_eq_getElem hlt) hl e he hb)
theorem closedB_spec {listed : Array Bool} (h : closedB md ops listed = true) : Closed md ops listed := by
  intro j oj hj hl e he hb
  have h1 := List.all_eq_true.1 h j (List.mem_range.2 (Array.getElem?_eq_some_iff.1 hj).1)
  rw [hj, hl] at h1
  simp only [Bool.not_true, Bool.false_or] at h1
  have h2 := Array.all_eq_true'.1 h1 e he
  rw [hb] at h2
  simpa using h2

/-- Take number 'i' first: it may come up, the barrier waits for it (by the row 'p'), and it yields 'v' in every world that meets S. -/
theorem wpAnyB_take {i : Nat} (p : List Nat) {oi : Oper} {v : Value} {fuel : Nat} {listed : Array Bool} {a : Act} {w : World} (hi : ops[i]? = some oi)
    (hB : (Region.noSelect ops && closedB md ops listed && Region.free md ops listed i && (Region.ready md ops listed).contains i && pathB md ops (β :: p) && decide (lastOf β p = i) && decide (i ≠ β)) = true)
    (hQ : ∀ c a w, Q (.panic c) (a.put oi.dst v) w → Q (.panic c) a w) (hy : YieldsIf P ops S oi v a) (hS : S w)
    (h : wpAnyB P md ops Q S β fuel (listed.setIfInBounds i true) (a.put oi.dst v) w) : wpAnyB P md ops Q S β (fuel + 1) listed a w := by
  simp only [Bool.and_eq_true, decide_eq_true_eq] at hB
  obtain ⟨⟨⟨⟨⟨⟨h1, h2⟩, h3⟩, h4⟩, h5⟩, h6⟩, h7⟩ := hB
  exact wpAnyB_first hi (Region.noSelect_spec h1) hQ h7 p h5 h6 fuel listed a w (closedB_spec h2) (Region.free_spec hi h3) (by simpa using h4) hy hS h

theorem wpAnyB_first0 {i : Nat} {oi : Oper} {v : Value} (hi : ops[i]? = some oi) (hsel : ∀ (j : Nat) (o : Oper) cs b, ops[j]? = some o → o.op ≠ .select cs b)
    (hQ : ∀ c a w, Q (.panic c) (a.put oi.dst v) w → Q (.panic c) a w) (hib : i ≠ β) :
    ∀ (fuel : Nat) (listed : Array Bool) (a : Act) (w : World),
      (∀ j oj, ops[j]? = some oj → j ≠ i → listed.getD j true = false → (∀ e ∈ oj.after, Region.binds md e = true → e.on ≠ i) → oi.apart ops oj = true) →
      i ∈ Region.ready md ops listed → YieldsIf P ops (fun _ => True) oi v a → (listed.getD β false = false → S w) →
      wpAnyB P md ops Q S β fuel (listed.setIfInBounds i true) (a.put oi.dst v) w → wpAnyB P md ops Q S β (fuel + 1) listed a w := by
  intro fuel
  induction fuel with
  | zero =>
    intro listed a w _ hr hy hS H
    refine ⟨fun h => (by rw [h] at hr; cases hr), fun j hj => ?_⟩
    by_cases hji : j = i
    · subst hji; exact hy.wpOp hi trivial ⟨fun e => hS (by rwa [getD_set_ne false hib] at e), H⟩
    · have := ready_mono hj hji
      rw [H.1] at this
      cases this
  | succ fuel ih =>
    intro listed a w hfree hr hy hS H
    refine ⟨fun h => (by rw [h] at hr; cases hr), fun j hj => ?_⟩
    by_cases hji : j = i
    · subst hji; exact hy.wpOp hi trivial ⟨fun e => hS (by rwa [getD_set_ne false hib] at e), H⟩
    · have h1 := H.2 j (ready_mono hj hji)
      obtain ⟨hjun, oj, hoj, hall⟩ := mem_ready.1 hj
      have hnot : ∀ e ∈ oj.after, Region.binds md e = true → e.on ≠ i := fun e he hb heq => by
        have h1 := hall e he hb
        have h0 := (mem_ready.1 hr).1
        rw [heq] at h1
        rw [false_of h0] at h1; cases h1
      have h2 := wpOp_putIf hoj (hfree j oj hoj hji hjun hnot) (fun cs b => hsel i oi cs b hi) (fun cs b => hsel j oj cs b hoj) hQ hy h1
      have hfree' : ∀ k ok, ops[k]? = some ok → k ≠ i → (listed.setIfInBounds j true).getD k true = false →
          (∀ e ∈ ok.after, Region.binds md e = true → e.on ≠ i) → oi.apart ops ok = true := fun k ok hk hki hun hno => by
        refine hfree k ok hk hki ?_ hno
        by_cases hjk : j = k
        · subst hjk; exact hjun
        · rw [getD_set_ne true hjk] at hun; exact hun
      refine wpOp_mono (fun a' w' h3 => ?_) h2
      have hS' : (listed.setIfInBounds j true).getD β false = false → S w' := fun e => h3.2.1 (by rw [Array.setIfInBounds_comm _ _ (Ne.symm hji), getD_set_ne false hib]; exact e)
      refine ⟨hS', ih (listed.setIfInBounds j true) a' w' hfree' (ready_mono hr (Ne.symm hji)) h3.1 hS' ?_⟩
      rw [Array.setIfInBounds_comm _ _ hji]
      exact h3.2.2
/-- Take number 'i' first: it may come up, and yields 'v' in whatever world. -/
theorem wpAnyB_take0 {i : Nat} {oi : Oper} {v : Value} {fuel : Nat} {listed : Array Bool} {a : Act} {w : World} (hi : ops[i]? = some oi)
    (hB : (Region.noSelect ops && Region.free md ops listed i && (Region.ready md ops listed).contains i && decide (i ≠ β)) = true)
    (hQ : ∀ c a w, Q (.panic c) (a.put oi.dst v) w → Q (.panic c) a w) (hy : YieldsIf P ops (fun _ => True) oi v a) (hS : S w)
    (h : wpAnyB P md ops Q S β fuel (listed.setIfInBounds i true) (a.put oi.dst v) w) : wpAnyB P md ops Q S β (fuel + 1) listed a w := by
  simp only [Bool.and_eq_true, decide_eq_true_eq] at hB
  obtain ⟨⟨⟨h1, h3⟩, h4⟩, h7⟩ := hB
  exact wpAnyB_first0 hi (Region.noSelect_spec h1) hQ h7 fuel listed a w (Region.free_spec hi h3) (by simpa using h4) hy (fun _ => hS) h

/-- Each of the operations 'rs' comes up next. -/
def AllReadyB (P : Program) (md : Region.Mode) (ops : Array Oper) (Q : Exit → Act → World → Prop) (S : World → Prop) (β : Nat) (fuel : Nat) (listed : Array Bool) (a : Act) (w : World) (rs : List Nat) : Prop :=
  ∀ i ∈ rs, wpOp P ops Q i (fun a' w' => ((listed.setIfInBounds i true).getD β false = false → S w') ∧ wpAnyB P md ops Q S β fuel (listed.setIfInBounds i true) a' w') a w
theorem AllReadyB.nil {fuel : Nat} {listed : Array Bool} {a : Act} {w : World} : AllReadyB P md ops Q S β fuel listed a w [] := fun _ h => by cases h
theorem AllReadyB.cons {fuel : Nat} {listed : Array Bool} {a : Act} {w : World} {i : Nat} {o : Oper} {rs : List Nat} (ho : ops[i]? = some o)
    (h : ∀ K' : Act → World → Prop, Shut (∀ a w, ((listed.setIfInBounds i true).getD β false = false → S w) → wpAnyB P md ops Q S β fuel (listed.setIfInBounds i true) a w → K' a w) → if Region.wanted o (yielded ops a.tmps) = true then Oper.wp P o a w K' Q else K' (a.put o.dst undef) w)
    (hs : AllReadyB P md ops Q S β fuel listed a w rs) : AllReadyB P md ops Q S β fuel listed a w (i :: rs) := fun j hj => by
  rcases List.mem_cons.1 hj with rfl | hj
  · exact wpOp_step ho (fun K' hK => h K' (fun a w hS hW => hK a w ⟨hS, hW⟩))
  · exact hs j hj
theorem wpAnyB_ready {rs : List Nat} {fuel : Nat} {listed : Array Bool} {a : Act} {w : World} (hr : Region.ready md ops listed = rs) (hne : rs ≠ [])
    (h : AllReadyB P md ops Q S β fuel listed a w rs) : wpAnyB P md ops Q S β (fuel + 1) listed a w :=
  ⟨fun h0 => absurd (hr ▸ h0) hne, hr ▸ h⟩
theorem wpAnyB_done {fuel : Nat} {listed : Array Bool} {a : Act} {w : World} (hr : Region.ready md ops listed = []) (h : Q .normal a w) : wpAnyB P md ops Q S β fuel listed a w := by
  cases fuel with
  | zero => exact ⟨hr, h⟩
  | succ f => exact ⟨fun _ => h, fun i hi => by rw [hr] at hi; cases hi⟩
/-- The beginning. -/
theorem wp_region_bar {id : Nat} {a : Act} {w : World} (β : Nat) (hm : P.follows .mixedOrders = true) (hS : S w.drew)
    (h : S w.drew → wpAnyB P .any ops Q S β ops.size (Array.replicate ops.size false) a w.drew) : (Code.region id ops true).wp P Q a w :=
  wp_region_any hm (wpAny_of_B _ _ _ _ (h hS))
/-- The barrier has come up, or nothing leans on S any more. -/
theorem wpAnyB_free {fuel : Nat} {listed : Array Bool} {a : Act} {w : World} (hb : listed.getD β false = true) (h : wpAnyH P md ops Q (fun _ => True) fuel listed a w) : wpAnyB P md ops Q S β fuel listed a w := by
  have key : ∀ (fuel : Nat) (listed : Array Bool) (a : Act) (w : World), listed.getD β false = true → wpAnyH P md ops Q (fun _ => True) fuel listed a w → wpAnyB P md ops Q S β fuel listed a w := by
    intro fuel
    induction fuel with
    | zero => intro listed a w _ h; exact h
    | succ f ih =>
      intro listed a w hb h
      refine ⟨h.1, fun i hi => wpOp_mono (fun a' w' h' => ⟨fun e => ?_, ih _ _ _ (getD_set_true hb) h'.2⟩) (h.2 i hi)⟩
      rw [getD_set_true hb] at e; cases e
  exact key fuel listed a w hb h

/-- Slots ts written with what V tells. -/
def putAll (a : Act) : List Nat → (Nat → Value) → Act
  | [], _ => a
  | t :: ts, V => (putAll a ts V).put (some t) (V t)
theorem putAll_up (a : Act) : ∀ (ts : List Nat) (V : Nat → Value) (t : Nat) (v : Value), t ∉ ts → putAll a ts (up V t v) = putAll a ts V
  | [], _, _, _, _ => rfl
  | s :: ts, V, t, v, h => by
    unfold putAll
    have hs : s ≠ t := fun e => h (by rw [e]; exact List.mem_cons_self)
    rw [putAll_up a ts V t v (fun hm => h (List.mem_cons_of_mem _ hm)), up_other _ _ _ _ hs]
theorem put_put (a : Act) (t : Nat) (v u : Value) : (a.put (some t) v).put (some t) u = a.put (some t) u := by
  simp [Act.put]
theorem putAll_put (a : Act) : ∀ (ts : List Nat) (V : Nat → Value) (t : Nat) (v : Value), t ∈ ts → ts.Nodup → (putAll a ts V).put (some t) v = putAll a ts (up V t v)
  | s :: ts, V, t, v, h, hn => by
    rw [List.nodup_cons] at hn
    unfold putAll
    by_cases e : t = s
    · subst e
      rw [put_put, putAll_up a ts V t v hn.1, up_same]
    · rw [Act.put_comm _ _ _ (fun d hd => by cases hd; intro e'; cases e'; exact e rfl), putAll_put a ts V t v ((List.mem_cons.1 h).resolve_left e) hn.2, up_other _ _ _ _ (fun e' => e e'.symm)]
theorem put_self (a : Act) (t : Nat) : a.put (some t) (a.tmps.getD t undef) = a := by
  unfold Act.put
  have : a.tmps.setIfInBounds t (a.tmps.getD t undef) = a.tmps := by
    refine Array.ext (by simp) fun i h1 h2 => ?_
    simp only [Array.size_setIfInBounds] at h1
    rw [Array.getElem_setIfInBounds]
    split
    · rename_i e; subst e; simp [h1]
    · rfl
  dsimp only
  rw [this]
theorem putAll_self (a : Act) : ∀ ts, putAll a ts (fun t => a.tmps.getD t undef) = a
  | [] => rfl
  | t :: ts => by unfold putAll; rw [putAll_self a ts]; exact put_self a t

theorem putAll_eval (a : Act) (V : Nat → Value) (t : Nat) : ∀ ts, t ∉ ts → (putAll a ts V).eval (.tmp t) = a.eval (.tmp t)
  | [], _ => rfl
  | s :: ts, h => by
    have ih := putAll_eval a V t ts (fun hm => h (List.mem_cons_of_mem _ hm))
    have hs : s ≠ t := fun e => h (by rw [e]; exact List.mem_cons_self)
    unfold putAll
    rw [← ih]
    simp [Act.eval, Act.put, Array.getElem?_setIfInBounds_ne hs]

/-- All choices out of a list. -/
def subsOf : List Nat → List (List Nat)
  | [] => [[]]
  | x :: l => subsOf l ++ (subsOf l).map (x :: ·)
theorem filter_subs (p : Nat → Bool) : ∀ l, l.filter p ∈ subsOf l
  | [] => List.mem_singleton.2 rfl
  | x :: l => by
    unfold subsOf
    rw [List.mem_append]
    by_cases h : p x = true
    · rw [List.filter_cons_of_pos h]
      exact .inr (List.mem_map.2 ⟨_, filter_subs p l, rfl⟩)
    · rw [List.filter_cons_of_neg h]
      exact .inl (filter_subs p l)
def clearOf (l : Array Bool) (u : List Nat) : Array Bool := Array.ofFn (n := l.size) fun i => l.getD i false && !u.contains i.val
/-- While one of R has not come up, only ones of R may come up. -/
def phaseB (md : Region.Mode) (ops : Array Oper) (R : List Nat) (dst : Nat → Nat) (lE : Array Bool) : Bool :=
  decide (lE.size = ops.size) && decide R.Nodup && decide (R.map dst).Nodup && (R.all fun r => lE.getD r false && (match ops[r]? with | some o => o.guard.isNone && o.dst == some (dst r) | none => false)) &&
  closedB md ops (clearOf lE R) && (subsOf R).all fun u => u.isEmpty || !closedB md ops (clearOf lE u) || (!(Region.ready md ops (clearOf lE u)).isEmpty && (Region.ready md ops (clearOf lE u)).all fun i => R.contains i)

theorem countP_one {p q : Nat → Bool} {i : Nat} (hp : p i = true) (hq : q i = false) (he : ∀ j, j ≠ i → q j = p j) : ∀ (R : List Nat), R.Nodup → i ∈ R → R.countP p = R.countP q + 1
  | x :: l, hn, hm => by
    rw [List.nodup_cons] at hn
    rcases List.mem_cons.1 hm with rfl | hm
    · rw [List.countP_cons_of_pos hp, List.countP_cons_of_neg (by rw [hq]; decide)]
      congr 1
      refine List.countP_congr fun j hj => ?_
      rw [he j (fun e => hn.1 (e ▸ hj))]
    · have hx : x ≠ i := fun e => hn.1 (e ▸ hm)
      have ih := countP_one hp hq he l hn.2 hm
      by_cases h : p x = true
      · rw [List.countP_cons_of_pos h, List.countP_cons_of_pos (by rw [he x hx]; exact h), ih]
      · rw [List.countP_cons_of_neg h, List.countP_cons_of_neg (by rw [he x hx]; exact h), ih]

theorem wpAnyB_phase {a0 : Act} {l0 : Array Bool} {w0 : World} {fuel0 : Nat} (R : List Nat) (dst : Nat → Nat) (lE : Array Bool) (fuelE : Nat) (J : Array Bool → (Nat → Value) → World → Prop)
    (hB : phaseB md ops R dst lE = true) (hl0 : l0 = clearOf lE R) (hf : fuel0 = fuelE + R.length)
    (hJ : J l0 (fun t => a0.tmps.getD t undef) w0) (hS : ∀ l V w, J l V w → S w)
    (hstep : ∀ l V w i o, l.size = ops.size → Closed md ops l → i ∈ R → ops[i]? = some o → i ∈ Region.ready md ops l → J l V w →
      ∀ K : Act → World → Prop, (∀ v w', J (l.setIfInBounds i true) (up V (dst i) v) w' → K ((putAll a0 (R.map dst) V).put o.dst v) w') → OpGoal P o (putAll a0 (R.map dst) V) w K Q)
    (hexit : ∀ V w, J lE V w → wpAnyB P md ops Q S β fuelE lE (putAll a0 (R.map dst) V) w) : wpAnyB P md ops Q S β fuel0 l0 a0 w0 := by
  simp only [phaseB, Bool.and_eq_true, decide_eq_true_eq] at hB
  obtain ⟨⟨⟨⟨⟨hsz, hnd⟩, hndD⟩, hR⟩, hcl0⟩, hsub⟩ := hB
  have hRl : ∀ r ∈ R, lE.getD r false = true := fun r hr => by
    have := List.all_eq_true.1 hR r hr
    rw [Bool.and_eq_true] at this; exact this.1
  have hRo : ∀ r ∈ R, ∃ o, ops[r]? = some o ∧ o.guard = none ∧ o.dst = some (dst r) := fun r hr => by
    have := List.all_eq_true.1 hR r hr
    rw [Bool.and_eq_true] at this
    cases ho : ops[r]? with
    | none => rw [ho] at this; cases this.2
    | some o =>
      rw [ho] at this
      have h2 := this.2
      dsimp only at h2
      rw [Bool.and_eq_true, beq_iff_eq, Option.isNone_iff_eq_none] at h2
      exact ⟨o, rfl, h2.1, h2.2⟩
  -- a list of what came up that agrees with lE outside R
  have hsame : ∀ l : Array Bool, l.size = ops.size → (∀ j, j ∉ R → l.getD j false = lE.getD j false) → l = clearOf lE (R.filter fun r => !l.getD r true) := by
    intro l hls hag
    refine Array.ext (by simp [clearOf, hls, hsz]) fun j h1 h2 => ?_
    have hjE : j < lE.size := by omega
    have e1 : l.getD j false = l[j] := by simp [h1]
    have e2 : l.getD j true = l[j] := by simp [h1]
    simp only [clearOf, Array.getElem_ofFn]
    by_cases hjR : j ∈ R
    · rw [hRl j hjR, Bool.true_and]
      cases hlj : l[j] with
      | true =>
        have : (R.filter fun r => !l.getD r true).contains j = false := by
          rw [List.contains_eq_mem]
          refine decide_eq_false fun hm => ?_
          have := (List.mem_filter.1 hm).2
          rw [e2, hlj] at this; cases this
        rw [this]; rfl
      | false =>
        have : (R.filter fun r => !l.getD r true).contains j = true := by
          rw [List.contains_eq_mem]
          exact decide_eq_true (List.mem_filter.2 ⟨hjR, by rw [e2, hlj]; rfl⟩)
        rw [this]; rfl
    · have : (R.filter fun r => !l.getD r true).contains j = false := by
        rw [List.contains_eq_mem]
        exact decide_eq_false fun hm => hjR (List.mem_filter.1 hm).1
      rw [this, ← e1, hag j hjR]; simp
  have key : ∀ (m : Nat) (l : Array Bool) (V : Nat → Value) (w : World), l.size = ops.size → Closed md ops l → (∀ j, j ∉ R → l.getD j false = lE.getD j false) → R.countP (fun r => !l.getD r true) = m → J l V w →
      wpAnyB P md ops Q S β (fuelE + m) l (putAll a0 (R.map dst) V) w := by
    intro m
    induction m with
    | zero =>
      intro l V w hls hcl hag hc hj
      have hall : R.filter (fun r => !l.getD r true) = [] := by
        rw [List.filter_eq_nil_iff]
        exact fun r hr h => by have := List.countP_eq_zero.1 hc r hr; exact this h
      have := hsame l hls hag
      rw [hall] at this
      have he : clearOf lE [] = lE := by
        refine Array.ext (by simp [clearOf]) fun j h1 h2 => ?_
        simp only [clearOf, Array.getElem_ofFn]
        simp [h2]
      rw [he] at this
      subst this
      exact hexit V w hj
    | succ m ih =>
      intro l V w hls hcl hag hc hj
      have hne : (R.filter fun r => !l.getD r true) ≠ [] := fun e => by
        have : R.countP (fun r => !l.getD r true) = 0 := by rw [List.countP_eq_length_filter, e]; rfl
        omega
      have h1 := List.all_eq_true.1 hsub _ (filter_subs (fun r => !l.getD r true) R)
      rw [← hsame l hls hag, closedB_of hcl, Bool.not_true, Bool.or_false, Bool.or_eq_true, Bool.and_eq_true] at h1
      obtain ⟨h2, h3⟩ := h1.resolve_left (fun e => hne (List.isEmpty_iff.1 e))
      refine ⟨fun h0 => (by rw [h0] at h2; cases h2), fun i hi => ?_⟩
      have hiR : i ∈ R := by
        have := List.all_eq_true.1 h3 i hi
        rw [List.contains_eq_mem] at this; exact of_decide_eq_true this
      obtain ⟨o, ho, hg, hd⟩ := hRo i hiR
      refine wpOp_at ho (wanted_plain hg) (hstep l V w i o hls hcl hiR ho hi hj _ fun v w' hj' => ⟨fun _ => hS _ _ _ hj', ?_⟩).out
      rw [hd, putAll_put a0 _ V (dst i) v (List.mem_map.2 ⟨i, hiR, rfl⟩) hndD]
      refine ih _ _ _ (by rw [Array.size_setIfInBounds]; exact hls) (hcl.set hi) (fun j hjR => ?_) ?_ hj'
      · have hij : i ≠ j := fun e => hjR (e ▸ hiR)
        rw [getD_set_ne false hij]; exact hag j hjR
      · have hil : i < l.size := by rw [hls]; exact ready_lt hi
        have := countP_one (p := fun r => !l.getD r true) (q := fun r => !(l.setIfInBounds i true).getD r true) (i := i) (by rw [ready_new hi]; rfl) (by simp [hil]) (fun j hj => by rw [getD_set_ne true (Ne.symm hj)]) R hnd hiR
        omega
  have hl0' : ∀ j, j ∉ R → l0.getD j false = lE.getD j false := fun j hj => by
    subst hl0
    rcases Nat.lt_or_ge j lE.size with h | h
    · have hc : R.contains j = false := by rw [List.contains_eq_mem]; exact decide_eq_false hj
      simp [clearOf, h, hc]
      intro _
      simpa using hj
    · simp [clearOf, h]
  have hl0s : l0.size = ops.size := by subst hl0; simp [clearOf, hsz]
  have hc0 : R.countP (fun r => !l0.getD r true) = R.length := by
    rw [List.countP_eq_length]
    intro r hr
    subst hl0
    have hlt : r < lE.size := by
      obtain ⟨o, ho, _⟩ := hRo r hr
      rw [hsz]; exact (Array.getElem?_eq_some_iff.1 ho).1
    have hc : R.contains r = true := by rw [List.contains_eq_mem]; exact decide_eq_true hr
    simp [clearOf, hlt, hr]
  rw [hf]
  have := key R.length l0 (fun t => a0.tmps.getD t undef) w0 hl0s (by rw [hl0]; exact closedB_spec hcl0) hl0' hc0 hJ
  rwa [putAll_self] at this
end
end Go.Own
