/- Two appends of one element each in one statement that draws its order ('a, b = append(a, x), append(b, x)'): what holds whatever came up. -/
import Derived.Test.YtnkfmhhfeaohbaaBar
import Derived.Test.YtnkfmhhfeaohbaaRec
namespace Go.Own
open Go.RowKit

theorem op_append {P : Program} {w : World} {o : Oper} {a : Act} {K : Act → World → Prop} {Q : Exit → Act → World → Prop} (s x : Operand) (t : TypeId)
    (ho : o.op = .call { callee := .builtin .append, args := #[s, x], argTypes := #[t, t] })
    (e : TypeId) (i : TypeInfo) (z : Value) (bytes : Nat) (ht : P.underlying t = some (.slice e)) (hi : P.info? e = some i) (hz : i.zero = some z)
    (hsize : i.size = 1) (hby : i.bytes = bytes) (hzs : z.cells.size = 1) (hpos : 1 ≤ bytes)
    (v : Value) (n : Nat) (xs : List Value) (hs : a.eval s = v) (hown : Sl w e v n xs)
    (ad : Addr) (u : Value) (hu : u.oneCell' = true) (hx : a.eval x = .slice (some ad) 1 1) (hc : w.cell? ad = some u) (hbytes : (n + 1) * bytes ≤ 140737488355328)
    (h : ∀ v' w', Sl w' e v' (n + 1) (xs ++ [u]) → Kept (fun k => v.ownBlock = some k) w w' → Moved w v v' → K (a.put o.dst v') w') : OpGoal P o a w K Q := by
  constructor
  obtain ⟨v', w', hr, h2, h3, h4⟩ := run_append_strong (P := P) w t o.type e i z bytes ht hi hz hsize hby hzs hpos v n xs hown ad 1 1 [u] rfl (by
    intro j u' hj
    match j, hj with
    | 0, hj =>
      simp at hj; subst hj
      have : ad.add 0 = ad := by simp [Addr.add]
      rw [this]; exact hc
    | j + 1, hj => simp at hj) (by intro u' hu'; simp at hu'; subst hu'; exact hu) hbytes
  unfold Oper.wp execOp
  simp only [ho, resolve, invoke, builtin, Sem.run_bind, Sem.run_pure, Result.andThen_ok, List.map_toArray, List.map_cons, List.map_nil, hs, hx, hr]
  exact h v' w' h2 h3 h4

/-- A literal of one element that the statement has laid. -/
def LitOf (w2 w : World) (v u : Value) : Prop := ∃ q, v = .slice (some ⟨q, 0, none⟩) 1 1 ∧ w.cell? ⟨q, 0, none⟩ = some u ∧ w2.heap.size ≤ q
theorem LitOf.kept {w2 w w' : World} {v u : Value} {S : Nat → Prop} (h : LitOf w2 w v u) (hk : Kept S w w') (hS : ∀ b, S b → b < w2.heap.size) : LitOf w2 w' v u := by
  obtain ⟨q, h1, h2, h3⟩ := h
  exact ⟨q, h1, hk.cellSome h2 (fun hs => by have := hS q hs; omega), h3⟩

/-- a, b, c, d: the numbers of 'lay, append, lay, append'; the second append comes behind the first. -/
structure PairJ (a b c d : Nat) (da db dc dd : Nat) (e : TypeId) (w2 : World) (vs vw : Value) (xs ys : List Value) (u : Value) (l : Array Bool) (V : Nat → Value) (w : World) : Prop where
  kept : Kept (fun k => vs.ownBlock = some k ∨ vw.ownBlock = some k) w2 w
  lit1 : l.getD a false = true → l.getD b false = false → LitOf w2 w (V da) u
  lit2 : l.getD c false = true → l.getD d false = false → LitOf w2 w (V dc) u
  old1 : l.getD b false = false → Sl w e vs xs.length xs
  old2 : l.getD d false = false → Sl w e vw ys.length ys
  new1 : l.getD b false = true → Sl w e (V db) (xs.length + 1) (xs ++ [u]) ∧ Moved w2 vs (V db)
  new2 : l.getD d false = true → Sl w e (V dd) (ys.length + 1) (ys ++ [u]) ∧ Moved w2 vw (V dd) ∧ ∀ k, (V db).ownBlock = some k → (V dd).ownBlock ≠ some k

section
variable {a b c d da db dc dd : Nat} {e : TypeId} {w2 w w' : World} {vs vw : Value} {xs ys : List Value} {u : Value} {l : Array Bool} {V : Nat → Value}

theorem getD_up {l : Array Bool} {i j : Nat} (h : i ≠ j) (dv : Bool) : (l.setIfInBounds i true).getD j dv = l.getD j dv := getD_set_ne dv h
theorem getD_in {l : Array Bool} {i : Nat} (h : i < l.size) (dv : Bool) : (l.setIfInBounds i true).getD i dv = true := by simp [h]

theorem PairJ.start (hk : Kept (fun k => vs.ownBlock = some k ∨ vw.ownBlock = some k) w2 w) (h1 : Sl w e vs xs.length xs) (h2 : Sl w e vw ys.length ys)
    (ha : l.getD a false = false) (hb : l.getD b false = false) (hc : l.getD c false = false) (hd : l.getD d false = false) : PairJ a b c d da db dc dd e w2 vs vw xs ys u l V w :=
  ⟨hk, fun h => (by rw [ha] at h; cases h), fun h => (by rw [hc] at h; cases h), fun _ => h1, fun _ => h2, fun h => (by rw [hb] at h; cases h), fun h => (by rw [hd] at h; cases h)⟩
theorem PairJ.laid {i di : Nat} (h : PairJ a b c d da db dc dd e w2 vs vw xs ys u l V w) (hs : ∀ k, vs.ownBlock = some k → k < w2.heap.size) (hw : ∀ k, vw.ownBlock = some k → k < w2.heap.size)
    (hi : i = a ∧ di = da ∨ i = c ∧ di = dc) (hd1 : b ≠ i) (hd2 : d ≠ i) (hac : a ≠ c) (e1 : db ≠ di) (e2 : dd ≠ di) (e3 : da ≠ dc) :
    PairJ a b c d da db dc dd e w2 vs vw xs ys u (l.setIfInBounds i true) (up V di (.slice (some ⟨w.heap.size, 0, none⟩) 1 1)) (w.alloc (.cells #[u] e)) := by
  have hk : Kept (fun _ => False) w (w.alloc (.cells #[u] e)) := (Kept.refl _ w).alloc _
  have hnew : LitOf w2 (w.alloc (.cells #[u] e)) (.slice (some ⟨w.heap.size, 0, none⟩) 1 1) u := ⟨w.heap.size, rfl, World.cell?_alloc_at (w := w) #[u] e w.heap.size 0 rfl, h.kept.size⟩
  refine ⟨h.kept.alloc _, fun h1 h2 => ?_, fun h1 h2 => ?_, fun h1 => ?_, fun h1 => ?_, fun h1 => ?_, fun h1 => ?_⟩
  · rw [getD_up (Ne.symm hd1)] at h2
    by_cases e : i = a
    · have : di = da := hi.elim (fun x => x.2) (fun x => absurd (e.symm.trans x.1) hac)
      subst this; rw [up_same]; exact hnew
    · rw [getD_up e] at h1
      have : di ≠ da := hi.elim (fun x => absurd x.1 e) (fun x => by rw [x.2]; exact Ne.symm e3)
      rw [up_other _ _ _ _ (Ne.symm this)]
      exact (h.lit1 h1 h2).kept hk (fun _ h => h.elim)
  · rw [getD_up (Ne.symm hd2)] at h2
    by_cases e : i = c
    · have : di = dc := hi.elim (fun x => absurd (x.1.symm.trans e) hac) (fun x => x.2)
      subst this; rw [up_same]; exact hnew
    · rw [getD_up e] at h1
      have : di ≠ dc := hi.elim (fun x => by rw [x.2]; exact e3) (fun x => absurd x.1 e)
      rw [up_other _ _ _ _ (Ne.symm this)]
      exact (h.lit2 h1 h2).kept hk (fun _ h => h.elim)
  · rw [getD_up (Ne.symm hd1)] at h1
    exact Sl.kept (h.old1 h1) hk (fun _ _ h => h)
  · rw [getD_up (Ne.symm hd2)] at h1
    exact Sl.kept (h.old2 h1) hk (fun _ _ h => h)
  · rw [getD_up (Ne.symm hd1)] at h1
    rw [up_other _ _ _ _ e1]
    exact ⟨Sl.kept (h.new1 h1).1 hk (fun _ _ h => h), (h.new1 h1).2⟩
  · rw [getD_up (Ne.symm hd2)] at h1
    rw [up_other _ _ _ _ e1, up_other _ _ _ _ e2]
    exact ⟨Sl.kept (h.new2 h1).1 hk (fun _ _ h => h), (h.new2 h1).2⟩

theorem PairJ.first (h : PairJ a b c d da db dc dd e w2 vs vw xs ys u l V w) (hs : ∀ k, vs.ownBlock = some k → k < w2.heap.size) (hap : ∀ k, vs.ownBlock = some k → vw.ownBlock ≠ some k)
    (hl : b < l.size) (hdl : l.getD d false = false) (n1 : b ≠ a) (n2 : b ≠ c) (n3 : b ≠ d) (e1 : da ≠ db) (e2 : dc ≠ db) {v' : Value}
    (k1 : Sl w' e v' (xs.length + 1) (xs ++ [u])) (k2 : Kept (fun k => vs.ownBlock = some k) w w') (k3 : Moved w vs v') :
    PairJ a b c d da db dc dd e w2 vs vw xs ys u (l.setIfInBounds b true) (up V db v') w' := by
  refine ⟨h.kept.then (T := fun k => vs.ownBlock = some k) k2 (fun _ _ h => .inl h), fun h1 h2 => ?_, fun h1 h2 => ?_, fun h1 => ?_, fun h1 => ?_, fun h1 => ?_, fun h1 => ?_⟩
  · rw [getD_in hl] at h2; cases h2
  · rw [getD_up n2] at h1
    rw [getD_up n3] at h2
    rw [up_other _ _ _ _ e2]
    exact (h.lit2 h1 h2).kept k2 hs
  · rw [getD_in hl] at h1; cases h1
  · rw [getD_up n3] at h1
    exact Sl.kept (h.old2 h1) k2 (fun k hk hk' => hap k hk' hk)
  · rw [up_same]
    refine ⟨k1, k3.imp id fun ⟨k, h2, h3⟩ => ⟨k, h2, Nat.le_trans h.kept.size h3⟩⟩
  · rw [getD_up n3, hdl] at h1; cases h1

theorem PairJ.second (h : PairJ a b c d da db dc dd e w2 vs vw xs ys u l V w) (hw : ∀ k, vw.ownBlock = some k → k < w2.heap.size) (hap : ∀ k, vs.ownBlock = some k → vw.ownBlock ≠ some k)
    (hl : d < l.size) (hbl : l.getD b false = true) (n1 : d ≠ a) (n2 : d ≠ b) (e1 : da ≠ dd) (e2 : db ≠ dd) {v' : Value}
    (k1 : Sl w' e v' (ys.length + 1) (ys ++ [u])) (k2 : Kept (fun k => vw.ownBlock = some k) w w') (k3 : Moved w vw v') :
    PairJ a b c d da db dc dd e w2 vs vw xs ys u (l.setIfInBounds d true) (up V dd v') w' := by
  obtain ⟨g1, g2⟩ := h.new1 hbl
  have hne : ∀ k, (V db).ownBlock = some k → vw.ownBlock ≠ some k := fun k hk hk' => by
    rcases g2 with g2 | ⟨k', g2, g3⟩
    · exact hap k (by rw [← g2]; exact hk) hk'
    · rw [hk] at g2; cases g2
      have := hw k hk'; omega
  refine ⟨h.kept.then (T := fun k => vw.ownBlock = some k) k2 (fun _ _ h => .inr h), fun h1 h2 => ?_, fun h1 h2 => ?_, fun h1 => ?_, fun h1 => ?_, fun h1 => ?_, fun h1 => ?_⟩
  · rw [getD_up n2, hbl] at h2; cases h2
  · rw [getD_in hl] at h2; cases h2
  · rw [getD_up n2, hbl] at h1; cases h1
  · rw [getD_in hl] at h1; cases h1
  · rw [up_other _ _ _ _ e2]
    exact ⟨Sl.kept g1 k2 (fun k hk hk' => hne k hk hk'), g2⟩
  · rw [up_same, up_other _ _ _ _ e2]
    refine ⟨k1, k3.imp id fun ⟨k, h2, h3⟩ => ⟨k, h2, Nat.le_trans h.kept.size h3⟩, fun k hk hk' => ?_⟩
    rcases k3 with k3 | ⟨k', k3, k4⟩
    · exact hne k hk (by rw [← k3]; exact hk')
    · rw [hk'] at k3; cases k3
      have := g1.lt k hk; omega
end
end Go.Own
