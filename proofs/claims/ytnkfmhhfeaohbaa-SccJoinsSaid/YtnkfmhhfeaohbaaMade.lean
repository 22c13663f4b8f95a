/- Slices of numbers that a call has made: what they hold, and that nothing that was there has turned. -/
import Derived.Test.YtnkfmhhfeaohbaaLib
import Derived.Laws.CopyOwn
namespace Go.Own
open Go.RowKit

/-- A call has made 'v', which holds 'zs' in a block of its own; nothing that was there has turned. -/
def MadeInts (k : IntKind) (e : TypeId) (w w' : World) (v : Value) (zs : List Int) : Prop :=
  Sl w' e v zs.length (zs.map (Value.int k)) ∧ Below w.heap.size w w' ∧ ∀ g, v.ownBlock = some g → w.heap.size ≤ g

theorem made_nil (k : IntKind) (e : TypeId) (w : World) : MadeInts k e w w (.slice none 0 0) [] := ⟨World.ownsRow_nil _ _ _ _, Below.refl _ _, by simp [Value.ownBlock]⟩

theorem made_below {k : IntKind} {e : TypeId} {w wr : World} {v : Value} {zs : List Int} (h : MadeInts k e w wr v zs) : Below w.heap.size w wr := h.2.1

/-- Made later than w too. -/
theorem made_from {k : IntKind} {e : TypeId} {w w1 wr : World} {v : Value} {zs : List Int} (hb : Below w.heap.size w w1) (h : MadeInts k e w1 wr v zs) : MadeInts k e w wr v zs :=
  ⟨h.1, hb.trans (h.2.1.mono hb.size), fun g hg => Nat.le_trans hb.size (h.2.2 g hg)⟩

/-- It stays as it was behind a step that turns nothing. -/
theorem made_to {k : IntKind} {e : TypeId} {w wr w1 : World} {v : Value} {zs : List Int} (h : MadeInts k e w wr v zs) (hb : Below wr.heap.size wr w1) : MadeInts k e w w1 v zs :=
  ⟨h.1.kept (Kept.ofBelow hb) (fun g hg => by have := h.1.lt g hg; omega), h.2.1.trans (hb.mono h.2.1.size), h.2.2⟩

/-- One round's append of a number. -/
theorem made_step {k : IntKind} {e : TypeId} {w wr w1 : World} {v v' : Value} {zs : List Int} {x : Int} (h : MadeInts k e w wr v zs)
    (hs : Sl w1 e v' (zs.length + 1) (zs.map (Value.int k) ++ [.int k x])) (hk : Kept (fun b => v.ownBlock = some b) wr w1) (hm : Moved wr v v') : MadeInts k e w w1 v' (zs ++ [x]) := by
  obtain ⟨h1, h2, h3⟩ := h
  refine ⟨by simpa using hs, h2.trans (hk.below h2.size (fun b hb e => by have := h3 b e; omega)), fun g hg => ?_⟩
  rcases hm with hm | ⟨g', hm, hg'⟩
  · exact h3 g (hm ▸ hg)
  · have := h2.size
    rw [hm] at hg; cases hg; omega

/-- The same by the law that writes the new value out. -/
theorem made_step_pos {k : IntKind} {e : TypeId} {w wr w1 : World} {v : Value} {zs : List Int} {x : Int} {g c n : Nat} (h : MadeInts k e w wr v zs) (hn : zs.length = n)
    (hs : Sl w1 e (.slice (some ⟨g, 0, none⟩) (n + 1) c) (n + 1) (zs.map (Value.int k) ++ [.int k x])) (hk : Kept (fun b => v.ownBlock = some b) wr w1) (hm : v.ownBlock = some g ∨ wr.heap.size ≤ g) :
    MadeInts k e w w1 (.slice (some ⟨g, 0, none⟩) (n + 1) c) (zs ++ [x]) := by
  subst hn
  exact made_step h hs hk (hm.imp (fun h => h.symm) (fun h => ⟨g, rfl, h⟩))

theorem made_row {k : IntKind} {e : TypeId} {w w' : World} {v : Value} {zs : List Int} (h : MadeInts k e w w' v zs) : ∃ a cap, v = .slice a zs.length cap ∧ RowAt k w' a zs.length zs := by
  obtain ⟨a, cap, rfl, hc⟩ := h.1.shape
  refine ⟨a, cap, rfl, rfl, ?_⟩
  rcases Nat.eq_zero_or_pos zs.length with h0 | h0
  · exact .inl h0
  · obtain ⟨g, rfl, _, _⟩ := hc 0 h0
    refine .inr ⟨g, 0, rfl, fun i hi => ?_⟩
    obtain ⟨g', e, _, h2⟩ := hc i hi
    simp at e; subst e
    rw [Nat.zero_add, h2]
    simp [List.getD, hi]

/-- The capacity bounds the length. -/
theorem sl_cap {w : World} {e : TypeId} {a : Option Addr} {n c m : Nat} {xs : List Value} (h : Sl w e (.slice a n c) m xs) : n ≤ c ∧ c ≤ maxLen ∧ n = m := by
  rcases h.2 with ⟨h1, h2⟩ | ⟨g, cap, cur, h1, _, _, h2, h3, _⟩
  · cases h1; exact ⟨Nat.le_refl _, by simp [maxLen], h2.symm⟩
  · cases h1; exact ⟨h2, h3, rfl⟩

theorem made_pos {k : IntKind} {e : TypeId} {w w' : World} {v : Value} {zs : List Int} {n : Nat} (h : MadeInts k e w w' v zs) (hn : zs.length = n) (hp : 0 < n) :
    ∃ g cap, v = .slice (some ⟨g, 0, none⟩) n cap ∧ ∀ (j : Nat) u, (zs.map (Value.int k))[j]? = some u → w'.cell? ((⟨g, 0, none⟩ : Addr).add j) = some u := by
  subst hn
  obtain ⟨a, cap, rfl, hc⟩ := h.1.shape
  obtain ⟨g, rfl, _, _⟩ := hc 0 hp
  refine ⟨g, cap, rfl, fun j u hu => ?_⟩
  have hj : j < zs.length := by simpa using (List.getElem?_eq_some_iff.1 hu).1
  obtain ⟨g', e, _, h2⟩ := hc j hj
  simp at e; subst e
  rw [Addr.add_lit, Nat.zero_add, h2, hu]

/-- A row that came in, as the cells that an append or a copy takes. -/
theorem row_news {k : IntKind} {w : World} {b off n : Nat} {zs : List Int} (h : RowAt k w (some ⟨b, off, none⟩) n zs) :
    ∀ (j : Nat) u, (zs.map (Value.int k))[j]? = some u → w.cell? ((⟨b, off, none⟩ : Addr).add j) = some u := by
  intro j u hu
  have hj : j < zs.length := by simpa using (List.getElem?_eq_some_iff.1 hu).1
  have hl := h.1
  rcases h.2 with h0 | ⟨b', off', e, hc⟩
  · omega
  · simp at e; obtain ⟨rfl, rfl⟩ := e
    rw [Addr.add_lit, hc j (by omega)]
    simp [hj] at hu
    simp [List.getD, hj, hu]

/-- The whole block of a slice that fills it. -/
theorem sl_block {w : World} {e : TypeId} {g n : Nat} {xs : List Value} (h : Sl w e (.slice (some ⟨g, 0, none⟩) n n) n xs) : w.heap[g]? = some (.cells xs.toArray e (0, 0)) := by
  rcases h.2 with ⟨h1, _⟩ | ⟨g', cap, cur, h1, _, hg, _, _, hcs, ht⟩
  · cases h1
  · cases h1
    rw [hg, ← ht, List.take_of_length_le (by simp [hcs])]
theorem sl_of_block {w : World} {e : TypeId} {g n : Nat} {xs : List Value} (h : w.heap[g]? = some (.cells xs.toArray e (0, 0))) (hn : xs.length = n) (hm : n ≤ maxLen) : Sl w e (.slice (some ⟨g, 0, none⟩) n n) n xs :=
  ⟨by simp [hn], .inr ⟨g, n, xs.toArray, rfl, Nat.zero_le _, h, Nat.le_refl _, hm, by simp [hn], by simp [List.take_of_length_le, hn]⟩⟩

theorem sl_ints {k : IntKind} {e : TypeId} {w : World} {v : Value} {n : Nat} {zs : List Int} (h : Sl w e v n (zs.map (Value.int k))) : zs.length = n := by have := h.1; simpa using this

theorem take_more (l : List Int) (k : Nat) (hk : k < l.length) : l.take (k + 1) = l.take k ++ [l.getD k 0] := by
  rw [List.take_succ_eq_append_getElem hk]; simp [List.getD, hk]

end Go.Own

namespace Go.Own
open Go.RowKit
theorem splice_all {α : Type} (L cs : List α) (h : cs.length = L.length) : splice L 0 cs = cs := by
  unfold splice
  simp [h]
theorem madeCells_list (z : Value) (hz : z.cells = #[z]) (m : Nat) : (madeCells z.cells (m * 1)).toList = List.replicate m z := by
  rw [hz, Nat.mul_one]; exact toList_madeCells_one z m
/-- What 'make' of a size has made, in the words of this file. -/
theorem made_of_make {k : IntKind} {e : TypeId} {w w1 : World} {m : Nat} (hs : w1.ownsRow 0 e 1 (.slice (some ⟨w.heap.size, 0, none⟩) m m) m (madeCells (Value.int k 0).cells (m * 1)).toList) (hg : w.grownBy w1 none) :
    MadeInts k e w w1 (.slice (some ⟨w.heap.size, 0, none⟩) m m) (List.replicate m 0) := by
  refine ⟨?_, (Below.refl _ w).grown hg (Nat.le_refl _) (by simp), fun g h => ?_⟩
  · rw [madeCells_list _ rfl] at hs
    simpa using hs
  · have e' : some w.heap.size = some g := h
    cases e'; exact Nat.le_refl _
end Go.Own

namespace Go.Own
open Go.RowKit
/-- A cell of a slice of numbers, and that it may be written. -/
theorem sl_cell {k : IntKind} {e : TypeId} {w : World} {g n c : Nat} {zs : List Int} (h : Sl w e (.slice (some ⟨g, 0, none⟩) n c) n (zs.map (Value.int k))) (i : Nat) (hi : i < n) :
    w.cell? ⟨g, i, none⟩ = some (.int k (zs.getD i 0)) ∧ w.frozen? ⟨g, i, none⟩ = false := by
  have hl := sl_ints h
  refine ⟨?_, World.ownsRow.frozenAt (size := 1) h i⟩
  rw [World.ownsRow.cellAt (size := 1) h i (by omega)]
  have : i < zs.length := by omega
  simp [List.getD, this]
theorem made_cell {k : IntKind} {e : TypeId} {w w' : World} {g c n : Nat} {zs : List Int} (h : MadeInts k e w w' (.slice (some ⟨g, 0, none⟩) n c) zs) (hn : zs.length = n) (i : Nat) (hi : i < n) :
    w'.cell? ⟨g, i, none⟩ = some (.int k (zs.getD i 0)) ∧ w'.frozen? ⟨g, i, none⟩ = false := by
  subst hn; exact sl_cell h.1 i hi
/-- A store into it. -/
theorem made_store {k : IntKind} {e : TypeId} {w w' : World} {g c n : Nat} {zs : List Int} (h : MadeInts k e w w' (.slice (some ⟨g, 0, none⟩) n c) zs) (hn : zs.length = n) (i : Nat) (x : Int) :
    MadeInts k e w (w'.setCell ⟨g, i, none⟩ (.int k x)) (.slice (some ⟨g, 0, none⟩) n c) (zs.set i x) := by
  subst hn
  obtain ⟨h1, h2, h3⟩ := h
  have hst := World.ownsRow.stored h1 i (.int k x)
  rw [← List.map_set] at hst
  exact ⟨by rw [List.length_set]; exact hst.1, h2.setCell (h3 g rfl) _, h3⟩
end Go.Own

namespace Go.Own
open Go.RowKit
theorem row_src {k : IntKind} {w : World} {a : Option Addr} {n : Nat} {zs : List Int} (h : RowAt k w a n zs) (hp : 0 < n) :
    ∃ ad, a = some ad ∧ ∀ (j : Nat) u, (zs.map (Value.int k))[j]? = some u → w.cell? (ad.add j) = some u := by
  rcases h.2 with h0 | ⟨b, off, rfl, hc⟩
  · omega
  · exact ⟨_, rfl, row_news h⟩
/-- What a copy into a made slice leaves. -/
theorem made_copied {k : IntKind} {e : TypeId} {w w2 : World} {n : Nat} {zs : List Int} {g : Nat} (hg : w.heap.size ≤ g) (hh : w2.heap[g]? = some (.cells (zs.map (Value.int k)).toArray e (0, 0))) (hn : zs.length = n) (hm : n ≤ maxLen) (hb : Below w.heap.size w w2) :
    MadeInts k e w w2 (.slice (some ⟨g, 0, none⟩) n n) zs := by
  subst hn
  refine ⟨sl_of_block hh (by simp) hm, hb, fun g' h => ?_⟩
  have e' : some g = some g' := h
  cases e'; exact hg
end Go.Own

namespace Go.Own
open Go.RowKit
theorem made_lit (k : IntKind) (e : TypeId) (w : World) (cs : Array Value) (zs : List Int) (n : Nat) (hc : cs.toList = zs.map (Value.int k)) (hn : zs.length = n) (hm : n ≤ maxLen) :
    MadeInts k e w (w.alloc (.cells cs e)) (.slice (some ⟨w.heap.size, 0, none⟩) n n) zs := by
  subst hn
  refine ⟨?_, (Below.refl _ w).alloc (Nat.le_refl _) _, fun g h => ?_⟩
  · have := World.ownsRow_lit (base := 0) (e := e) (size := 1) w cs zs.length (Nat.zero_le _) hm (by rw [← Array.length_toList, hc]; simp)
    rwa [hc] at this
  · have e' : some w.heap.size = some g := h
    cases e'; exact Nat.le_refl _
end Go.Own

namespace Go.Own
open Go.RowKit
theorem made_rowAt {k : IntKind} {e : TypeId} {w w' : World} {a : Option Addr} {n c : Nat} {zs : List Int} (h : MadeInts k e w w' (.slice a n c) zs) : RowAt k w' a n zs := by
  obtain ⟨a', cap, he, hr⟩ := made_row h
  cases he; exact hr
theorem made_len {k : IntKind} {e : TypeId} {w w' : World} {a : Option Addr} {n c : Nat} {zs : List Int} (h : MadeInts k e w w' (.slice a n c) zs) : zs.length = n := by
  obtain ⟨a', cap, he, hr⟩ := made_row h
  cases he; rfl
theorem made_cap {k : IntKind} {e : TypeId} {w w' : World} {a : Option Addr} {n c : Nat} {zs : List Int} (h : MadeInts k e w w' (.slice a n c) zs) : n ≤ c ∧ c ≤ maxLen := by
  have := sl_cap h.1; exact ⟨this.1, this.2.1⟩
end Go.Own

namespace Go.Own
open Go.RowKit

/-- 'append([]T{}, src...)' of numbers, src whatever slice, nil too. -/
theorem wpList_clone {P : Program} {w : World} {ops : Array Oper} {rest : List Oper} {o : Oper} {a : Act} {Q : Exit → Act → World → Prop} (hgd : o.guard = none) (s x : Operand) (t : TypeId)
    (ho : o.op = .call { callee := .builtin .append, args := #[s, x], argTypes := #[t, t] })
    (k : IntKind) (e : TypeId) (i : TypeInfo) (z : Value) (bytes : Nat) (ht : P.underlying t = some (.slice e)) (hi : P.info? e = some i) (hz : i.zero = some z)
    (hsize : i.size = 1) (hby : i.bytes = bytes) (hzs : z.cells.size = 1) (hpos : 1 ≤ bytes)
    (hs : a.eval s = .slice (some ⟨w.heap.size, 0, none⟩) 0 0) (ao : Option Addr) (n c : Nat) (zs : List Int) (hx : a.eval x = .slice ao n c) (hr : RowAt k w ao n zs) (hnil : ao = none → n = 0 ∧ c = 0) (hbytes : n * bytes ≤ 140737488355328)
    (h : ∀ a' c' w', MadeInts k e w w' (.slice a' n c') zs → wpList P ops Q rest (a.put o.dst (.slice a' n c')) w') : wpList P ops Q (o :: rest) a (w.alloc (.cells #[] e)) := by
  have hown : Sl (w.alloc (.cells #[] e)) e (.slice (some ⟨w.heap.size, 0, none⟩) 0 0) 0 [] := World.ownsRow_lit (e := e) (size := 1) w #[] 0 (Nat.zero_le _) (by simp [maxLen]) rfl
  cases ao with
  | none =>
    obtain ⟨rfl, rfl⟩ := hnil rfl
    obtain rfl : zs = [] := List.eq_nil_of_length_eq_zero hr.1
    have hrun := run_append_owned_none (P := P) (w.alloc (.cells #[] e)) 0 t o.type e i 1 ht hi _ 0 [] hown
    refine wpList_plain hgd fun _ hK => ?_
    unfold Oper.wp execOp
    simp only [ho, resolve, invoke, builtin, Sem.run_bind, Sem.run_pure, Result.andThen_ok, List.map_toArray, List.map_cons, List.map_nil, hs, hx, hrun]
    exact hK _ _ (h _ _ _ (made_lit k e w #[] [] 0 rfl rfl (by simp [maxLen])))
  | some ad =>
    have hsrc : ∀ j u, (zs.map (Value.int k))[j]? = some u → (w.alloc (.cells #[] e)).cell? (ad.add j) = some u := by
      intro j u hu
      have hj : j < zs.length := by simpa using (List.getElem?_eq_some_iff.1 hu).1
      have hl := hr.1
      obtain ⟨ad', e', hc⟩ := row_src hr (by omega)
      cases e'
      have := hc j u hu
      rw [World.cell?_alloc_lt _ _ _ (World.block_lt_of_cell? w _ this), this]
    refine wpList_append_strong hgd s x t ho e i z bytes ht hi hz hsize hby hzs hpos _ 0 [] hs hown ad n c (zs.map (Value.int k)) hx (by rw [List.length_map]; exact hr.1) hsrc (ints_oneCell _ _) (by rw [Nat.zero_add]; exact hbytes) fun v' w' h2 h3 h4 => ?_
    rw [Nat.zero_add, List.nil_append] at h2
    obtain ⟨a', c', rfl, _⟩ := h2.shape
    refine h a' c' w' ⟨by rw [hr.1]; exact h2, fresh_below h3, fun g hg => ?_⟩
    rcases h4 with h4 | ⟨g', h4, hge⟩
    · rw [hg] at h4
      have e' : some g = some w.heap.size := h4
      cases e'; exact Nat.le_refl _
    · rw [hg] at h4; cases h4
      have : (w.alloc (.cells #[] e)).heap.size = w.heap.size + 1 := by simp
      omega
theorem below_alloc {w w1 : World} (h : Below w.heap.size w w1) (o : Obj) : Below w.heap.size w (w1.alloc o) := h.alloc h.size o
theorem below_then {w w1 w2 : World} (h : Below w.heap.size w w1) (h2 : Below w1.heap.size w1 w2) : Below w.heap.size w w2 := h.trans (h2.mono h.size)
end Go.Own
