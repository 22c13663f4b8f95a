/- A small library of this prover's own, over any program: worlds that keep what they held outside a set of blocks; the law of 'append' told with the block in which the new value lies. -/
import Derived.WalkKit
import Derived.WalkSpells
import Derived.WalkLawsBesides
import Derived.Handy
import Derived.Lib.Hide
namespace Go.Own
open Go.RowKit

/-- Outside the blocks S nothing that was there has turned. -/
structure Kept (S : Nat → Prop) (w w' : World) : Prop where
  os : w'.os = w.os
  tape : w'.tape = w.tape
  output : w'.output = w.output
  size : w.heap.size ≤ w'.heap.size
  block : ∀ k, k < w.heap.size → ¬ S k → w'.heap[k]? = w.heap[k]?

theorem Kept.refl (S : Nat → Prop) (w : World) : Kept S w w := ⟨rfl, rfl, rfl, Nat.le_refl _, fun _ _ _ => rfl⟩
theorem Kept.trans {S : Nat → Prop} {a b c : World} (h : Kept S a b) (k : Kept S b c) : Kept S a c :=
  ⟨k.os.trans h.os, k.tape.trans h.tape, k.output.trans h.output, Nat.le_trans h.size k.size,
    fun i hi hn => (k.block i (Nat.lt_of_lt_of_le hi h.size) hn).trans (h.block i hi hn)⟩
theorem Kept.mono {S T : Nat → Prop} {a b : World} (h : Kept S a b) (hs : ∀ k, k < a.heap.size → S k → T k) : Kept T a b :=
  ⟨h.os, h.tape, h.output, h.size, fun i hi hn => h.block i hi (fun s => hn (hs i hi s))⟩
/-- Two steps, the second may write what the first allowed or what was new behind it. -/
theorem Kept.then {S T : Nat → Prop} {a b c : World} (h : Kept S a b) (k : Kept T b c) (hT : ∀ i, i < a.heap.size → T i → S i) : Kept S a c :=
  ⟨k.os.trans h.os, k.tape.trans h.tape, k.output.trans h.output, Nat.le_trans h.size k.size,
    fun i hi hn => (k.block i (Nat.lt_of_lt_of_le hi h.size) (fun t => hn (hT i hi t))).trans (h.block i hi hn)⟩
theorem Kept.below {S : Nat → Prop} {w w' : World} (h : Kept S w w') {B : Nat} (hB : B ≤ w.heap.size) (hS : ∀ k, k < B → ¬ S k) : Below B w w' :=
  ⟨h.os, h.tape, h.output, h.size, fun k hk => h.block k (Nat.lt_of_lt_of_le hk hB) (hS k hk)⟩
theorem Kept.ofBelow {w w' : World} {B : Nat} (h : Below B w w') : Kept (fun k => B ≤ k) w w' :=
  ⟨h.os, h.tape, h.output, h.size, fun k _ hn => h.block k (by omega)⟩
theorem Kept.alloc {S : Nat → Prop} {a w : World} (h : Kept S a w) (o : Obj) : Kept S a (w.alloc o) :=
  h.trans ⟨rfl, rfl, rfl, by simp, fun k hk _ => Below.heap_alloc _ _ _ hk⟩
theorem Kept.drew {S : Nat → Prop} {a w : World} (h : Kept S a w) : Kept S a w.drew := ⟨h.os, h.tape, h.output, h.size, h.block⟩
theorem Kept.setCell {S : Nat → Prop} {a w : World} (h : Kept S a w) {p : Addr} (hp : p.block < a.heap.size → S p.block) (u : Value) : Kept S a (w.setCell p u) :=
  h.then (T := fun k => k = p.block) ⟨rfl, rfl, rfl, by simp [World.setCell], fun k _ hn => Below.heap_setCell _ _ _ _ hn⟩ (fun i hi e => by subst e; exact hp hi)
theorem Kept.cell {S : Nat → Prop} {w w' : World} (h : Kept S w w') {p : Addr} (hp : p.block < w.heap.size) (hn : ¬ S p.block) : w'.cell? p = w.cell? p :=
  World.cell?_of_block (w := w) (h.block p.block hp hn)
theorem Kept.cellSome {S : Nat → Prop} {w w' : World} (h : Kept S w w') {p : Addr} {v : Value} (hc : w.cell? p = some v) (hn : ¬ S p.block) : w'.cell? p = some v :=
  (h.cell (World.block_lt_of_cell? w p hc) hn).trans hc

/-- A slice value that owns the cells xs, in whatever block. -/
abbrev Sl (w : World) (e : TypeId) (v : Value) (n : Nat) (xs : List Value) : Prop := w.ownsRow 0 e 1 v n xs

theorem Sl.of {w : World} {B : Nat} {e : TypeId} {v : Value} {n : Nat} {xs : List Value} (h : w.ownsRow B e 1 v n xs) : Sl w e v n xs :=
  ⟨h.1, h.2.imp id fun ⟨g, cap, cur, a, _, r⟩ => ⟨g, cap, cur, a, Nat.zero_le _, r⟩⟩
theorem Sl.to {w : World} {e : TypeId} {v : Value} {n : Nat} {xs : List Value} (h : Sl w e v n xs) (B : Nat) (hB : ∀ g, v.ownBlock = some g → B ≤ g) : w.ownsRow B e 1 v n xs :=
  ⟨h.1, h.2.imp id fun ⟨g, cap, cur, a, _, r⟩ => ⟨g, cap, cur, a, hB g (by rw [a]; rfl), r⟩⟩
theorem Sl.kept {S : Nat → Prop} {w w' : World} {e : TypeId} {v : Value} {n : Nat} {xs : List Value} (h : Sl w e v n xs) (hk : Kept S w w') (hn : ∀ g, v.ownBlock = some g → ¬ S g) : Sl w' e v n xs := by
  refine ⟨h.1, ?_⟩
  rcases h.2 with h0 | ⟨g, cap, cur, rfl, hb, hg, rest⟩
  · exact .inl h0
  · exact .inr ⟨g, cap, cur, rfl, hb, by rw [hk.block g (Array.getElem?_eq_some_iff.1 hg).1 (hn g rfl)]; exact hg, rest⟩
theorem Sl.lt {w : World} {e : TypeId} {v : Value} {n : Nat} {xs : List Value} (h : Sl w e v n xs) : ∀ g, v.ownBlock = some g → g < w.heap.size :=
  fun g hg => (World.ownsRow.lt h g hg).2
/-- The shape of an owned slice. -/
theorem Sl.shape {w : World} {e : TypeId} {v : Value} {n : Nat} {xs : List Value} (h : Sl w e v n xs) : ∃ a cap, v = .slice a n cap ∧ (∀ i, i < n → ∃ g, a = some ⟨g, 0, none⟩ ∧ v.ownBlock = some g ∧ w.cell? ⟨g, i, none⟩ = xs[i]?) := by
  rcases h.2 with ⟨rfl, rfl⟩ | ⟨g, cap, cur, rfl, hb, hg, rest⟩
  · exact ⟨none, 0, rfl, fun i hi => by omega⟩
  · exact ⟨_, cap, rfl, fun i hi => ⟨g, rfl, rfl, World.ownsRow.cellAt (size := 1) h i (by omega)⟩⟩

/-- Where the value lies behind an append: in its own block still, or in a new one. -/
def Moved (w : World) (v v' : Value) : Prop := v'.ownBlock = v.ownBlock ∨ ∃ g, v'.ownBlock = some g ∧ w.heap.size ≤ g

theorem Moved.alloc {w : World} {o : Obj} {v v' : Value} (h : Moved (w.alloc o) v v') : Moved w v v' :=
  h.imp id fun ⟨g, a, b⟩ => ⟨g, a, by simp at b; omega⟩

theorem run_append_strong {P : Program} (w : World) (t ty e : TypeId) (i : TypeInfo) (z : Value) (bytes : Nat) (ht : P.underlying t = some (.slice e)) (hi : P.info? e = some i) (hz : i.zero = some z)
    (hsize : i.size = 1) (hby : i.bytes = bytes) (hzs : z.cells.size = 1) (hpos : 1 ≤ bytes)
    (v : Value) (n : Nat) (xs : List Value) (hown : Sl w e v n xs)
    (a : Addr) (m c : Nat) (news : List Value) (hl : news.length = m) (hnews : ∀ j u, news[j]? = some u → w.cell? (a.add j) = some u) (h1 : ∀ u ∈ news, u.oneCell' = true)
    (hbytes : (n + m) * bytes ≤ 140737488355328) :
    ∃ v' w', (Builtin.append_ #[t, t] ty #[v, .slice (some a) m c]).run P w = .ok v' w' ∧ Sl w' e v' (n + m) (xs ++ news) ∧ Kept (fun k => v.ownBlock = some k) w w' ∧ Moved w v v' := by
  have h63 : n + m ≤ maxLen := by
    have := Nat.le_trans (Nat.le_mul_of_pos_right (n + m) hpos) hbytes
    unfold maxLen; omega
  have kept : ∀ {w' : World}, w.grownBy w' v.ownBlock → Kept (fun k => v.ownBlock = some k) w w' := fun hg =>
    ⟨hg.os, hg.tape, hg.output, hg.size, fun k hk hn => hg.block k hk (fun e => hn e.symm)⟩
  rcases hown.2 with ⟨rfl, rfl⟩ | ⟨g, cap, cur, rfl, hbg, hg, hnc, hcm, hcs, htake⟩
  · have hx : xs = [] := List.eq_nil_of_length_eq_zero (by simpa using hown.1)
    subst hx
    obtain ⟨v', w', hr, ho, hgr, hnil⟩ := run_append_own (P := P) w w.heap.size t ty e i z 1 bytes ht hi hz hsize hby hzs (by decide) (.slice none 0 0) 0 [] (World.ownsRow_nil _ _ _ _) a m c news (by omega) hnews h1 h63 hbytes (Nat.le_refl _)
    refine ⟨v', w', hr, Sl.of ho, kept hgr, ?_⟩
    rcases ho.2 with ⟨rfl, _⟩ | ⟨g, cap, cur, rfl, hb, _⟩
    · exact .inl rfl
    · exact .inr ⟨g, rfl, hb⟩
  · by_cases hroom : n + m ≤ cap
    · have hr := run_append_room (P := P) w t ty e i ht hi g n cap cur hg a m c news (by rw [hsize]; omega) hnews h1 hroom (by rw [hsize]; omega)
      obtain ⟨v', w', hr', ho, hgr, _⟩ := run_append_own (P := P) w 0 t ty e i z 1 bytes ht hi hz hsize hby hzs (by decide) _ n xs hown a m c news (by omega) hnews h1 h63 hbytes (Nat.zero_le _)
      rw [hr] at hr'
      simp only [Result.ok.injEq] at hr'
      obtain ⟨rfl, rfl⟩ := hr'
      exact ⟨_, _, hr, ho, kept hgr, .inl rfl⟩
    · have holds : ∀ j u, xs[j]? = some u → w.cell? ((⟨g, 0, none⟩ : Addr).add j) = some u := World.ownsRow.cells (g := g) hown rfl
      have hr := run_append_grow (P := P) w t ty e i z ht hi hz ⟨g, 0, none⟩ n cap xs (by rw [hsize]; exact hown.1) holds a m c news (by rw [hsize]; omega) hnews (by omega) (by simp only [maxLen] at h63; omega) (by rw [hby]; exact growslice_fits (by omega) hbytes)
      obtain ⟨v', w', hr', ho, hgr, _⟩ := run_append_own (P := P) w 0 t ty e i z 1 bytes ht hi hz hsize hby hzs (by decide) _ n xs hown a m c news (by omega) hnews h1 h63 hbytes (Nat.zero_le _)
      rw [hr] at hr'
      simp only [Result.ok.injEq] at hr'
      obtain ⟨rfl, rfl⟩ := hr'
      exact ⟨_, _, hr, ho, kept hgr, .inr ⟨_, rfl, Nat.le_refl _⟩⟩

/-- 'append(v, src...)', src whatever slice that is not nil. -/
theorem wpList_append_strong {P : Program} {w : World} {ops : Array Oper} {rest : List Oper} {o : Oper} {a : Act} {Q : Exit → Act → World → Prop} (hgd : o.guard = none) (s x : Operand) (t : TypeId)
    (ho : o.op = .call { callee := .builtin .append, args := #[s, x], argTypes := #[t, t] })
    (e : TypeId) (i : TypeInfo) (z : Value) (bytes : Nat) (ht : P.underlying t = some (.slice e)) (hi : P.info? e = some i) (hz : i.zero = some z)
    (hsize : i.size = 1) (hby : i.bytes = bytes) (hzs : z.cells.size = 1) (hpos : 1 ≤ bytes)
    (v : Value) (n : Nat) (xs : List Value) (hs : a.eval s = v) (hown : Sl w e v n xs)
    (ad : Addr) (m c : Nat) (news : List Value) (hx : a.eval x = .slice (some ad) m c) (hl : news.length = m) (hnews : ∀ j u, news[j]? = some u → w.cell? (ad.add j) = some u) (h1 : ∀ u ∈ news, u.oneCell' = true)
    (hbytes : (n + m) * bytes ≤ 140737488355328)
    (h : ∀ v' w', Sl w' e v' (n + m) (xs ++ news) → Kept (fun k => v.ownBlock = some k) w w' → Moved w v v' → wpList P ops Q rest (a.put o.dst v') w') : wpList P ops Q (o :: rest) a w := by
  obtain ⟨v', w', hr, h2, h3, h4⟩ := run_append_strong (P := P) w t o.type e i z bytes ht hi hz hsize hby hzs hpos v n xs hown ad m c news hl hnews h1 hbytes
  refine wpList_plain hgd fun _ hK => ?_
  unfold Oper.wp execOp
  simp only [ho, resolve, invoke, builtin, Sem.run_bind, Sem.run_pure, Result.andThen_ok, List.map_toArray, List.map_cons, List.map_nil, hs, hx, hr]
  exact hK _ _ (h v' w' h2 h3 h4)

/-- 'append(v, x)' of one element: the translation lays x in a new block of its own first. -/
theorem wpList_append_one {P : Program} {w : World} {ops : Array Oper} {rest : List Oper} {o : Oper} {a : Act} {Q : Exit → Act → World → Prop} (hgd : o.guard = none) (s x : Operand) (t : TypeId)
    (ho : o.op = .call { callee := .builtin .append, args := #[s, x], argTypes := #[t, t] })
    (e : TypeId) (i : TypeInfo) (z : Value) (bytes : Nat) (ht : P.underlying t = some (.slice e)) (hi : P.info? e = some i) (hz : i.zero = some z)
    (hsize : i.size = 1) (hby : i.bytes = bytes) (hzs : z.cells.size = 1) (hpos : 1 ≤ bytes)
    (v : Value) (n : Nat) (xs : List Value) (hs : a.eval s = v) (hown : Sl w e v n xs)
    (u : Value) (hu : u.oneCell' = true) (hx : a.eval x = .slice (some ⟨w.heap.size, 0, none⟩) 1 1)
    (hbytes : (n + 1) * bytes ≤ 140737488355328)
    (h : ∀ v' w', Sl w' e v' (n + 1) (xs ++ [u]) → Kept (fun k => v.ownBlock = some k) w w' → Moved w v v' → wpList P ops Q rest (a.put o.dst v') w') : wpList P ops Q (o :: rest) a (w.alloc (.cells #[u] e)) := by
  refine wpList_append_strong hgd s x t ho e i z bytes ht hi hz hsize hby hzs hpos v n xs hs (World.ownsRow.alloc hown _) _ 1 1 [u] hx rfl ?_ ?_ hbytes ?_
  · intro j u' hj
    match j, hj with
    | 0, hj =>
      simp at hj; subst hj
      simp [Addr.add]
    | j + 1, hj => simp at hj
  · intro u' hu'
    simp at hu'; subst hu'; exact hu
  · intro v' w' h2 h3 h4
    exact h v' w' h2 (((Kept.refl _ w).alloc _).trans (h3.mono (fun _ _ s => s))) h4.alloc

end Go.Own

namespace Go.Own
open Go.RowKit

/-- A slice of n numbers, 'zs': nothing is asked of an empty one's address. -/
def RowAt (k : IntKind) (w : World) (a : Option Addr) (n : Nat) (zs : List Int) : Prop :=
  zs.length = n ∧ (n = 0 ∨ ∃ b off, a = some ⟨b, off, none⟩ ∧ ∀ i, i < n → w.cell? ⟨b, off + i, none⟩ = some (.int k (zs.getD i 0)))

theorem RowAt.below {k : IntKind} {w w' : World} {a : Option Addr} {n : Nat} {zs : List Int} (h : RowAt k w a n zs) (hb : Below w.heap.size w w') : RowAt k w' a n zs := by
  refine ⟨h.1, h.2.imp id ?_⟩
  rintro ⟨b, off, rfl, hc⟩
  refine ⟨b, off, rfl, fun i hi => ?_⟩
  exact (hb.cell (World.block_lt_of_cell? w _ (hc i hi))).trans (hc i hi)

end Go.Own

namespace Go.Own
open Go.RowKit
/-- 'append([]T{}, src...)': nothing that was there has turned; what is made lies in a new block. -/
theorem fresh_below {w w1 : World} {o : Obj} {c : Nat} (hk : Kept (fun k => (Value.slice (some ⟨w.heap.size, 0, none⟩) 0 c).ownBlock = some k) (w.alloc o) w1) : Below w.heap.size w w1 := by
  refine (((Kept.refl (fun k => w.heap.size ≤ k) w).alloc o).trans (hk.mono fun k _ e => ?_)).below (Nat.le_refl _) (fun k hk h => absurd h (by omega))
  have e' : some w.heap.size = some k := e
  cases e'; exact Nat.le_refl _
theorem fresh_block {w : World} {o : Obj} {c g : Nat} (hm : (Value.slice (some ⟨w.heap.size, 0, none⟩) 0 c).ownBlock = some g ∨ (w.alloc o).heap.size ≤ g) : w.heap.size ≤ g := by
  rcases hm with hm | hm
  · have e' : some w.heap.size = some g := hm
    cases e'; exact Nat.le_refl _
  · have : (w.alloc o).heap.size = w.heap.size + 1 := by simp
    omega
end Go.Own

namespace Go.Own
open Go.RowKit

/-- 'append(v, src...)' behind which there is at least one element: the new value written out. -/
theorem wpList_append_pos {P : Program} {w : World} {ops : Array Oper} {rest : List Oper} {o : Oper} {a : Act} {Q : Exit → Act → World → Prop} (hgd : o.guard = none) (s x : Operand) (t : TypeId)
    (ho : o.op = .call { callee := .builtin .append, args := #[s, x], argTypes := #[t, t] })
    (e : TypeId) (i : TypeInfo) (z : Value) (bytes : Nat) (ht : P.underlying t = some (.slice e)) (hi : P.info? e = some i) (hz : i.zero = some z)
    (hsize : i.size = 1) (hby : i.bytes = bytes) (hzs : z.cells.size = 1) (hpos : 1 ≤ bytes)
    (v : Value) (n : Nat) (xs : List Value) (hs : a.eval s = v) (hown : Sl w e v n xs)
    (ad : Addr) (m c : Nat) (news : List Value) (hx : a.eval x = .slice (some ad) m c) (hl : news.length = m) (hnews : ∀ j u, news[j]? = some u → w.cell? (ad.add j) = some u) (h1 : ∀ u ∈ news, u.oneCell' = true)
    (N : Nat) (hN : n + m = N) (hp : 0 < N) (hbytes : N * bytes ≤ 140737488355328)
    (h : ∀ g c' w', Sl w' e (.slice (some ⟨g, 0, none⟩) N c') N (xs ++ news) → Kept (fun k => v.ownBlock = some k) w w' → (v.ownBlock = some g ∨ w.heap.size ≤ g) → wpList P ops Q rest (a.put o.dst (.slice (some ⟨g, 0, none⟩) N c')) w') :
    wpList P ops Q (o :: rest) a w := by
  subst hN
  refine wpList_append_strong hgd s x t ho e i z bytes ht hi hz hsize hby hzs hpos v n xs hs hown ad m c news hx hl hnews h1 hbytes fun v' w' h2 h3 h4 => ?_
  obtain ⟨a', c', rfl, hc⟩ := h2.shape
  obtain ⟨g, rfl, hg, _⟩ := hc 0 hp
  refine h g c' w' h2 h3 ?_
  rcases h4 with h4 | ⟨g', h4, hge⟩
  · rw [hg] at h4; exact .inl h4.symm
  · rw [hg] at h4; cases h4; exact .inr hge

/-- 'append(v, x)' of one element, the new value written out. -/
theorem wpList_append_one_pos {P : Program} {w : World} {ops : Array Oper} {rest : List Oper} {o : Oper} {a : Act} {Q : Exit → Act → World → Prop} (hgd : o.guard = none) (s x : Operand) (t : TypeId)
    (ho : o.op = .call { callee := .builtin .append, args := #[s, x], argTypes := #[t, t] })
    (e : TypeId) (i : TypeInfo) (z : Value) (bytes : Nat) (ht : P.underlying t = some (.slice e)) (hi : P.info? e = some i) (hz : i.zero = some z)
    (hsize : i.size = 1) (hby : i.bytes = bytes) (hzs : z.cells.size = 1) (hpos : 1 ≤ bytes)
    (v : Value) (n : Nat) (xs : List Value) (hs : a.eval s = v) (hown : Sl w e v n xs)
    (u : Value) (hu : u.oneCell' = true) (hx : a.eval x = .slice (some ⟨w.heap.size, 0, none⟩) 1 1)
    (hbytes : (n + 1) * bytes ≤ 140737488355328)
    (h : ∀ g c' w', Sl w' e (.slice (some ⟨g, 0, none⟩) (n + 1) c') (n + 1) (xs ++ [u]) → Kept (fun k => v.ownBlock = some k) w w' → (v.ownBlock = some g ∨ w.heap.size ≤ g) → wpList P ops Q rest (a.put o.dst (.slice (some ⟨g, 0, none⟩) (n + 1) c')) w') :
    wpList P ops Q (o :: rest) a (w.alloc (.cells #[u] e)) := by
  refine wpList_append_one hgd s x t ho e i z bytes ht hi hz hsize hby hzs hpos v n xs hs hown u hu hx hbytes fun v' w' h2 h3 h4 => ?_
  obtain ⟨a', c', rfl, hc⟩ := h2.shape
  obtain ⟨g, rfl, hg, _⟩ := hc 0 (by omega)
  refine h g c' w' h2 h3 ?_
  rcases h4 with h4 | ⟨g', h4, hge⟩
  · rw [hg] at h4; exact .inl h4.symm
  · rw [hg] at h4; cases h4; exact .inr hge

end Go.Own

namespace Go.Own
open Go.RowKit
/-- A slice of n bools. -/
def RowB (w : World) (a : Option Addr) (n : Nat) (bs : List Bool) : Prop :=
  bs.length = n ∧ (n = 0 ∨ ∃ b off, a = some ⟨b, off, none⟩ ∧ ∀ i, i < n → w.cell? ⟨b, off + i, none⟩ = some (.bool (bs.getD i false)))
theorem RowB.below {w w' : World} {a : Option Addr} {n : Nat} {bs : List Bool} (h : RowB w a n bs) (hb : Below w.heap.size w w') : RowB w' a n bs := by
  refine ⟨h.1, h.2.imp id ?_⟩
  rintro ⟨b, off, rfl, hc⟩
  refine ⟨b, off, rfl, fun i hi => ?_⟩
  exact (hb.cell (World.block_lt_of_cell? w _ (hc i hi))).trans (hc i hi)
end Go.Own
