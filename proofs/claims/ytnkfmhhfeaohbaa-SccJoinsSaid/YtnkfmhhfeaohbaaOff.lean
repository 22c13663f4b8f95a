/- Slices that begin anywhere in a block of the call's own ('row = row[1:]'), appended to. -/
import Derived.Test.YtnkfmhhfeaohbaaMade
import Derived.WalkSmall
namespace Go.Own
open Go.RowKit

/-- A slice value that owns the cells xs from some place of a block on. -/
def SlO (w : World) (e : TypeId) (v : Value) (n : Nat) (xs : List Value) : Prop :=
  xs.length = n ∧ ((v = .slice none 0 0 ∧ n = 0) ∨ ∃ g off cap cur, v = .slice (some ⟨g, off, none⟩) n cap ∧ w.heap[g]? = some (.cells cur e (0, 0)) ∧ n ≤ cap ∧ cap ≤ maxLen ∧ off + cap ≤ cur.size ∧ (cur.toList.drop off).take n = xs)

theorem SlO.nil (w : World) (e : TypeId) : SlO w e (.slice none 0 0) 0 [] := ⟨rfl, .inl ⟨rfl, rfl⟩⟩
theorem SlO.of {w : World} {e : TypeId} {v : Value} {n : Nat} {xs : List Value} (h : Sl w e v n xs) : SlO w e v n xs := by
  refine ⟨by have := h.1; omega, h.2.imp id ?_⟩
  rintro ⟨g, cap, cur, rfl, _, hg, h1, h2, h3, h4⟩
  exact ⟨g, 0, cap, cur, rfl, hg, h1, h2, by omega, by rw [List.drop_zero]; rw [Nat.mul_one] at h4; exact h4⟩
theorem SlO.lt {w : World} {e : TypeId} {v : Value} {n : Nat} {xs : List Value} (h : SlO w e v n xs) : ∀ g, v.ownBlock = some g → g < w.heap.size := by
  intro g hg
  rcases h.2 with ⟨rfl, _⟩ | ⟨g', off, cap, cur, rfl, hh, _⟩
  · simp [Value.ownBlock] at hg
  · have e' : some g' = some g := hg
    cases e'
    exact (Array.getElem?_eq_some_iff.1 hh).1
theorem SlO.kept {S : Nat → Prop} {w w' : World} {e : TypeId} {v : Value} {n : Nat} {xs : List Value} (h : SlO w e v n xs) (hk : Kept S w w') (hn : ∀ g, v.ownBlock = some g → ¬ S g) : SlO w' e v n xs := by
  refine ⟨h.1, h.2.imp id ?_⟩
  rintro ⟨g, off, cap, cur, rfl, hg, r⟩
  exact ⟨g, off, cap, cur, rfl, by rw [hk.block g (Array.getElem?_eq_some_iff.1 hg).1 (hn g rfl)]; exact hg, r⟩
/-- The shape of such a slice. -/
theorem SlO.shape {w : World} {e : TypeId} {v : Value} {n : Nat} {xs : List Value} (h : SlO w e v n xs) :
    ∃ a cap, v = .slice a n cap ∧ n ≤ cap ∧ cap ≤ maxLen ∧ (∀ i, i < n → ∃ g off, a = some ⟨g, off, none⟩ ∧ v.ownBlock = some g ∧ w.cell? ⟨g, off + i, none⟩ = xs[i]?) := by
  rcases h.2 with ⟨rfl, rfl⟩ | ⟨g, off, cap, cur, rfl, hg, h1, h2, h3, h4⟩
  · exact ⟨none, 0, rfl, Nat.le_refl _, by simp [maxLen], fun i hi => by omega⟩
  · refine ⟨_, cap, rfl, h1, h2, fun i hi => ⟨g, off, rfl, rfl, ?_⟩⟩
    rw [← h4, List.getElem?_take, if_pos hi, List.getElem?_drop]
    simp [World.cell?, hg]
theorem SlO.rowAt {k : IntKind} {w : World} {e : TypeId} {a : Option Addr} {n c : Nat} {zs : List Int} (h : SlO w e (.slice a n c) n (zs.map (Value.int k))) : RowAt k w a n zs := by
  have hl : zs.length = n := by have := h.1; simpa using this
  refine ⟨hl, ?_⟩
  rcases Nat.eq_zero_or_pos n with h0 | h0
  · exact .inl h0
  · obtain ⟨a', cap, e', _, _, hc⟩ := h.shape
    cases e'
    obtain ⟨g, off, rfl, _, _⟩ := hc 0 h0
    refine .inr ⟨g, off, rfl, fun i hi => ?_⟩
    obtain ⟨g', off', e', _, h2⟩ := hc i hi
    cases e'
    have : i < zs.length := by omega
    rw [h2]; simp [List.getD, this]
/-- The rest behind the first element, as 'v[1:]' spells its address. -/
theorem SlO.tail {w : World} {e : TypeId} {g off n cap : Nat} {x : Value} {xs : List Value} (h : SlO w e (.slice (some ⟨g, off, none⟩) (n + 1) cap) (n + 1) (x :: xs)) (ad : Option Addr)
    (h1 : cap = 1 → ad = some ⟨g, off, none⟩) (h2 : cap ≠ 1 → ad = some ⟨g, off + 1, none⟩) : SlO w e (.slice ad n (cap - 1)) n xs := by
  have hl : xs.length = n := by have := h.1; simpa using this
  rcases h.2 with ⟨h0, _⟩ | ⟨g', off', cap', cur, e', hg, a1, a2, a3, a4⟩
  · cases h0
  · cases e'
    refine ⟨hl, .inr ?_⟩
    have htl : ((cur.toList.drop (off + 1)).take n) = xs := by
      have hd : off < cur.toList.length := by simp; omega
      rw [List.drop_eq_getElem_cons hd, List.take_succ_cons] at a4
      simp only [List.cons.injEq] at a4
      exact a4.2
    by_cases hc : cap = 1
    · obtain rfl : n = 0 := by omega
      refine ⟨g, off, cap - 1, cur, by rw [h1 hc], hg, by omega, by unfold maxLen at a2 ⊢; omega, by omega, ?_⟩
      rw [List.take_zero] at htl ⊢
      exact htl
    · exact ⟨g, off + 1, cap - 1, cur, by rw [h2 hc], hg, by omega, by unfold maxLen at a2 ⊢; omega, by omega, htl⟩

theorem run_append_room_off {P : Program} (w : World) (t ty e : TypeId) (i : TypeInfo) (ht : P.underlying t = some (.slice e)) (hi : P.info? e = some i) (hsize : i.size = 1)
    (g off sLen sCap : Nat) (cur : Array Value) (hg : w.heap[g]? = some (.cells cur e (0, 0)))
    (a : Addr) (m c : Nat) (news : List Value) (hl : news.length = m) (hnews : ∀ j u, news[j]? = some u → w.cell? (a.add j) = some u) (h1 : ∀ u ∈ news, u.oneCell' = true)
    (hroom : sLen + m ≤ sCap) (hfit : off + sLen + news.length ≤ cur.size) :
    (Builtin.append_ #[t, t] ty #[.slice (some ⟨g, off, none⟩) sLen sCap, .slice (some a) m c]).run P w =
      .ok (.slice (some ⟨g, off, none⟩) (sLen + m) sCap) (w.setRow g (cur.toList.take (off + sLen) ++ news ++ cur.toList.drop (off + sLen + news.length)).toArray) := by
  have hf := run_firstCells_some (P := P) w i.size m a m c news (by rw [hsize]; omega) hnews
  rw [hsize] at hf
  have hst := run_storeCells_at P g (off + sLen) e news 0 cur w hg (by simpa using hfit) h1
  simp only [Nat.add_zero] at hst
  simp [Builtin.append_, run_underlying ht, sizeOf, typeInfo, hi, Builtin.lenOf, hroom, hf, Addr.add_lit, hsize, hst]

theorem run_append_off {P : Program} (w : World) (t ty e : TypeId) (i : TypeInfo) (z : Value) (bytes : Nat) (ht : P.underlying t = some (.slice e)) (hi : P.info? e = some i) (hz : i.zero = some z)
    (hsize : i.size = 1) (hby : i.bytes = bytes) (hzs : z.cells.size = 1) (hpos : 1 ≤ bytes)
    (v : Value) (n : Nat) (xs : List Value) (hown : SlO w e v n xs)
    (a : Addr) (m c : Nat) (news : List Value) (hl : news.length = m) (hnews : ∀ j u, news[j]? = some u → w.cell? (a.add j) = some u) (h1 : ∀ u ∈ news, u.oneCell' = true) (hm : 0 < m)
    (hbytes : (n + m) * bytes ≤ 140737488355328) :
    ∃ v' w', (Builtin.append_ #[t, t] ty #[v, .slice (some a) m c]).run P w = .ok v' w' ∧ SlO w' e v' (n + m) (xs ++ news) ∧ Kept (fun k => v.ownBlock = some k) w w' ∧ Moved w v v' := by
  have h63 : n + m ≤ maxLen := by
    have := Nat.le_trans (Nat.le_mul_of_pos_right (n + m) hpos) hbytes
    unfold maxLen; omega
  rcases hown.2 with ⟨rfl, rfl⟩ | ⟨g, off, cap, cur, rfl, hg, hnc, hcm, hcs, htake⟩
  · obtain rfl : xs = [] := List.eq_nil_of_length_eq_zero hown.1
    obtain ⟨v', w', hr, ho, hk, hmv⟩ := run_append_strong (P := P) w t ty e i z bytes ht hi hz hsize hby hzs hpos (.slice none 0 0) 0 [] (World.ownsRow_nil _ _ _ _) a m c news hl hnews h1 hbytes
    exact ⟨v', w', hr, SlO.of ho, hk, hmv⟩
  · by_cases hroom : n + m ≤ cap
    · have hfit : off + n + news.length ≤ cur.size := by omega
      have hr := run_append_room_off (P := P) w t ty e i ht hi hsize g off n cap cur hg a m c news hl hnews h1 hroom hfit
      refine ⟨_, _, hr, ⟨by rw [List.length_append, hown.1, hl], .inr ⟨g, off, cap, _, rfl, setRow_heap w g cur _ e _ hg, hroom, hcm, ?_, ?_⟩⟩, ⟨rfl, rfl, rfl, by simp, fun k _ hk => setRow_other w g k _ (fun e => hk (by subst e; rfl))⟩, .inl rfl⟩
      · simp only [List.size_toArray, List.length_append, List.length_take, List.length_drop, Array.length_toList]
        omega
      · have e1 : cur.toList.take (off + n) = cur.toList.take off ++ xs := by
          rw [← htake, ← List.take_add]
        have ho : (cur.toList.take off).length = off := by rw [List.length_take, Array.length_toList]; omega
        simp only [e1, List.append_assoc]
        rw [List.drop_append_of_le_length (by omega), List.drop_of_length_le (by omega), List.nil_append, ← List.append_assoc]
        exact List.take_left' (by rw [List.length_append, hown.1, hl])
    · have holds : ∀ j u, xs[j]? = some u → w.cell? ((⟨g, off, none⟩ : Addr).add j) = some u := by
        intro j u hu
        have hj : j < n := by have := (List.getElem?_eq_some_iff.1 hu).1; rw [hown.1] at this; exact this
        rw [Addr.add_lit]
        rw [← htake, List.getElem?_take, if_pos hj, List.getElem?_drop] at hu
        simpa [World.cell?, hg] using hu
      have hr := run_append_grow (P := P) w t ty e i z ht hi hz ⟨g, off, none⟩ n cap xs (by rw [hsize, Nat.mul_one]; exact hown.1) holds a m c news (by rw [hsize]; omega) hnews (by omega) (by simp only [maxLen] at h63; omega) (by rw [hby]; exact growslice_fits (by omega) hbytes)
      refine ⟨_, _, hr, ⟨by rw [List.length_append, hown.1, hl], .inr ⟨w.heap.size, 0, _, _, rfl, heap_alloc_new w.drew _, grownCap_ge w (n + m) cap e, grownCap_le_maxLen w (n + m) cap e h63, ?_, ?_⟩⟩,
        ⟨rfl, rfl, rfl, by simp, fun k hk _ => Below.heap_alloc w.drew _ _ hk⟩, .inr ⟨_, rfl, Nat.le_refl _⟩⟩
      · have hge := grownCap_ge w (n + m) cap e
        simp only [Array.size_append, List.size_toArray, size_zeroCells, hzs, hown.1, hl]
        omega
      · simp only [Array.toList_append, List.drop_zero]
        exact List.take_left' (by rw [List.length_append, hown.1, hl])

/-- 'append(v, x)' of one element onto such a slice, the new value written out. -/
theorem wpList_append_one_off {P : Program} {w : World} {ops : Array Oper} {rest : List Oper} {o : Oper} {a : Act} {Q : Exit → Act → World → Prop} (hgd : o.guard = none) (s x : Operand) (t : TypeId)
    (ho : o.op = .call { callee := .builtin .append, args := #[s, x], argTypes := #[t, t] })
    (e : TypeId) (i : TypeInfo) (z : Value) (bytes : Nat) (ht : P.underlying t = some (.slice e)) (hi : P.info? e = some i) (hz : i.zero = some z)
    (hsize : i.size = 1) (hby : i.bytes = bytes) (hzs : z.cells.size = 1) (hpos : 1 ≤ bytes)
    (v : Value) (n : Nat) (xs : List Value) (hs : a.eval s = v) (hown : SlO w e v n xs)
    (u : Value) (hu : u.oneCell' = true) (hx : a.eval x = .slice (some ⟨w.heap.size, 0, none⟩) 1 1)
    (hbytes : (n + 1) * bytes ≤ 140737488355328)
    (h : ∀ g off c' w', SlO w' e (.slice (some ⟨g, off, none⟩) (n + 1) c') (n + 1) (xs ++ [u]) → Kept (fun k => v.ownBlock = some k) w w' → (v.ownBlock = some g ∨ w.heap.size ≤ g) → wpList P ops Q rest (a.put o.dst (.slice (some ⟨g, off, none⟩) (n + 1) c')) w') :
    wpList P ops Q (o :: rest) a (w.alloc (.cells #[u] e)) := by
  have hown' : SlO (w.alloc (.cells #[u] e)) e v n xs := hown.kept (S := fun _ => False) ((Kept.refl _ w).alloc _) (fun _ _ h => h)
  obtain ⟨v', w', hr, h2, h3, h4⟩ := run_append_off (P := P) (w.alloc (.cells #[u] e)) t o.type e i z bytes ht hi hz hsize hby hzs hpos v n xs hown' ⟨w.heap.size, 0, none⟩ 1 1 [u] rfl (by
    intro j u' hj
    match j, hj with
    | 0, hj =>
      simp at hj; subst hj
      simp [Addr.add]
    | j + 1, hj => simp at hj) (by intro u' hu'; simp at hu'; subst hu'; exact hu) (by decide) hbytes
  obtain ⟨a', c', rfl, _, _, hc⟩ := h2.shape
  obtain ⟨g, off, rfl, hg, _⟩ := hc 0 (by omega)
  refine wpList_plain hgd fun _ hK => ?_
  unfold Oper.wp execOp
  simp only [ho, resolve, invoke, builtin, Sem.run_bind, Sem.run_pure, Result.andThen_ok, List.map_toArray, List.map_cons, List.map_nil, hs, hx, hr]
  refine hK _ _ (h g off c' w' h2 (((Kept.refl _ w).alloc _).trans (h3.mono (fun _ _ s => s))) ?_)
  rcases h4 with h4 | ⟨g', h4, hge⟩
  · rw [hg] at h4; exact .inl h4.symm
  · rw [hg] at h4; cases h4
    have : (w.alloc (.cells #[u] e)).heap.size = w.heap.size + 1 := by simp
    exact .inr (by omega)
end Go.Own
