/- The walk of the reference's Add. -/
import Derived.Test.YtflnddpbkaeaaaaM
namespace Go.Proofs.Ytflnddpbkaeaaaa
open Go.RowKit Go.Own

open Go.ChangeShapes Go.WideShapes Go.ChangeAt Go.Deep in
/-- The cells of a slice of texts, as an append takes them. -/
theorem Rows.vals {S : Nat → Prop} {w : World} {a : Option Addr} {n : Nat} {X : List (List Int)} (h : Rows S w a n X) :
    ∃ us : List Value, us.length = n ∧ (∀ u ∈ us, u.oneCell' = true) ∧ (∀ ad, a = some ad → ∀ j u, us[j]? = some u → w.cell? (ad.add j) = some u) ∧ ∀ i (hi : i < us.length), TextAt S w us[i] (X.getD i []) := by
  rcases h.2 with h0 | ⟨b, off, rfl, hs, hc⟩
  · exact ⟨[], h0.symm, by simp, by simp, fun i hi => absurd hi (by simp)⟩
  · obtain ⟨V, hV⟩ := choose_lt hc
    refine ⟨(List.range n).map V, by simp, fun u hu => ?_, fun ad e j u hj => ?_, fun i hi => ?_⟩
    · obtain ⟨i, hi, rfl⟩ := List.mem_map.1 hu
      obtain ⟨_, ai, ci, e, _⟩ := hV i (by have := List.mem_range.1 hi; omega)
      rw [e]; rfl
    · cases e
      have hj' : j < n := by simpa using (List.getElem?_eq_some_iff.1 hj).1
      simp [hj'] at hj
      subst hj
      rw [Addr.add_lit]; exact (hV j hj').1
    · simp at hi
      simp only [List.getElem_map, List.getElem_range]
      exact (hV i hi).2

/-- 'append([]T{}, src...)' of whatever one-cell values. -/
theorem wpList_clone_vals {P : Program} {w : World} {ops : Array Oper} {rest : List Oper} {o : Oper} {a : Act} {Q : Exit → Act → World → Prop} (hgd : o.guard = none) (s x : Operand) (t : TypeId)
    (ho : o.op = .call { callee := .builtin .append, args := #[s, x], argTypes := #[t, t] })
    (e : TypeId) (i : TypeInfo) (z : Value) (bytes : Nat) (ht : P.underlying t = some (.slice e)) (hi : P.info? e = some i) (hz : i.zero = some z)
    (hsize : i.size = 1) (hby : i.bytes = bytes) (hzs : z.cells.size = 1) (hpos : 1 ≤ bytes)
    (hs : a.eval s = .slice (some ⟨w.heap.size, 0, none⟩) 0 0) (ao : Option Addr) (n c : Nat) (us : List Value) (hx : a.eval x = .slice ao n c) (hl : us.length = n) (h1 : ∀ u ∈ us, u.oneCell' = true) (hsrc : ∀ ad, ao = some ad → ∀ j u, us[j]? = some u → w.cell? (ad.add j) = some u) (hnil : ao = none → n = 0 ∧ c = 0) (hbytes : n * bytes ≤ 140737488355328)
    (h : ∀ a' c' w', Sl w' e (.slice a' n c') n us → Below w.heap.size w w' → (∀ g, (Value.slice a' n c').ownBlock = some g → w.heap.size ≤ g) → wpList P ops Q rest (a.put o.dst (.slice a' n c')) w') : wpList P ops Q (o :: rest) a (w.alloc (.cells #[] e)) := by
  have hown : Sl (w.alloc (.cells #[] e)) e (.slice (some ⟨w.heap.size, 0, none⟩) 0 0) 0 [] := World.ownsRow_lit (e := e) (size := 1) w #[] 0 (Nat.zero_le _) (by simp [maxLen]) rfl
  have hB : Below w.heap.size w (w.alloc (.cells #[] e)) := (Below.refl _ w).alloc (Nat.le_refl _) _
  cases ao with
  | none =>
    obtain ⟨rfl, rfl⟩ := hnil rfl
    obtain rfl : us = [] := List.eq_nil_of_length_eq_zero hl
    have hrun := run_append_owned_none (P := P) (w.alloc (.cells #[] e)) 0 t o.type e i 1 ht hi _ 0 [] hown
    refine wpList_plain hgd fun _ hK => ?_
    unfold Oper.wp execOp
    simp only [ho, resolve, invoke, builtin, Sem.run_bind, Sem.run_pure, Result.andThen_ok, List.map_toArray, List.map_cons, List.map_nil, hs, hx, hrun]
    refine hK _ _ (h _ _ _ hown hB (fun g hg => ?_))
    have e' : some w.heap.size = some g := hg
    cases e'; exact Nat.le_refl _
  | some ad =>
    have hsrc' : ∀ j u, us[j]? = some u → (w.alloc (.cells #[] e)).cell? (ad.add j) = some u := by
      intro j u hu
      have := hsrc ad rfl j u hu
      rw [World.cell?_alloc_lt _ _ _ (World.block_lt_of_cell? w _ this), this]
    refine wpList_append_strong hgd s x t ho e i z bytes ht hi hz hsize hby hzs hpos _ 0 [] hs hown ad n c us hx hl hsrc' h1 (by rw [Nat.zero_add]; exact hbytes) fun v' w' h2 h3 h4 => ?_
    rw [Nat.zero_add, List.nil_append] at h2
    obtain ⟨a', c', rfl, _⟩ := h2.shape
    refine h a' c' w' h2 (fresh_below h3) (fun g hg => ?_)
    rcases h4 with h4 | ⟨g', h4, hge⟩
    · rw [hg] at h4
      have e' : some g = some w.heap.size := h4
      cases e'; exact Nat.le_refl _
    · rw [hg] at h4; cases h4
      have : (w.alloc (.cells #[] e)).heap.size = w.heap.size + 1 := by simp
      omega

/-- The slice of texts behind it. -/
theorem rows_snoc {S : Nat → Prop} {w w1 w3 w4 : World} {X : List (List Int)} {us : List Value} {n c2 a3c g c4 : Nat} {a2 a3 : Option Addr} {bs : List Int} (hX : X.length = n) (hl : us.length = n)
    (hT : ∀ i (hi : i < us.length), TextAt S w us[i] (X.getD i [])) (hb : Below w.heap.size w w1) (hg : ∀ b, (Value.slice a2 n c2).ownBlock = some b → w.heap.size ≤ b ∧ b < w1.heap.size)
    (hm : MadeInts .u8 5 w1 w3 (.slice a3 bs.length a3c) bs) (hs : Sl w4 23 (.slice (some ⟨g, 0, none⟩) (n + 1) c4) (n + 1) (us ++ [.slice a3 bs.length a3c])) (hk : Kept (fun b => (Value.slice a2 n c2).ownBlock = some b) w3 w4) (hmv : (Value.slice a2 n c2).ownBlock = some g ∨ w3.heap.size ≤ g) :
    Rows (fun b => S b ∨ w.heap.size ≤ b) w4 (some ⟨g, 0, none⟩) (n + 1) (X ++ [bs]) := by
  have s1 := hb.size
  have s3 := (made_below hm).size
  have hgw : w.heap.size ≤ g := by
    rcases hmv with h | h
    · exact (hg g h).1
    · omega
  refine ⟨by simp [hX], .inr ⟨g, 0, rfl, .inr hgw, fun i hi => ?_⟩⟩
  rw [Nat.zero_add, World.ownsRow.cellAt (size := 1) hs i (by omega)]
  by_cases hlt : i < n
  · refine ⟨us[i]'(by omega), by rw [List.getElem?_append_left (by omega)]; exact List.getElem?_eq_getElem (by omega), ?_⟩
    rw [getD_append_lt _ _ _ _ (by omega)]
    have h1 := (hT i (by omega)).inside
    have h2 := h1.kept (Kept.ofBelow hb) (fun b hs hle => by have := hs.2; omega)
    have h3 := h2.kept (Kept.ofBelow (made_below hm)) (fun b hs hle => by have := hs.2; omega)
    have h4 := h3.kept hk (fun b hs e => by have := hs.2; have := (hg b e).1; omega)
    exact h4.mono (fun b h => .inl h.1)
  · obtain rfl : i = n := by omega
    refine ⟨.slice a3 bs.length a3c, by rw [List.getElem?_append_right (by omega), hl, Nat.sub_self]; rfl, ?_⟩
    rw [show (X ++ [bs]).getD i [] = bs by rw [← hX]; exact getD_append_len _ _ _]
    refine ⟨a3, a3c, rfl, RowAt.kept (made_rowAt hm) hk ?_, ?_, ?_⟩
    · intro b off e
      rcases Nat.eq_zero_or_pos bs.length with h0 | h0
      · exact .inl h0
      · right
        intro e'
        obtain ⟨a', cap, hv, _⟩ := hm.1.shape
        have hob : (Value.slice a3 bs.length a3c).ownBlock = some b := by
          obtain ⟨_, _, hv', hc⟩ := hm.1.shape
          obtain ⟨g', e1, e2, _⟩ := hc 0 h0
          injection hv' with h1 h2 h3
          subst h1
          rw [e] at e1
          cases e1
          exact e2
        have h1 := hm.2.2 b hob
        have h2 := (hg b e').2
        omega
    · intro hn
      subst hn
      rcases hm.1.2 with ⟨h1, h2⟩ | ⟨g', cap, cur, h1, _⟩
      · injection h1 with _ _ h3
        exact ⟨h2, h3⟩
      · injection h1 with h1 _ _; cases h1
    · intro b off e
      rcases Nat.eq_zero_or_pos bs.length with h0 | h0
      · exact .inl h0
      · right; right
        have hob : (Value.slice a3 bs.length a3c).ownBlock = some b := by
          obtain ⟨_, _, hv', hc⟩ := hm.1.shape
          obtain ⟨g', e1, e2, _⟩ := hc 0 h0
          injection hv' with h1 h2 h3
          subst h1
          rw [e] at e1
          cases e1
          exact e2
        have := hm.2.2 b hob
        omega

theorem results_tmp4 {fn : Func} {t u v x : Tmp} (h : fn.results = #[.tmp t, .tmp u, .tmp v, .tmp x]) (tmps : Array Value) (P : Program) (w : World) :
    (results fn tmps).run P w = .ok (.tuple #[tmps.getD t undef, tmps.getD u undef, tmps.getD v undef, tmps.getD x undef]) w := by
  simp [results, h]

/-- What the reference's Add answers. -/
def RefDone (S : Nat → Prop) (X : List (List Int)) (mo : Int) (bs : List Int) (w : World) (e : Ending) (w' : World) : Prop :=
  ∃ a' c', e = .returned (.tuple #[.slice a' (addT X mo bs).length c', .int .i64 (addN X mo bs), .bool (addP X mo bs), .int .i64 (addE X mo bs)]) ∧ Rows (fun b => S b ∨ w.heap.size ≤ b) w' a' (addT X mo bs).length (addT X mo bs) ∧ (a' = none → (addT X mo bs).length = 0 ∧ c' = 0) ∧ Below w.heap.size w w'

set_option maxHeartbeats 1000000 in
theorem refAdd_any (S : Nat → Prop) (a : Option Addr) (n c : Nat) (X : List (List Int)) (mo : Int) (b : Option Addr) (m d : Nat) (bs : List Int) (w : World) (hr : Rows S w a n X) (hX : ∀ t ∈ X, IsBytes t) (hnd : X.Nodup) (hn : n ≤ 65536) (hnil : a = none → n = 0 ∧ c = 0) (hb : RowAt .u8 w b m bs) (hbnil : b = none → m = 0 ∧ d = 0) (hm : m ≤ 1099511627776) (hbs : IsBytes bs) :
    Calls Try.prog 12 #[.slice a n c, .int .i64 mo, .slice b m d] w (RefDone S X mo bs w) := by
  have HF := Lib.hid (refFind_any S a n c X b m d bs w hr hX hnd (by omega) hb hbs)
  have HL : Hid (X.length = n) := hr.1
  have HR := Lib.hid hr
  have HB := Lib.hid hb
  by_cases hin : bs ∈ X
  · have HX : Hid (RefDone S X mo bs w = fun e w' => ∃ a' c', e = .returned (.tuple #[.slice a' n c', .int .i64 (idx X bs), .bool false, .int .i64 0]) ∧ Rows (fun b => S b ∨ w.heap.size ≤ b) w' a' n X ∧ (a' = none → n = 0 ∧ c' = 0) ∧ Below w.heap.size w w') := by
      show _ = _
      unfold RefDone addN addP addE addT
      rw [if_pos hin, if_pos hin, if_pos hin, if_pos (.inl hin), HL.out]
    obtain ⟨i, _, _, hi⟩ := idx_pos hin
    have t0 : Hid (idx X bs = (i : Int)) := hi
    have HNL := Lib.hid hnil
    clear hr hb hX hnd hbs hin hi hnil hbnil
    rw [HX.out]
    clear HX
    rw [t0.out] at HF ⊢
    have t1 : decide ((0 : Int) ≤ (i : Int)) = true := decide_eq_true (by omega)
    go_enter Try.func12, Try.ntmps12
    go_wp2_with fail
    refine HF.out.mono ?_
    rintro e w1 ⟨rfl, hb1⟩
    have HBB := Lib.hid hb1
    clear hb1
    go_wp2
    (try simp only [Exit.inBlock, Exit.then]); refine bodyPost_ret (results_tmp4 rfl _ _ _) rfl ?_
    exact ⟨a, c, rfl, (HR.out.below HBB.out).mono (fun _ h => .inl h), HNL.out, HBB.out⟩
  have hi := idx_neg hin
  by_cases hfull : mo ≤ (X.length : Int)
  · have HX : Hid (RefDone S X mo bs w = fun e w' => ∃ a' c', e = .returned (.tuple #[.slice a' n c', .int .i64 0, .bool false, .int .i64 14]) ∧ Rows (fun b => S b ∨ w.heap.size ≤ b) w' a' n X ∧ (a' = none → n = 0 ∧ c' = 0) ∧ Below w.heap.size w w') := by
      show _ = _
      unfold RefDone addN addP addE addT
      rw [if_neg hin, if_neg hin, if_neg hin, if_pos hfull, if_pos hfull, if_pos hfull, if_pos (.inr hfull), HL.out]
    have t1 : decide (mo ≤ (n : Int)) = true := decide_eq_true (by rw [← HL.out]; exact hfull)
    have HNL := Lib.hid hnil
    clear hr hb hX hnd hbs hin hnil hbnil hfull
    rw [HX.out]
    clear HX
    rw [hi] at HF
    clear hi
    go_enter Try.func12, Try.ntmps12
    go_wp2_with fail
    refine HF.out.mono ?_
    rintro e w1 ⟨rfl, hb1⟩
    have HBB := Lib.hid hb1
    clear hb1
    go_wp2
    (try simp only [Exit.inBlock, Exit.then]); refine bodyPost_ret (results_tmp4 rfl _ _ _) rfl ?_
    exact ⟨a, c, rfl, (HR.out.below HBB.out).mono (fun _ h => .inl h), HNL.out, HBB.out⟩
  · have HX : Hid (RefDone S X mo bs w = fun e w' => ∃ a' c', e = .returned (.tuple #[.slice a' (n + 1) c', .int .i64 (n : Int), .bool true, .int .i64 0]) ∧ Rows (fun b => S b ∨ w.heap.size ≤ b) w' a' (n + 1) (X ++ [bs]) ∧ (a' = none → n + 1 = 0 ∧ c' = 0) ∧ Below w.heap.size w w') := by
      show _ = _
      unfold RefDone addN addP addE addT
      rw [if_neg hin, if_neg hin, if_neg hin, if_neg hfull, if_neg hfull, if_neg hfull, if_neg (by rintro (h | h); exact hin h; exact hfull h), HL.out, List.length_append, HL.out]; rfl
    have t1 : decide (mo ≤ (n : Int)) = false := decide_eq_false (by rw [← HL.out]; exact hfull)
    obtain ⟨i0, hi0, hz0, hz1, hz2⟩ := info_parts Try.info5
    obtain ⟨i1, hi1, hy0, hy1, hy2⟩ := info_parts Try.info23
    have hlen : Hid (bs.length = m) := HB.out.1
    clear hr hb hX hnd hbs hin hfull
    rw [HX.out]
    clear HX
    rw [hi] at HF
    clear hi
    go_enter Try.func12, Try.ntmps12
    go_wp2_with fail
    refine HF.out.mono ?_
    rintro e w1 ⟨rfl, hb1⟩
    have HBB := Lib.hid hb1
    obtain ⟨us, hul, hu1, husrc, hut⟩ := (HR.out.below hb1).vals
    have HUL := Lib.hid hul
    have HU1 := Lib.hid hu1
    have HUS := Lib.hid husrc
    have HUT := Lib.hid hut
    clear hb1 hul hu1 husrc hut
    go_wp2_with (first
      | (at_builtin; refine wpList_clone_vals rfl (.tmp 24) (.tmp 25) 22 rfl 23 i1 (.slice none 0 0) 24 Try.underlying22 hi1 hy0 hy1 hy2 rfl (by decide) rfl a n c us rfl HUL.out HU1.out HUS.out hnil (by omega) ?_; intro a2 c2 w2 hs2 hb2 hg2; have H2 := Lib.hid hs2; have HB2 := Lib.hid hb2; have HG2 := Lib.hid hg2; have HR2 : Hid (RowAt .u8 w2 b m bs) := (HB.out.below HBB.out).below hb2; clear hs2 hb2 hg2)
      | (at_builtin; refine wpList_clone rfl (.tmp 28) (.tmp 29) 23 rfl .u8 5 i0 (.int .u8 0) 1 Try.underlying23 hi0 hz0 hz1 hz2 rfl (by decide) rfl b m d bs rfl HR2.out hbnil (by omega) ?_; intro a3 c3 w3 hm3; have HM3 := Lib.hid hm3; have H3 : Hid (Sl w3 23 (.slice a2 n c2) n us) := Sl.kept H2.out (Kept.ofBelow (made_below hm3)) (fun g hg => by have := Sl.lt H2.out g hg; omega); clear hm3)
      | (at_builtin; refine wpList_append_one_pos rfl (.tmp 27) (.tmp 31) 22 rfl 23 i1 (.slice none 0 0) 24 Try.underlying22 hi1 hy0 hy1 hy2 rfl (by decide) (.slice a2 n c2) n us rfl H3.out (.slice a3 m c3) rfl rfl (by omega) ?_; intro g4 c4 w4 hs4 hk4 hm4; have H4 := Lib.hid hs4; have HK4 := Lib.hid hk4; have HM4 := Lib.hid hm4; clear hs4 hk4 hm4))
    (try simp only [Exit.inBlock, Exit.then]); refine bodyPost_ret (results_tmp4 rfl _ _ _) rfl ?_
    refine ⟨_, c4, rfl, ?_, (fun h => nomatch h), ?_⟩
    · have s1 := HBB.out.size
      have HM3' : MadeInts .u8 5 w2 w3 (.slice a3 bs.length c3) bs := by rw [hlen.out]; exact HM3.out
      have H4' : Sl w4 23 (.slice (some ⟨g4, 0, none⟩) (n + 1) c4) (n + 1) (us ++ [.slice a3 bs.length c3]) := by rw [hlen.out]; exact H4.out
      exact (rows_snoc HL.out HUL.out HUT.out HB2.out (fun b h => ⟨HG2.out b h, Sl.lt H2.out b h⟩) HM3' H4' HK4.out HM4.out).mono (fun b h => h.imp id (fun h => Nat.le_trans s1 h))
    · have s1 := HBB.out.size
      have s2 := HB2.out.size
      have s3 := (made_below HM3.out).size
      have hK : Below w.heap.size w3 w4 := HK4.out.below (by omega) (fun k hk e => by have := HG2.out k e; omega)
      exact (below_then HBB.out (below_then HB2.out (made_below HM3.out))).trans hK
end Go.Proofs.Ytflnddpbkaeaaaa
