/- The walks of link and Add: what a table is behind them. -/
import Derived.Test.YtflnddpbkaeaaaaG
import Derived.Test.YtflnddpbkaeaaaaStep
import Derived.Test.YtflnddpbkaeaaaaTail
namespace Go.Proofs.Ytflnddpbkaeaaaa
open Go.RowKit Go.Own

theorem max_nat (a b : Nat) : (max (a : Int) (b : Int)) = ((max a b : Nat) : Int) := by omega

/-- A table whose chain k holds n more, and whose longest is told anew. -/
def Linked (g : Nat) (C : Nat → Value) (X : Nat → List Value) (w : World) (k : Nat) (n : Int) (m : Int) (w' : World) : Prop :=
  ∃ v, Tab w' g (upd (upd C k v) 1024 (.int .i64 m)) (upd X k (X k ++ [.int .i64 n])) ∧ Moved w (C k) v ∧ Kept (Foot g C) w w'

theorem kept_of_own {g : Nat} {C : Nat → Value} {w w1 : World} (k : Nat) (hk : k < 1029) (h : Kept (fun b => (C k).ownBlock = some b) w w1) (v : Value) (i : Nat) : Kept (Foot g C) w (w1.setCell ⟨g, i, none⟩ v) :=
  (h.mono fun b _ e => .inr ⟨k, hk, e⟩).setCell (fun _ => .inl rfl) v

theorem link_tab {g : Nat} {C : Nat → Value} {X : Nat → List Value} {w w1 : World} {k : Nat} {aK : Option Addr} {cK : Nat} {zs : List Int} {n : Int} {g1 c1 : Nat} (eK : C k = .slice aK zs.length cK) (eX : X k = zs.map (Value.int .i64)) (hk : k < 1024) (h : Tab w g C X)
    (hs : Sl w1 3 (.slice (some ⟨g1, 0, none⟩) (zs.length + 1) c1) (zs.length + 1) (zs.map (Value.int .i64) ++ [.int .i64 n])) (hkp : Kept (fun b => (Value.slice aK zs.length cK).ownBlock = some b) w w1) (hm : Moved w (.slice aK zs.length cK) (.slice (some ⟨g1, 0, none⟩) (zs.length + 1) c1)) :
    Tab (w1.setCell ⟨g, k, none⟩ (.slice (some ⟨g1, 0, none⟩) (zs.length + 1) c1)) g (upd C k (.slice (some ⟨g1, 0, none⟩) (zs.length + 1) c1)) (upd X k (X k ++ [.int .i64 n])) := by
  refine h.setSl k (.inl hk) _ _ ?_ (by rw [eK]; exact hkp) (by rw [eK]; exact hm)
  rw [eX, show tyOf k = 3 by unfold tyOf; rw [if_neg (by omega)], show (zs.map (Value.int .i64) ++ [Value.int .i64 n]).length = zs.length + 1 by simp]
  exact hs

theorem link_done {g : Nat} {C : Nat → Value} {X : Nat → List Value} {w w2 : World} {k : Nat} {n : Int} {v : Value} {lo l : Nat} (hT : Tab w2 g (upd C k v) (upd X k (X k ++ [.int .i64 n]))) (hM : Moved w (C k) v) (hF : Kept (Foot g C) w w2) :
    Linked g C X w k n (max lo (l + 1) : Nat) ((w2.setCell ⟨g, 1024, none⟩ (.int .i64 (max (lo : Int) ((l : Int) + 1)))).drew) := by
  have e : (max (lo : Int) ((l : Int) + 1)) = ((max lo (l + 1) : Nat) : Int) := by omega
  rw [e]
  refine ⟨v, ?_, hM, (hF.setCell (p := ⟨g, 1024, none⟩) (fun _ => .inl rfl) _).drew⟩
  exact (hT.setPlain 1024 (by decide) (by unfold isSl; omega) _ rfl).kept (S := fun _ => False) (Kept.refl _ _).drew (fun _ _ h => h)

set_option maxHeartbeats 1000000 in
theorem link_any (g : Nat) (C : Nat → Value) (X : Nat → List Value) (w : World) (h : Tab w g C X) (k : Nat) (hk : k < 1024) (n : Int) (lo : Nat) (h24 : C 1024 = .int .i64 (lo : Int)) (zs : List Int) (hX : X k = zs.map (Value.int .i64)) (hz : zs.length ≤ 65536) :
    Calls Try.prog 21 #[.pointer (some ⟨g, 0, none⟩), .int .i64 (k : Int), .int .i64 n] w fun e w' => e = .returned (.tuple #[]) ∧ Linked g C X w k n (max lo (zs.length + 1) : Nat) w' := by
  obtain ⟨i0, hi0, hz0, hz1, hz2⟩ := info_parts Try.info3
  have hsk : isSl k := .inl hk
  have sK : Sl w 3 (C k) (X k).length (X k) := by
    have := h.sl k hsk
    rwa [show tyOf k = 3 by unfold tyOf; rw [if_neg (by omega)]] at this
  obtain ⟨aK, cK, eK, rK, lK, mK, nK⟩ := tab_nums zs sK hX
  have ck := h.cell k (by omega)
  have ckH := Lib.hid ck
  rw [eK] at ck sK
  rw [hX, List.length_map] at sK
  have H := Lib.hid h
  have HS := Lib.hid sK
  have HE := Lib.hid eK
  have HX := Lib.hid hX
  have H24 := Lib.hid h24
  have kI : (k : Int) < 1024 := by omega
  have ck2 : (w.alloc (.cells #[.int .i64 n] 3)).cell? ⟨g, k, none⟩ = some (.slice aK zs.length cK) := by rw [World.cell?_alloc_lt _ _ _ h.lt]; exact ck
  have hff := Lib.hid (h.froz k)
  have hoff := Lib.hid (h.off k (by omega))
  have hglt := Lib.hid h.lt
  clear h sK eK hX h24 rK lK mK nK
  go_enter Try.func21, Try.ntmps21
  go_wp2_with fail
  go_region_law (refine step_append_one rfl (.tmp 13) (.tmp 15) 40 rfl 3 i0 (.int .i64 0) 8 Try.underlying40 hi0 hz0 hz1 hz2 rfl (by decide) w (.int .i64 n) rfl rfl (.slice aK zs.length cK) zs.length _ rfl HS.out rfl (by omega) ?_; intro g1 c1 w1 hs hkp hmv; have ck1 := hkp.cellSome ckH.out (by rw [HE.out] at hoff; exact hoff.out); have fk1 := (World.frozen?_of_block (hkp.block g hglt.out (by rw [HE.out] at hoff; exact hoff.out))).trans hff.out; have HN := Lib.hid hs; have HK := Lib.hid hkp; have HM := Lib.hid hmv; clear hs hkp hmv)
  all_goals (
    have HT : Hid (Tab (w1.setCell ⟨g, k, none⟩ (.slice (some ⟨g1, 0, none⟩) (zs.length + 1) c1)) g (upd C k (.slice (some ⟨g1, 0, none⟩) (zs.length + 1) c1)) (upd X k (X k ++ [.int .i64 n]))) :=
      link_tab HE.out HX.out hk H.out HN.out HK.out HM.out
    have HF : Hid (Kept (Foot g C) w (w1.setCell ⟨g, k, none⟩ (.slice (some ⟨g1, 0, none⟩) (zs.length + 1) c1))) := kept_of_own k (by omega) (by rw [HE.out]; exact HK.out) _ _
    have HM' : Hid (Moved w (C k) (.slice (some ⟨g1, 0, none⟩) (zs.length + 1) c1)) := by rw [HE.out]; exact HM.out
    generalize w1.setCell ⟨g, k, none⟩ (.slice (some ⟨g1, 0, none⟩) (zs.length + 1) c1) = w2 at *
    have c24 := HT.out.cell 1024 (by decide)
    rw [upd_other _ _ _ _ (by omega), H24.out] at c24
    have cK2 := HT.out.cell k (by omega)
    rw [upd_same] at cK2
    have f24 := HT.out.froz 1024
    clear ck ck2 ck1 fk1
    go_wp2_with fail
    refine wp_region_quiet_tail 15 (by kernel_rfl) (by kernel_rfl) ?_
    simp only [List.take_succ_cons, List.take_zero, List.drop_succ_cons, List.drop_zero]
    repeat (go_big_quiet_step (fail))
    refine wpQuiet_nil ?_
    go_wp2
    go_end0
    exact ⟨rfl, link_done HT.out HM'.out HF.out⟩)

/-- 'append(v, src...)', src whatever row, nil too. -/
theorem wpList_append_any {P : Program} {w : World} {ops : Array Oper} {rest : List Oper} {o : Oper} {a : Act} {Q : Exit → Act → World → Prop} (hgd : o.guard = none) (s x : Operand) (t : TypeId)
    (ho : o.op = .call { callee := .builtin .append, args := #[s, x], argTypes := #[t, t] })
    (k : IntKind) (e : TypeId) (i : TypeInfo) (z : Value) (bytes : Nat) (ht : P.underlying t = some (.slice e)) (hi : P.info? e = some i) (hz : i.zero = some z)
    (hsize : i.size = 1) (hby : i.bytes = bytes) (hzs : z.cells.size = 1) (hpos : 1 ≤ bytes)
    (v : Value) (n : Nat) (xs : List Value) (hs : a.eval s = v) (hown : Sl w e v n xs) (ao : Option Addr) (m c : Nat) (zs : List Int) (hx : a.eval x = .slice ao m c) (hr : RowAt k w ao m zs) (hnil : ao = none → m = 0 ∧ c = 0) (N : Nat) (hN : n + m = N) (hbytes : N * bytes ≤ 140737488355328)
    (h : ∀ a' c' w', Sl w' e (.slice a' N c') N (xs ++ zs.map (Value.int k)) → Kept (fun b => v.ownBlock = some b) w w' → Moved w v (.slice a' N c') → wpList P ops Q rest (a.put o.dst (.slice a' N c')) w') : wpList P ops Q (o :: rest) a w := by
  subst hN
  cases ao with
  | none =>
    obtain ⟨rfl, rfl⟩ := hnil rfl
    obtain rfl : zs = [] := List.eq_nil_of_length_eq_zero hr.1
    have hrun := run_append_owned_none (P := P) w 0 t o.type e i 1 ht hi v n xs hown
    refine wpList_plain hgd fun _ hK => ?_
    unfold Oper.wp execOp
    simp only [ho, resolve, invoke, builtin, Sem.run_bind, Sem.run_pure, Result.andThen_ok, List.map_toArray, List.map_cons, List.map_nil, hs, hx, hrun]
    obtain ⟨a', c', rfl, _⟩ := hown.shape
    refine hK _ _ (h a' c' w ?_ (Kept.refl _ _) (.inl rfl))
    simpa using hown
  | some ad =>
    have hsrc : ∀ j u, (zs.map (Value.int k))[j]? = some u → w.cell? (ad.add j) = some u := by
      intro j u hu
      have hj : j < zs.length := by simpa using (List.getElem?_eq_some_iff.1 hu).1
      have hl := hr.1
      obtain ⟨ad', e', hc⟩ := row_src hr (by omega)
      cases e'
      exact hc j u hu
    refine wpList_append_strong hgd s x t ho e i z bytes ht hi hz hsize hby hzs hpos v n xs hs hown ad m c (zs.map (Value.int k)) hx (by rw [List.length_map]; exact hr.1) hsrc (ints_oneCell _ _) hbytes fun v' w' h2 h3 h4 => ?_
    obtain ⟨a', c', rfl, _⟩ := h2.shape
    exact h a' c' w' h2 h3 h4
end Go.Proofs.Ytflnddpbkaeaaaa
