/- The walk of Add. -/
import Derived.Test.YtflnddpbkaeaaaaH
namespace Go.Proofs.Ytflnddpbkaeaaaa
open Go.RowKit Go.Own

/-- What Add answers, and what the table is behind it. -/
def addT (T : List (List Int)) (mo : Int) (bs : List Int) : List (List Int) := if bs ∈ T ∨ mo ≤ (T.length : Int) then T else T ++ [bs]
def addN (T : List (List Int)) (mo : Int) (bs : List Int) : Int := if bs ∈ T then idx T bs else if mo ≤ (T.length : Int) then 0 else (T.length : Int)
def addP (T : List (List Int)) (mo : Int) (bs : List Int) : Bool := if bs ∈ T then false else if mo ≤ (T.length : Int) then false else true
def addE (T : List (List Int)) (mo : Int) (bs : List Int) : Int := if bs ∈ T then 0 else if mo ≤ (T.length : Int) then 14 else 0
def AddDone (g : Nat) (mo : Int) (T : List (List Int)) (F : Nat → Prop) (bs : List Int) (w : World) (e : Ending) (w' : World) : Prop :=
  e = .returned (.tuple #[.int .i64 (addN T mo bs), .bool (addP T mo bs), .int .i64 (addE T mo bs)]) ∧ ∃ F', IsTab w' g mo (addT T mo bs) F' ∧ Kept F w w' ∧ ∀ b, F' b → F b ∨ w.heap.size ≤ b

theorem kept_of_below {F : Nat → Prop} {w w' : World} (h : Below w.heap.size w w') : Kept F w w' := (Kept.ofBelow h).mono fun k hk hle => by omega

theorem add_same {g : Nat} {mo : Int} {T : List (List Int)} {F : Nat → Prop} {w w' : World} (h : IsTab w g mo T F) (hb : Below w.heap.size w w') : ∃ F', IsTab w' g mo T F' ∧ Kept F w w' ∧ ∀ b, F' b → F b ∨ w.heap.size ≤ b :=
  ⟨F, h.below hb, kept_of_below hb, fun _ h => .inl h⟩

theorem IsTab.mostC {w : World} {g : Nat} {mo : Int} {T : List (List Int)} {F : Nat → Prop} (h : IsTab w g mo T F) : w.cell? ⟨g, 1025, none⟩ = some (.int .i64 mo) := by
  obtain ⟨C, X, h⟩ := h
  have := h.tab.cell 1025 (by decide)
  rw [h.most] at this; exact this

theorem tyOf_26 : tyOf 1026 = 5 := rfl
theorem tyOf_27 : tyOf 1027 = 3 := rfl

/-- What all of it comes to. -/
theorem add_done {g : Nat} {mo : Int} {T : List (List Int)} {F : Nat → Prop} {bs : List Int} {C : Nat → Value} {X : Nat → List Value} {w w1 w2 w3 w4 : World} {va ve : Value} {N : Nat} (hN : T.flatten.length + bs.length = N)
    (hb : Below w.heap.size w w1) (h : TabT w1 g mo T F C X) (hF0 : ∀ b, F b → b < w.heap.size) (hbs : IsBytes bs) (hnew : bs ∉ T)
    (ha : Moved w1 (C 1026) va) (k2 : Kept (Foot g C) w1 w2)
    (he : Moved w2 (C 1027) ve) (k3 : Kept (Foot g (upd C 1026 va)) w2 w3)
    (hl : Linked g (upd (upd C 1026 va) 1027 ve) (upd (upd X 1026 (X 1026 ++ bs.map (Value.int .u8))) 1027 (X 1027 ++ [.int .i64 (N : Int)])) w3 (bk bs) (T.length : Int) (max (longN T T.length) ((chain (bk bs) T).length + 1) : Nat) w4) :
    ∃ F', IsTab w4 g mo (T ++ [bs]) F' ∧ Kept F w w4 ∧ ∀ b, F' b → F b ∨ w.heap.size ≤ b := by
  subst hN
  obtain ⟨vk, hT, hm, k4⟩ := hl
  have hk := bk_lt bs
  have f1 := foot_upd (w := w1) (g := g) (C := C) 1026 (by decide) va ha
  have f2 := foot_upd (w := w2) (g := g) (C := upd C 1026 va) 1027 (by decide) ve (by rw [upd_other _ _ _ _ (by decide)]; exact he)
  have f3 := foot_upd (w := w3) (g := g) (C := upd (upd C 1026 va) 1027 ve) (bk bs) (by omega) vk hm
  have s12 := k2.size
  have s23 := k3.size
  have s34 := k4.size
  have s01 := hb.size
  -- the feet, one behind the other, are the old ones or new blocks
  have g1 : ∀ b, Foot g (upd C 1026 va) b → F b ∨ w.heap.size ≤ b := fun b h' => (f1 b h').elim (fun x => .inl (h.foot b x)) (fun x => .inr (by omega))
  have g2 : ∀ b, Foot g (upd (upd C 1026 va) 1027 ve) b → F b ∨ w.heap.size ≤ b := fun b h' => (f2 b h').elim (g1 b) (fun x => .inr (by omega))
  have g3 : ∀ b, Foot g (upd (upd (upd C 1026 va) 1027 ve) (bk bs) vk) b → F b ∨ w.heap.size ≤ b := fun b h' => (f3 b h').elim (g2 b) (fun x => .inr (by omega))
  have g4 : ∀ b, Foot g (upd (upd (upd (upd C 1026 va) 1027 ve) (bk bs) vk) 1024 (.int .i64 (max (longN T T.length) ((chain (bk bs) T).length + 1) : Nat))) b → F b ∨ w.heap.size ≤ b := fun b h' => g3 b (foot_upd_plain 1024 _ rfl b h')
  have q1 : upd (upd X 1026 (X 1026 ++ bs.map (Value.int .u8))) 1027 (X 1027 ++ [.int .i64 ((T.flatten.length + bs.length : Nat) : Int)]) (bk bs) = (chain (bk bs) T).map (Value.int .i64) := by
    rw [upd_other _ _ _ _ (by omega), upd_other _ _ _ _ (by omega), h.heads _ hk]
  have key : TabT w4 g mo (T ++ [bs]) _ _ _ := {
    tab := hT
    long := by rw [upd_same, longN_new]
    most := by rw [upd_other _ _ _ _ (by decide), upd_other _ _ _ _ (by omega), upd_other _ _ _ _ (by decide), upd_other _ _ _ _ (by decide), h.most]
    made := by rw [upd_other _ _ _ _ (by decide), upd_other _ _ _ _ (by omega), upd_other _ _ _ _ (by decide), upd_other _ _ _ _ (by decide), h.made]
    heads := fun k hlt => by
      by_cases e : k = bk bs
      · subst e
        rw [upd_same, q1, chain_same, List.map_append]; rfl
      · rw [upd_other _ _ _ _ e, upd_other _ _ _ _ (by omega), upd_other _ _ _ _ (by omega), h.heads _ hlt, chain_other _ _ _ (fun h => e h.symm)]
    all := by rw [upd_other _ _ _ _ (by omega), upd_other _ _ _ _ (by decide), upd_same, h.all]; simp
    ends := by rw [upd_other _ _ _ _ (by omega), upd_same, h.ends, ends_snoc, List.map_append]; rfl
    foot := fun _ h => h
    lt := hT.foot_lt
    nodup := by
      rw [List.nodup_append]
      exact ⟨h.nodup, by simp, fun a ha b hb' => by rintro rfl; simp at hb'; exact hnew (hb' ▸ ha)⟩
    bytes := fun t ht => by
      rcases List.mem_append.1 ht with ht | ht
      · exact h.bytes t ht
      · simp at ht; subst ht; exact hbs }
  refine ⟨_, ⟨_, _, key⟩, ?_, g4⟩
  · have K1 : Kept F w w1 := kept_of_below hb
    have K2 : Kept F w w2 := K1.then (T := Foot g C) k2 (fun i _ hf => h.foot i hf)
    have K3 : Kept F w w3 := K2.then (T := Foot g (upd C 1026 va)) k3 (fun i hi hf => (g1 i hf).elim id (fun x => absurd hi (by omega)))
    exact K3.then (T := Foot g (upd (upd C 1026 va) 1027 ve)) k4 (fun i hi hf => (g2 i hf).elim id (fun x => absurd hi (by omega)))

theorem sl_tab {g k : Nat} {e : TypeId} {C : Nat → Value} {X : Nat → List Value} {w w1 : World} {aK : Option Addr} {n cK N : Nat} {xs ys : List Value} {a' : Option Addr} {c' : Nat} (hk : isSl k) (he : tyOf k = e) (eK : C k = .slice aK n cK) (eX : X k = xs) (h : Tab w g C X)
    (hs : Sl w1 e (.slice a' N c') N (xs ++ ys)) (hl : (xs ++ ys).length = N) (hkp : Kept (fun b => (Value.slice aK n cK).ownBlock = some b) w w1) (hm : Moved w (.slice aK n cK) (.slice a' N c')) :
    Tab (w1.setCell ⟨g, k, none⟩ (.slice a' N c')) g (upd C k (.slice a' N c')) (upd X k (X k ++ ys)) := by
  refine h.setSl k hk _ _ ?_ (by rw [eK]; exact hkp) (by rw [eK]; exact hm)
  rw [eX, he, hl]
  exact hs

set_option maxHeartbeats 1000000 in
theorem add_any (g : Nat) (mo : Int) (T : List (List Int)) (F : Nat → Prop) (w : World) (h : IsTab w g mo T F) (a : Option Addr) (n c : Nat) (bs : List Int) (hb : RowAt .u8 w a n bs) (hnil : a = none → n = 0 ∧ c = 0) (hbs : IsBytes bs)
    (hsz : T.flatten.length + n ≤ 1099511627776) (hT : T.length ≤ 65536) :
    Calls Try.prog 11 #[.pointer (some ⟨g, 0, none⟩), .slice a n c] w (AddDone g mo T F bs w) := by
  have HI := Lib.hid (is_any g true w h.made)
  have HL := Lib.hid (look_any g mo T F w h a n c bs hb (by omega) hbs)
  have H := Lib.hid h
  have HR := Lib.hid hb
  obtain ⟨aE, cE, c27, _⟩ := h.endsC
  have c25 := h.mostC
  by_cases hin : bs ∈ T
  · have HX : Hid (AddDone g mo T F bs w = fun e w' => e = .returned (.tuple #[.int .i64 (idx T bs), .bool false, .int .i64 0]) ∧ ∃ F', IsTab w' g mo T F' ∧ Kept F w w' ∧ ∀ b, F' b → F b ∨ w.heap.size ≤ b) := by
      show _ = _
      unfold AddDone addN addP addE addT
      rw [if_pos hin, if_pos hin, if_pos hin, if_pos (.inl hin)]
    obtain ⟨i, _, _, hi⟩ := idx_pos hin
    have t0 : Hid (idx T bs = (i : Int)) := hi
    clear h hb hbs hin hi c27 c25 hnil
    rw [HX.out]
    clear HX
    rw [t0.out] at HL ⊢
    have t1 : decide ((0 : Int) ≤ (i : Int)) = true := decide_eq_true (by omega)
    go_enter Try.func11, Try.ntmps11
    go_wp2_with fail
    refine HI.out.mono ?_
    rintro e w1 ⟨rfl, rfl⟩
    go_wp2_with fail
    refine HL.out.mono ?_
    rintro e w1 ⟨rfl, hb1⟩
    have HB := Lib.hid hb1
    clear hb1
    go_wp2
    go_ret3
    exact ⟨rfl, add_same H.out HB.out⟩
  have hi := idx_neg hin
  have hmin : Hid (bs ∉ T) := hin
  by_cases hfull : mo ≤ (T.length : Int)
  · have HX : Hid (AddDone g mo T F bs w = fun e w' => e = .returned (.tuple #[.int .i64 0, .bool false, .int .i64 14]) ∧ ∃ F', IsTab w' g mo T F' ∧ Kept F w w' ∧ ∀ b, F' b → F b ∨ w.heap.size ≤ b) := by
      show _ = _
      unfold AddDone addN addP addE addT
      rw [if_neg hin, if_neg hin, if_neg hin, if_pos hfull, if_pos hfull, if_pos hfull, if_pos (.inr hfull)]
    have t1 : decide (mo ≤ (T.length : Int)) = true := decide_eq_true hfull
    have H25 := Lib.hid c25
    have H27 := Lib.hid c27
    clear h hb hbs hnil hin hfull c25 c27
    rw [HX.out]
    clear HX
    rw [hi] at HL
    clear hi
    go_enter Try.func11, Try.ntmps11
    go_wp2_with fail
    refine HI.out.mono ?_
    rintro e w1 ⟨rfl, rfl⟩
    go_wp2_with fail
    refine HL.out.mono ?_
    rintro e w1 ⟨rfl, hb1⟩
    have HB := Lib.hid hb1
    have d25 := (hb1.cell (World.block_lt_of_cell? w _ H25.out)).trans H25.out
    have d27 := (hb1.cell (World.block_lt_of_cell? w _ H27.out)).trans H27.out
    clear hb1
    go_wp2
    go_ret3
    exact ⟨rfl, add_same H.out HB.out⟩
  · have HX : Hid (AddDone g mo T F bs w = fun e w' => e = .returned (.tuple #[.int .i64 (T.length : Int), .bool true, .int .i64 0]) ∧ ∃ F', IsTab w' g mo (T ++ [bs]) F' ∧ Kept F w w' ∧ ∀ b, F' b → F b ∨ w.heap.size ≤ b) := by
      show _ = _
      unfold AddDone addN addP addE addT
      rw [if_neg hin, if_neg hin, if_neg hin, if_neg hfull, if_neg hfull, if_neg hfull, if_neg (by rintro (h | h); exact hin h; exact hfull h)]
    have t1 : decide (mo ≤ (T.length : Int)) = false := decide_eq_false hfull
    have H0 := Lib.hid h.lt
    clear h hb hin hfull c25 c27
    rw [HX.out]
    clear HX
    rw [hi] at HL
    clear hi
    obtain ⟨i0, hi0, hz0, hz1, hz2⟩ := info_parts Try.info5
    obtain ⟨i1, hi1, hy0, hy1, hy2⟩ := info_parts Try.info3
    go_enter Try.func11, Try.ntmps11
    go_wp2_with fail
    refine HI.out.mono ?_
    rintro e w1 ⟨rfl, rfl⟩
    go_wp2_with fail
    refine HL.out.mono ?_
    rintro e w1 ⟨rfl, hb1⟩
    have HB := Lib.hid hb1
    have HR1 := Lib.hid (HR.out.below hb1)
    have hlen : Hid (bs.length = n) := HR1.out.1
    obtain ⟨C, X, h⟩ := H.out.below hb1
    have HT := Lib.hid h
    have s26 : Sl w1 5 (C 1026) (X 1026).length (X 1026) := h.tab.sl 1026 (by unfold isSl; omega)
    have s27 : Sl w1 3 (C 1027) (X 1027).length (X 1027) := h.tab.sl 1027 (by unfold isSl; omega)
    obtain ⟨aA, cA, eA, rA, lA, mA, nA⟩ := tab_nums _ s26 h.all
    obtain ⟨aF, cF, eF, rF, lF, mF, nF⟩ := tab_nums _ s27 h.ends
    have c25 := h.tab.cell 1025 (by decide)
    rw [h.most] at c25
    have c26 := h.tab.cell 1026 (by decide)
    have c27 := h.tab.cell 1027 (by decide)
    have K26 := Lib.hid c26
    rw [eA] at c26 s26
    rw [eF] at c27 s27
    rw [h.all, List.length_map] at s26
    rw [h.ends, List.length_map, ends_len] at s27
    rw [ends_len] at *
    have S26 := Lib.hid s26
    have S27 := Lib.hid s27
    have EA := Lib.hid eA
    have EF := Lib.hid eF
    have f26 := Lib.hid (h.tab.froz 1026)
    have o26 := Lib.hid (h.tab.off 1026 (by decide))
    have glt := Lib.hid h.tab.lt
    clear s26 s27 eA eF h rA lA mA nA rF lF mF nF hb1
    obtain ⟨N, hN⟩ : ∃ N, T.flatten.length + n = N := ⟨_, rfl⟩
    obtain ⟨L, hL⟩ : ∃ L, T.flatten.length = L := ⟨_, rfl⟩
    simp only [hL] at c26 S26 EA hsz hN
    have HLL := Lib.hid hL
    clear hL
    have hN' := Lib.hid hN
    go_wp2_with (at_builtin; refine wpList_append_any rfl (.tmp 36) (.tmp 37) 23 rfl .u8 5 i0 (.int .u8 0) 1 Try.underlying23 hi0 hz0 hz1 hz2 rfl (by decide) (.slice aA L cA) L _ rfl S26.out a n c bs rfl HR1.out hnil N hN (by omega) ?_; intro a2 c2 w2 hs hkp hmv; have ck1 := hkp.cellSome K26.out (by rw [EA.out] at o26; exact o26.out); have fk1 := (World.frozen?_of_block (hkp.block g glt.out (by rw [EA.out] at o26; exact o26.out))).trans f26.out; have HN := Lib.hid hs; have HK := Lib.hid hkp; have HM := Lib.hid hmv; clear hs hkp hmv)
    have HT2 : Hid (Tab (w2.setCell ⟨g, 1026, none⟩ (.slice a2 N c2)) g (upd C 1026 (.slice a2 N c2)) (upd X 1026 (X 1026 ++ bs.map (Value.int .u8)))) :=
      sl_tab (by unfold isSl; omega) tyOf_26 EA.out HT.out.all HT.out.tab HN.out (by rw [List.length_append, List.length_map, List.length_map, HLL.out, hlen.out, hN'.out]) HK.out HM.out
    have HF2 : Hid (Kept (Foot g C) w1 (w2.setCell ⟨g, 1026, none⟩ (.slice a2 N c2))) := kept_of_own 1026 (by decide) (by rw [EA.out]; exact HK.out) _ _
    have HM2 : Hid (Moved w1 (C 1026) (.slice a2 N c2)) := by rw [EA.out]; exact HM.out
    generalize w2.setCell ⟨g, 1026, none⟩ (.slice a2 N c2) = w3 at *
    have d27 := HT2.out.cell 1027 (by decide)
    rw [upd_other _ _ _ _ (by decide)] at d27
    have D27 := Lib.hid d27
    rw [EF.out] at d27
    have d26 := HT2.out.cell 1026 (by decide)
    rw [upd_same] at d26
    have glt3 := Lib.hid HT2.out.lt
    have e27 : (w3.alloc (.cells #[.int .i64 (N : Int)] 3)).cell? ⟨g, 1027, none⟩ = some (.slice aF T.length cF) := by rw [World.cell?_alloc_lt _ _ _ glt3.out]; exact d27
    have g27 := Lib.hid (HT2.out.froz 1027)
    have q27 := Lib.hid (HT2.out.off 1027 (by decide))
    have S27' : Hid (Sl w3 3 (.slice aF T.length cF) T.length ((ends T).map (Value.int .i64))) := by
      have := HT2.out.sl 1027 (by unfold isSl; omega)
      rw [upd_other _ _ _ _ (by decide), upd_other _ _ _ _ (by decide), EF.out, HT.out.ends, List.length_map, ends_len, tyOf_27] at this
      exact this
    have QF : Hid ((Value.slice aF T.length cF).ownBlock ≠ some g) := by
      have := q27.out
      rw [upd_other _ _ _ _ (by decide), EF.out] at this
      exact this
    have hbuck := bk_lt bs
    have HC := Lib.hid (chainN_len (bk bs) T)
    clear S27 c25 c26 c27 ck1 fk1 HN HK HM K26 S26 EA f26 o26 glt hsz hN hnil HI HL
    go_region_law (refine step_append_one rfl (.tmp 45) (.tmp 51) 40 rfl 3 i1 (.int .i64 0) 8 Try.underlying40 hi1 hy0 hy1 hy2 rfl (by decide) w3 (.int .i64 (N : Int)) rfl rfl (.slice aF T.length cF) T.length _ rfl S27'.out rfl (by omega) ?_; intro g1 c1 w4 hs hkp hmv; have ck1 := hkp.cellSome D27.out QF.out; have fk1 := (World.frozen?_of_block (hkp.block g glt3.out QF.out)).trans g27.out; have HN := Lib.hid hs; have HK := Lib.hid hkp; have HM := Lib.hid hmv; clear hs hkp hmv)
    all_goals (
      have HT3 : Hid (Tab (w4.setCell ⟨g, 1027, none⟩ (.slice (some ⟨g1, 0, none⟩) (T.length + 1) c1)) g (upd (upd C 1026 (.slice a2 N c2)) 1027 (.slice (some ⟨g1, 0, none⟩) (T.length + 1) c1)) (upd (upd X 1026 (X 1026 ++ bs.map (Value.int .u8))) 1027 (X 1027 ++ [.int .i64 (N : Int)]))) := by
        have := sl_tab (k := 1027) (by unfold isSl; omega) tyOf_27 (by rw [upd_other _ _ _ _ (by decide)]; exact EF.out) (by rw [upd_other _ _ _ _ (by decide)]; exact HT.out.ends) HT2.out HN.out (by simp [ends_len]) HK.out HM.out
        rw [upd_other X _ 1027 _ (by decide)] at this
        exact this
      have HF3 : Hid (Kept (Foot g (upd C 1026 (.slice a2 N c2))) w3 (w4.setCell ⟨g, 1027, none⟩ (.slice (some ⟨g1, 0, none⟩) (T.length + 1) c1))) := kept_of_own 1027 (by decide) (by rw [upd_other _ _ _ _ (by decide), EF.out]; exact HK.out) _ _
      have HM3 : Hid (Moved w3 (C 1027) (.slice (some ⟨g1, 0, none⟩) (T.length + 1) c1)) := by rw [EF.out]; exact HM.out
      generalize w4.setCell ⟨g, 1027, none⟩ (.slice (some ⟨g1, 0, none⟩) (T.length + 1) c1) = w5 at *
      clear d27 d26 e27 ck1 fk1 D27
      have h24 : upd (upd C 1026 (.slice a2 N c2)) 1027 (.slice (some ⟨g1, 0, none⟩) (T.length + 1) c1) 1024 = .int .i64 (longN T T.length : Nat) := by
        rw [upd_other _ _ _ _ (by decide), upd_other _ _ _ _ (by decide)]; exact HT.out.long
      have hX : upd (upd X 1026 (X 1026 ++ bs.map (Value.int .u8))) 1027 (X 1027 ++ [.int .i64 (N : Int)]) (bk bs) = (chain (bk bs) T).map (Value.int .i64) := by
        rw [upd_other _ _ _ _ (by omega), upd_other _ _ _ _ (by omega)]; exact HT.out.heads _ hbuck
      have HLK := Lib.hid (link_any g _ _ w5 HT3.out (bk bs) hbuck (T.length : Int) _ h24 _ hX (by rw [chain_len]; have := HC.out; omega))
      clear h24 hX
      go_wp2_with fail
      refine HLK.out.mono ?_
      rintro e w6 ⟨rfl, hlk⟩
      have HD : Hid (∃ F', IsTab w6 g mo (T ++ [bs]) F' ∧ Kept F w w6 ∧ ∀ b, F' b → F b ∨ w.heap.size ≤ b) := by
        exact add_done (by rw [HLL.out, hlen.out, hN'.out]) HB.out HT.out H0.out hbs hmin.out HM2.out HF2.out HM3.out HF3.out hlk
      clear hlk
      go_wp2
      go_ret3
      exact ⟨rfl, HD.out⟩)
end Go.Proofs.Ytflnddpbkaeaaaa
