/- The walk of HashOne. -/
import Derived.Test.YtgjhdjbbmjldlaaB
import Derived.Test.YtgjhdjbbmjldlaaD
import Derived.Laws.ShiftsVarLaws
import Derived.OpenShut
namespace Go.Proofs.Ytgjhdjbbmjldlaa
open Go.RowKit Go.Own

/-- The byte that the law turns. -/
def turned (z bit : Int) : Int := bits BinOp.xor IntKind.u8 z (2 ^ (bit % 8).toNat % 256)

theorem turned_all : ∀ z : Fin 256, ∀ t : Fin 8, 0 ≤ bits BinOp.xor IntKind.u8 (z.val : Int) (2 ^ t.val % 256) ∧ bits BinOp.xor IntKind.u8 (z.val : Int) (2 ^ t.val % 256) < 256 ∧ (z.val : Int) ≠ bits BinOp.xor IntKind.u8 (z.val : Int) (2 ^ t.val % 256) := by decide +kernel

theorem turned_of (z bit : Int) (hz : IsByte z) : IsByte (turned z bit) ∧ z ≠ turned z bit := by
  obtain ⟨n, rfl, hn⟩ := nat_of (m := 256) hz.1 hz.2
  have := turned_all ⟨n, hn⟩ ⟨(bit % 8).toNat, by omega⟩
  exact ⟨⟨this.1, this.2.1⟩, this.2.2⟩

/-- What the law has made: the turned bytes in block g; two slices of numbers, each in a block of its own. -/
def One (w wr : World) (g cap n : Nat) (cs : List Int) (l m : Value) (p q : Nat) (xs ys : List Int) : Prop :=
  Below w.heap.size w wr ∧ w.heap.size ≤ g ∧ Sl wr 5 (.slice (some ⟨g, 0, none⟩) n cap) n (cs.map (Value.int .u8)) ∧ Sl wr 3 l p (xs.map (Value.int .i64)) ∧ Sl wr 3 m q (ys.map (Value.int .i64)) ∧
    (∀ b, l.ownBlock = some b → w.heap.size ≤ b ∧ b ≠ g ∧ m.ownBlock ≠ some b) ∧ (∀ b, m.ownBlock = some b → w.heap.size ≤ b ∧ b ≠ g)

theorem one_l {w wr w1 : World} {g cap n g' c' p q : Nat} {cs xs ys : List Int} {l m : Value} {x : Int} (h : One w wr g cap n cs l m p q xs ys)
    (hs : Sl w1 3 (.slice (some ⟨g', 0, none⟩) (p + 1) c') (p + 1) (xs.map (Value.int .i64) ++ [.int .i64 x])) (hk : Kept (fun b => l.ownBlock = some b) wr w1) (hm : l.ownBlock = some g' ∨ wr.heap.size ≤ g') :
    One w w1 g cap n cs (.slice (some ⟨g', 0, none⟩) (p + 1) c') m (p + 1) q (xs ++ [x]) ys := by
  obtain ⟨h1, h2, h3, h4, h5, h6, h7⟩ := h
  have hsz := h1.size
  have hg := h3.lt g rfl
  refine ⟨h1.trans (hk.below hsz (fun b hb e => by have := (h6 b e).1; omega)), h2, h3.kept hk (fun b e e' => ?_), by simpa using hs, h5.kept hk (fun b e e' => (h6 b e').2.2 e), ?_, h7⟩
  · have e2 : some g = some b := e
    cases e2
    exact (h6 g e').2.1 rfl
  · intro b hb
    have e2 : some g' = some b := hb
    cases e2
    rcases hm with hm | hm
    · exact h6 g' hm
    · exact ⟨by omega, by omega, fun e => by have := h5.lt g' e; omega⟩

theorem one_m {w wr w1 : World} {g cap n g' c' p q : Nat} {cs xs ys : List Int} {l m : Value} {x : Int} (h : One w wr g cap n cs l m p q xs ys)
    (hs : Sl w1 3 (.slice (some ⟨g', 0, none⟩) (q + 1) c') (q + 1) (ys.map (Value.int .i64) ++ [.int .i64 x])) (hk : Kept (fun b => m.ownBlock = some b) wr w1) (hm : m.ownBlock = some g' ∨ wr.heap.size ≤ g') :
    One w w1 g cap n cs l (.slice (some ⟨g', 0, none⟩) (q + 1) c') p (q + 1) xs (ys ++ [x]) := by
  obtain ⟨h1, h2, h3, h4, h5, h6, h7⟩ := h
  have hsz := h1.size
  have hg := h3.lt g rfl
  refine ⟨h1.trans (hk.below hsz (fun b hb e => by have := (h7 b e).1; omega)), h2, h3.kept hk (fun b e e' => ?_), h4.kept hk (fun b e e' => (h6 b e).2.2 e'), by simpa using hs, ?_, ?_⟩
  · have e2 : some g = some b := e
    cases e2
    exact (h7 g e').2 rfl
  · intro b hb
    refine ⟨(h6 b hb).1, (h6 b hb).2.1, fun e => ?_⟩
    have e2 : some g' = some b := e
    cases e2
    rcases hm with hm | hm
    · exact (h6 g' hb).2.2 hm
    · have := h4.lt g' hb; omega
  · intro b hb
    have e2 : some g' = some b := hb
    cases e2
    rcases hm with hm | hm
    · exact h7 g' hm
    · exact ⟨by omega, by omega⟩

theorem one_alloc {w wr : World} {g cap n p q : Nat} {cs xs ys : List Int} {l m : Value} (h : One w wr g cap n cs l m p q xs ys) (o : Obj) : One w (wr.alloc o) g cap n cs l m p q xs ys := by
  obtain ⟨h1, h2, h3, h4, h5, h6, h7⟩ := h
  exact ⟨h1.alloc h1.size o, h2, World.ownsRow.alloc h3 o, World.ownsRow.alloc h4 o, World.ownsRow.alloc h5 o, h6, h7⟩

theorem row_of_sl {k : IntKind} {e : TypeId} {w : World} {v : Value} {n : Nat} {zs : List Int} (h : Sl w e v n (zs.map (Value.int k))) : zs.length = n ∧ ∃ a cap, v = .slice a n cap ∧ RowAt k w a n zs := by
  have hl : zs.length = n := by have := h.1; simpa using this
  obtain ⟨a, cap, rfl, hc⟩ := h.shape
  refine ⟨hl, a, cap, rfl, hl, ?_⟩
  rcases Nat.eq_zero_or_pos n with h0 | h0
  · exact .inl h0
  · obtain ⟨g, rfl, _, _⟩ := hc 0 h0
    refine .inr ⟨g, 0, rfl, fun i hi => ?_⟩
    obtain ⟨g', e, _, h2⟩ := hc i hi
    simp at e; subst e
    have hi' : i < zs.length := by omega
    rw [Nat.zero_add, h2]
    simp [List.getD, hi']

theorem take_more (l : List Int) (k : Nat) (hk : k < l.length) : l.take (k + 1) = l.take k ++ [l.getD k 0] := by
  rw [List.take_succ_eq_append_getElem hk]; simp [List.getD, hk]

set_option maxHeartbeats 1000000 in
theorem hashOne_walk (b off : Nat) (n cap i : Nat) (zs : List Int) (at_ bit : Int) (w : World) (hlen : Hid (zs.length = n)) (hc : Hid (∀ j, j < n → w.cell? ⟨b, off + j, none⟩ = some (.int .u8 (zs.getD j 0))))
    (hz : Hid (∀ z ∈ zs, IsByte z)) (hl : n ≤ cap) (h0 : 0 < n) (h1 : n ≤ 1000)
    (b0 : 0 ≤ bit) (b1 : bit ≤ 255) (hi : wrap64 ((IntKind.u64.wrap at_).tmod (n : Int)) = (i : Int)) (hin : i < n) :
    Calls Try.prog 6 #[.slice (some ⟨b, off, none⟩) n cap, .int .i64 at_, .int .u8 bit] w fun e w' => e = .returned (.bool true) ∧ Below w.heap.size w w' := by
  obtain ⟨i0, hi0, hz0, hz1, hz2⟩ := info_parts Try.info5
  obtain ⟨j0, hj0, hy0, hy1, hy2⟩ := info_parts Try.info3
  have hinI : (i : Int) < (n : Int) := by omega
  have hn1 : ((n : Int) == 0) = false := by simp; omega
  have hn2 : decide ((1000 : Int) < (n : Int)) = false := by simp; omega
  have hnews : Hid (∀ (j : Nat) u, (zs.map (Value.int .u8))[j]? = some u → (w.alloc (.cells #[] 5)).cell? ((⟨b, off, none⟩ : Addr).add j) = some u) := by
    intro j u hu
    have hj : j < zs.length := by simpa using (List.getElem?_eq_some_iff.1 hu).1
    have := hc.out j (by have := hlen.out; omega)
    rw [Addr.add_lit, World.cell?_alloc_lt _ _ _ (World.block_lt_of_cell? w _ this), this]
    simp [hj] at hu
    simp [List.getD, hj, hu]
  have hown : Hid (Sl (w.alloc (.cells #[] 5)) 5 (.slice (some ⟨w.heap.size, 0, none⟩) 0 0) 0 []) :=
    World.ownsRow_lit (e := 5) (size := 1) w #[] 0 (Nat.zero_le _) (by simp [maxLen]) rfl
  have hil : Hid (i < zs.length) := by have := hlen.out; show i < _; omega
  go_enter Try.func6, Try.ntmps6
  go_wp2_with (at_builtin; refine wpList_append_pos rfl (.tmp 28) (.tmp 29) 22 rfl 5 i0 (.int .u8 0) 1 Try.underlying22 hi0 hz0 hz1 hz2 rfl (by decide) _ 0 [] rfl hown.out _ n cap (zs.map (.int .u8)) rfl (by rw [List.length_map]; exact hlen.out) hnews.out (ints_oneCell _ _) n (by omega) h0 (by omega) ?_; intro g cap' w1 hs hkp hmv; have HS := Lib.hid hs; have hcell : w1.cell? ⟨g, i, none⟩ = some (.int .u8 (zs.getD i 0)) := (by rw [World.ownsRow.cellAt (size := 1) hs i (by omega)]; simp [hil.out, List.getD]); have hfz : w1.frozen? ⟨g, i, none⟩ = false := World.ownsRow.frozenAt (size := 1) hs i; have hb1 := Lib.hid (fresh_below hkp); have hg0 := fresh_block hmv; clear hs hkp hmv)
  have HX : Hid (turned (zs[i]?.getD 0) bit = bits BinOp.xor IntKind.u8 (zs[i]?.getD 0) (2 ^ (bit % 8).toNat % 256)) := rfl
  rw [← HX.out]
  have hzi : IsByte (zs.getD i 0) := hz.out _ (by rw [show zs.getD i 0 = zs[i]'(hil.out) by simp [List.getD, hil.out]]; exact List.getElem_mem _)
  have hx : IsByte (turned (zs[i]?.getD 0) bit) := (turned_of _ bit hzi).1
  have hne : zs.getD i 0 ≠ turned (zs[i]?.getD 0) bit := (turned_of _ bit hzi).2
  clear hzi
  have N1 := Lib.hid (one_bytes zs i _ hil.out hz.out hx hne)
  have N2 := Lib.hid (one_ints zs i _ hil.out hz.out hx hne)
  have hcb : Hid (∀ z ∈ zs.set i (turned (zs[i]?.getD 0) bit), IsByte z) := by
    intro z h
    rcases List.mem_or_eq_of_mem_set h with h | rfl
    · exact hz.out z h
    · exact hx
  clear HX hx hne hcell hfz
  generalize turned (zs[i]?.getD 0) bit = x at *
  have hst := World.ownsRow.stored HS.out i (.int .u8 x)
  rw [List.nil_append, ← List.map_set] at hst
  have hstart : One w (w1.setCell ⟨g, i, none⟩ (.int .u8 x)) g cap' n (zs.set i x) (.slice none 0 0) (.slice none 0 0) 0 0 [] [] :=
    ⟨hb1.out.setCell hg0 _, hg0, hst.1, World.ownsRow_nil _ _ _ _, World.ownsRow_nil _ _ _ _, by simp [Value.ownBlock], by simp [Value.ownBlock]⟩
  have hcl : Hid ((zs.set i x).length = n) := by show _ = _; rw [List.length_set]; exact hlen.out
  clear hst HS hb1 hg0
  generalize w1.setCell ⟨g, i, none⟩ (.int .u8 x) = w2 at *
  generalize zs.set i x = cs at *
  clear hi
  have HST := Lib.hid hstart
  clear hstart
  go_loopw [9, 10, 11, 42] (fun l m _ j wr => ∃ k : Nat, k ≤ n ∧ j = .int .i64 k ∧ One w wr g cap' n cs l m k k (zs.take k) (cs.take k)) (fun _ _ _ j _ => n - (intOf j).toNat)
  case atStart => exact ⟨0, Nat.zero_le _, rfl, HST.out⟩
  case round =>
    obtain ⟨k, hk, rfl, hone⟩ := hrel
    by_cases hlt : k < n
    · have HO := Lib.hid hone
      clear hone
      have hT1 := Lib.hid (take_more zs k (by rw [hlen.out]; exact hlt))
      have hT2 := Lib.hid (take_more cs k (by rw [hcl.out]; exact hlt))
      have hck : wr.cell? ⟨b, off + k, none⟩ = some (.int .u8 (zs.getD k 0)) := (HO.out.1.cell (World.block_lt_of_cell? w _ (hc.out k hlt))).trans (hc.out k hlt)
      have hzk : IsByte (zs.getD k 0) := hz.out _ (by rw [show zs.getD k 0 = zs[k]'(by rw [hlen.out]; exact hlt) by simp [List.getD, hlen.out, hlt]]; exact List.getElem_mem _)
      have hckb : IsByte (cs.getD k 0) := hcb.out _ (by rw [show cs.getD k 0 = cs[k]'(by rw [hcl.out]; exact hlt) by simp [List.getD, hcl.out, hlt]]; exact List.getElem_mem _)
      have HCS : Hid (∀ wx l m p q xs ys, One w wx g cap' n cs l m p q xs ys → wx.cell? ⟨g, k, none⟩ = some (.int .u8 (cs.getD k 0))) := fun wx l m p q xs ys h => by
        rw [World.ownsRow.cellAt (size := 1) h.2.2.1 k (by omega)]
        simp [List.getD, hcl.out, hlt]
      generalize zs.getD k 0 = zk at *
      generalize cs.getD k 0 = ck at *
      obtain ⟨z0, z1⟩ := hzk
      obtain ⟨c0, c1⟩ := hckb
      have hsl := Lib.hid HO.out.2.2.2.1
      go_wp2_with (first | (at_builtin; refine wpList_append_one_pos rfl (.tmp 45) (.tmp 51) 27 rfl 3 j0 (.int .i64 0) 8 Try.underlying27 hj0 hy0 hy1 hy2 rfl (by decide) _ k _ rfl hsl.out _ rfl rfl (by omega) ?_; intro g1 c1 w3 hs hkp hmv; have HO1 := Lib.hid (one_l HO.out hs hkp hmv); have hc3 := HCS.out _ _ _ _ _ _ _ HO1.out; clear hs hkp hmv) | (at_builtin; refine wpList_append_one_pos rfl (.tmp 53) (.tmp 59) 27 rfl 3 j0 (.int .i64 0) 8 Try.underlying27 hj0 hy0 hy1 hy2 rfl (by decide) _ k _ rfl HO1.out.2.2.2.2.1 _ rfl rfl (by omega) ?_; intro g2 c2 w4 hs hkp hmv; have HO2 := Lib.hid (one_m HO1.out hs hkp hmv); clear hs hkp hmv))
      go_roundw
      case rel => exact ⟨k + 1, by omega, by go_num, by rw [hT1.out, hT2.out]; exact HO2.out⟩
      case measure => simp [intOf]; omega
    · obtain rfl : k = n := by omega
      rw [List.take_of_length_le (by rw [hlen.out]; exact Nat.le_refl _), List.take_of_length_le (by rw [hcl.out]; exact Nat.le_refl _)] at hone
      have HB := Lib.hid hone.1
      obtain ⟨al, capl, rfl, hrl⟩ := (row_of_sl hone.2.2.2.1).2
      obtain ⟨am, capm, rfl, hrm⟩ := (row_of_sl hone.2.2.2.2.1).2
      obtain ⟨ac, capc, hce, hrc⟩ := (row_of_sl hone.2.2.1).2
      simp only [Value.slice.injEq, true_and] at hce
      obtain ⟨rfl, rfl⟩ := hce
      have HRL := Lib.hid hrl
      have HRM := Lib.hid hrm
      have HRC := Lib.hid hrc
      have HRZ : Hid (RowAt .u8 wr (some ⟨b, off, none⟩) k zs) := RowAt.below ⟨hlen.out, .inr ⟨b, off, rfl, hc.out⟩⟩ HB.out
      clear hrl hrm hrc hone
      have hbl : Hid (zs.length ≤ 9223372036854775807) := by show _ ≤ _; rw [hlen.out]; omega
      have hbm : Hid (cs.length ≤ 9223372036854775807) := by show _ ≤ _; rw [hcl.out]; omega
      have t1 : (sumB basis zs != sumB basis cs) = true := bne_iff_ne.2 N1.out
      have t2 : (sumN basis (zs.map uns) != sumN basis (cs.map uns)) = true := bne_iff_ne.2 N2.out
      have HX1 := Lib.hid (bytes_any _ _ cap _ wr (by omega) HRZ.out)
      have HX2 := Lib.hid (bytes_any _ _ cap' _ wr (by omega) HRC.out)
      have HX3 := Lib.hid (ints_any _ _ capl _ wr (by omega) HRL.out)
      have HX4 := Lib.hid (ints_any _ _ capm _ wr (by omega) HRM.out)
      generalize sumB basis zs = s1 at *
      generalize sumB basis cs = s2 at *
      generalize sumN basis (zs.map uns) = s3 at *
      generalize sumN basis (cs.map uns) = s4 at *
      clear HRZ HRC HRL HRM N1 N2 HST
      go_wp2_with fail
      refine HX1.out.mono ?_
      rintro e w' ⟨rfl, rfl⟩
      go_wp2_with fail
      refine HX2.out.mono ?_
      rintro e w' ⟨rfl, rfl⟩
      go_wp2_with fail
      refine HX3.out.mono ?_
      rintro e w' ⟨rfl, rfl⟩
      go_wp2_with fail
      refine HX4.out.mono ?_
      rintro e w' ⟨rfl, rfl⟩
      go_wp2_with fail
      refine (lives_any _).mono ?_
      rintro e w2 ⟨rfl, hb⟩
      go_wp2
      go_ret
      exact ⟨rfl, HB.out.trans (hb.mono HB.out.size)⟩

theorem at_place (x : Int) (n : Nat) (h0 : 0 < n) (h1 : n ≤ 1000) : ∃ i : Nat, i < n ∧ wrap64 ((IntKind.u64.wrap x).tmod (n : Int)) = (i : Int) := by
  have hu : 0 ≤ IntKind.u64.wrap x := by rw [IntKind.wrap_u64]; omega
  rw [Int.tmod_eq_emod_of_nonneg hu]
  have a1 := Int.emod_nonneg (IntKind.u64.wrap x) (show (n : Int) ≠ 0 by omega)
  have a2 := Int.emod_lt_of_pos (IntKind.u64.wrap x) (show (0 : Int) < n by omega)
  refine ⟨(IntKind.u64.wrap x % (n : Int)).toNat, by omega, ?_⟩
  rw [IntWalk.wrap64_in _ (by omega)]
  omega

set_option maxHeartbeats 400000 in
theorem hashOne_short (a : Option Addr) (n cap : Nat) (x bit : Int) (w : World) (hl : n ≤ cap) (hm : cap ≤ maxLen) (h : n = 0 ∨ 1000 < n) :
    Calls Try.prog 6 #[.slice a n cap, .int .i64 x, .int .u8 bit] w fun e w' => e = .returned (.bool true) ∧ Below w.heap.size w w' := by
  unfold maxLen at hm
  rcases h with rfl | h
  · go_enter Try.func6, Try.ntmps6
    go_wp2_with fail
    refine (lives_any _).mono ?_
    rintro e w2 ⟨rfl, hb⟩
    go_wp2
    go_ret
    exact ⟨rfl, hb⟩
  · have hn1 : ((n : Int) == 0) = false := by simp; omega
    have hn2 : decide ((1000 : Int) < (n : Int)) = true := by simp; omega
    go_enter Try.func6, Try.ntmps6
    go_wp2_with fail
    refine (lives_any _).mono ?_
    rintro e w2 ⟨rfl, hb⟩
    go_wp2
    go_ret
    exact ⟨rfl, hb⟩

theorem hashOne_law (a : Option Addr) (n cap : Nat) (zs : List Int) (x bit : Int) (w : World) (hr : RowAt .u8 w a n zs) (hz : ∀ z ∈ zs, (Lit.int .u8 z).wf = true) (hl : n ≤ cap) (hm : cap ≤ maxLen) (_ : cap * 1 ≤ 140737488351232)
    (_ : (Lit.int .i64 x).wf = true) (hb : (Lit.int .u8 bit).wf = true) :
    Calls Try.prog 6 #[.slice a n cap, .int .i64 x, .int .u8 bit] w fun e w' => e = .returned (.bool true) ∧ Below w.heap.size w w' := by
  by_cases h : n = 0 ∨ 1000 < n
  · exact hashOne_short a n cap x bit w hl hm h
  · obtain ⟨hlen, h0 | ⟨b, off, rfl, hc⟩⟩ := hr
    · omega
    have hbb := bounds_u8 hb
    obtain ⟨i, hi, he⟩ := at_place x n (by omega) (by omega)
    exact hashOne_walk b off n cap i zs x bit w hlen hc (fun z h => by have := bounds_u8 (hz z h); exact ⟨this.1, by omega⟩) hl (by omega) (by omega) hbb.1 hbb.2 he hi
end Go.Proofs.Ytgjhdjbbmjldlaa
