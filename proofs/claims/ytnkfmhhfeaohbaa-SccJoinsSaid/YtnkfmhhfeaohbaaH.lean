/- The walk of walk: the search from one node. -/
import Derived.Test.YtnkfmhhfeaohbaaG
import Derived.Deep.LoopGhost
import Derived.Deep.Cut
import Derived.Deep.CutBlock
namespace Go.Proofs.Ytnkfmhhfeaohbaa
open Go.RowKit Go.Own

section
variable {E : List (List Int)} {Z : Nat → Prop} {s : St}
theorem PInv.bump (h : PInv E Z s) {x : Nat} {tz : Int} (hx : x ∈ s.way) (hd : s.next x < deg E x) (hto : (E.getD x []).getD (s.next x) 0 = tz)
    (hy : ∀ y : Nat, y < E.length → tz = (y : Int) → s.num y ≠ 0 ∧ (y ∈ s.stack → s.low x ≤ s.num y)) : PInv E Z (s.bump x) := ⟨h.inv.bump hx hd hto hy, h.cnt, h.len, h.seen⟩
theorem PInv.lower (h : PInv E Z s) {x y : Nat} (hx : x ∈ s.stack) (hy : y ∈ s.stack) (hr : Own.Reach E x y) : PInv E Z (s.lower x (s.num y)) := ⟨h.inv.lower hx hy hr, h.cnt, h.len, h.seen⟩
theorem PInv.mono {Z' : Nat → Prop} (h : PInv E Z s) (hz : ∀ v, Z' v → Z v) : PInv E Z' s := ⟨h.inv, h.cnt, h.len, fun v hv => h.seen v (hz v hv)⟩
theorem PInv.step (h : PInv E Z s) {x y : Nat} {tz : Int} (hx : x ∈ s.way) (hd : s.next x < deg E x) (hto : (E.getD x []).getD (s.next x) 0 = tz) (e : tz = (y : Int)) (hy : y < E.length) (h0 : s.num y = 0)
    (hr : ∀ v ∈ s.way, Own.Reach E v y) : PInv E Z ((s.bump x).come y) := by
  have h1 := (h.come hy h0 hr).mono (Z' := Z) (fun v hv => .inl hv)
  have hxs := h.inv.way_mem hx
  have hxy : x ≠ y := fun e => (h.inv.mem x hxs).2 (by rw [e]; exact h0)
  have h2 := h1.bump (x := x) (tz := tz) (by show x ∈ s.way ++ [y]; exact List.mem_append_left _ hx) hd hto (fun y' hy' e' => by
    have : y' = y := by omega
    subst this
    have hn : (s.come y').num y' = s.cnt + 1 := up_same _ _ _
    refine ⟨by rw [hn]; omega, fun _ => ?_⟩
    have hl : (s.come y').low x = s.low x := up_other _ _ _ _ hxy
    rw [hn, hl]
    have := (h.inv.low x hxs).1
    have := h.inv.cnt x (h.inv.mem x hxs).1
    omega)
  exact h2
theorem PInv.back (h : PInv E Z s) {x y : Nat} {tz : Int} (hx : x ∈ s.way) (hd : s.next x < deg E x) (hto : (E.getD x []).getD (s.next x) 0 = tz) (e : tz = (y : Int)) (hy : y ∈ s.stack)
    (hr : Own.Reach E x y) : PInv E Z ((s.bump x).lower x (s.num y)) := by
  have hxs := h.inv.way_mem hx
  have h1 := h.lower hxs hy hr
  have h2 := h1.bump (x := x) (tz := tz) hx hd hto (fun y' hy' e' => by
    have : y' = y := by omega
    subst this
    refine ⟨(h.inv.mem y' hy).2, fun _ => ?_⟩
    show up s.low x (min (s.low x) (s.num y')) x ≤ s.num y'
    rw [up_same]; omega)
  exact h2
/-- All edges of a node have been looked at. -/
def Full (E : List (List Int)) (s : St) (x : Nat) : Prop := s.next x = deg E x
/-- The edge that is looked at. -/
theorem adj_next {x y k : Nat} (hx : x < E.length) (hy : y < E.length) (hk : k < deg E x) (e : (E.getD x []).getD k 0 = (y : Int)) : adj E x y := by
  refine ⟨hx, hy, ?_⟩
  have hk' : k < (E.getD x []).length := hk
  rw [← e, List.getD_eq_getElem?_getD (l := E.getD x []), List.getElem?_eq_getElem hk']
  exact List.getElem_mem hk'
end

set_option maxRecDepth 100000 in
set_option maxHeartbeats 8000000 in
theorem walk_any (w0 w : World) (g : Nat) (ae : Option Addr) (n ce : Nat) (E : List (List Int)) (s : St) (F : Nat → Prop) (Z : Nat → Prop) (hE : E.length = n) (he : EdgesAt w0 ae E) (hn : n ≤ 1000000) (hrow : ∀ i, i < E.length → (E.getD i []).length ≤ 1000000000)
    (h : IsS w g (.slice ae n ce) n s F) (hF : ∀ b, F b → w0.heap.size ≤ b) (hb : Below w0.heap.size w0 w) (hp : PInv E Z s) (hw : s.way = []) (x0 : Nat) (hx : x0 < n) (h0 : s.num x0 = 0) :
    Calls Try.prog 19 #[.pointer (some ⟨g, 0, none⟩), .int .i64 (x0 : Int)] w fun e w' => e = .returned (.tuple #[]) ∧
      ∃ s' F', IsS w' g (.slice ae n ce) n s' F' ∧ (∀ b, F' b → w0.heap.size ≤ b) ∧ Below w0.heap.size w0 w' ∧ PInv E (fun v => Z v ∨ v = x0) s' ∧ s'.way = [] := by
  have HE := Lib.hid hE
  have HED := Lib.hid he
  have HRO := Lib.hid hrow
  have HP := Lib.hid hp
  have HW0 : Hid (∀ W, W = w.alloc (.cells #[.pointer (some ⟨g, 0, none⟩)] 41) → WR w0 W g w.heap.size (.slice ae n ce) n s) := by
    rintro W rfl
    have hb1 : Below w.heap.size w (w.alloc (.cells #[.pointer (some ⟨g, 0, none⟩)] 41)) := (Below.refl _ w).alloc (Nat.le_refl _) _
    refine ⟨F, h.below hb1, fun b hF' => ⟨hF b hF', fun e => ?_⟩, hb.trans (hb1.mono hb.size), World.cell?_alloc_at (w := w) _ 41 w.heap.size 0 rfl⟩
    obtain ⟨C, X, h⟩ := h
    have := h.lt b hF'; omega
  have hcn : s.cnt ≤ 1000000000 := by have := hp.cnt; omega
  have hst : s.stack.length ≤ 1000000000 := by have := hp.len; omega
  have hwl : s.way.length ≤ 1000000000 := by have := hp.wayLen; omega
  have HC1 := Lib.hid fun W (hW : WR w0 W g w.heap.size (.slice ae n ce) n s) => wr_come hW x0 hx (by omega) hcn hst hwl
  have HP1 : Hid (PInv E (fun v => Z v ∨ v = x0) (s.come x0)) := hp.come (by rw [hE]; exact hx) h0 (fun v hv => by rw [hw] at hv; cases hv)
  have HW : Hid (s.way = []) := hw
  have HX := Lib.hid hx
  have HN := Lib.hid hn
  clear hE he hrow h hF hb hp hw h0 hcn hst hwl hx
  go_enter Try.func19, Try.ntmps19
  go_wp2_with fail
  go_step3
  go_wp2_with fail
  refine (HC1.out _ (HW0.out _ rfl)).mono ?_
  rintro e w2 ⟨rfl, hr2⟩
  clear HC1 HW0
  have hcap := hr2.out.cap
  generalize w.heap.size = q at *
  generalize hs1 : s.come x0 = s1 at *
  clear hs1
  go_wp2_with fail
  go_step3
  go_wp2_with fail
  clear hcap
  go_loopg [] (2 * unv n s1 + s1.way.length) (fun k wr => ∃ s, Hid (k = 2 * unv n s + s.way.length) ∧ Hid (WR w0 wr g q (.slice ae n ce) n s) ∧ Hid (PInv E (fun v => Z v ∨ v = x0) s))
  case atStart => exact ⟨s1, rfl, hr2, HP1⟩
  case round =>
    clear HP HW hr2 HP1
    obtain ⟨s, hk, hr, hp⟩ := hrel
    obtain ⟨wo, rfl⟩ : ∃ wo : World, wo = wr := ⟨_, rfl⟩
    generalize gk = k0 at *
    have hcap := hr.out.cap
    obtain ⟨a5, d5, c5, f5, l5, m5, cc5, wk5⟩ := hr.out.rdWay
    have CC5 := Lib.hid cc5
    clear cc5 wk5
    rcases List.eq_nil_or_concat s.way with hw | ⟨W, x, hw⟩
    · rw [hw, List.length_nil] at c5
      have HF : Hid (∃ s' F', IsS wo g (.slice ae n ce) n s' F' ∧ (∀ b, F' b → w0.heap.size ≤ b) ∧ Below w0.heap.size w0 wo ∧ PInv E (fun v => Z v ∨ v = x0) s' ∧ s'.way = []) := by
        obtain ⟨F', h1, h2, h3, h4⟩ := hr.out
        exact ⟨s, F', h1, fun b hb => (h2 b hb).1, h3, hp.out, hw⟩
      clear l5 m5 hw
      go_wp2_with fail
      rw [Exit.noGoto_normal]
      go_end0
      exact ⟨rfl, HF.out⟩
    · rw [List.concat_eq_append] at hw
      have hlen : s.way.length = W.length + 1 := by rw [hw]; simp
      obtain ⟨b5, rfl, cx⟩ := CC5.out W.length (by omega)
      have hgx : s.way.getD W.length 0 = x := by rw [hw]; simp [List.getD]
      rw [hgx] at cx
      rw [hlen] at c5 l5
      have hxw : x ∈ s.way := by rw [hw]; simp
      have hxn : x < n := by rw [← HE.out]; exact (hp.out.inv.mem x (hp.out.inv.way_mem hxw)).1
      have HWX := Lib.hid hw
      have HXN := Lib.hid hxn
      have hxI : (x : Int) < (n : Int) := by omega
      have hWm : Hid (W.length ≤ 1000000) := by
        have h1 := hp.out.wayLen
        have h2 := hp.out.cnt
        have h3 := HE.out
        have h4 := HN.out
        show _ ≤ _; omega
      have hm := hWm.out
      have hmI : (W.length : Int) < (W.length : Int) + 1 := by omega
      have hw64 : wrap64 (W.length : Int) = (W.length : Int) := by unfold wrap64; omega
      clear CC5 hlen hgx hxw hw l5 m5
      generalize hWl : W.length = m at *
      have HWL := Lib.hid hWl
      clear hWl
      go_wp2_with fail
      go_quiet (fail)
      have HRn := Lib.hid (hr.out.below (below_drewN wo nq))
      clear hr hcap c5 f5 cx hw64 hmI hxI
      generalize wo.drewN nq = w4 at *
      go_wp2_with fail
      go_loopg [] (deg E x - s.next x) (fun k wr => ∃ s', Hid (k = deg E x - s'.next x) ∧ Hid (WR w0 wr g q (.slice ae n ce) n s') ∧ Hid (PInv E (fun v => Z v ∨ v = x0) s') ∧ Hid (s'.way = W ++ [x]) ∧ Hid (unv n s' = unv n s))
      case atStart => exact ⟨s, rfl, HRn, hp, HWX, rfl⟩
      case round =>
        clear HRn hp
        obtain ⟨s', hk', hr, hp, hwx, hun⟩ := hrel
        obtain ⟨wi, rfl⟩ : ∃ wi : World, wi = wr := ⟨_, rfl⟩
        generalize gk = k1 at *
        have hxw : Hid (x ∈ s'.way) := (show x ∈ s'.way by rw [hwx.out]; simp)
        have hxs : Hid (x ∈ s'.stack) := hp.out.inv.way_mem hxw.out
        have hcap := hr.out.cap
        have hev := hr.out.edges
        obtain ⟨b3, d3, c3, n3, f3, wn3⟩ := hr.out.rdNext x HXN.out
        have HWN := Lib.hid wn3
        obtain ⟨bE, oE, ai, ci, rfl, ce1, ce2⟩ := (HED.out.below hr.out.old).at x (by rw [HE.out]; exact HXN.out)
        have HCE := Lib.hid ce2
        have hrl := HRO.out x (by rw [HE.out]; exact HXN.out)
        have hnd : s'.next x ≤ deg E x := hp.out.inv.next x (by rw [HE.out]; exact HXN.out)
        unfold deg at hnd
        have hxI : (x : Int) < (n : Int) := by have := HXN.out; omega
        have HDG : Hid (deg E x = (E.getD x []).length) := rfl
        clear wn3 ce2
        by_cases hlt : s'.next x < (E.getD x []).length
        · obtain ⟨bR, oR, rfl, cz, _⟩ := HCE.out _ hlt
          have hzI : (s'.next x : Int) < ((E.getD x []).length : Int) := by omega
          have hnb : (s'.next x : Int) ≤ 1000000000 := by omega
          have HLT := Lib.hid hlt
          have HBU : Hid (∀ (_ : ∀ y : Nat, y < E.length → (E.getD x []).getD (s'.next x) 0 = (y : Int) → s'.num y ≠ 0 ∧ (y ∈ s'.stack → s'.low x ≤ s'.num y)), PInv E (fun v => Z v ∨ v = x0) (s'.bump x)) := fun hy => hp.out.bump hxw.out hlt rfl hy
          have HADJ : Hid (∀ y : Nat, y < E.length → (E.getD x []).getD (s'.next x) 0 = (y : Int) → adj E x y) := fun y hy e => adj_next (by rw [HE.out]; exact HXN.out) hy hlt e
          have HCO : Hid (∀ y : Nat, y < E.length → (E.getD x []).getD (s'.next x) 0 = (y : Int) → s'.num y = 0 → PInv E (fun v => Z v ∨ v = x0) ((s'.bump x).come y)) := fun y hy e h0 =>
            hp.out.step hxw.out hlt rfl e hy h0 (fun v hv => by
              have hed := Own.Reach.edge (HADJ.out y hy e)
              have hch := hp.out.inv.chain
              rw [hwx.out] at hv hch
              rw [List.mem_append, List.mem_singleton] at hv
              rw [List.pairwise_append] at hch
              rcases hv with hv | rfl
              · exact (hch.2.2 v hv x (by simp)).trans hed
              · exact hed)
          have HBA : Hid (∀ y : Nat, y < E.length → (E.getD x []).getD (s'.next x) 0 = (y : Int) → y ∈ s'.stack → PInv E (fun v => Z v ∨ v = x0) ((s'.bump x).lower x (s'.num y))) := fun y hy e hys =>
            hp.out.back hxw.out hlt rfl e hys (Own.Reach.edge (HADJ.out y hy e))
          have HME : Hid (deg E x - (s'.bump x).next x < k1) := by
            have h1 := hk'.out
            have h2 : (s'.bump x).next x = s'.next x + 1 := up_same _ _ _
            have h3 : s'.next x < deg E x := hlt
            show _ < _; omega
          have hlow := (hp.out.inv.low x hxs.out).1
          have HLO := Lib.hid hlow
          clear hnd hlt hlow
          generalize hz : (E.getD x []).getD (s'.next x) 0 = z at *
          have HZ := Lib.hid hz
          clear hz
          generalize (E.getD x []).length = L at *
          generalize hnx : s'.next x = nx at *
          have HN2 := Lib.hid hnx
          clear hnx
          go_wp2_with fail
          go_quiet (fail)
          go_wp2_with fail
          go_quiet (fail)
          have HRq := Lib.hid fun q1 q2 => (hr.out.below (below_drewN wi q1)).below (below_drewN (wi.drewN q1) q2)
          clear hcap hev c3 n3 f3 HWN ce1 cz HCE hr
          generalize hw6 : (wi.drewN _).drewN _ = w6
          have HR6 : Hid (WR w0 w6 g q (.slice (some ⟨bE, oE, none⟩) n ce) n s') := by rw [← hw6]; exact HRq.out _ _
          clear hw6 HRq
          obtain ⟨b6, d6, c6, n6, f6, wn6⟩ := HR6.out.rdNext x HXN.out
          rw [HN2.out] at n6
          have hcap6 := HR6.out.cap
          have HR7 : Hid (WR w0 (w6.setCell ⟨b6, x, none⟩ (.int .i64 ((nx : Int) + 1))) g q (.slice (some ⟨bE, oE, none⟩) n ce) n (s'.bump x)) := by
            have h := wn6 (nx + 1)
            rw [show ((nx + 1 : Nat) : Int) = (nx : Int) + 1 by omega] at h
            have e : (s'.bump x) = { s' with next := up s'.next x (nx + 1) } := by unfold St.bump; rw [HN2.out]
            rw [e]; exact h
          clear wn6
          go_upto_region 8 with (fail)
          generalize w6.setCell ⟨b6, x, none⟩ (.int .i64 ((nx : Int) + 1)) = w7 at *
          clear c6 n6 f6 hcap6 HR6
          have hcap7 := HR7.out.cap
          have hev7 := HR7.out.edges
          by_cases hneg : z < 0
          · have t0 : decide (z < 0) = true := decide_eq_true hneg
            have HPB := Lib.hid (HBU.out (fun y hy e => by omega))
            clear hneg
            go_wp2
            go_roundg (deg E x - (s'.bump x).next x)
            case measure => exact HME.out
            case rel => exact ⟨s'.bump x, rfl, HR7, HPB, hwx, hun⟩
          · by_cases hbig : (n : Int) ≤ z
            · have t0 : decide (z < 0) = false := decide_eq_false hneg
              have t1 : decide ((n : Int) ≤ z) = true := decide_eq_true hbig
              have HPB := Lib.hid (HBU.out (fun y hy e => by rw [HE.out] at hy; omega))
              clear hneg hbig
              go_wp2
              go_roundg (deg E x - (s'.bump x).next x)
              case measure => exact HME.out
              case rel => exact ⟨s'.bump x, rfl, HR7, HPB, hwx, hun⟩
            · obtain ⟨y, rfl⟩ := Int.eq_ofNat_of_zero_le (show 0 ≤ z by omega)
              have hyn : y < n := by omega
              have hyI : (y : Int) < (n : Int) := by omega
              have hyE : Hid (y < E.length) := by show _ < _; rw [HE.out]; exact hyn
              have HYN := Lib.hid hyn
              obtain ⟨bn, dn, cn, nn⟩ := HR7.out.rdNum y hyn
              have t0 : decide ((y : Int) < 0) = false := decide_eq_false (by omega)
              have t1 : decide ((n : Int) ≤ (y : Int)) = false := decide_eq_false (by omega)
              have t2 : decide (n ≤ y) = false := decide_eq_false (by omega)
              have ez : (s'.bump x).num y = s'.num y := rfl
              rw [ez] at nn
              clear hneg hbig hyn ez
              by_cases h0 : s'.num y = 0
              · have HPC := Lib.hid (HCO.out y hyE.out rfl h0)
                have hc1 := hp.out.cnt
                have hc2 := hp.out.len
                have hc3 := hp.out.wayLen
                rw [HE.out] at hc1
                have HCM := Lib.hid (wr_come HR7.out y HYN.out (by omega) (by show s'.cnt ≤ _; omega) (by show s'.stack.length ≤ _; omega) (by show s'.way.length ≤ _; omega))
                have HM0 : Hid (2 * unv n ((s'.bump x).come y) + ((s'.bump x).come y).way.length < k0) := by
                  have h1 := hk.out
                  have h2 : unv n (s'.bump x) = unv n ((s'.bump x).come y) + 1 := unv_come n (s'.bump x) y HYN.out h0
                  have h3 : unv n (s'.bump x) = unv n s := hun.out
                  have h4 : ((s'.bump x).come y).way.length = s'.way.length + 1 := by show (s'.way ++ [y]).length = _; simp
                  have h5 : s'.way.length = s.way.length := by rw [hwx.out, HWX.out]
                  show _ < _; omega
                rw [h0] at nn
                clear h0 hc1 hc2 hc3
                go_wp2_with fail
                refine HCM.out.mono ?_
                rintro e w8 ⟨rfl, hr8⟩
                go_wp2
                go_roundg (2 * unv n ((s'.bump x).come y) + ((s'.bump x).come y).way.length)
                case measure => exact HM0.out
                case rel => exact ⟨_, rfl, hr8, HPC⟩
              · obtain ⟨bi, di, cin, nin⟩ := HR7.out.rdInn y HYN.out
                have ez2 : (s'.bump x).inn y = s'.inn y := rfl
                rw [ez2] at nin
                have hq : ((s'.num y : Int) == 0) = false := beq_eq_false_iff_ne.2 (by omega)
                have hq2 : (s'.num y == 0) = false := beq_eq_false_iff_ne.2 h0
                clear ez2
                by_cases hin : s'.inn y = true
                · have hys := (hp.out.inv.inn y hyE.out).1 hin
                  have HPB := Lib.hid (HBA.out y hyE.out rfl hys)
                  have HLW := Lib.hid (wr_lower HR7.out x (s'.num y) HXN.out)
                  rw [hin] at nin
                  clear hin h0 hys
                  generalize s'.num y = ny at *
                  go_wp2_with fail
                  refine HLW.out.mono ?_
                  rintro e w8 ⟨rfl, hr8⟩
                  go_wp2
                  go_roundg (deg E x - (s'.bump x).next x)
                  case measure => exact HME.out
                  case rel => exact ⟨(s'.bump x).lower x ny, rfl, hr8, HPB, hwx, hun⟩
                · have hin' : s'.inn y = false := by simpa using hin
                  have hys : y ∉ s'.stack := fun h => hin ((hp.out.inv.inn y hyE.out).2 h)
                  have HPB := Lib.hid (HBU.out (fun y' hy' e => by have : y' = y := by omega
                                                                   subst this; exact ⟨h0, fun h => absurd h hys⟩))
                  rw [hin'] at nin
                  clear hin hin' h0 hys
                  generalize s'.num y = ny at *
                  go_wp2
                  go_roundg (deg E x - (s'.bump x).next x)
                  case measure => exact HME.out
                  case rel => exact ⟨_, rfl, HR7, HPB, hwx, hun⟩
        · have hfull : s'.next x = deg E x := Nat.le_antisymm (hp.out.inv.next x (by rw [HE.out]; exact HXN.out)) (by unfold deg; omega)
          have HFU : Hid (Full E s' x) := hfull
          have hge : ¬ ((s'.next x : Int) < ((E.getD x []).length : Int)) := by omega
          have hlz : decide (s'.next x < (E.getD x []).length) = false := decide_eq_false hlt
          have HLZ := Lib.hid (And.intro (hp.out.inv.low x hxs.out).1 (hp.out.inv.xmem hwx.out))
          have hnb : (s'.next x : Int) ≤ 1000000000 := by omega
          clear hnd hlt hfull HCE
          generalize (E.getD x []).length = L at *
          generalize s'.next x = nx at *
          go_wp2_with fail
          go_quiet (fail)
          have HRq := Lib.hid fun q1 => hr.out.below (below_drewN wi q1)
          clear hcap hev c3 n3 f3 HWN ce1 hr
          generalize hw6 : wi.drewN _ = w6
          have HR6 : Hid (WR w0 w6 g q (.slice (some ⟨bE, oE, none⟩) n ce) n s') := by rw [← hw6]; exact HRq.out _
          clear hw6 HRq
          obtain ⟨a6, d6, c6, f6, l6, m6, cc6, wk6⟩ := HR6.out.rdWay
          have hlen : s'.way.length = m + 1 := by rw [hwx.out, List.length_append, HWL.out]; rfl
          rw [hlen] at c6 l6
          obtain ⟨b6, rfl, _⟩ := cc6 0 (by omega)
          have hcap6 := HR6.out.cap
          have HR7 : Hid (WR w0 (w6.setCell ⟨g, 5, none⟩ (.slice (some ⟨b6, 0, none⟩) m d6)).drew g q (.slice (some ⟨bE, oE, none⟩) n ce) n { s' with way := W }) := by
            have h := wk6 m (by omega)
            rw [hwx.out, show (W ++ [x]).take m = W by rw [← HWL.out, List.take_left]] at h
            exact h.below (Below.refl _ _).drew
          clear wk6 cc6 hlen
          have hm := hWm.out
          have hw64 : wrap64 (m : Int) = (m : Int) := by unfold wrap64; omega
          have hmd : (m : Int) ≤ (d6 : Int) := by omega
          have hmd2 : m ≤ d6 := by omega
          have hmI : (m : Int) < (m : Int) + 1 := by omega
          go_upto_region 13 with (fail)
          refine wp_region_quiet_tail 12 (by kernel_rfl) (by kernel_rfl) ?_
          simp only [List.take_succ_cons, List.take_zero, List.drop_succ_cons, List.drop_zero]
          repeat (go_big_quiet_step (fail))
          refine wpQuiet_nil ?_
          clear HLZ
          go_upto_region 14 with (fail)
          generalize (w6.setCell ⟨g, 5, none⟩ (.slice (some ⟨b6, 0, none⟩) m d6)).drew = w7 at *
          clear c6 f6 l6 m6 hcap6 hmd hmd2 hmI HR6
          have hcap7 := HR7.out.cap
          obtain ⟨a7, d7, c7, f7, l7, m7, cc7, _⟩ := HR7.out.rdWay
          have hwl : ({ s' with way := W } : St).way.length = m := HWL.out
          rw [hwl] at c7 l7 cc7
          have CC7 := Lib.hid cc7
          obtain ⟨bl, dl, cl, nl⟩ := HR7.out.rdLow x HXN.out
          have hlx : ({ s' with way := W } : St).low x = s'.low x := rfl
          rw [hlx] at nl
          have hcn := hp.out.cnt
          rw [HE.out] at hcn
          have hsl : s'.stack.length ≤ 1000000000 := by have := hp.out.len; omega
          have hunW : unv n s' = unv n s := hun.out
          have hk0 : 2 * unv n s' + m < k0 := by
            have h1 := hk.out
            have h2 : s.way.length = m + 1 := by rw [HWX.out, List.length_append, HWL.out]; rfl
            omega
          have HK0 := Lib.hid hk0
          have HSL := Lib.hid hsl
          clear cc7 f7 m7 hwl hlx hcn hsl hunW hk0
          by_cases hroot : s'.low x = s'.num x
          · obtain ⟨A, B, hs⟩ := List.append_of_mem hxs.out
            have hrt := hp.out.inv.root hwx.out HFU.out hroot hs (minL_mem x B) (minL_le x B)
            have hxB : x ∉ B := fun hm => by
              have hso := hp.out.inv.sorted
              rw [hs, List.pairwise_append, List.pairwise_cons] at hso
              have := hso.2.1.1 x hm; omega
            have HLV := Lib.hid fun w8 (h8 : WR w0 w8 g q (.slice (some ⟨bE, oE, none⟩) n ce) n { s' with way := W }) => wr_root h8 x A B hs hxB (fun v hv => by
              rw [← HE.out]
              exact (hp.out.inv.mem v (by rw [hs]; exact List.mem_append_right _ hv)).1) hroot (by omega) HSL.out
            have HPR : Hid (PInv E (fun v => Z v ∨ v = x0) (s'.off W A (x :: B) (minL (x :: B)))) := ⟨hrt, hp.out.cnt, by
              have h1 := hp.out.len
              rw [hs, List.length_append] at h1
              show A.length ≤ s'.cnt; omega, hp.out.seen⟩
            have HLE : Hid (∀ p ∈ W, s'.low p ≤ s'.low x) := fun p hpW => by
              have h1 := hp.out.inv.wlt hwx.out p hpW
              have h2 := (hp.out.inv.low p (hp.out.inv.way_mem (by rw [hwx.out]; exact List.mem_append_left _ hpW))).1
              omega
            clear hs hrt hxB hroot
            generalize minL (x :: B) = mn at *
            rcases List.eq_nil_or_concat W with hW0 | ⟨W', p, hW0⟩
            · have hm0 : m = 0 := by rw [← HWL.out, hW0]; rfl
              subst hm0
              clear hW0 l7
              go_wp2_with fail
              refine (HLV.out _ HR7.out).mono ?_
              rintro e w8 ⟨rfl, hr8⟩
              go_wp2
              go_roundg (2 * unv n s')
              case measure => have := HK0.out; omega
              case rel => exact ⟨s'.off W A (x :: B) mn, (by show 2 * unv n s' = 2 * unv n s' + W.length; have := HWL.out; omega), hr8, HPR⟩
            · rw [List.concat_eq_append] at hW0
              obtain ⟨m', rfl⟩ : ∃ m', m = m' + 1 := ⟨W'.length, by rw [← HWL.out, hW0]; simp⟩
              have hgp : W.getD m' 0 = p := by
                have : W'.length = m' := by have := HWL.out; rw [hW0] at this; simpa using this
                rw [hW0, ← this]; simp [List.getD]
              obtain ⟨b7, rfl, cp⟩ := CC7.out m' (by omega)
              have hgp2 : ({ s' with way := W } : St).way.getD m' 0 = p := hgp
              rw [hgp2] at cp
              have hpW : p ∈ W := by rw [hW0]; simp
              have hpn : p < n := by
                rw [← HE.out]
                exact (hp.out.inv.mem p (hp.out.inv.way_mem (by rw [hwx.out]; exact List.mem_append_left _ hpW))).1
              have HLO := Lib.hid (wr_lower (HR7.out.below (Below.refl _ _).drew) p (s'.low x) hpn)
              rw [lower_same _ _ _ (show ({ s' with way := W } : St).low p ≤ s'.low x from HLE.out p hpW)] at HLO
              have hpI : (p : Int) < (n : Int) := by omega
              have hmI : (m' : Int) < (m' : Int) + 1 := by omega
              have hw64' : wrap64 (m' : Int) = (m' : Int) := by unfold wrap64; omega
              clear hgp hgp2 hpW hW0 hpn HLE
              generalize s'.low x = lx at *
              go_wp2_with fail
              refine wp_region_quiet_tail 20 (by kernel_rfl) (by kernel_rfl) ?_
              simp only [List.take_succ_cons, List.take_zero, List.drop_succ_cons, List.drop_zero]
              repeat (go_big_quiet_step (fail))
              refine wpQuiet_nil ?_
              go_wp2_with fail
              refine HLO.out.mono ?_
              rintro e w8 ⟨rfl, hr8⟩
              have hcap8 := hr8.out.cap
              clear c7 nl cl cp hcap7
              go_wp2_with fail
              refine (HLV.out _ hr8.out).mono ?_
              rintro e w9 ⟨rfl, hr9⟩
              go_wp2
              go_roundg (2 * unv n s' + (m' + 1))
              case measure => exact HK0.out
              case rel => exact ⟨s'.off W A (x :: B) mn, (by show 2 * unv n s' + (m' + 1) = 2 * unv n s' + W.length; have := HWL.out; omega), hr9, HPR⟩
          · obtain ⟨W', p, hW0, hst⟩ := hp.out.inv.stay hwx.out HFU.out hroot
            obtain ⟨m', rfl⟩ : ∃ m', m = m' + 1 := ⟨W'.length, by rw [← HWL.out, hW0]; simp⟩
            have hgp : W.getD m' 0 = p := by
              have : W'.length = m' := by have := HWL.out; rw [hW0] at this; simpa using this
              rw [hW0, ← this]; simp [List.getD]
            obtain ⟨b7, rfl, cp⟩ := CC7.out m' (by omega)
            have hgp2 : ({ s' with way := W } : St).way.getD m' 0 = p := hgp
            rw [hgp2] at cp
            have hpW : p ∈ W := by rw [hW0]; simp
            have hpn : p < n := by
              rw [← HE.out]
              exact (hp.out.inv.mem p (hp.out.inv.way_mem (by rw [hwx.out]; exact List.mem_append_left _ hpW))).1
            have hpx : p ≠ x := fun e => by
              have := hp.out.inv.wlt hwx.out p hpW
              rw [e] at this; omega
            have HLO := Lib.hid (wr_lower (HR7.out.below (Below.refl _ _).drew) p (s'.low x) hpn)
            have HLV := Lib.hid fun w8 (h8 : WR w0 w8 g q (.slice (some ⟨bE, oE, none⟩) n ce) n (({ s' with way := W } : St).lower p (s'.low x))) => wr_stay h8 x HXN.out (by
              have e1 : (({ s' with way := W } : St).lower p (s'.low x)).low x = s'.low x := up_other _ _ _ _ (Ne.symm hpx)
              rw [e1]; exact hroot)
            have HPR : Hid (PInv E (fun v => Z v ∨ v = x0) (({ s' with way := W } : St).lower p (s'.low x))) := ⟨hst, hp.out.cnt, hp.out.len, hp.out.seen⟩
            have hpI : (p : Int) < (n : Int) := by omega
            have hmI : (m' : Int) < (m' : Int) + 1 := by omega
            have hw64' : wrap64 (m' : Int) = (m' : Int) := by unfold wrap64; omega
            clear hgp hgp2 hpW hW0 hpn hroot hst hpx
            generalize s'.low x = lx at *
            go_wp2_with fail
            refine wp_region_quiet_tail 20 (by kernel_rfl) (by kernel_rfl) ?_
            simp only [List.take_succ_cons, List.take_zero, List.drop_succ_cons, List.drop_zero]
            repeat (go_big_quiet_step (fail))
            refine wpQuiet_nil ?_
            go_wp2_with fail
            refine HLO.out.mono ?_
            rintro e w8 ⟨rfl, hr8⟩
            have hcap8 := hr8.out.cap
            clear c7 nl cl cp hcap7
            go_wp2_with fail
            refine (HLV.out _ hr8.out).mono ?_
            rintro e w9 ⟨rfl, hr9⟩
            go_wp2
            go_roundg (2 * unv n s' + (m' + 1))
            case measure => exact HK0.out
            case rel => exact ⟨({ s' with way := W } : St).lower p lx, (by show 2 * unv n s' + (m' + 1) = 2 * unv n s' + W.length; have := HWL.out; omega), hr9, HPR⟩
end Go.Proofs.Ytnkfmhhfeaohbaa
