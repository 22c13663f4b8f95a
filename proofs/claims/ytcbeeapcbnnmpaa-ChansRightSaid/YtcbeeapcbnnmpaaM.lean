/- The walk of the law ChansRight. -/
import Derived.Test.YtcbeeapcbnnmpaaL
import Derived.Deep.RegionHeld3
import Derived.Test.YtcbeeapcbnnmpaaStruct
namespace Go.Proofs.Ytcbeeapcbnnmpaa
open Go.RowKit Go.Own

/-- The world with the law's box of the channel. -/
abbrev boxed (w : World) (nm : ByteArray) (sc cp lo hi : Int) (ls : Bool) : World := w.alloc (.cells #[.string nm, .int .i64 sc, .int .i64 cp, .int .i64 lo, .int .i64 hi, .bool ls] 36)

def Boxed (w : World) (nm : ByteArray) (sc cp lo hi : Int) (ls : Bool) (w1 : World) : Prop := Below (boxed w nm sc cp lo hi ls).heap.size (boxed w nm sc cp lo hi ls) w1

theorem boxed_then {w : World} {nm : ByteArray} {sc cp lo hi : Int} {ls : Bool} {w1 w2 : World} (h : Boxed w nm sc cp lo hi ls w1) (h2 : Below w1.heap.size w1 w2) : Boxed w nm sc cp lo hi ls w2 := below_then h h2
theorem boxed_below {w : World} {nm : ByteArray} {sc cp lo hi : Int} {ls : Bool} {w1 : World} (h : Boxed w nm sc cp lo hi ls w1) : Below w.heap.size w w1 := below_then (below_alloc (Below.refl _ w) _) h

/-- The six cells of the box, and that nothing old has turned. -/
theorem held_of {w : World} {nm : ByteArray} {sc cp lo hi : Int} {ls : Bool} {w1 : World} (h : Hid (Boxed w nm sc cp lo hi ls w1)) :
    w1.cell? ⟨w.heap.size, 0, none⟩ = some (.string nm) ∧ w1.cell? ⟨w.heap.size, 1, none⟩ = some (.int .i64 sc) ∧ w1.cell? ⟨w.heap.size, 2, none⟩ = some (.int .i64 cp) ∧ w1.cell? ⟨w.heap.size, 3, none⟩ = some (.int .i64 lo) ∧ w1.cell? ⟨w.heap.size, 4, none⟩ = some (.int .i64 hi) ∧ w1.cell? ⟨w.heap.size, 5, none⟩ = some (.bool ls) ∧ Hid (Boxed w nm sc cp lo hi ls w1) := by
  obtain ⟨a, b, c, d, e, f⟩ := box_cells w nm sc cp lo hi ls w1 h.out
  exact ⟨a, b, c, d, e, f, h⟩

set_option maxRecDepth 100000 in
set_option maxHeartbeats 2000000 in
theorem chansRight_walk (a : Option Addr) (n cap : Nat) (zs : List Int) (nm : ByteArray) (sc cp lo hi : Int) (ls : Bool) (ad : Option Addr) (m c : Nat) (szs : List Int) (w : World)
    (hl : n ≤ cap) (hcm : cap ≤ 9223372036854775807) (hn : n * 8 ≤ 140737488351232) (hr : RowAt .i64 w a n zs) (hsc : -9223372036854775808 ≤ sc ∧ sc ≤ 9223372036854775807) (hm : m ≤ 9223372036854775807) (hs : RowS w ad m szs) :
    Calls Try.prog 7 #[.slice a n cap, chanV nm sc cp lo hi ls, .slice ad m c] w fun e w' => e = .returned (.bool true) ∧ Below w.heap.size w w' := by
  have HR := Lib.hid hr
  have HS := Lib.hid hs
  have HC1 := fun (w1 : World) (hb : Below w.heap.size w w1) => right_any a n cap zs nm sc cp lo hi ls ad m c szs w1 hl hcm hn (hr.below hb) hsc hm (hs.below hb)
  have HC2 := fun (w1 : World) (hb : Below w.heap.size w w1) => refRight_any a n cap zs nm sc cp lo hi ls ad m c szs w1 hl hcm hn (hr.below hb) hsc hm (hs.below hb)
  clear hr hs
  generalize rightB sc cp lo hi szs zs = ans at *
  have HD1 := Lib.hid HC1
  have HD2 := Lib.hid HC2
  clear HC1 HC2 HR HS hsc
  have hans : (ans == ans) = true := beq_self_eq_true _
  have H0 : Hid (Boxed w nm sc cp lo hi ls (boxed w nm sc cp lo hi ls).drew) := (Below.refl _ _).drew
  go_enter Try.func7, Try.ntmps7
  go_wp2_with fail
  go_region_held3 (fun w' => w'.cell? ⟨w.heap.size, 0, none⟩ = some (.string nm) ∧ w'.cell? ⟨w.heap.size, 1, none⟩ = some (.int .i64 sc) ∧ w'.cell? ⟨w.heap.size, 2, none⟩ = some (.int .i64 cp) ∧ w'.cell? ⟨w.heap.size, 3, none⟩ = some (.int .i64 lo) ∧ w'.cell? ⟨w.heap.size, 4, none⟩ = some (.int .i64 hi) ∧ w'.cell? ⟨w.heap.size, 5, none⟩ = some (.bool ls) ∧ Hid (Boxed w nm sc cp lo hi ls w'))
    (first | exact held_of H0 | exact held_of (by assumption))
    (first
      | (go_at_call 18; refine (HD1.out _ (boxed_below H0.out)).mono ?_; rintro e w2 ⟨rfl, hb2⟩; have H2 : Hid (Boxed w nm sc cp lo hi ls w2) := boxed_then H0.out hb2; clear hb2)
      | (go_at_call 19; refine (HD2.out _ (boxed_below H2.out)).mono ?_; rintro e w3 ⟨rfl, hb3⟩; have H3 : Hid (Boxed w nm sc cp lo hi ls w3) := boxed_then H2.out hb3; clear hb3)
      | (go_at_call 13; refine (lives_any _).mono ?_; rintro e w4 ⟨rfl, hb4⟩; have H4 : Hid (Boxed w nm sc cp lo hi ls w4) := boxed_then H3.out hb4; clear hb4))
  go_wp2
  go_ret
  exact ⟨rfl, boxed_below H4.out⟩

/-! ### The arguments, opened. -/
section
variable {H : Type} {enc : TypeId × Value → H} {W : World}
open Go.ChangeShapes Go.WideShapes Go.ChangeAt Go.Deep

theorem view_chan {base : Nat} {v : Value} {d : DataW H} {p : List MemPlace} (hv : Value.okWide Try.prog W .any base 36 v) (h : DataW.Trod enc Try.prog W 0 (fun _ => true) true 36 v d p) :
    ∃ nm sc cp lo hi ls, v = chanV nm sc cp lo hi ls ∧ -9223372036854775808 ≤ sc ∧ sc ≤ 9223372036854775807 := by
  obtain ⟨cs, rfl, hsz, n, hf⟩ := view_struct Try.underlying36 (by kernel_rfl) hv h
  obtain ⟨x0, x1, x2, x3, x4, x5, rfl⟩ := array6 cs (hsz.trans (by kernel_rfl))
  obtain ⟨y0, h0⟩ := hf 0 _ x0 rfl rfl
  obtain ⟨y1, h1⟩ := hf 1 _ x1 rfl rfl
  obtain ⟨y2, h2⟩ := hf 2 _ x2 rfl rfl
  obtain ⟨y3, h3⟩ := hf 3 _ x3 rfl rfl
  obtain ⟨y4, h4⟩ := hf 4 _ x4 rfl rfl
  obtain ⟨y5, h5⟩ := hf 5 _ x5 rfl rfl
  obtain ⟨nm, e0, _⟩ := DataW.trod_string Try.underlying9 h0
  obtain ⟨sc, e1, _, w1⟩ := DataW.trod_int Try.underlying3 h1
  obtain ⟨cp, e2, _⟩ := DataW.trod_int Try.underlying3 h2
  obtain ⟨lo, e3, _⟩ := DataW.trod_int Try.underlying3 h3
  obtain ⟨hi, e4, _⟩ := DataW.trod_int Try.underlying3 h4
  obtain ⟨ls, e5, _⟩ := DataW.trod_bool Try.underlying4 h5
  simp only [List.cons.injEq, and_true] at e0 e1 e2 e3 e4 e5
  subst e0 e1 e2 e3 e4 e5
  exact ⟨nm, sc, cp, lo, hi, ls, rfl, bounds_i64 w1⟩

theorem view_scalars {a : Option Addr} {len cap : Nat} {d : DataW H} {p : List MemPlace} (h : DataW.Trod enc Try.prog W 0 (fun _ => true) true 37 (.slice a len cap) d p) (hw : ∀ n ∈ d.weights Try.prog 37, n ≤ reachBytes) :
    ∃ zs, RowS W a len zs ∧ len ≤ cap ∧ cap ≤ maxLen := by
  obtain ⟨hl, hm, _, _, hc⟩ := view_structs (bytes := 24) (k := 2) Try.underlying37 Try.underlying46 (by kernel_rfl) rfl (by decide) (by kernel_rfl) (by kernel_rfl) h hw
  rcases hc with rfl | ⟨b, off, rfl, hc⟩
  · exact ⟨[], ⟨rfl, .inl rfl⟩, hl, hm⟩
  · have hz : ∀ i, i < len → ∃ z : Int, W.cell? ⟨b, off + i * 2 + 1, none⟩ = some (.int .i64 z) := fun i hi => by
      obtain ⟨n, hn⟩ := hc i hi
      obtain ⟨c, y, h1, h2⟩ := hn 1 _ rfl
      obtain ⟨z, e, _⟩ := DataW.trod_int Try.underlying3 h2
      simp only [List.cons.injEq, and_true] at e
      subst e
      exact ⟨z, h1⟩
    obtain ⟨Z, hZ⟩ := choose_lt hz
    refine ⟨(List.range len).map Z, ⟨by simp, .inr ⟨b, off, rfl, fun i hi => ?_⟩⟩, hl, hm⟩
    rw [hZ i hi]
    simp [List.getD, hi]
end

theorem chansRight_law (a : Option Addr) (n cap : Nat) (zs : List Int) (nm : ByteArray) (sc cp lo hi : Int) (ls : Bool) (ad : Option Addr) (m c : Nat) (szs : List Int) (w : World)
    (hr : RowAt .i64 w a n zs) (_ : ∀ z ∈ zs, (Lit.int .i64 z).wf = true) (hl : n ≤ cap) (hcm : cap ≤ maxLen) (hs : cap * 8 ≤ 140737488351232) (_ : a = none → n = 0 ∧ cap = 0) (hsc : -9223372036854775808 ≤ sc ∧ sc ≤ 9223372036854775807)
    (hss : RowS w ad m szs) (hl2 : m ≤ c) (hm2 : c ≤ maxLen) :
    Calls Try.prog 7 #[.slice a n cap, chanV nm sc cp lo hi ls, .slice ad m c] w fun e w' => e = .returned (.bool true) ∧ Below w.heap.size w w' := by
  unfold maxLen at hcm hm2
  exact chansRight_walk a n cap zs nm sc cp lo hi ls ad m c szs w hl hcm (by omega) hr hsc (by omega) hss
end Go.Proofs.Ytcbeeapcbnnmpaa
