/- Walks of what the law ChansRight reaches: a channel's bounds, the library's ContainsFunc at Right's predicate, Right, the program's and the reference's. -/
import Derived.Test.YtcbeeapcbnnmpaaF
namespace Go.Proofs.Ytcbeeapcbnnmpaa
open Go.RowKit Go.Own

/-- Out of bounds? -/
def outB (lo hi : Int) (n : Int) : Bool := !fits n lo hi

theorem out_any (x lo hi : Int) (p q : Addr) (w : World) (h1 : w.cell? p = some (.int .i64 lo)) (h2 : w.cell? q = some (.int .i64 hi)) :
    Calls Try.prog 26 #[.int .i64 x, .pointer (some p), .pointer (some q)] w fun e w' => e = .returned (.bool (outB lo hi x)) ∧ w = w' := by
  have HF := Lib.hid (fits_any x lo hi w)
  go_enter Try.func26, Try.ntmps26
  go_wp2_with fail
  refine HF.out.mono ?_
  rintro e w' ⟨rfl, rfl⟩
  go_wp2
  go_ret
  exact ⟨rfl, rfl⟩

set_option maxHeartbeats 400000 in
theorem index26_any (a : Option Addr) (n cap : Nat) (zs : List Int) (lo hi : Int) (p q : Addr) (w : World) (h1 : w.cell? p = some (.int .i64 lo)) (h2 : w.cell? q = some (.int .i64 hi)) (hn : n ≤ 9223372036854775807) (hr : RowAt .i64 w a n zs) :
    Calls Try.prog 29 #[.slice a n cap, .func (.func 26) #[] #[.pointer (some p), .pointer (some q)]] w fun e w' => e = .returned (.int .i64 (idx (outB lo hi) zs)) ∧ w = w' := by
  obtain ⟨hl, hr⟩ := hr
  have HL := Lib.hid hl
  have HO := Lib.hid (fun x => out_any x lo hi p q w h1 h2)
  clear hl h1 h2
  go_enter Try.func29, Try.ntmps29
  go_wp2
  go_loop [5, 8] (fun _ i => ∃ k : Nat, k ≤ n ∧ i = .int .i64 k ∧ Hid (∀ j, j < k → outB lo hi (zs.getD j 0) = false)) (fun _ i => n - (intOf i).toNat)
  case atStart => exact ⟨0, Nat.zero_le _, rfl, fun j hj => by omega⟩
  case round =>
    obtain ⟨k, hk, rfl, hno⟩ := hrel
    by_cases hlt : k < n
    · rcases hr with h0 | ⟨b, off, rfl, hc⟩
      · omega
      have hck := hc k hlt
      clear hc
      cases hp : outB lo hi (zs.getD k 0) with
      | true =>
        have HI := Lib.hid (idx_some (outB lo hi) zs k (by rw [HL.out]; exact hlt) hno.out hp)
        have HC := HO.out (zs.getD k 0)
        simp only [hp] at HC
        have HC' := Lib.hid HC
        clear HC hp
        go_wp2_with fail
        refine HC'.out.mono ?_
        rintro e w' ⟨rfl, rfl⟩
        go_wp2
        go_ret
        exact ⟨by rw [HI.out]; rfl, rfl⟩
      | false =>
        have HC := HO.out (zs.getD k 0)
        simp only [hp] at HC
        have HC' := Lib.hid HC
        have HN : Hid (∀ j, j < k + 1 → outB lo hi (zs.getD j 0) = false) := fun j hj => by
          rcases Nat.lt_succ_iff_lt_or_eq.1 hj with h | rfl
          · exact hno.out j h
          · exact hp
        clear HC hp
        go_wp2_with fail
        refine HC'.out.mono ?_
        rintro e w' ⟨rfl, rfl⟩
        go_wp2
        go_round
        case rel => exact ⟨k + 1, by omega, by go_num, HN⟩
        case measure => simp [intOf]; omega
    · obtain rfl : k = n := by omega
      have HI := Lib.hid (idx_none (outB lo hi) zs (by rw [HL.out]; exact hno.out))
      clear hr
      go_wp2
      go_ret
      exact ⟨by rw [HI.out]; rfl, rfl⟩

theorem contains26_any (a : Option Addr) (n cap : Nat) (zs : List Int) (lo hi : Int) (p q : Addr) (w : World) (h1 : w.cell? p = some (.int .i64 lo)) (h2 : w.cell? q = some (.int .i64 hi)) (hn : n ≤ 9223372036854775807) (hr : RowAt .i64 w a n zs) :
    Calls Try.prog 25 #[.slice a n cap, .func (.func 26) #[] #[.pointer (some p), .pointer (some q)]] w fun e w' => e = .returned (.bool (zs.any (outB lo hi))) ∧ w = w' := by
  have HI := Lib.hid (idx_any (outB lo hi) zs)
  have HC := Lib.hid (index26_any a n cap zs lo hi p q w h1 h2 hn hr)
  clear hr h1 h2
  go_enter Try.func25, Try.ntmps25
  go_wp2_with fail
  refine HC.out.mono ?_
  rintro e w' ⟨rfl, rfl⟩
  go_wp2
  go_ret
  exact ⟨by rw [← HI.out]; rfl, rfl⟩

/-- A channel, as a value. -/
abbrev chanV (nm : ByteArray) (sc cp lo hi : Int) (ls : Bool) : Value := .agg #[.string nm, .int .i64 sc, .int .i64 cp, .int .i64 lo, .int .i64 hi, .bool ls]

/-- A slice of scalars, told by their sizes. -/
def RowS (w : World) (a : Option Addr) (n : Nat) (zs : List Int) : Prop :=
  zs.length = n ∧ (n = 0 ∨ ∃ b off, a = some ⟨b, off, none⟩ ∧ ∀ i, i < n → w.cell? ⟨b, off + i * 2 + 1, none⟩ = some (.int .i64 (zs.getD i 0)))
theorem RowS.below {w w' : World} {a : Option Addr} {n : Nat} {zs : List Int} (h : RowS w a n zs) (hb : Below w.heap.size w w') : RowS w' a n zs := by
  refine ⟨h.1, h.2.imp id ?_⟩
  rintro ⟨b, off, rfl, hc⟩
  refine ⟨b, off, rfl, fun i hi => ?_⟩
  exact (hb.cell (World.block_lt_of_cell? w _ (hc i hi))).trans (hc i hi)

/-- A channel's bounds. -/
def bLo (sc lo : Int) (zs : List Int) : Int := if sc = 0 then lo else 0
def bHi (sc hi : Int) (zs : List Int) : Int := if sc = 0 then hi else if sc < 0 ∨ (zs.length : Int) < sc then 0 else zs.getD (sc - 1).toNat 0
def bOk (sc : Int) (zs : List Int) : Bool := decide (0 ≤ sc ∧ sc ≤ zs.length)

def BoundsDone (sc lo hi : Int) (zs : List Int) (w : World) (e : Ending) (w' : World) : Prop :=
  e = .returned (.tuple #[.int .i64 (bLo sc lo zs), .int .i64 (bHi sc hi zs), .bool (bOk sc zs)]) ∧ Below w.heap.size w w'

set_option maxHeartbeats 1000000 in
theorem bounds_any (nm : ByteArray) (sc cp lo hi : Int) (ls : Bool) (a : Option Addr) (n c : Nat) (zs : List Int) (w : World) (hsc : -9223372036854775808 ≤ sc ∧ sc ≤ 9223372036854775807) (hn : n ≤ 9223372036854775807) (hr : RowS w a n zs) :
    Calls Try.prog 24 #[chanV nm sc cp lo hi ls, .slice a n c] w (BoundsDone sc lo hi zs w) := by
  obtain ⟨hl, hr⟩ := hr
  have HL := Lib.hid hl
  obtain ⟨s0, s1⟩ := hsc
  by_cases h0 : sc = 0
  · subst h0
    have H1 : Hid (bLo 0 lo zs = lo) := rfl
    have H2 : Hid (bHi 0 hi zs = hi) := rfl
    have H3 : Hid (bOk 0 zs = true) := by show _ = _; simp [bOk]
    clear hl hr
    go_enter Try.func24, Try.ntmps24
    go_wp2
    go_quiet (fail)
    go_wp2
    go_ret3
    exact ⟨by rw [H1.out, H2.out, H3.out]; rfl, below_drewN (below_alloc (Below.refl _ _) _) _⟩
  · have d0 : (sc == 0) = false := beq_eq_false_iff_ne.2 h0
    by_cases hneg : sc < 0
    · have d1 : decide (sc < 0) = true := decide_eq_true hneg
      have H1 : Hid (bLo sc lo zs = 0) := if_neg h0
      have H2 : Hid (bHi sc hi zs = 0) := by show _ = _; unfold bHi; rw [if_neg h0, if_pos (.inl hneg)]
      have H3 : Hid (bOk sc zs = false) := decide_eq_false (by omega)
      clear hl hr
      go_enter Try.func24, Try.ntmps24
      go_wp2
      go_ret3
      exact ⟨by rw [H1.out, H2.out, H3.out]; rfl, below_alloc (Below.refl _ _) _⟩
    · have d1 : decide (sc < 0) = false := decide_eq_false hneg
      by_cases hbig : (n : Int) < sc
      · have d2 : decide ((n : Int) < sc) = true := decide_eq_true hbig
        have H1 : Hid (bLo sc lo zs = 0) := if_neg h0
        have H2 : Hid (bHi sc hi zs = 0) := by show _ = _; unfold bHi; rw [if_neg h0, if_pos (.inr (by rw [hl]; exact hbig))]
        have H3 : Hid (bOk sc zs = false) := decide_eq_false (by rw [hl]; omega)
        clear hl hr
        go_enter Try.func24, Try.ntmps24
        go_wp2
        go_ret3
        exact ⟨by rw [H1.out, H2.out, H3.out]; rfl, below_alloc (Below.refl _ _) _⟩
      · have d2 : decide ((n : Int) < sc) = false := decide_eq_false hbig
        obtain ⟨i, rfl⟩ : ∃ i : Nat, sc = (i : Int) + 1 := ⟨(sc - 1).toNat, by omega⟩
        have H1 : Hid (bLo ((i : Int) + 1) lo zs = 0) := if_neg h0
        have H2 : Hid (bHi ((i : Int) + 1) hi zs = zs.getD i 0) := by
          show _ = _
          unfold bHi
          rw [if_neg h0, if_neg (by rw [hl]; omega), show ((i : Int) + 1 - 1).toNat = i by omega]
        have H3 : Hid (bOk ((i : Int) + 1) zs = true) := decide_eq_true (by rw [hl]; omega)
        obtain ⟨b, off, rfl, hc⟩ := hr.resolve_left (by omega)
        have hck := hc i (by omega)
        have hckA : ∀ o, (w.alloc o).cell? ⟨b, off + i * 2 + 1, none⟩ = some (.int .i64 (zs.getD i 0)) := fun o => by
          rw [World.cell?_alloc_lt _ _ _ (World.block_lt_of_cell? w _ hck), hck]
        have hiI : (i : Int) < (n : Int) := by omega
        clear hl hr hc hck
        generalize zs.getD i 0 = z at *
        go_enter Try.func24, Try.ntmps24
        go_wp2
        go_quiet (fail)
        go_wp2
        go_ret3
        exact ⟨by rw [H1.out, H2.out, H3.out]; rfl, below_drewN (below_alloc (Below.refl _ _) _) _⟩
end Go.Proofs.Ytcbeeapcbnnmpaa
