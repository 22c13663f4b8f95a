/- Walks of 'is', the program's and the reference's. -/
import Derived.Test.YtcbeeapcbnnmpaaA
namespace Go.Proofs.Ytcbeeapcbnnmpaa
open Go.RowKit Go.Own

/-- Are these numbers cells? -/
def isC : List Int → Bool
  | [] => false
  | c :: r => fits c 0 r.length && !(r.drop c.toNat).any notZero

theorem isC_nil : isC [] = false := rfl
theorem isC_no {c : Int} {r : List Int} (h : fits c 0 r.length = false) : isC (c :: r) = false := by simp [isC, h]
theorem isC_yes {r : List Int} {m : Nat} (h : m ≤ r.length) : isC ((m : Int) :: r) = !(r.drop m).any notZero := by
  have : fits (m : Int) 0 r.length = true := decide_eq_true ⟨by omega, by omega⟩
  simp [isC, this]

/-- The cells behind a place. -/
theorem RowAt.from {k : IntKind} {w : World} {b off n : Nat} {zs : List Int} (h : RowAt k w (some ⟨b, off, none⟩) n zs) (i : Nat) (hi : i ≤ n) (ad : Option Addr) (had : i < n → ad = some ⟨b, off + i, none⟩) : RowAt k w ad (n - i) (zs.drop i) := by
  obtain ⟨h1, h2⟩ := h
  refine ⟨by simp [h1], ?_⟩
  by_cases hlt : i < n
  · rcases h2 with h2 | ⟨b', off', e, hc⟩
    · omega
    · simp at e; obtain ⟨rfl, rfl⟩ := e
      refine .inr ⟨b, off + i, had hlt, fun j hj => ?_⟩
      have := hc (i + j) (by omega)
      rw [Nat.add_assoc, this]
      simp [List.getD]
  · exact .inl (by omega)

set_option maxHeartbeats 800000 in
theorem is_any (a : Option Addr) (n cap : Nat) (zs : List Int) (w : World) (hl : n ≤ cap) (hn : cap ≤ 9223372036854775807) (hr : RowAt .i64 w a n zs) :
    Calls Try.prog 20 #[.slice a n cap] w fun e w' => e = .returned (.bool (isC zs)) ∧ w = w' := by
  match zs, hr with
  | [], hr =>
    obtain ⟨h, _⟩ := hr
    simp at h; subst h
    go_enter Try.func20, Try.ntmps20
    go_wp2
    go_ret
    exact ⟨rfl, rfl⟩
  | c :: r, hr =>
    have hlen : Hid (r.length + 1 = n) := hr.1
    have hpos : 0 < n := by have := hlen.out; omega
    have h0 : ((n : Int) == 0) = false := by simp; omega
    obtain ⟨b, off, rfl, hc⟩ : ∃ b off, a = some ⟨b, off, none⟩ ∧ ∀ i, i < n → w.cell? ⟨b, off + i, none⟩ = some (.int .i64 ((c :: r).getD i 0)) := hr.2.resolve_left (by omega)
    have hc0 : w.cell? ⟨b, off, none⟩ = some (.int .i64 c) := hc 0 hpos
    have HR := Lib.hid hr
    clear hc hr
    have HF := fun w => fits_any c 0 ((n : Int) - 1) w
    have hn1 : Hid ((r.length : Int) = (n : Int) - 1) := by have := hlen.out; show _ = _; omega
    cases hf : fits c 0 ((n : Int) - 1) with
    | false =>
      simp only [hf] at HF
      have HF' := Lib.hid HF
      have HX : Hid (isC (c :: r) = false) := isC_no (by rw [hn1.out]; exact hf)
      clear HF hf
      go_enter Try.func20, Try.ntmps20
      go_wp2_with fail
      refine (HF'.out _).mono ?_
      rintro e w' ⟨rfl, rfl⟩
      go_wp2
      go_ret
      exact ⟨by rw [HX.out]; rfl, rfl⟩
    | true =>
      simp only [hf] at HF
      have HF' := Lib.hid HF
      have hb : 0 ≤ c ∧ c ≤ (n : Int) - 1 := of_decide_eq_true hf
      clear HF hf
      obtain ⟨m, rfl⟩ := Int.eq_ofNat_of_zero_le hb.1
      have hm : 1 + m ≤ n := by have := hb.2; omega
      clear hb
      have HX := Lib.hid (isC_yes (r := r) (m := m) (by have := hlen.out; omega))
      by_cases hcap : 1 + m = cap
      · have hd : Hid (r.drop m = []) := List.drop_eq_nil_of_le (by have := hlen.out; omega)
        have HX2 : Hid (isC ((m : Int) :: r) = true) := by show _ = _; rw [HX.out, hd.out]; rfl
        go_enter Try.func20, Try.ntmps20
        go_wp2_with (go_at_call 27; refine (HF'.out _).mono ?_; rintro e w' ⟨rfl, rfl⟩)
        refine (contains28_any _ 0 0 [] _ (by omega) ⟨rfl, .inl rfl⟩).mono ?_
        rintro e w' ⟨rfl, rfl⟩
        go_wp2
        go_ret
        exact ⟨by rw [HX2.out]; rfl, rfl⟩
      · have HC : Hid (Calls Try.prog 25 #[.slice (some ⟨b, off + (1 + m), none⟩) (n - (1 + m)) (cap - (1 + m)), .func (.func 28) #[] #[]] w fun e w' => e = .returned (.bool ((r.drop m).any notZero)) ∧ w = w') :=
          contains28_any _ _ _ _ _ (by omega) (by have := RowAt.from HR.out (1 + m) hm (some ⟨b, off + (1 + m), none⟩) (fun _ => rfl); rwa [Nat.add_comm 1 m, List.drop_succ_cons, Nat.add_comm m 1] at this)
        generalize (r.drop m).any notZero = ans at *
        go_enter Try.func20, Try.ntmps20
        go_wp2_with (go_at_call 27; refine (HF'.out _).mono ?_; rintro e w' ⟨rfl, rfl⟩)
        refine HC.out.mono ?_
        rintro e w' ⟨rfl, rfl⟩
        go_wp2
        go_ret
        exact ⟨by rw [HX.out]; rfl, rfl⟩

/-- What the reference's loop has seen so far: zeros alone. -/
theorem any_false_of (l : List Int) (h : ∀ j, j < l.length → l.getD j 0 = 0) : l.any notZero = false := by
  rw [List.any_eq_false]
  intro x hx
  obtain ⟨j, hj, rfl⟩ := List.getElem_of_mem hx
  have := h j hj
  simp [List.getD, hj] at this
  simp [notZero, this]
theorem any_true_of (l : List Int) (j : Nat) (hj : j < l.length) (h : l.getD j 0 ≠ 0) : l.any notZero = true := by
  rw [List.any_eq_true]
  refine ⟨l[j], List.getElem_mem hj, ?_⟩
  simp [List.getD, hj] at h
  simp [notZero, h]

set_option maxHeartbeats 800000 in
theorem refIs_any (a : Option Addr) (n cap : Nat) (zs : List Int) (w : World) (hl : n ≤ cap) (hn : cap ≤ 9223372036854775807) (hr : RowAt .i64 w a n zs) :
    Calls Try.prog 22 #[.slice a n cap] w fun e w' => e = .returned (.bool (isC zs)) ∧ w = w' := by
  match zs, hr with
  | [], hr =>
    obtain ⟨h, _⟩ := hr
    simp at h; subst h
    go_enter Try.func22, Try.ntmps22
    go_wp2
    go_ret
    exact ⟨rfl, rfl⟩
  | c :: r, hr =>
    have hlen : Hid (r.length + 1 = n) := hr.1
    have hpos : 0 < n := by have := hlen.out; omega
    have h0 : ((n : Int) == 0) = false := by simp; omega
    obtain ⟨b, off, rfl, hc⟩ : ∃ b off, a = some ⟨b, off, none⟩ ∧ ∀ i, i < n → w.cell? ⟨b, off + i, none⟩ = some (.int .i64 ((c :: r).getD i 0)) := hr.2.resolve_left (by omega)
    have hc0 : w.cell? ⟨b, off, none⟩ = some (.int .i64 c) := hc 0 hpos
    have HC := Lib.hid hc
    clear hc hr
    have hn1 : Hid ((r.length : Int) = (n : Int) - 1) := by have := hlen.out; show _ = _; omega
    by_cases hneg : c < 0
    · have HX : Hid (isC (c :: r) = false) := isC_no (decide_eq_false (by omega))
      have d1 : decide (c < 0) = true := decide_eq_true hneg
      go_enter Try.func22, Try.ntmps22
      go_wp2
      go_ret
      exact ⟨by rw [HX.out]; rfl, rfl⟩
    · have d1 : decide (c < 0) = false := decide_eq_false hneg
      by_cases hbig : (n : Int) - 1 < c
      · have HX : Hid (isC (c :: r) = false) := isC_no (decide_eq_false (by have := hn1.out; omega))
        have d2 : decide ((n : Int) - 1 < c) = true := decide_eq_true hbig
        go_enter Try.func22, Try.ntmps22
        go_wp2
        go_ret
        exact ⟨by rw [HX.out]; rfl, rfl⟩
      · have d2 : decide ((n : Int) - 1 < c) = false := decide_eq_false hbig
        obtain ⟨m, rfl⟩ := Int.eq_ofNat_of_zero_le (show 0 ≤ c by omega)
        have hm : m + 1 ≤ n := by omega
        have HX := Lib.hid (isC_yes (r := r) (m := m) (by have := hlen.out; omega))
        go_enter Try.func22, Try.ntmps22
        go_wp2
        go_loop [3] (fun i => ∃ k : Nat, k ≤ n ∧ m + 1 ≤ k ∧ i = .int .i64 k ∧ Hid (∀ j, m + 1 ≤ j → j < k → ((m : Int) :: r).getD j 0 = 0)) (fun i => n - (intOf i).toNat)
        case atStart => exact ⟨m + 1, by omega, by omega, by go_num, fun j h1 h2 => by omega⟩
        case round =>
          obtain ⟨k, hk, hmk, rfl, hno⟩ := hrel
          by_cases hlt : k < n
          · have hck := HC.out k hlt
            by_cases hz : ((m : Int) :: r).getD k 0 = 0
            · have HN : Hid (∀ j, m + 1 ≤ j → j < k + 1 → ((m : Int) :: r).getD j 0 = 0) := fun j h1 hj => by
                rcases Nat.lt_succ_iff_lt_or_eq.1 hj with h | rfl
                · exact hno.out j h1 h
                · exact hz
              rw [hz] at hck
              clear hz hno
              go_wp2
              go_round
              case rel => exact ⟨k + 1, by omega, by omega, by go_num, HN⟩
              case measure => simp [intOf]; omega
            · have HY : Hid (isC ((m : Int) :: r) = false) := by
                show _ = _
                rw [HX.out, any_true_of _ (k - (m + 1)) (by simp; have := hlen.out; omega)]; rfl
                have : ((m : Int) :: r).getD k 0 = (r.drop m).getD (k - (m + 1)) 0 := by
                  obtain ⟨j, rfl⟩ : ∃ j, k = m + 1 + j := ⟨k - (m + 1), by omega⟩
                  simp only [List.getD, List.getElem?_drop]
                  rw [show m + (m + 1 + j - (m + 1)) = m + j by omega, show m + 1 + j = (m + j) + 1 by omega, List.getElem?_cons_succ]
                rw [← this]; exact hz
              have hz' : (((m : Int) :: r).getD k 0 != 0) = true := bne_iff_ne.2 hz
              generalize ((m : Int) :: r).getD k 0 = x at *
              clear hz hno HX
              go_wp2
              go_ret
              exact ⟨by rw [HY.out]; rfl, rfl⟩
          · obtain rfl : k = n := by omega
            have HY : Hid (isC ((m : Int) :: r) = true) := by
              show _ = _
              rw [HX.out, any_false_of]; rfl
              intro j hj
              have hj' : m + 1 + j < k := by simp at hj; have := hlen.out; omega
              have := hno.out (m + 1 + j) (by omega) hj'
              rw [show m + 1 + j = (m + j) + 1 by omega] at this
              simp only [List.getD, List.getElem?_cons_succ] at this
              simpa [List.getD] using this
            clear hno HX
            go_wp2
            go_ret
            exact ⟨by rw [HY.out]; rfl, rfl⟩
end Go.Proofs.Ytcbeeapcbnnmpaa
