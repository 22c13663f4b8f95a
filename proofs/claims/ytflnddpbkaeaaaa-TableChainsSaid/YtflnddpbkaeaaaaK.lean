/- The walk of TableNobody. -/
import Derived.Test.YtflnddpbkaeaaaaJ
namespace Go.Proofs.Ytflnddpbkaeaaaa
open Go.RowKit Go.Own

theorem wpList_alloc {P : Program} {w : World} {ops : Array Oper} {rest : List Oper} {o : Oper} {a : Act} {Q : Exit → Act → World → Prop} (hgd : o.guard = none) (t : TypeId)
    (ho : o.op = .alloc t) (i : TypeInfo) (hi : P.info? t = some i) (cs : Array Value) (hz : i.zero = some (.agg cs))
    (h : wpList P ops Q rest (a.put o.dst (.pointer (some ⟨w.heap.size, 0, none⟩))) (w.alloc (.cells cs t))) : wpList P ops Q (o :: rest) a w := by
  have hrun : (Instr.alloc t true (.tuple #[])).run P w = .ok (.pointer (some ⟨w.heap.size, 0, none⟩)) (w.alloc (.cells cs t)) := by
    simp [Instr.alloc, zeroValue, typeInfo, hi, hz]
    rfl
  refine wpList_plain hgd fun _ hK => ?_
  unfold Oper.wp execOp
  simp only [ho, hrun, Sem.run_bind, Result.andThen_ok]
  exact hK _ _ h

theorem zero49_28 : zero49[1028]? = some (.bool false) := by kernel_rfl

set_option maxHeartbeats 2000000 in
theorem nobody_any (a : Option Addr) (n cap : Nat) (zs : List Int) (m : Int) (w : World) (hr : RowAt .u8 w a n zs) (hz : ∀ z ∈ zs, (Lit.int .u8 z).wf = true) (hl : n ≤ cap) (hcm : cap ≤ maxLen) (hb : cap * 1 ≤ 140737488351232) (hnil : a = none → n = 0 ∧ cap = 0) (hm : (Lit.int .i64 m).wf = true) :
    Calls Try.prog 7 #[.slice a n cap, .int .i64 m] w fun e w' => e = .returned (.bool true) ∧ Below w.heap.size w w' := by
  have HA := Lib.hid awake_any
  clear hz hnil hm hr
  have hn : n ≤ 9223372036854775807 := by omega
  by_cases hbig : 100 < n
  · have t0 : decide ((100 : Int) < (n : Int)) = true := decide_eq_true (by omega)
    clear hbig hl hcm hb
    go_enter Try.func7, Try.ntmps7
    go_wp2_with fail
    refine (HA.out w).mono ?_
    rintro e w1 ⟨rfl, hb1⟩
    have HB := Lib.hid hb1
    clear hb1
    go_wp2
    go_ret
    exact ⟨rfl, HB.out⟩
  · have t0 : decide ((100 : Int) < (n : Int)) = false := decide_eq_false (by omega)
    clear hbig hl hcm hb
    obtain ⟨i, hi, hz0, hz1, hz2⟩ := info_parts info49
    have z28 : Hid (∀ w1, w1 = w.alloc (.cells zero49 49) → w1.cell? ⟨w.heap.size, 1028, none⟩ = some (.bool false)) := by
      rintro w1 rfl; rw [World.cell?_alloc_at _ _ _ _ rfl]; exact zero49_28
    have B0 : Hid (Below w.heap.size w (w.alloc (.cells zero49 49))) := (Below.refl _ w).alloc (Nat.le_refl _) _
    generalize zero49 = cs at *
    go_enter Try.func7, Try.ntmps7
    go_wp2_with (refine wpList_alloc (o := ⟨some 6, _, _, _, _, _⟩) rfl 49 rfl i hi cs hz0 ?_)
    have c28 := z28.out _ rfl
    generalize w.alloc (.cells cs 49) = w1 at *
    refine (add_nil _ _ _ w1).mono ?_
    rintro e w2 ⟨rfl, rfl⟩
    go_wp2_with fail
    refine (add_zero w.heap.size _ _ _ w1 c28).mono ?_
    rintro e w2 ⟨rfl, rfl⟩
    go_wp2_with fail
    refine (find_nil _ _ _ w1).mono ?_
    rintro e w2 ⟨rfl, rfl⟩
    go_wp2_with fail
    refine (find_zero w.heap.size _ _ _ w1 c28).mono ?_
    rintro e w2 ⟨rfl, rfl⟩
    go_wp2_with fail
    refine (len_nil w1).mono ?_
    rintro e w2 ⟨rfl, rfl⟩
    go_wp2_with fail
    refine (len_zero w.heap.size w1 c28).mono ?_
    rintro e w2 ⟨rfl, rfl⟩
    go_wp2_with fail
    refine (longest_nil w1).mono ?_
    rintro e w2 ⟨rfl, rfl⟩
    go_wp2_with fail
    refine (longest_zero w.heap.size w1 c28).mono ?_
    rintro e w2 ⟨rfl, rfl⟩
    go_wp2_with fail
    refine (key_none none m w1 (len_nil w1)).mono ?_
    rintro e w2 ⟨rfl, rfl⟩
    go_wp2_with fail
    refine (key_none (some ⟨w.heap.size, 0, none⟩) m w1 (len_zero w.heap.size w1 c28)).mono ?_
    rintro e w2 ⟨rfl, rfl⟩
    go_wp2_with fail
    refine (HA.out w1).mono ?_
    rintro e w2 ⟨rfl, hb1⟩
    have HB := Lib.hid hb1
    clear hb1
    go_wp2
    go_ret
    exact ⟨rfl, below_then B0.out HB.out⟩
end Go.Proofs.Ytflnddpbkaeaaaa
