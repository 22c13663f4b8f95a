/- The table type: its zero value, a new table, and the walks of New and is. -/
import Derived.Test.YtflnddpbkaeaaaaA
import Derived.Laws.Tables
namespace Go.Proofs.Ytflnddpbkaeaaaa
open Go.RowKit Go.Own
def zero49 : Array Value := (List.replicate 1024 (Value.slice none 0 0) ++ [Value.int .i64 0, Value.int .i64 0, Value.slice none 0 0, Value.slice none 0 0, Value.bool false]).toArray
theorem info49 : (Try.prog.info? 49).map (fun i => (i.zero, i.size, i.bytes)) = some (some (.agg zero49), 1029, 24648) := by kernel_rfl
theorem size49 : zero49.size = 1029 := by kernel_rfl
/-- The cells of a new table. -/
def new49 (most : Int) : Array Value := (zero49.setIfInBounds 1025 (Value.int .i64 most)).setIfInBounds 1028 (Value.bool true)
theorem size_new49 (most : Int) : (new49 most).size = 1029 := by simp [new49, size49]
theorem built49 (most : Int) : Try.prog.built 49 [(1, .int .i64 most), (4, .bool true)] = some (new49 most) := by
  obtain ⟨i, hi, hz0, hz1, hz2⟩ := info_parts info49
  unfold Program.built
  rw [hi, Try.underlying49]
  dsimp only
  rw [hz0]
  rw [show (List.mapM (fun f => (Try.prog.info? f.type).map fun i => (f.offset, i.size)) [(⟨ "chains", 47, 0, true, "", "lariat/table", 0⟩ : Field), ⟨ "most", 3, 1025, false, "", "lariat/table", 24584⟩, ⟨ "all", 23, 1026, false, "", "lariat/table", 24592⟩, ⟨ "ends", 40, 1027, false, "", "lariat/table", 24616⟩, ⟨ "made", 4, 1028, false, "", "lariat/table", 24640⟩]) = some [(0, 1025), (1025, 1), (1026, 1), (1027, 1), (1028, 1)] from by kernel_rfl]
  simp [Instr.fill, Value.cells, size49, new49]
theorem alloc49 (w : World) : (Instr.alloc 49 true undef).run Try.prog w = .ok (.pointer (some ⟨w.heap.size, 0, none⟩)) (w.alloc (.cells zero49 49)) := by
  obtain ⟨i, hi, hz0, hz1, hz2⟩ := info_parts info49
  generalize zero49 = cs at *
  simp [Instr.alloc, zeroValue, typeInfo, hi, hz0]
  rfl

theorem Try.info3 : (Try.prog.info? 3).map (fun i => (i.zero, i.size, i.bytes)) = some (some (.int .i64 0), 1, 8) := by kernel_rfl
theorem Try.info5 : (Try.prog.info? 5).map (fun i => (i.zero, i.size, i.bytes)) = some (some (.int .u8 0), 1, 1) := by kernel_rfl
theorem Try.info23 : (Try.prog.info? 23).map (fun i => (i.zero, i.size, i.bytes)) = some (some (.slice none 0 0), 1, 24) := by kernel_rfl
theorem Try.info40 : (Try.prog.info? 40).map (fun i => (i.zero, i.size, i.bytes)) = some (some (.slice none 0 0), 1, 24) := by kernel_rfl

theorem wpList_built2 {P : Program} {w : World} {ops : Array Oper} {rest : List Oper} {o : Oper} {a : Act} {Q : Exit → Act → World → Prop} (hgd : o.guard = none) (t : TypeId) (i j : Nat) (x y : Operand)
    (ho : o.op = .build t #[(i, x), (j, y)]) (vx vy : Value) (hx : a.eval x = vx) (hy : a.eval y = vy) (cs : Array Value) (hb : P.built t [(i, vx), (j, vy)] = some cs)
    (h : wpList P ops Q rest (a.put o.dst (.agg cs)) w) : wpList P ops Q (o :: rest) a w := by
  subst hx hy
  have e : (#[(i, x), (j, y)].map fun (i, x) => (i, a.eval x)).toList = [(i, a.eval x), (j, a.eval y)] := by simp
  refine wpList_build hgd t _ ho ?_ ?_
  · rw [e, hb]; rfl
  · rw [e, hb]; exact h
theorem run_box (P : Program) (t : TypeId) (cs : Array Value) (w : World) : (Instr.box t (.agg cs)).run P w = .ok (.pointer (some ⟨w.heap.size, 0, none⟩)) (w.alloc (.cells cs t)) := rfl
theorem wpList_box {P : Program} {w : World} {ops : Array Oper} {rest : List Oper} {o : Oper} {a : Act} {Q : Exit → Act → World → Prop} (hgd : o.guard = none) (t : TypeId) (x : Operand)
    (ho : o.op = .box t x) (cs : Array Value) (hx : a.eval x = .agg cs)
    (h : wpList P ops Q rest (a.put o.dst (.pointer (some ⟨w.heap.size, 0, none⟩))) (w.alloc (.cells cs t))) : wpList P ops Q (o :: rest) a w := by
  refine wpList_plain hgd fun _ hK => ?_
  unfold Oper.wp execOp
  simp only [ho, hx, run_box, Sem.run_bind, Result.andThen_ok]
  exact hK _ _ h

theorem new_yes (m : Int) (w : World) (h0 : 0 ≤ m) (h1 : m ≤ 65536) :
    Calls Try.prog 8 #[.int .i64 m] w fun e w' => e = .returned (.pointer (some ⟨w.heap.size, 0, none⟩)) ∧ w' = w.alloc (.cells (new49 m) 49) := by
  have HB := built49 m
  have t0 : decide (m < 0) = false := decide_eq_false (by omega)
  have t1 : decide (65536 < m) = false := decide_eq_false (by omega)
  clear h0 h1
  generalize new49 m = cs at *
  go_enter Try.func8, Try.ntmps8
  go_wp2_with (first | (refine wpList_built2 (o := ⟨some 10, _, _, _, _, _⟩) rfl 49 1 4 (.tmp 9) (.const (.bool true)) rfl (.int .i64 m) (.bool true) rfl rfl _ HB ?_; go_must (refine wpList_box rfl 49 (.tmp 10) rfl cs rfl ?_)))
  go_ret
  exact ⟨rfl, rfl⟩

theorem new_no (m : Int) (w : World) (h : m < 0 ∨ 65536 < m) :
    Calls Try.prog 8 #[.int .i64 m] w fun e w' => e = .returned (.pointer none) ∧ w = w' := by
  by_cases h0 : m < 0
  · clear h
    go_enter Try.func8, Try.ntmps8
    go_wp2
    go_ret
    exact ⟨rfl, rfl⟩
  · have h1 : 65536 < m := by omega
    clear h
    go_enter Try.func8, Try.ntmps8
    go_wp2
    go_ret
    exact ⟨rfl, rfl⟩

theorem is_nil (w : World) : Calls Try.prog 19 #[.pointer none] w fun e w' => e = .returned (.bool false) ∧ w = w' := by
  go_enter Try.func19, Try.ntmps19
  go_wp2
  go_ret
  exact ⟨rfl, rfl⟩

theorem is_any (g : Nat) (b : Bool) (w : World) (h : w.cell? ⟨g, 1028, none⟩ = some (.bool b)) : Calls Try.prog 19 #[.pointer (some ⟨g, 0, none⟩)] w fun e w' => e = .returned (.bool b) ∧ w = w' := by
  go_enter Try.func19, Try.ntmps19
  go_wp2
  go_ret
  exact ⟨rfl, rfl⟩
end Go.Proofs.Ytflnddpbkaeaaaa
