/- A map from nodes to numbers that the call itself makes. -/
import Derived.Test.YtnkfmhhfeaohbaaAc
import Derived.Maps.OwnSet
import Derived.Maps.OwnOps
import Derived.Carry
namespace Go.Proofs.Ytnkfmhhfeaohbaa
open Go.RowKit Go.Own Go.Maps

theorem law3 : Keyed Try.prog 3 := int_keyed Try.underlying3
theorem zero3 (w : World) : (zeroValue 3).run Try.prog w = .ok (.int .i64 0) w := by kernel_rfl
theorem wf_node {v : Nat} (h : v ≤ 1000000) : (Lit.int .i64 (v : Int)).wf = true := WalkArith.wf_i64 (by omega)
theorem key_node {v : Nat} (h : v ≤ 1000000) : keyOf Try.prog 3 (.int .i64 (v : Int)) = some (.int .i64 (v : Int)) := keyOf_int_mk Try.underlying3 (wf_node h)

def MapI (w : World) (b n : Nat) (f : Nat → Option Nat) : Prop :=
  ∃ D : DataW Unit, w.ownsMap Try.prog 3 (plainElem Try.prog 3) b (cntF f n) D ∧ Maps.size D = cntF f n ∧
    ∀ v : Nat, v < n → Maps.has D (.int .i64 (v : Int)) = (f v).isSome ∧ D.atKey (.int .i64 (v : Int)) (.lit (.int .i64 0)) = .lit (.int .i64 (((f v).getD 0 : Nat) : Int))

theorem MapI.start (w : World) (n : Nat) : MapI (w.alloc (.map #[] 0)) w.heap.size n (fun _ => none) :=
  ⟨.map [], by rw [cntF_none]; exact World.ownsMap_made _ _ _ _, by rw [cntF_none]; rfl, fun v _ => ⟨rfl, rfl⟩⟩
theorem MapI.kept {S : Nat → Prop} {w w' : World} {b n : Nat} {f : Nat → Option Nat} (h : MapI w b n f) (hk : Kept S w w') (hS : ¬ S b) : MapI w' b n f := by
  obtain ⟨D, ho, h2⟩ := h
  have hlt := ho.lt
  obtain ⟨es, clock, hb, F, hs, hD⟩ := ho
  exact ⟨D, ⟨es, clock, (hk.block b hlt hS).trans hb, F, hs, hD⟩, h2⟩
theorem MapI.lt {w : World} {b n : Nat} {f : Nat → Option Nat} (h : MapI w b n f) : b < w.heap.size := by
  obtain ⟨D, ho, _⟩ := h
  exact ho.lt
theorem MapI.below {w w' : World} {b n : Nat} {f : Nat → Option Nat} (h : MapI w b n f) (hb : Below w.heap.size w w') : MapI w' b n f :=
  h.kept (Kept.ofBelow hb) (fun e => by have := h.lt; omega)
theorem MapI.look {w : World} {b n : Nat} {f : Nat → Option Nat} (h : MapI w b n f) {v : Nat} (hv : v < n) (hn : n ≤ 1000000) :
    (Instr.lookup 36 (.map (some b)) (.int .i64 (v : Int)) false).run Try.prog w = .ok (.int .i64 (((f v).getD 0 : Nat) : Int)) w := by
  obtain ⟨D, ho, _, h2⟩ := h
  obtain ⟨c, hrun, hat, _⟩ := ho.lookup_int law3 Try.underlying36 Try.underlying3 (zero3 _) (key_node (v := v) (by omega))
  rw [(h2 v hv).2] at hat
  simp only [DataW.lit.injEq, Lit.int.injEq, true_and] at hat
  rw [hat]; exact hrun
theorem MapI.look_ok {w : World} {b n : Nat} {f : Nat → Option Nat} (h : MapI w b n f) {v : Nat} (hv : v < n) (hn : n ≤ 1000000) :
    (Instr.lookup 36 (.map (some b)) (.int .i64 (v : Int)) true).run Try.prog w = .ok (.tuple #[.int .i64 (((f v).getD 0 : Nat) : Int), .bool (f v).isSome]) w := by
  obtain ⟨D, ho, _, h2⟩ := h
  obtain ⟨x, ps, hrun, hv2⟩ := ho.look_ok law3 Try.underlying36 (zero3 _) (plainElem_int Try.underlying3 (by decide)) (key_node (v := v) (by omega))
  obtain ⟨c, rfl, hc, _⟩ := plainElem_int_inv Try.underlying3 hv2
  have hat := congrArg Prod.fst hc
  simp only at hat
  rw [(h2 v hv).2] at hat
  simp only [DataW.lit.injEq, Lit.int.injEq, true_and] at hat
  rw [(h2 v hv).1] at hrun
  rw [hat]; exact hrun
theorem MapI.len {w : World} {b n : Nat} {f : Nat → Option Nat} (h : MapI w b n f) (ty : TypeId) : (Builtin.len_ #[36] ty #[.map (some b)]).run Try.prog w = .ok (.int .i64 ((cntF f n : Nat) : Int)) w := by
  obtain ⟨D, ho, h1, _⟩ := h
  have := ho.len Try.underlying36 ty
  rw [h1] at this
  exact this
theorem MapI.put {w : World} {b n : Nat} {f : Nat → Option Nat} (h : MapI w b n f) {v : Nat} (hv : v < n) (hn : n ≤ 1000000) (hf : f v = none) {x : Nat} (hx : x ≤ 1000000) :
    ∃ w', (Instr.mapUpdate 36 (.map (some b)) (.int .i64 (v : Int)) (.int .i64 (x : Int))).run Try.prog w = .ok () w' ∧ MapI w' b n (up f v (some x)) ∧ Kept (fun k => k = b) w w' := by
  obtain ⟨D, ho, h1, h2⟩ := h
  have hc := cntF_le f n
  obtain ⟨w', hrun, ho', hg⟩ := ho.update law3 Try.underlying36 (by unfold maxLen; omega) (key_node (v := v) (by omega)) (plainElem_int Try.underlying3 (wf_node hx))
  have ht := ho.tidy law3
  have hk : WideAt.IsKeyLit (.int .i64 (v : Int)) := trivial
  have e1 := cntF_put hf x n hv
  refine ⟨w', hrun, ⟨_, by rw [e1]; exact ho', ?_, fun u hu => ?_⟩, ⟨hg.os, hg.tape, hg.output, hg.size, fun k hk' hne => hg.block k hk' (fun e => hne (by cases e; rfl))⟩⟩
  · rw [size_put ht, (h2 v hv).1, hf, e1, h1]; rfl
  · by_cases e : u = v
    · subst e
      rw [up_same]
      exact ⟨has_put_same ht.isMap hk _, atKey_put_same ht.isMap hk _ _⟩
    · rw [up_other _ _ _ _ e]
      have hne : (Lit.int .i64 (u : Int)) ≠ .int .i64 (v : Int) := fun e2 => by
        simp only [Lit.int.injEq, true_and] at e2
        omega
      exact ⟨(has_put_other hne _).trans (h2 u hu).1, (atKey_put_other hne _ _).trans (h2 u hu).2⟩
end Go.Proofs.Ytnkfmhhfeaohbaa
