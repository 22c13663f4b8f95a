/- 'append' of one element as a step of a region that draws its order. -/
import Derived.Test.YtnkfmhhfeaohbaaLib
import Derived.Deep.RegionLaw
namespace Go.Own
open Go.RowKit

/-- A draw turns nothing that is kept. -/
theorem Kept.ofDrew {S : Nat → Prop} {w w' : World} (h : Kept S w.drew w') : Kept S w w' := ⟨h.os, h.tape, h.output, h.size, h.block⟩

theorem step_append_one {P : Program} {ops : Array Oper} {o : Oper} {a : Act} {w2 : World} {K : Act → World → Prop} {Q : Exit → Act → World → Prop} {E : Prop} (hgd : o.guard = none) (s x : Operand) (t : TypeId)
    (ho : o.op = .call { callee := .builtin .append, args := #[s, x], argTypes := #[t, t] })
    (e : TypeId) (i : TypeInfo) (z : Value) (bytes : Nat) (ht : P.underlying t = some (.slice e)) (hi : P.info? e = some i) (hz : i.zero = some z)
    (hsize : i.size = 1) (hby : i.bytes = bytes) (hzs : z.cells.size = 1) (hpos : 1 ≤ bytes)
    (w : World) (u : Value) (hw : w2 = w.drew.alloc (.cells #[u] e)) (hu : u.oneCell' = true)
    (v : Value) (n : Nat) (xs : List Value) (hs : a.eval s = v) (hown : Sl w e v n xs)
    (hx : a.eval x = .slice (some ⟨w.heap.size, 0, none⟩) 1 1)
    (hbytes : (n + 1) * bytes ≤ 140737488355328)
    (h : ∀ g c' w', Sl w' e (.slice (some ⟨g, 0, none⟩) (n + 1) c') (n + 1) (xs ++ [u]) → Kept (fun k => v.ownBlock = some k) w w' → Moved w v (.slice (some ⟨g, 0, none⟩) (n + 1) c') → K (a.put o.dst (.slice (some ⟨g, 0, none⟩) (n + 1) c')) w') :
    if Region.wanted o (yielded ops a.tmps) = true then Oper.wp P o a w2 K Q else E := by
  subst hw
  have hwn : Region.wanted o (yielded ops a.tmps) = true := by simp [Region.wanted, hgd]
  rw [if_pos hwn]
  have hown' : Sl w.drew e v n xs := hown
  obtain ⟨v', w', hr, h2, h3, h4⟩ := run_append_strong (P := P) (w.drew.alloc (.cells #[u] e)) t o.type e i z bytes ht hi hz hsize hby hzs hpos v n xs (World.ownsRow.alloc hown' _) ⟨w.heap.size, 0, none⟩ 1 1 [u] rfl (by
    intro j u' hj
    match j, hj with
    | 0, hj =>
      simp at hj; subst hj
      show (w.drew.alloc (.cells #[u] e)).cell? ((⟨w.heap.size, 0, none⟩ : Addr).add 0) = some u
      rw [Addr.add_lit]
      exact World.cell?_alloc_at (w := w.drew) #[u] e w.heap.size 0 rfl
    | j + 1, hj => simp at hj) (by intro u' hu'; simp at hu'; subst hu'; exact hu) hbytes
  obtain ⟨a', c', rfl, hc⟩ := h2.shape
  obtain ⟨g, rfl, hg, _⟩ := hc 0 (by omega)
  unfold Oper.wp execOp
  simp only [ho, resolve, invoke, builtin, Sem.run_bind, Sem.run_pure, Result.andThen_ok, List.map_toArray, List.map_cons, List.map_nil, hs, hx, hr]
  refine h g c' w' h2 (Kept.ofDrew (((Kept.refl _ w.drew).alloc _).trans (h3.mono (fun _ _ s => s)))) ?_
  have := h4.alloc
  exact this
end Go.Own
