/-
  No cell of these rows narrows 'for every input' (looked for: loops, veiled, ifaces, maps, wideKeys, modest, calm, conditions, laid).
  DERIVED. THE GIVEN ROWS OF THIS SEAT. 5 by the template 'for every input the law returns true; each argument reads behind the call as it read before'; 0 by the template 'total and deterministic' (their statements: YtflnddpbkaeaaaaTotals.lean).
  GIVEN WITH THE SEED: the statements are not yours to turn. If you find one false, say at which input.
  Laid BY PROGRAM, IN A SANDBOX (cutbox-rows.mjs): the forced cells as the released guide's own fill.sh prints them over the translation 7c575b81d32a0314… (all of the seat's roots in one cut). By AI agents, Wed Nov 11 2026. No macro, syntax, notation, axiom, sorry.
-/
import Derived.Test.YtflnddpbkaeaaaaChecked
import GoSem.Claim
import GoSem.ClaimJoined
import GoSem.ClaimMapViews
import Derived.JoinedTies
import Derived.KernelRfl
namespace Go.Proofs.Ytflnddpbkaeaaaa
/- THE CELL 'sum', in the pinned program and in every row, IS THE sha256 OF THE DUMP (.gsa) THAT YtflnddpbkaeaaaaProg.lean LOADS. Nothing in Lean hashes anything: it is a label: what it is worth is what the hold of that sum in a sandbox is worth. -/
noncomputable def Try.pinned : Pinned := { name := "ytflnddpbkaeaaaa", sum := "7c575b81d32a0314b8db1b114b204e9360c6874970b746ff5185e5521f6d70a1", checked := Try.checked }
namespace Rows
def none {H : Type} : Left H := { results := [], args := [] }

/-- 'lariatlaw36.TablePlays': WHATEVER THE INPUT: true; the input reads as it did. -/
def tablePlaysSpec : ChangeSpec := { name := "tablePlays", fn := fun _ => fun
  | [d1, d2, d3] => { results := [.lit (.bool true)], args := [d1, d2, d3] }
  | _ => none }
def tablePlaysRow : OpenClaim := { program := "ytflnddpbkaeaaaa", sum := "7c575b81d32a0314b8db1b114b204e9360c6874970b746ff5185e5521f6d70a1", func := "lariat/lariatlaw36.TablePlays", spec := "tablePlays", apart := false }
def TablePlaysSaid : Prop := tablePlaysRow.holds Try.pinned (OpenSpec.ofChange tablePlaysSpec)

/-- ITS FALSE NEIGHBOUR: 'it returns false'. Refute it at one input. -/
def tablePlaysWrong : ChangeSpec := { name := "tablePlays", fn := fun _ => fun
  | [d1, d2, d3] => { results := [.lit (.bool false)], args := [d1, d2, d3] }
  | _ => none }
def TablePlaysWrongFalsely : Prop := tablePlaysRow.holds Try.pinned (OpenSpec.ofChange tablePlaysWrong)

/-- 'lariatlaw36.TableOnce': WHATEVER THE INPUT: true; the input reads as it did. -/
def tableOnceSpec : ChangeSpec := { name := "tableOnce", fn := fun _ => fun
  | [d] => { results := [.lit (.bool true)], args := [d] }
  | _ => none }
def tableOnceRow : OpenClaim := { program := "ytflnddpbkaeaaaa", sum := "7c575b81d32a0314b8db1b114b204e9360c6874970b746ff5185e5521f6d70a1", func := "lariat/lariatlaw36.TableOnce", spec := "tableOnce", apart := false }
def TableOnceSaid : Prop := tableOnceRow.holds Try.pinned (OpenSpec.ofChange tableOnceSpec)

/-- ITS FALSE NEIGHBOUR: 'it returns false'. Refute it at one input. -/
def tableOnceWrong : ChangeSpec := { name := "tableOnce", fn := fun _ => fun
  | [d] => { results := [.lit (.bool false)], args := [d] }
  | _ => none }
def TableOnceWrongFalsely : Prop := tableOnceRow.holds Try.pinned (OpenSpec.ofChange tableOnceWrong)

/-- 'lariatlaw36.TableApart': WHATEVER THE INPUT: true; the input reads as it did. -/
def tableApartSpec : ChangeSpec := { name := "tableApart", fn := fun _ => fun
  | [d1, d2] => { results := [.lit (.bool true)], args := [d1, d2] }
  | _ => none }
def tableApartRow : OpenClaim := { program := "ytflnddpbkaeaaaa", sum := "7c575b81d32a0314b8db1b114b204e9360c6874970b746ff5185e5521f6d70a1", func := "lariat/lariatlaw36.TableApart", spec := "tableApart", apart := false }
def TableApartSaid : Prop := tableApartRow.holds Try.pinned (OpenSpec.ofChange tableApartSpec)

/-- ITS FALSE NEIGHBOUR: 'it returns false'. Refute it at one input. -/
def tableApartWrong : ChangeSpec := { name := "tableApart", fn := fun _ => fun
  | [d1, d2] => { results := [.lit (.bool false)], args := [d1, d2] }
  | _ => none }
def TableApartWrongFalsely : Prop := tableApartRow.holds Try.pinned (OpenSpec.ofChange tableApartWrong)

/-- 'lariatlaw36.TableChains': WHATEVER THE INPUT: true; the input reads as it did. -/
def tableChainsSpec : ChangeSpec := { name := "tableChains", fn := fun _ => fun
  | [d] => { results := [.lit (.bool true)], args := [d] }
  | _ => none }
def tableChainsRow : OpenClaim := { program := "ytflnddpbkaeaaaa", sum := "7c575b81d32a0314b8db1b114b204e9360c6874970b746ff5185e5521f6d70a1", func := "lariat/lariatlaw36.TableChains", spec := "tableChains", apart := false }
def TableChainsSaid : Prop := tableChainsRow.holds Try.pinned (OpenSpec.ofChange tableChainsSpec)

/-- ITS FALSE NEIGHBOUR: 'it returns false'. Refute it at one input. -/
def tableChainsWrong : ChangeSpec := { name := "tableChains", fn := fun _ => fun
  | [d] => { results := [.lit (.bool false)], args := [d] }
  | _ => none }
def TableChainsWrongFalsely : Prop := tableChainsRow.holds Try.pinned (OpenSpec.ofChange tableChainsWrong)

/-- 'lariatlaw36.TableNobody': WHATEVER THE INPUT: true; the input reads as it did. -/
def tableNobodySpec : ChangeSpec := { name := "tableNobody", fn := fun _ => fun
  | [d1, d2] => { results := [.lit (.bool true)], args := [d1, d2] }
  | _ => none }
def tableNobodyRow : OpenClaim := { program := "ytflnddpbkaeaaaa", sum := "7c575b81d32a0314b8db1b114b204e9360c6874970b746ff5185e5521f6d70a1", func := "lariat/lariatlaw36.TableNobody", spec := "tableNobody", apart := false }
def TableNobodySaid : Prop := tableNobodyRow.holds Try.pinned (OpenSpec.ofChange tableNobodySpec)

/-- ITS FALSE NEIGHBOUR: 'it returns false'. Refute it at one input. -/
def tableNobodyWrong : ChangeSpec := { name := "tableNobody", fn := fun _ => fun
  | [d1, d2] => { results := [.lit (.bool false)], args := [d1, d2] }
  | _ => none }
def TableNobodyWrongFalsely : Prop := tableNobodyRow.holds Try.pinned (OpenSpec.ofChange tableNobodyWrong)

/- THE SECOND FORM. 'bulk': how many values and letters a reading holds, each counted each time it is reached (what is shared counts as often as it is met; a slice's spare places count too). A statement '..UptoSaid' is the law's where the arguments, and the package variables that the reading takes, are together of bulk at most 1048576: NARROWER than '..Said'. Prove '..Said' where nothing that the law and all that it calls make is longer than what came in: it says more and counts as full. Else prove '..UptoSaid'. A law counts once. -/
mutual
def uptoBulk {H : Type} : DataW H → Nat
  | .lit (.string bytes) => bytes.length + 1
  | .lit _ => 1
  | .nil => 1
  | .ptr d => uptoBulk d + 1
  | .slice elems spare => uptoBulkAll elems + uptoBulkAll spare + 1
  | .agg parts => uptoBulkAll parts + 1
  | .iface _ d => uptoBulk d + 1
  | .map entries => uptoBulkEntries entries + 1
  | .held _ => 1
def uptoBulkAll {H : Type} : List (DataW H) → Nat
  | [] => 0
  | d :: r => uptoBulk d + uptoBulkAll r
def uptoBulkEntries {H : Type} : List (Lit × DataW H) → Nat
  | [] => 0
  | x :: r => uptoBulkEntry x + uptoBulkEntries r
def uptoBulkEntry {H : Type} : Lit × DataW H → Nat
  | (.string bytes, d) => bytes.length + uptoBulk d + 1
  | (_, d) => uptoBulk d + 1
 end
def uptoSmall : (H : Type) → List (DataW H) → Bool := fun _ ds => decide (uptoBulkAll ds ≤ 1048576)
def OpenSpec.upto (s : _root_.Go.ChangeSpec) : _root_.Go.OpenSpec := { _root_.Go.OpenSpec.ofChange s with cond := some uptoSmall }

/-- 'lariatlaw36.TablePlays', WHERE WHAT IT READS IS OF BULK AT MOST 1048576: true; the input reads as it did. -/
def tablePlaysUptoRow : OpenClaim := { program := "ytflnddpbkaeaaaa", sum := "7c575b81d32a0314b8db1b114b204e9360c6874970b746ff5185e5521f6d70a1", func := "lariat/lariatlaw36.TablePlays", spec := "tablePlays", apart := false, narrowed := true }
def TablePlaysUptoSaid : Prop := tablePlaysUptoRow.holds Try.pinned (OpenSpec.upto tablePlaysSpec)

/-- 'lariatlaw36.TableOnce', WHERE WHAT IT READS IS OF BULK AT MOST 1048576: true; the input reads as it did. -/
def tableOnceUptoRow : OpenClaim := { program := "ytflnddpbkaeaaaa", sum := "7c575b81d32a0314b8db1b114b204e9360c6874970b746ff5185e5521f6d70a1", func := "lariat/lariatlaw36.TableOnce", spec := "tableOnce", apart := false, narrowed := true }
def TableOnceUptoSaid : Prop := tableOnceUptoRow.holds Try.pinned (OpenSpec.upto tableOnceSpec)

/-- 'lariatlaw36.TableApart', WHERE WHAT IT READS IS OF BULK AT MOST 1048576: true; the input reads as it did. -/
def tableApartUptoRow : OpenClaim := { program := "ytflnddpbkaeaaaa", sum := "7c575b81d32a0314b8db1b114b204e9360c6874970b746ff5185e5521f6d70a1", func := "lariat/lariatlaw36.TableApart", spec := "tableApart", apart := false, narrowed := true }
def TableApartUptoSaid : Prop := tableApartUptoRow.holds Try.pinned (OpenSpec.upto tableApartSpec)

/-- 'lariatlaw36.TableChains', WHERE WHAT IT READS IS OF BULK AT MOST 1048576: true; the input reads as it did. -/
def tableChainsUptoRow : OpenClaim := { program := "ytflnddpbkaeaaaa", sum := "7c575b81d32a0314b8db1b114b204e9360c6874970b746ff5185e5521f6d70a1", func := "lariat/lariatlaw36.TableChains", spec := "tableChains", apart := false, narrowed := true }
def TableChainsUptoSaid : Prop := tableChainsUptoRow.holds Try.pinned (OpenSpec.upto tableChainsSpec)

/-- 'lariatlaw36.TableNobody', WHERE WHAT IT READS IS OF BULK AT MOST 1048576: true; the input reads as it did. -/
def tableNobodyUptoRow : OpenClaim := { program := "ytflnddpbkaeaaaa", sum := "7c575b81d32a0314b8db1b114b204e9360c6874970b746ff5185e5521f6d70a1", func := "lariat/lariatlaw36.TableNobody", spec := "tableNobody", apart := false, narrowed := true }
def TableNobodyUptoSaid : Prop := tableNobodyUptoRow.holds Try.pinned (OpenSpec.upto tableNobodySpec)

end Rows
end Go.Proofs.Ytflnddpbkaeaaaa
