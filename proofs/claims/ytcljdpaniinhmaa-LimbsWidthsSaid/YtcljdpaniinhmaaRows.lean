/-
  No cell of these rows narrows 'for every input' (looked for: loops, veiled, ifaces, maps, wideKeys, modest, calm, conditions, laid).
  DERIVED. THE GIVEN ROWS OF THIS SEAT. 8 by the template 'for every input the law returns true; each argument reads behind the call as it read before'; 0 by the template 'total and deterministic' (their statements: YtcljdpaniinhmaaTotals.lean).
  GIVEN WITH THE SEED: the statements are not yours to turn. If you find one false, say at which input.
  Laid BY PROGRAM, IN A SANDBOX (cutbox-rows.mjs): the forced cells as the released guide's own fill.sh prints them over the translation 705684b9d2d9e0d5… (all of the seat's roots in one cut). By AI agents, Wed Nov 11 2026. No macro, syntax, notation, axiom, sorry.
-/
import Derived.Test.YtcljdpaniinhmaaChecked
import GoSem.Claim
import GoSem.ClaimJoined
import GoSem.ClaimMapViews
import Derived.JoinedTies
import Derived.KernelRfl
namespace Go.Proofs.Ytcljdpaniinhmaa
/- THE CELL 'sum', in the pinned program and in every row, IS THE sha256 OF THE DUMP (.gsa) THAT YtcljdpaniinhmaaProg.lean LOADS. Nothing in Lean hashes anything: it is a label: what it is worth is what the hold of that sum in a sandbox is worth. -/
noncomputable def Try.pinned : Pinned := { name := "ytcljdpaniinhmaa", sum := "705684b9d2d9e0d54ae29b993694fe2038d6e7a3993782cb4d2fbd34fe543086", checked := Try.checked }
namespace Rows
def none {H : Type} : Left H := { results := [], args := [] }

/-- 'sallyportlaw04.LimbsProducts': WHATEVER THE INPUT: true; the input reads as it did. -/
def limbsProductsSpec : ChangeSpec := { name := "limbsProducts", fn := fun _ => fun
  | [d1, d2] => { results := [.lit (.bool true)], args := [d1, d2] }
  | _ => none }
def limbsProductsRow : OpenClaim := { program := "ytcljdpaniinhmaa", sum := "705684b9d2d9e0d54ae29b993694fe2038d6e7a3993782cb4d2fbd34fe543086", func := "sallyport/sallyportlaw04.LimbsProducts", spec := "limbsProducts", unfollowed := true, recurses := true, apart := false }
def LimbsProductsSaid : Prop := limbsProductsRow.holds Try.pinned (OpenSpec.ofChange limbsProductsSpec)

/-- ITS FALSE NEIGHBOUR: 'it returns false'. Refute it at one input. -/
def limbsProductsWrong : ChangeSpec := { name := "limbsProducts", fn := fun _ => fun
  | [d1, d2] => { results := [.lit (.bool false)], args := [d1, d2] }
  | _ => none }
def LimbsProductsWrongFalsely : Prop := limbsProductsRow.holds Try.pinned (OpenSpec.ofChange limbsProductsWrong)

/-- 'sallyportlaw04.LimbsSums': WHATEVER THE INPUT: true; the input reads as it did. -/
def limbsSumsSpec : ChangeSpec := { name := "limbsSums", fn := fun _ => fun
  | [d1, d2] => { results := [.lit (.bool true)], args := [d1, d2] }
  | _ => none }
def limbsSumsRow : OpenClaim := { program := "ytcljdpaniinhmaa", sum := "705684b9d2d9e0d54ae29b993694fe2038d6e7a3993782cb4d2fbd34fe543086", func := "sallyport/sallyportlaw04.LimbsSums", spec := "limbsSums", unfollowed := true, recurses := true, apart := false }
def LimbsSumsSaid : Prop := limbsSumsRow.holds Try.pinned (OpenSpec.ofChange limbsSumsSpec)

/-- ITS FALSE NEIGHBOUR: 'it returns false'. Refute it at one input. -/
def limbsSumsWrong : ChangeSpec := { name := "limbsSums", fn := fun _ => fun
  | [d1, d2] => { results := [.lit (.bool false)], args := [d1, d2] }
  | _ => none }
def LimbsSumsWrongFalsely : Prop := limbsSumsRow.holds Try.pinned (OpenSpec.ofChange limbsSumsWrong)

/-- 'sallyportlaw04.LimbsBytes': WHATEVER THE INPUT: true; the input reads as it did. -/
def limbsBytesSpec : ChangeSpec := { name := "limbsBytes", fn := fun _ => fun
  | [d1, d2, d3, d4] => { results := [.lit (.bool true)], args := [d1, d2, d3, d4] }
  | _ => none }
def limbsBytesRow : OpenClaim := { program := "ytcljdpaniinhmaa", sum := "705684b9d2d9e0d54ae29b993694fe2038d6e7a3993782cb4d2fbd34fe543086", func := "sallyport/sallyportlaw04.LimbsBytes", spec := "limbsBytes", unfollowed := true, recurses := true, apart := false }
def LimbsBytesSaid : Prop := limbsBytesRow.holds Try.pinned (OpenSpec.ofChange limbsBytesSpec)

/-- ITS FALSE NEIGHBOUR: 'it returns false'. Refute it at one input. -/
def limbsBytesWrong : ChangeSpec := { name := "limbsBytes", fn := fun _ => fun
  | [d1, d2, d3, d4] => { results := [.lit (.bool false)], args := [d1, d2, d3, d4] }
  | _ => none }
def LimbsBytesWrongFalsely : Prop := limbsBytesRow.holds Try.pinned (OpenSpec.ofChange limbsBytesWrong)

/-- 'sallyportlaw04.LimbsSpreads': WHATEVER THE INPUT: true; the input reads as it did. -/
def limbsSpreadsSpec : ChangeSpec := { name := "limbsSpreads", fn := fun _ => fun
  | [d1, d2, d3] => { results := [.lit (.bool true)], args := [d1, d2, d3] }
  | _ => none }
def limbsSpreadsRow : OpenClaim := { program := "ytcljdpaniinhmaa", sum := "705684b9d2d9e0d54ae29b993694fe2038d6e7a3993782cb4d2fbd34fe543086", func := "sallyport/sallyportlaw04.LimbsSpreads", spec := "limbsSpreads", unfollowed := true, recurses := true, apart := false }
def LimbsSpreadsSaid : Prop := limbsSpreadsRow.holds Try.pinned (OpenSpec.ofChange limbsSpreadsSpec)

/-- ITS FALSE NEIGHBOUR: 'it returns false'. Refute it at one input. -/
def limbsSpreadsWrong : ChangeSpec := { name := "limbsSpreads", fn := fun _ => fun
  | [d1, d2, d3] => { results := [.lit (.bool false)], args := [d1, d2, d3] }
  | _ => none }
def LimbsSpreadsWrongFalsely : Prop := limbsSpreadsRow.holds Try.pinned (OpenSpec.ofChange limbsSpreadsWrong)

/-- 'sallyportlaw04.LimbsBack': WHATEVER THE INPUT: true; the input reads as it did. -/
def limbsBackSpec : ChangeSpec := { name := "limbsBack", fn := fun _ => fun
  | [d1, d2] => { results := [.lit (.bool true)], args := [d1, d2] }
  | _ => none }
def limbsBackRow : OpenClaim := { program := "ytcljdpaniinhmaa", sum := "705684b9d2d9e0d54ae29b993694fe2038d6e7a3993782cb4d2fbd34fe543086", func := "sallyport/sallyportlaw04.LimbsBack", spec := "limbsBack", unfollowed := true, recurses := true, apart := false }
def LimbsBackSaid : Prop := limbsBackRow.holds Try.pinned (OpenSpec.ofChange limbsBackSpec)

/-- ITS FALSE NEIGHBOUR: 'it returns false'. Refute it at one input. -/
def limbsBackWrong : ChangeSpec := { name := "limbsBack", fn := fun _ => fun
  | [d1, d2] => { results := [.lit (.bool false)], args := [d1, d2] }
  | _ => none }
def LimbsBackWrongFalsely : Prop := limbsBackRow.holds Try.pinned (OpenSpec.ofChange limbsBackWrong)

/-- 'sallyportlaw04.LimbsOrders': WHATEVER THE INPUT: true; the input reads as it did. -/
def limbsOrdersSpec : ChangeSpec := { name := "limbsOrders", fn := fun _ => fun
  | [d1, d2] => { results := [.lit (.bool true)], args := [d1, d2] }
  | _ => none }
def limbsOrdersRow : OpenClaim := { program := "ytcljdpaniinhmaa", sum := "705684b9d2d9e0d54ae29b993694fe2038d6e7a3993782cb4d2fbd34fe543086", func := "sallyport/sallyportlaw04.LimbsOrders", spec := "limbsOrders", unfollowed := true, recurses := true, apart := false }
def LimbsOrdersSaid : Prop := limbsOrdersRow.holds Try.pinned (OpenSpec.ofChange limbsOrdersSpec)

/-- ITS FALSE NEIGHBOUR: 'it returns false'. Refute it at one input. -/
def limbsOrdersWrong : ChangeSpec := { name := "limbsOrders", fn := fun _ => fun
  | [d1, d2] => { results := [.lit (.bool false)], args := [d1, d2] }
  | _ => none }
def LimbsOrdersWrongFalsely : Prop := limbsOrdersRow.holds Try.pinned (OpenSpec.ofChange limbsOrdersWrong)

/-- 'sallyportlaw04.LimbsOnes': WHATEVER THE INPUT: true; the input reads as it did. -/
def limbsOnesSpec : ChangeSpec := { name := "limbsOnes", fn := fun _ => fun
  | [d] => { results := [.lit (.bool true)], args := [d] }
  | _ => none }
def limbsOnesRow : OpenClaim := { program := "ytcljdpaniinhmaa", sum := "705684b9d2d9e0d54ae29b993694fe2038d6e7a3993782cb4d2fbd34fe543086", func := "sallyport/sallyportlaw04.LimbsOnes", spec := "limbsOnes", unfollowed := true, recurses := true, apart := false }
def LimbsOnesSaid : Prop := limbsOnesRow.holds Try.pinned (OpenSpec.ofChange limbsOnesSpec)

/-- ITS FALSE NEIGHBOUR: 'it returns false'. Refute it at one input. -/
def limbsOnesWrong : ChangeSpec := { name := "limbsOnes", fn := fun _ => fun
  | [d] => { results := [.lit (.bool false)], args := [d] }
  | _ => none }
def LimbsOnesWrongFalsely : Prop := limbsOnesRow.holds Try.pinned (OpenSpec.ofChange limbsOnesWrong)

/-- 'sallyportlaw04.LimbsWidths': WHATEVER THE INPUT: true; the input reads as it did. -/
def limbsWidthsSpec : ChangeSpec := { name := "limbsWidths", fn := fun _ => fun
  | [d1, d2, d3] => { results := [.lit (.bool true)], args := [d1, d2, d3] }
  | _ => none }
def limbsWidthsRow : OpenClaim := { program := "ytcljdpaniinhmaa", sum := "705684b9d2d9e0d54ae29b993694fe2038d6e7a3993782cb4d2fbd34fe543086", func := "sallyport/sallyportlaw04.LimbsWidths", spec := "limbsWidths", unfollowed := true, recurses := true, apart := false }
def LimbsWidthsSaid : Prop := limbsWidthsRow.holds Try.pinned (OpenSpec.ofChange limbsWidthsSpec)

/-- ITS FALSE NEIGHBOUR: 'it returns false'. Refute it at one input. -/
def limbsWidthsWrong : ChangeSpec := { name := "limbsWidths", fn := fun _ => fun
  | [d1, d2, d3] => { results := [.lit (.bool false)], args := [d1, d2, d3] }
  | _ => none }
def LimbsWidthsWrongFalsely : Prop := limbsWidthsRow.holds Try.pinned (OpenSpec.ofChange limbsWidthsWrong)

/- THE SECOND FORM. 'bulk': how many values and letters a reading holds, each counted each time it is reached (what is shared counts as often as it is met; a slice's spare places count too). A statement '..UptoSaid' is the law's where the arguments, and the package variables that the reading takes, are together of bulk at most 1048576: NARROWER than '..Said'. Prove '..Said' where nothing that the law and all that it calls make is longer than what came in: it says more and counts as full. Else prove '..UptoSaid'. A law counts once. -/
mutual
def uptoBulk {H : Type} : DataW H → Nat
  | .lit (.string bytes) => bytes.length + 1
  | .lit _ => 1
  | .nil => 1
  | .ptr d => uptoBulk d + 1
  | .slice elems spare => uptoBulkAll elems + uptoBulkAll spare + 1
  | .agg parts => uptoBulkAll parts + 1
  | .iface _ d => uptoBulk d + 1
  | .map entries => uptoBulkEntries entries + 1
  | .held _ => 1
def uptoBulkAll {H : Type} : List (DataW H) → Nat
  | [] => 0
  | d :: r => uptoBulk d + uptoBulkAll r
def uptoBulkEntries {H : Type} : List (Lit × DataW H) → Nat
  | [] => 0
  | x :: r => uptoBulkEntry x + uptoBulkEntries r
def uptoBulkEntry {H : Type} : Lit × DataW H → Nat
  | (.string bytes, d) => bytes.length + uptoBulk d + 1
  | (_, d) => uptoBulk d + 1
 end
def uptoSmall : (H : Type) → List (DataW H) → Bool := fun _ ds => decide (uptoBulkAll ds ≤ 1048576)
def OpenSpec.upto (s : _root_.Go.ChangeSpec) : _root_.Go.OpenSpec := { _root_.Go.OpenSpec.ofChange s with cond := some uptoSmall }

/-- 'sallyportlaw04.LimbsProducts', WHERE WHAT IT READS IS OF BULK AT MOST 1048576: true; the input reads as it did. -/
def limbsProductsUptoRow : OpenClaim := { program := "ytcljdpaniinhmaa", sum := "705684b9d2d9e0d54ae29b993694fe2038d6e7a3993782cb4d2fbd34fe543086", func := "sallyport/sallyportlaw04.LimbsProducts", spec := "limbsProducts", unfollowed := true, recurses := true, apart := false, narrowed := true }
def LimbsProductsUptoSaid : Prop := limbsProductsUptoRow.holds Try.pinned (OpenSpec.upto limbsProductsSpec)

/-- 'sallyportlaw04.LimbsSums', WHERE WHAT IT READS IS OF BULK AT MOST 1048576: true; the input reads as it did. -/
def limbsSumsUptoRow : OpenClaim := { program := "ytcljdpaniinhmaa", sum := "705684b9d2d9e0d54ae29b993694fe2038d6e7a3993782cb4d2fbd34fe543086", func := "sallyport/sallyportlaw04.LimbsSums", spec := "limbsSums", unfollowed := true, recurses := true, apart := false, narrowed := true }
def LimbsSumsUptoSaid : Prop := limbsSumsUptoRow.holds Try.pinned (OpenSpec.upto limbsSumsSpec)

/-- 'sallyportlaw04.LimbsBytes', WHERE WHAT IT READS IS OF BULK AT MOST 1048576: true; the input reads as it did. -/
def limbsBytesUptoRow : OpenClaim := { program := "ytcljdpaniinhmaa", sum := "705684b9d2d9e0d54ae29b993694fe2038d6e7a3993782cb4d2fbd34fe543086", func := "sallyport/sallyportlaw04.LimbsBytes", spec := "limbsBytes", unfollowed := true, recurses := true, apart := false, narrowed := true }
def LimbsBytesUptoSaid : Prop := limbsBytesUptoRow.holds Try.pinned (OpenSpec.upto limbsBytesSpec)

/-- 'sallyportlaw04.LimbsSpreads', WHERE WHAT IT READS IS OF BULK AT MOST 1048576: true; the input reads as it did. -/
def limbsSpreadsUptoRow : OpenClaim := { program := "ytcljdpaniinhmaa", sum := "705684b9d2d9e0d54ae29b993694fe2038d6e7a3993782cb4d2fbd34fe543086", func := "sallyport/sallyportlaw04.LimbsSpreads", spec := "limbsSpreads", unfollowed := true, recurses := true, apart := false, narrowed := true }
def LimbsSpreadsUptoSaid : Prop := limbsSpreadsUptoRow.holds Try.pinned (OpenSpec.upto limbsSpreadsSpec)

/-- 'sallyportlaw04.LimbsBack', WHERE WHAT IT READS IS OF BULK AT MOST 1048576: true; the input reads as it did. -/
def limbsBackUptoRow : OpenClaim := { program := "ytcljdpaniinhmaa", sum := "705684b9d2d9e0d54ae29b993694fe2038d6e7a3993782cb4d2fbd34fe543086", func := "sallyport/sallyportlaw04.LimbsBack", spec := "limbsBack", unfollowed := true, recurses := true, apart := false, narrowed := true }
def LimbsBackUptoSaid : Prop := limbsBackUptoRow.holds Try.pinned (OpenSpec.upto limbsBackSpec)

/-- 'sallyportlaw04.LimbsOrders', WHERE WHAT IT READS IS OF BULK AT MOST 1048576: true; the input reads as it did. -/
def limbsOrdersUptoRow : OpenClaim := { program := "ytcljdpaniinhmaa", sum := "705684b9d2d9e0d54ae29b993694fe2038d6e7a3993782cb4d2fbd34fe543086", func := "sallyport/sallyportlaw04.LimbsOrders", spec := "limbsOrders", unfollowed := true, recurses := true, apart := false, narrowed := true }
def LimbsOrdersUptoSaid : Prop := limbsOrdersUptoRow.holds Try.pinned (OpenSpec.upto limbsOrdersSpec)

/-- 'sallyportlaw04.LimbsOnes', WHERE WHAT IT READS IS OF BULK AT MOST 1048576: true; the input reads as it did. -/
def limbsOnesUptoRow : OpenClaim := { program := "ytcljdpaniinhmaa", sum := "705684b9d2d9e0d54ae29b993694fe2038d6e7a3993782cb4d2fbd34fe543086", func := "sallyport/sallyportlaw04.LimbsOnes", spec := "limbsOnes", unfollowed := true, recurses := true, apart := false, narrowed := true }
def LimbsOnesUptoSaid : Prop := limbsOnesUptoRow.holds Try.pinned (OpenSpec.upto limbsOnesSpec)

/-- 'sallyportlaw04.LimbsWidths', WHERE WHAT IT READS IS OF BULK AT MOST 1048576: true; the input reads as it did. -/
def limbsWidthsUptoRow : OpenClaim := { program := "ytcljdpaniinhmaa", sum := "705684b9d2d9e0d54ae29b993694fe2038d6e7a3993782cb4d2fbd34fe543086", func := "sallyport/sallyportlaw04.LimbsWidths", spec := "limbsWidths", unfollowed := true, recurses := true, apart := false, narrowed := true }
def LimbsWidthsUptoSaid : Prop := limbsWidthsUptoRow.holds Try.pinned (OpenSpec.upto limbsWidthsSpec)

end Rows
end Go.Proofs.Ytcljdpaniinhmaa
