/-
  No cell of these rows narrows 'for every input' (looked for: loops, veiled, ifaces, maps, wideKeys, modest, calm, conditions, laid).
  DERIVED. THE GIVEN ROWS OF THIS SEAT. 4 by the template 'for every input the law returns true; each argument reads behind the call as it read before'; 0 by the template 'total and deterministic' (their statements: YtnhkeenhaaeknaaTotals.lean).
  GIVEN WITH THE SEED: the statements are not yours to turn. If you find one false, say at which input.
  Laid BY PROGRAM, IN A SANDBOX (cutbox-rows.mjs): the forced cells as the released guide's own fill.sh prints them over the translation c4d8a5e5974f6d36… (all of the seat's roots in one cut). By AI agents, Wed Nov 11 2026. No macro, syntax, notation, axiom, sorry.
-/
import Derived.Test.YtnhkeenhaaeknaaChecked
import GoSem.Claim
import GoSem.ClaimJoined
import GoSem.ClaimMapViews
import Derived.JoinedTies
import Derived.KernelRfl
namespace Go.Proofs.Ytnhkeenhaaeknaa
/- THE CELL 'sum', in the pinned program and in every row, IS THE sha256 OF THE DUMP (.gsa) THAT YtnhkeenhaaeknaaProg.lean LOADS. Nothing in Lean hashes anything: it is a label: what it is worth is what the hold of that sum in a sandbox is worth. -/
noncomputable def Try.pinned : Pinned := { name := "ytnhkeenhaaeknaa", sum := "c4d8a5e5974f6d36c15db6d35c69170d7eab2da04e68e1da80d05320aeb480fa", checked := Try.checked }
namespace Rows
def none {H : Type} : Left H := { results := [], args := [] }

/-- 'sallyportlaw11.VaultOwn': WHATEVER THE INPUT: true; the input reads as it did. -/
def vaultOwnSpec : ChangeSpec := { name := "vaultOwn", fn := fun _ => fun
  | [d] => { results := [.lit (.bool true)], args := [d] }
  | _ => none }
def vaultOwnRow : OpenClaim := { program := "ytnhkeenhaaeknaa", sum := "c4d8a5e5974f6d36c15db6d35c69170d7eab2da04e68e1da80d05320aeb480fa", func := "sallyport/sallyportlaw11.VaultOwn", spec := "vaultOwn", unfollowed := true, recurses := true, apart := false }
def VaultOwnSaid : Prop := vaultOwnRow.holds Try.pinned (OpenSpec.ofChange vaultOwnSpec)

/-- ITS FALSE NEIGHBOUR: 'it returns false'. Refute it at one input. -/
def vaultOwnWrong : ChangeSpec := { name := "vaultOwn", fn := fun _ => fun
  | [d] => { results := [.lit (.bool false)], args := [d] }
  | _ => none }
def VaultOwnWrongFalsely : Prop := vaultOwnRow.holds Try.pinned (OpenSpec.ofChange vaultOwnWrong)

/-- 'sallyportlaw11.VaultRises': WHATEVER THE INPUT: true; the input reads as it did. -/
def vaultRisesSpec : ChangeSpec := { name := "vaultRises", fn := fun _ => fun
  | [d] => { results := [.lit (.bool true)], args := [d] }
  | _ => none }
def vaultRisesRow : OpenClaim := { program := "ytnhkeenhaaeknaa", sum := "c4d8a5e5974f6d36c15db6d35c69170d7eab2da04e68e1da80d05320aeb480fa", func := "sallyport/sallyportlaw11.VaultRises", spec := "vaultRises", unfollowed := true, recurses := true, apart := false }
def VaultRisesSaid : Prop := vaultRisesRow.holds Try.pinned (OpenSpec.ofChange vaultRisesSpec)

/-- ITS FALSE NEIGHBOUR: 'it returns false'. Refute it at one input. -/
def vaultRisesWrong : ChangeSpec := { name := "vaultRises", fn := fun _ => fun
  | [d] => { results := [.lit (.bool false)], args := [d] }
  | _ => none }
def VaultRisesWrongFalsely : Prop := vaultRisesRow.holds Try.pinned (OpenSpec.ofChange vaultRisesWrong)

/-- 'sallyportlaw11.VaultTorn': WHATEVER THE INPUT: true; the input reads as it did. -/
def vaultTornSpec : ChangeSpec := { name := "vaultTorn", fn := fun _ => fun
  | [d1, d2, d3, d4] => { results := [.lit (.bool true)], args := [d1, d2, d3, d4] }
  | _ => none }
def vaultTornRow : OpenClaim := { program := "ytnhkeenhaaeknaa", sum := "c4d8a5e5974f6d36c15db6d35c69170d7eab2da04e68e1da80d05320aeb480fa", func := "sallyport/sallyportlaw11.VaultTorn", spec := "vaultTorn", unfollowed := true, recurses := true, apart := false }
def VaultTornSaid : Prop := vaultTornRow.holds Try.pinned (OpenSpec.ofChange vaultTornSpec)

/-- ITS FALSE NEIGHBOUR: 'it returns false'. Refute it at one input. -/
def vaultTornWrong : ChangeSpec := { name := "vaultTorn", fn := fun _ => fun
  | [d1, d2, d3, d4] => { results := [.lit (.bool false)], args := [d1, d2, d3, d4] }
  | _ => none }
def VaultTornWrongFalsely : Prop := vaultTornRow.holds Try.pinned (OpenSpec.ofChange vaultTornWrong)

/-- 'sallyportlaw11.VaultPlays': WHATEVER THE INPUT: true; the input reads as it did. -/
def vaultPlaysSpec : ChangeSpec := { name := "vaultPlays", fn := fun _ => fun
  | [d1, d2, d3, d4] => { results := [.lit (.bool true)], args := [d1, d2, d3, d4] }
  | _ => none }
def vaultPlaysRow : OpenClaim := { program := "ytnhkeenhaaeknaa", sum := "c4d8a5e5974f6d36c15db6d35c69170d7eab2da04e68e1da80d05320aeb480fa", func := "sallyport/sallyportlaw11.VaultPlays", spec := "vaultPlays", unfollowed := true, recurses := true, apart := false }
def VaultPlaysSaid : Prop := vaultPlaysRow.holds Try.pinned (OpenSpec.ofChange vaultPlaysSpec)

/-- ITS FALSE NEIGHBOUR: 'it returns false'. Refute it at one input. -/
def vaultPlaysWrong : ChangeSpec := { name := "vaultPlays", fn := fun _ => fun
  | [d1, d2, d3, d4] => { results := [.lit (.bool false)], args := [d1, d2, d3, d4] }
  | _ => none }
def VaultPlaysWrongFalsely : Prop := vaultPlaysRow.holds Try.pinned (OpenSpec.ofChange vaultPlaysWrong)

/- THE SECOND FORM. 'bulk': how many values and letters a reading holds, each counted each time it is reached (what is shared counts as often as it is met; a slice's spare places count too). A statement '..UptoSaid' is the law's where the arguments, and the package variables that the reading takes, are together of bulk at most 1048576: NARROWER than '..Said'. Prove '..Said' where nothing that the law and all that it calls make is longer than what came in: it says more and counts as full. Else prove '..UptoSaid'. A law counts once. -/
mutual
def uptoBulk {H : Type} : DataW H → Nat
  | .lit (.string bytes) => bytes.length + 1
  | .lit _ => 1
  | .nil => 1
  | .ptr d => uptoBulk d + 1
  | .slice elems spare => uptoBulkAll elems + uptoBulkAll spare + 1
  | .agg parts => uptoBulkAll parts + 1
  | .iface _ d => uptoBulk d + 1
  | .map entries => uptoBulkEntries entries + 1
  | .held _ => 1
def uptoBulkAll {H : Type} : List (DataW H) → Nat
  | [] => 0
  | d :: r => uptoBulk d + uptoBulkAll r
def uptoBulkEntries {H : Type} : List (Lit × DataW H) → Nat
  | [] => 0
  | x :: r => uptoBulkEntry x + uptoBulkEntries r
def uptoBulkEntry {H : Type} : Lit × DataW H → Nat
  | (.string bytes, d) => bytes.length + uptoBulk d + 1
  | (_, d) => uptoBulk d + 1
 end
def uptoSmall : (H : Type) → List (DataW H) → Bool := fun _ ds => decide (uptoBulkAll ds ≤ 1048576)
def OpenSpec.upto (s : _root_.Go.ChangeSpec) : _root_.Go.OpenSpec := { _root_.Go.OpenSpec.ofChange s with cond := some uptoSmall }

/-- 'sallyportlaw11.VaultOwn', WHERE WHAT IT READS IS OF BULK AT MOST 1048576: true; the input reads as it did. -/
def vaultOwnUptoRow : OpenClaim := { program := "ytnhkeenhaaeknaa", sum := "c4d8a5e5974f6d36c15db6d35c69170d7eab2da04e68e1da80d05320aeb480fa", func := "sallyport/sallyportlaw11.VaultOwn", spec := "vaultOwn", unfollowed := true, recurses := true, apart := false, narrowed := true }
def VaultOwnUptoSaid : Prop := vaultOwnUptoRow.holds Try.pinned (OpenSpec.upto vaultOwnSpec)

/-- 'sallyportlaw11.VaultRises', WHERE WHAT IT READS IS OF BULK AT MOST 1048576: true; the input reads as it did. -/
def vaultRisesUptoRow : OpenClaim := { program := "ytnhkeenhaaeknaa", sum := "c4d8a5e5974f6d36c15db6d35c69170d7eab2da04e68e1da80d05320aeb480fa", func := "sallyport/sallyportlaw11.VaultRises", spec := "vaultRises", unfollowed := true, recurses := true, apart := false, narrowed := true }
def VaultRisesUptoSaid : Prop := vaultRisesUptoRow.holds Try.pinned (OpenSpec.upto vaultRisesSpec)

/-- 'sallyportlaw11.VaultTorn', WHERE WHAT IT READS IS OF BULK AT MOST 1048576: true; the input reads as it did. -/
def vaultTornUptoRow : OpenClaim := { program := "ytnhkeenhaaeknaa", sum := "c4d8a5e5974f6d36c15db6d35c69170d7eab2da04e68e1da80d05320aeb480fa", func := "sallyport/sallyportlaw11.VaultTorn", spec := "vaultTorn", unfollowed := true, recurses := true, apart := false, narrowed := true }
def VaultTornUptoSaid : Prop := vaultTornUptoRow.holds Try.pinned (OpenSpec.upto vaultTornSpec)

/-- 'sallyportlaw11.VaultPlays', WHERE WHAT IT READS IS OF BULK AT MOST 1048576: true; the input reads as it did. -/
def vaultPlaysUptoRow : OpenClaim := { program := "ytnhkeenhaaeknaa", sum := "c4d8a5e5974f6d36c15db6d35c69170d7eab2da04e68e1da80d05320aeb480fa", func := "sallyport/sallyportlaw11.VaultPlays", spec := "vaultPlays", unfollowed := true, recurses := true, apart := false, narrowed := true }
def VaultPlaysUptoSaid : Prop := vaultPlaysUptoRow.holds Try.pinned (OpenSpec.upto vaultPlaysSpec)

end Rows
end Go.Proofs.Ytnhkeenhaaeknaa
