/-
  No cell of these rows narrows 'for every input' (looked for: loops, veiled, ifaces, maps, wideKeys, modest, calm, conditions, laid).
  DERIVED. THE GIVEN ROWS OF THIS SEAT. 2 by the template 'for every input the law returns true; each argument reads behind the call as it read before'; 0 by the template 'total and deterministic' (their statements: YthelafgdegkkkaaTotals.lean).
  GIVEN WITH THE SEED: the statements are not yours to turn. If you find one false, say at which input.
  Laid BY PROGRAM, IN A SANDBOX (cutbox-rows.mjs): the forced cells as the released guide's own fill.sh prints them over the translation 37baef40e8b49c41… (all of the seat's roots in one cut). By AI agents, Wed Nov 11 2026. No macro, syntax, notation, axiom, sorry.
-/
import Derived.Test.YthelafgdegkkkaaChecked
import GoSem.Claim
import GoSem.ClaimJoined
import GoSem.ClaimMapViews
import Derived.JoinedTies
import Derived.KernelRfl
namespace Go.Proofs.Ythelafgdegkkkaa
/- THE CELL 'sum', in the pinned program and in every row, IS THE sha256 OF THE DUMP (.gsa) THAT YthelafgdegkkkaaProg.lean LOADS. Nothing in Lean hashes anything: it is a label: what it is worth is what the hold of that sum in a sandbox is worth. -/
noncomputable def Try.pinned : Pinned := { name := "ythelafgdegkkkaa", sum := "37baef40e8b49c41f2a6d5b5269e83b71e4f395d9586cc997809a256bb67b938", checked := Try.checked }
namespace Rows
def none {H : Type} : Left H := { results := [], args := [] }

/-- 'quiverlaw05.SymtabLoads': WHATEVER THE INPUT: true; the input reads as it did. -/
def symtabLoadsSpec : ChangeSpec := { name := "symtabLoads", fn := fun _ => fun
  | [d1, d2, d3] => { results := [.lit (.bool true)], args := [d1, d2, d3] }
  | _ => none }
def symtabLoadsRow : OpenClaim := { program := "ythelafgdegkkkaa", sum := "37baef40e8b49c41f2a6d5b5269e83b71e4f395d9586cc997809a256bb67b938", func := "quiver/quiverlaw05.SymtabLoads", spec := "symtabLoads", inPlace := ["internal/bytealg.IndexByteString"], unfollowed := true, recurses := true, apart := false }
def SymtabLoadsSaid : Prop := symtabLoadsRow.holds Try.pinned (OpenSpec.ofChange symtabLoadsSpec)

/-- ITS FALSE NEIGHBOUR: 'it returns false'. Refute it at one input. -/
def symtabLoadsWrong : ChangeSpec := { name := "symtabLoads", fn := fun _ => fun
  | [d1, d2, d3] => { results := [.lit (.bool false)], args := [d1, d2, d3] }
  | _ => none }
def SymtabLoadsWrongFalsely : Prop := symtabLoadsRow.holds Try.pinned (OpenSpec.ofChange symtabLoadsWrong)

/-- 'quiverlaw05.SymtabBack': WHATEVER THE INPUT: true; the input reads as it did. -/
def symtabBackSpec : ChangeSpec := { name := "symtabBack", fn := fun _ => fun
  | [d1, d2] => { results := [.lit (.bool true)], args := [d1, d2] }
  | _ => none }
def symtabBackRow : OpenClaim := { program := "ythelafgdegkkkaa", sum := "37baef40e8b49c41f2a6d5b5269e83b71e4f395d9586cc997809a256bb67b938", func := "quiver/quiverlaw05.SymtabBack", spec := "symtabBack", inPlace := ["internal/bytealg.IndexByteString"], unfollowed := true, recurses := true, apart := false }
def SymtabBackSaid : Prop := symtabBackRow.holds Try.pinned (OpenSpec.ofChange symtabBackSpec)

/-- ITS FALSE NEIGHBOUR: 'it returns false'. Refute it at one input. -/
def symtabBackWrong : ChangeSpec := { name := "symtabBack", fn := fun _ => fun
  | [d1, d2] => { results := [.lit (.bool false)], args := [d1, d2] }
  | _ => none }
def SymtabBackWrongFalsely : Prop := symtabBackRow.holds Try.pinned (OpenSpec.ofChange symtabBackWrong)

/- THE SECOND FORM. 'bulk': how many values and letters a reading holds, each counted each time it is reached (what is shared counts as often as it is met; a slice's spare places count too). A statement '..UptoSaid' is the law's where the arguments, and the package variables that the reading takes, are together of bulk at most 1048576: NARROWER than '..Said'. Prove '..Said' where nothing that the law and all that it calls make is longer than what came in: it says more and counts as full. Else prove '..UptoSaid'. A law counts once. -/
mutual
def uptoBulk {H : Type} : DataW H → Nat
  | .lit (.string bytes) => bytes.length + 1
  | .lit _ => 1
  | .nil => 1
  | .ptr d => uptoBulk d + 1
  | .slice elems spare => uptoBulkAll elems + uptoBulkAll spare + 1
  | .agg parts => uptoBulkAll parts + 1
  | .iface _ d => uptoBulk d + 1
  | .map entries => uptoBulkEntries entries + 1
  | .held _ => 1
def uptoBulkAll {H : Type} : List (DataW H) → Nat
  | [] => 0
  | d :: r => uptoBulk d + uptoBulkAll r
def uptoBulkEntries {H : Type} : List (Lit × DataW H) → Nat
  | [] => 0
  | x :: r => uptoBulkEntry x + uptoBulkEntries r
def uptoBulkEntry {H : Type} : Lit × DataW H → Nat
  | (.string bytes, d) => bytes.length + uptoBulk d + 1
  | (_, d) => uptoBulk d + 1
 end
def uptoSmall : (H : Type) → List (DataW H) → Bool := fun _ ds => decide (uptoBulkAll ds ≤ 1048576)
def OpenSpec.upto (s : _root_.Go.ChangeSpec) : _root_.Go.OpenSpec := { _root_.Go.OpenSpec.ofChange s with cond := some uptoSmall }

/-- 'quiverlaw05.SymtabLoads', WHERE WHAT IT READS IS OF BULK AT MOST 1048576: true; the input reads as it did. -/
def symtabLoadsUptoRow : OpenClaim := { program := "ythelafgdegkkkaa", sum := "37baef40e8b49c41f2a6d5b5269e83b71e4f395d9586cc997809a256bb67b938", func := "quiver/quiverlaw05.SymtabLoads", spec := "symtabLoads", inPlace := ["internal/bytealg.IndexByteString"], unfollowed := true, recurses := true, apart := false, narrowed := true }
def SymtabLoadsUptoSaid : Prop := symtabLoadsUptoRow.holds Try.pinned (OpenSpec.upto symtabLoadsSpec)

/-- 'quiverlaw05.SymtabBack', WHERE WHAT IT READS IS OF BULK AT MOST 1048576: true; the input reads as it did. -/
def symtabBackUptoRow : OpenClaim := { program := "ythelafgdegkkkaa", sum := "37baef40e8b49c41f2a6d5b5269e83b71e4f395d9586cc997809a256bb67b938", func := "quiver/quiverlaw05.SymtabBack", spec := "symtabBack", inPlace := ["internal/bytealg.IndexByteString"], unfollowed := true, recurses := true, apart := false, narrowed := true }
def SymtabBackUptoSaid : Prop := symtabBackUptoRow.holds Try.pinned (OpenSpec.upto symtabBackSpec)

end Rows
end Go.Proofs.Ythelafgdegkkkaa
