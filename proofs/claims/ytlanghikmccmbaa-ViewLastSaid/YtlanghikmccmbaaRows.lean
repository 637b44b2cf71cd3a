/-
  No cell of these rows narrows 'for every input' (looked for: loops, veiled, ifaces, maps, wideKeys, modest, calm, conditions, laid).
  DERIVED. THE GIVEN ROWS OF THIS SEAT. 4 by the template 'for every input the law returns true; each argument reads behind the call as it read before'; 0 by the template 'total and deterministic' (their statements: YtlanghikmccmbaaTotals.lean).
  GIVEN WITH THE SEED: the statements are not yours to turn. If you find one false, say at which input.
  Laid BY PROGRAM, IN A SANDBOX (cutbox-rows.mjs): the forced cells as the released guide's own fill.sh prints them over the translation d6e517b62844d53b… (all of the seat's roots in one cut). By AI agents, Wed Nov 11 2026. No macro, syntax, notation, axiom, sorry.
-/
import Derived.Test.YtlanghikmccmbaaChecked
import GoSem.Claim
import GoSem.ClaimJoined
import GoSem.ClaimMapViews
import Derived.JoinedTies
import Derived.KernelRfl
namespace Go.Proofs.Ytlanghikmccmbaa
/- THE CELL 'sum', in the pinned program and in every row, IS THE sha256 OF THE DUMP (.gsa) THAT YtlanghikmccmbaaProg.lean LOADS. Nothing in Lean hashes anything: it is a label: what it is worth is what the hold of that sum in a sandbox is worth. -/
noncomputable def Try.pinned : Pinned := { name := "ytlanghikmccmbaa", sum := "d6e517b62844d53bcf6fdb80fc1b19b7358b5dfb511e9ed80e3b6bf5201dc203", checked := Try.checked }
namespace Rows
def none {H : Type} : Left H := { results := [], args := [] }

/-- 'bilanderlaw36.ViewLooks': WHATEVER THE INPUT: true; the input reads as it did. -/
def viewLooksSpec : ChangeSpec := { name := "viewLooks", fn := fun _ => fun
  | [d1, d2, d3] => { results := [.lit (.bool true)], args := [d1, d2, d3] }
  | _ => none }
def viewLooksRow : OpenClaim := { program := "ytlanghikmccmbaa", sum := "d6e517b62844d53bcf6fdb80fc1b19b7358b5dfb511e9ed80e3b6bf5201dc203", func := "bilander/bilanderlaw36.ViewLooks", spec := "viewLooks", inPlace := ["internal/bytealg.abigen_runtime_cmpstring"], unfollowed := true, recurses := true, apart := false }
def ViewLooksSaid : Prop := viewLooksRow.holds Try.pinned (OpenSpec.ofChange viewLooksSpec)

/-- ITS FALSE NEIGHBOUR: 'it returns false'. Refute it at one input. -/
def viewLooksWrong : ChangeSpec := { name := "viewLooks", fn := fun _ => fun
  | [d1, d2, d3] => { results := [.lit (.bool false)], args := [d1, d2, d3] }
  | _ => none }
def ViewLooksWrongFalsely : Prop := viewLooksRow.holds Try.pinned (OpenSpec.ofChange viewLooksWrong)

/-- 'bilanderlaw36.ViewPuts': WHATEVER THE INPUT: true; the input reads as it did. -/
def viewPutsSpec : ChangeSpec := { name := "viewPuts", fn := fun _ => fun
  | [d1, d2] => { results := [.lit (.bool true)], args := [d1, d2] }
  | _ => none }
def viewPutsRow : OpenClaim := { program := "ytlanghikmccmbaa", sum := "d6e517b62844d53bcf6fdb80fc1b19b7358b5dfb511e9ed80e3b6bf5201dc203", func := "bilander/bilanderlaw36.ViewPuts", spec := "viewPuts", inPlace := ["internal/bytealg.abigen_runtime_cmpstring"], unfollowed := true, recurses := true, apart := false }
def ViewPutsSaid : Prop := viewPutsRow.holds Try.pinned (OpenSpec.ofChange viewPutsSpec)

/-- ITS FALSE NEIGHBOUR: 'it returns false'. Refute it at one input. -/
def viewPutsWrong : ChangeSpec := { name := "viewPuts", fn := fun _ => fun
  | [d1, d2] => { results := [.lit (.bool false)], args := [d1, d2] }
  | _ => none }
def ViewPutsWrongFalsely : Prop := viewPutsRow.holds Try.pinned (OpenSpec.ofChange viewPutsWrong)

/-- 'bilanderlaw36.ViewGoes': WHATEVER THE INPUT: true; the input reads as it did. -/
def viewGoesSpec : ChangeSpec := { name := "viewGoes", fn := fun _ => fun
  | [d1, d2] => { results := [.lit (.bool true)], args := [d1, d2] }
  | _ => none }
def viewGoesRow : OpenClaim := { program := "ytlanghikmccmbaa", sum := "d6e517b62844d53bcf6fdb80fc1b19b7358b5dfb511e9ed80e3b6bf5201dc203", func := "bilander/bilanderlaw36.ViewGoes", spec := "viewGoes", inPlace := ["internal/bytealg.abigen_runtime_cmpstring"], unfollowed := true, recurses := true, apart := false }
def ViewGoesSaid : Prop := viewGoesRow.holds Try.pinned (OpenSpec.ofChange viewGoesSpec)

/-- ITS FALSE NEIGHBOUR: 'it returns false'. Refute it at one input. -/
def viewGoesWrong : ChangeSpec := { name := "viewGoes", fn := fun _ => fun
  | [d1, d2] => { results := [.lit (.bool false)], args := [d1, d2] }
  | _ => none }
def ViewGoesWrongFalsely : Prop := viewGoesRow.holds Try.pinned (OpenSpec.ofChange viewGoesWrong)

/-- 'bilanderlaw36.ViewLast': WHATEVER THE INPUT: true; the input reads as it did. -/
def viewLastSpec : ChangeSpec := { name := "viewLast", fn := fun _ => fun
  | [d1, d2] => { results := [.lit (.bool true)], args := [d1, d2] }
  | _ => none }
def viewLastRow : OpenClaim := { program := "ytlanghikmccmbaa", sum := "d6e517b62844d53bcf6fdb80fc1b19b7358b5dfb511e9ed80e3b6bf5201dc203", func := "bilander/bilanderlaw36.ViewLast", spec := "viewLast", inPlace := ["internal/bytealg.abigen_runtime_cmpstring"], unfollowed := true, recurses := true, apart := false }
def ViewLastSaid : Prop := viewLastRow.holds Try.pinned (OpenSpec.ofChange viewLastSpec)

/-- ITS FALSE NEIGHBOUR: 'it returns false'. Refute it at one input. -/
def viewLastWrong : ChangeSpec := { name := "viewLast", fn := fun _ => fun
  | [d1, d2] => { results := [.lit (.bool false)], args := [d1, d2] }
  | _ => none }
def ViewLastWrongFalsely : Prop := viewLastRow.holds Try.pinned (OpenSpec.ofChange viewLastWrong)

/- THE SECOND FORM. 'bulk': how many values and letters a reading holds, each counted each time it is reached (what is shared counts as often as it is met; a slice's spare places count too). A statement '..UptoSaid' is the law's where the arguments, and the package variables that the reading takes, are together of bulk at most 1048576: NARROWER than '..Said'. Prove '..Said' where nothing that the law and all that it calls make is longer than what came in: it says more and counts as full. Else prove '..UptoSaid'. A law counts once. -/
mutual
def uptoBulk {H : Type} : DataW H → Nat
  | .lit (.string bytes) => bytes.length + 1
  | .lit _ => 1
  | .nil => 1
  | .ptr d => uptoBulk d + 1
  | .slice elems spare => uptoBulkAll elems + uptoBulkAll spare + 1
  | .agg parts => uptoBulkAll parts + 1
  | .iface _ d => uptoBulk d + 1
  | .map entries => uptoBulkEntries entries + 1
  | .held _ => 1
def uptoBulkAll {H : Type} : List (DataW H) → Nat
  | [] => 0
  | d :: r => uptoBulk d + uptoBulkAll r
def uptoBulkEntries {H : Type} : List (Lit × DataW H) → Nat
  | [] => 0
  | x :: r => uptoBulkEntry x + uptoBulkEntries r
def uptoBulkEntry {H : Type} : Lit × DataW H → Nat
  | (.string bytes, d) => bytes.length + uptoBulk d + 1
  | (_, d) => uptoBulk d + 1
 end
def uptoSmall : (H : Type) → List (DataW H) → Bool := fun _ ds => decide (uptoBulkAll ds ≤ 1048576)
def OpenSpec.upto (s : _root_.Go.ChangeSpec) : _root_.Go.OpenSpec := { _root_.Go.OpenSpec.ofChange s with cond := some uptoSmall }

/-- 'bilanderlaw36.ViewLooks', WHERE WHAT IT READS IS OF BULK AT MOST 1048576: true; the input reads as it did. -/
def viewLooksUptoRow : OpenClaim := { program := "ytlanghikmccmbaa", sum := "d6e517b62844d53bcf6fdb80fc1b19b7358b5dfb511e9ed80e3b6bf5201dc203", func := "bilander/bilanderlaw36.ViewLooks", spec := "viewLooks", inPlace := ["internal/bytealg.abigen_runtime_cmpstring"], unfollowed := true, recurses := true, apart := false, narrowed := true }
def ViewLooksUptoSaid : Prop := viewLooksUptoRow.holds Try.pinned (OpenSpec.upto viewLooksSpec)

/-- 'bilanderlaw36.ViewPuts', WHERE WHAT IT READS IS OF BULK AT MOST 1048576: true; the input reads as it did. -/
def viewPutsUptoRow : OpenClaim := { program := "ytlanghikmccmbaa", sum := "d6e517b62844d53bcf6fdb80fc1b19b7358b5dfb511e9ed80e3b6bf5201dc203", func := "bilander/bilanderlaw36.ViewPuts", spec := "viewPuts", inPlace := ["internal/bytealg.abigen_runtime_cmpstring"], unfollowed := true, recurses := true, apart := false, narrowed := true }
def ViewPutsUptoSaid : Prop := viewPutsUptoRow.holds Try.pinned (OpenSpec.upto viewPutsSpec)

/-- 'bilanderlaw36.ViewGoes', WHERE WHAT IT READS IS OF BULK AT MOST 1048576: true; the input reads as it did. -/
def viewGoesUptoRow : OpenClaim := { program := "ytlanghikmccmbaa", sum := "d6e517b62844d53bcf6fdb80fc1b19b7358b5dfb511e9ed80e3b6bf5201dc203", func := "bilander/bilanderlaw36.ViewGoes", spec := "viewGoes", inPlace := ["internal/bytealg.abigen_runtime_cmpstring"], unfollowed := true, recurses := true, apart := false, narrowed := true }
def ViewGoesUptoSaid : Prop := viewGoesUptoRow.holds Try.pinned (OpenSpec.upto viewGoesSpec)

/-- 'bilanderlaw36.ViewLast', WHERE WHAT IT READS IS OF BULK AT MOST 1048576: true; the input reads as it did. -/
def viewLastUptoRow : OpenClaim := { program := "ytlanghikmccmbaa", sum := "d6e517b62844d53bcf6fdb80fc1b19b7358b5dfb511e9ed80e3b6bf5201dc203", func := "bilander/bilanderlaw36.ViewLast", spec := "viewLast", inPlace := ["internal/bytealg.abigen_runtime_cmpstring"], unfollowed := true, recurses := true, apart := false, narrowed := true }
def ViewLastUptoSaid : Prop := viewLastUptoRow.holds Try.pinned (OpenSpec.upto viewLastSpec)

end Rows
end Go.Proofs.Ytlanghikmccmbaa
