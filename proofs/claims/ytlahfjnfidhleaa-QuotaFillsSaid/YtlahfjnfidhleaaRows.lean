/-
  No cell of these rows narrows 'for every input' (looked for: loops, veiled, ifaces, maps, wideKeys, modest, calm, conditions, laid).
  DERIVED. THE GIVEN ROWS OF THIS SEAT. 5 by the template 'for every input the law returns true; each argument reads behind the call as it read before'; 0 by the template 'total and deterministic' (their statements: YtlahfjnfidhleaaTotals.lean).
  GIVEN WITH THE SEED: the statements are not yours to turn. If you find one false, say at which input.
  Laid BY PROGRAM, IN A SANDBOX (cutbox-rows.mjs): the forced cells as the released guide's own fill.sh prints them over the translation cba3f65053fb6451… (all of the seat's roots in one cut). By AI agents, Wed Nov 11 2026. No macro, syntax, notation, axiom, sorry.
-/
import Derived.Test.YtlahfjnfidhleaaChecked
import GoSem.Claim
import GoSem.ClaimJoined
import GoSem.ClaimMapViews
import Derived.JoinedTies
import Derived.KernelRfl
namespace Go.Proofs.Ytlahfjnfidhleaa
/- THE CELL 'sum', in the pinned program and in every row, IS THE sha256 OF THE DUMP (.gsa) THAT YtlahfjnfidhleaaProg.lean LOADS. Nothing in Lean hashes anything: it is a label: what it is worth is what the hold of that sum in a sandbox is worth. -/
noncomputable def Try.pinned : Pinned := { name := "ytlahfjnfidhleaa", sum := "cba3f65053fb6451f134620a03b92b16fb2a2d417e30eee80dae338244234516", checked := Try.checked }
namespace Rows
def none {H : Type} : Left H := { results := [], args := [] }

/-- 'bilanderlaw29.LagSums': WHATEVER THE INPUT: true; the input reads as it did. -/
def lagSumsSpec : ChangeSpec := { name := "lagSums", fn := fun _ => fun
  | [d1, d2, d3] => { results := [.lit (.bool true)], args := [d1, d2, d3] }
  | _ => none }
def lagSumsRow : OpenClaim := { program := "ytlahfjnfidhleaa", sum := "cba3f65053fb6451f134620a03b92b16fb2a2d417e30eee80dae338244234516", func := "bilander/bilanderlaw29.LagSums", spec := "lagSums", unfollowed := true, recurses := true, apart := false }
def LagSumsSaid : Prop := lagSumsRow.holds Try.pinned (OpenSpec.ofChange lagSumsSpec)

/-- ITS FALSE NEIGHBOUR: 'it returns false'. Refute it at one input. -/
def lagSumsWrong : ChangeSpec := { name := "lagSums", fn := fun _ => fun
  | [d1, d2, d3] => { results := [.lit (.bool false)], args := [d1, d2, d3] }
  | _ => none }
def LagSumsWrongFalsely : Prop := lagSumsRow.holds Try.pinned (OpenSpec.ofChange lagSumsWrong)

/-- 'bilanderlaw23.QuotaTakes': WHATEVER THE INPUT: true; the input reads as it did. -/
def quotaTakesSpec : ChangeSpec := { name := "quotaTakes", fn := fun _ => fun
  | [d1, d2, d3] => { results := [.lit (.bool true)], args := [d1, d2, d3] }
  | _ => none }
def quotaTakesRow : OpenClaim := { program := "ytlahfjnfidhleaa", sum := "cba3f65053fb6451f134620a03b92b16fb2a2d417e30eee80dae338244234516", func := "bilander/bilanderlaw23.QuotaTakes", spec := "quotaTakes", unfollowed := true, recurses := true, apart := false }
def QuotaTakesSaid : Prop := quotaTakesRow.holds Try.pinned (OpenSpec.ofChange quotaTakesSpec)

/-- ITS FALSE NEIGHBOUR: 'it returns false'. Refute it at one input. -/
def quotaTakesWrong : ChangeSpec := { name := "quotaTakes", fn := fun _ => fun
  | [d1, d2, d3] => { results := [.lit (.bool false)], args := [d1, d2, d3] }
  | _ => none }
def QuotaTakesWrongFalsely : Prop := quotaTakesRow.holds Try.pinned (OpenSpec.ofChange quotaTakesWrong)

/-- 'bilanderlaw23.QuotaNever': WHATEVER THE INPUT: true; the input reads as it did. -/
def quotaNeverSpec : ChangeSpec := { name := "quotaNever", fn := fun _ => fun
  | [d1, d2, d3] => { results := [.lit (.bool true)], args := [d1, d2, d3] }
  | _ => none }
def quotaNeverRow : OpenClaim := { program := "ytlahfjnfidhleaa", sum := "cba3f65053fb6451f134620a03b92b16fb2a2d417e30eee80dae338244234516", func := "bilander/bilanderlaw23.QuotaNever", spec := "quotaNever", unfollowed := true, recurses := true, apart := false }
def QuotaNeverSaid : Prop := quotaNeverRow.holds Try.pinned (OpenSpec.ofChange quotaNeverSpec)

/-- ITS FALSE NEIGHBOUR: 'it returns false'. Refute it at one input. -/
def quotaNeverWrong : ChangeSpec := { name := "quotaNever", fn := fun _ => fun
  | [d1, d2, d3] => { results := [.lit (.bool false)], args := [d1, d2, d3] }
  | _ => none }
def QuotaNeverWrongFalsely : Prop := quotaNeverRow.holds Try.pinned (OpenSpec.ofChange quotaNeverWrong)

/-- 'bilanderlaw23.QuotaFills': WHATEVER THE INPUT: true; the input reads as it did. -/
def quotaFillsSpec : ChangeSpec := { name := "quotaFills", fn := fun _ => fun
  | [d1, d2, d3] => { results := [.lit (.bool true)], args := [d1, d2, d3] }
  | _ => none }
def quotaFillsRow : OpenClaim := { program := "ytlahfjnfidhleaa", sum := "cba3f65053fb6451f134620a03b92b16fb2a2d417e30eee80dae338244234516", func := "bilander/bilanderlaw23.QuotaFills", spec := "quotaFills", unfollowed := true, recurses := true, apart := false }
def QuotaFillsSaid : Prop := quotaFillsRow.holds Try.pinned (OpenSpec.ofChange quotaFillsSpec)

/-- ITS FALSE NEIGHBOUR: 'it returns false'. Refute it at one input. -/
def quotaFillsWrong : ChangeSpec := { name := "quotaFills", fn := fun _ => fun
  | [d1, d2, d3] => { results := [.lit (.bool false)], args := [d1, d2, d3] }
  | _ => none }
def QuotaFillsWrongFalsely : Prop := quotaFillsRow.holds Try.pinned (OpenSpec.ofChange quotaFillsWrong)

/-- 'bilanderlaw37.RouteOnce': WHATEVER THE INPUT: true; the input reads as it did. -/
def routeOnceSpec : ChangeSpec := { name := "routeOnce", fn := fun _ => fun
  | [d1, d2, d3] => { results := [.lit (.bool true)], args := [d1, d2, d3] }
  | _ => none }
def routeOnceRow : OpenClaim := { program := "ytlahfjnfidhleaa", sum := "cba3f65053fb6451f134620a03b92b16fb2a2d417e30eee80dae338244234516", func := "bilander/bilanderlaw37.RouteOnce", spec := "routeOnce", unfollowed := true, recurses := true, apart := false }
def RouteOnceSaid : Prop := routeOnceRow.holds Try.pinned (OpenSpec.ofChange routeOnceSpec)

/-- ITS FALSE NEIGHBOUR: 'it returns false'. Refute it at one input. -/
def routeOnceWrong : ChangeSpec := { name := "routeOnce", fn := fun _ => fun
  | [d1, d2, d3] => { results := [.lit (.bool false)], args := [d1, d2, d3] }
  | _ => none }
def RouteOnceWrongFalsely : Prop := routeOnceRow.holds Try.pinned (OpenSpec.ofChange routeOnceWrong)

/- THE SECOND FORM. 'bulk': how many values and letters a reading holds, each counted each time it is reached (what is shared counts as often as it is met; a slice's spare places count too). A statement '..UptoSaid' is the law's where the arguments, and the package variables that the reading takes, are together of bulk at most 1048576: NARROWER than '..Said'. Prove '..Said' where nothing that the law and all that it calls make is longer than what came in: it says more and counts as full. Else prove '..UptoSaid'. A law counts once. -/
mutual
def uptoBulk {H : Type} : DataW H → Nat
  | .lit (.string bytes) => bytes.length + 1
  | .lit _ => 1
  | .nil => 1
  | .ptr d => uptoBulk d + 1
  | .slice elems spare => uptoBulkAll elems + uptoBulkAll spare + 1
  | .agg parts => uptoBulkAll parts + 1
  | .iface _ d => uptoBulk d + 1
  | .map entries => uptoBulkEntries entries + 1
  | .held _ => 1
def uptoBulkAll {H : Type} : List (DataW H) → Nat
  | [] => 0
  | d :: r => uptoBulk d + uptoBulkAll r
def uptoBulkEntries {H : Type} : List (Lit × DataW H) → Nat
  | [] => 0
  | x :: r => uptoBulkEntry x + uptoBulkEntries r
def uptoBulkEntry {H : Type} : Lit × DataW H → Nat
  | (.string bytes, d) => bytes.length + uptoBulk d + 1
  | (_, d) => uptoBulk d + 1
 end
def uptoSmall : (H : Type) → List (DataW H) → Bool := fun _ ds => decide (uptoBulkAll ds ≤ 1048576)
def OpenSpec.upto (s : _root_.Go.ChangeSpec) : _root_.Go.OpenSpec := { _root_.Go.OpenSpec.ofChange s with cond := some uptoSmall }

/-- 'bilanderlaw29.LagSums', WHERE WHAT IT READS IS OF BULK AT MOST 1048576: true; the input reads as it did. -/
def lagSumsUptoRow : OpenClaim := { program := "ytlahfjnfidhleaa", sum := "cba3f65053fb6451f134620a03b92b16fb2a2d417e30eee80dae338244234516", func := "bilander/bilanderlaw29.LagSums", spec := "lagSums", unfollowed := true, recurses := true, apart := false, narrowed := true }
def LagSumsUptoSaid : Prop := lagSumsUptoRow.holds Try.pinned (OpenSpec.upto lagSumsSpec)

/-- 'bilanderlaw23.QuotaTakes', WHERE WHAT IT READS IS OF BULK AT MOST 1048576: true; the input reads as it did. -/
def quotaTakesUptoRow : OpenClaim := { program := "ytlahfjnfidhleaa", sum := "cba3f65053fb6451f134620a03b92b16fb2a2d417e30eee80dae338244234516", func := "bilander/bilanderlaw23.QuotaTakes", spec := "quotaTakes", unfollowed := true, recurses := true, apart := false, narrowed := true }
def QuotaTakesUptoSaid : Prop := quotaTakesUptoRow.holds Try.pinned (OpenSpec.upto quotaTakesSpec)

/-- 'bilanderlaw23.QuotaNever', WHERE WHAT IT READS IS OF BULK AT MOST 1048576: true; the input reads as it did. -/
def quotaNeverUptoRow : OpenClaim := { program := "ytlahfjnfidhleaa", sum := "cba3f65053fb6451f134620a03b92b16fb2a2d417e30eee80dae338244234516", func := "bilander/bilanderlaw23.QuotaNever", spec := "quotaNever", unfollowed := true, recurses := true, apart := false, narrowed := true }
def QuotaNeverUptoSaid : Prop := quotaNeverUptoRow.holds Try.pinned (OpenSpec.upto quotaNeverSpec)

/-- 'bilanderlaw23.QuotaFills', WHERE WHAT IT READS IS OF BULK AT MOST 1048576: true; the input reads as it did. -/
def quotaFillsUptoRow : OpenClaim := { program := "ytlahfjnfidhleaa", sum := "cba3f65053fb6451f134620a03b92b16fb2a2d417e30eee80dae338244234516", func := "bilander/bilanderlaw23.QuotaFills", spec := "quotaFills", unfollowed := true, recurses := true, apart := false, narrowed := true }
def QuotaFillsUptoSaid : Prop := quotaFillsUptoRow.holds Try.pinned (OpenSpec.upto quotaFillsSpec)

/-- 'bilanderlaw37.RouteOnce', WHERE WHAT IT READS IS OF BULK AT MOST 1048576: true; the input reads as it did. -/
def routeOnceUptoRow : OpenClaim := { program := "ytlahfjnfidhleaa", sum := "cba3f65053fb6451f134620a03b92b16fb2a2d417e30eee80dae338244234516", func := "bilander/bilanderlaw37.RouteOnce", spec := "routeOnce", unfollowed := true, recurses := true, apart := false, narrowed := true }
def RouteOnceUptoSaid : Prop := routeOnceUptoRow.holds Try.pinned (OpenSpec.upto routeOnceSpec)

end Rows
end Go.Proofs.Ytlahfjnfidhleaa
