/-
  No cell of these rows narrows 'for every input' (looked for: loops, veiled, ifaces, maps, wideKeys, modest, calm, conditions, laid).
  DERIVED. THE GIVEN ROWS OF THIS SEAT. 4 by the template 'for every input the law returns true; each argument reads behind the call as it read before'; 0 by the template 'total and deterministic' (their statements: YtdcbglljljfleaaTotals.lean).
  GIVEN WITH THE SEED: the statements are not yours to turn. If you find one false, say at which input.
  Laid BY PROGRAM, IN A SANDBOX (cutbox-rows.mjs): the forced cells as the released guide's own fill.sh prints them over the translation 97af850f85b9a099… (all of the seat's roots in one cut). By AI agents, Wed Nov 11 2026. No macro, syntax, notation, axiom, sorry.
-/
import Derived.Test.YtdcbglljljfleaaChecked
import GoSem.Claim
import GoSem.ClaimJoined
import GoSem.ClaimMapViews
import Derived.JoinedTies
import Derived.KernelRfl
namespace Go.Proofs.Ytdcbglljljfleaa
/- THE CELL 'sum', in the pinned program and in every row, IS THE sha256 OF THE DUMP (.gsa) THAT YtdcbglljljfleaaProg.lean LOADS. Nothing in Lean hashes anything: it is a label: what it is worth is what the hold of that sum in a sandbox is worth. -/
noncomputable def Try.pinned : Pinned := { name := "ytdcbglljljfleaa", sum := "97af850f85b9a099fe44357518b8de894563092d429837ed075770bd327d5711", checked := Try.checked }
namespace Rows
def none {H : Type} : Left H := { results := [], args := [] }

/-- 'sodalitylaw22.DumpPuts': WHATEVER THE INPUT: true; the input reads as it did. -/
def dumpPutsSpec : ChangeSpec := { name := "dumpPuts", fn := fun _ => fun
  | [d] => { results := [.lit (.bool true)], args := [d] }
  | _ => none }
def dumpPutsRow : OpenClaim := { program := "ytdcbglljljfleaa", sum := "97af850f85b9a099fe44357518b8de894563092d429837ed075770bd327d5711", func := "sodality/sodalitylaw22.DumpPuts", spec := "dumpPuts", unfollowed := true, recurses := true, apart := false }
def DumpPutsSaid : Prop := dumpPutsRow.holds Try.pinned (OpenSpec.ofChange dumpPutsSpec)

/-- ITS FALSE NEIGHBOUR: 'it returns false'. Refute it at one input. -/
def dumpPutsWrong : ChangeSpec := { name := "dumpPuts", fn := fun _ => fun
  | [d] => { results := [.lit (.bool false)], args := [d] }
  | _ => none }
def DumpPutsWrongFalsely : Prop := dumpPutsRow.holds Try.pinned (OpenSpec.ofChange dumpPutsWrong)

/-- 'sodalitylaw22.DumpGets': WHATEVER THE INPUT: true; the input reads as it did. -/
def dumpGetsSpec : ChangeSpec := { name := "dumpGets", fn := fun _ => fun
  | [d] => { results := [.lit (.bool true)], args := [d] }
  | _ => none }
def dumpGetsRow : OpenClaim := { program := "ytdcbglljljfleaa", sum := "97af850f85b9a099fe44357518b8de894563092d429837ed075770bd327d5711", func := "sodality/sodalitylaw22.DumpGets", spec := "dumpGets", unfollowed := true, recurses := true, apart := false }
def DumpGetsSaid : Prop := dumpGetsRow.holds Try.pinned (OpenSpec.ofChange dumpGetsSpec)

/-- ITS FALSE NEIGHBOUR: 'it returns false'. Refute it at one input. -/
def dumpGetsWrong : ChangeSpec := { name := "dumpGets", fn := fun _ => fun
  | [d] => { results := [.lit (.bool false)], args := [d] }
  | _ => none }
def DumpGetsWrongFalsely : Prop := dumpGetsRow.holds Try.pinned (OpenSpec.ofChange dumpGetsWrong)

/-- 'sodalitylaw22.DumpBack': WHATEVER THE INPUT: true; the input reads as it did. -/
def dumpBackSpec : ChangeSpec := { name := "dumpBack", fn := fun _ => fun
  | [d] => { results := [.lit (.bool true)], args := [d] }
  | _ => none }
def dumpBackRow : OpenClaim := { program := "ytdcbglljljfleaa", sum := "97af850f85b9a099fe44357518b8de894563092d429837ed075770bd327d5711", func := "sodality/sodalitylaw22.DumpBack", spec := "dumpBack", unfollowed := true, recurses := true, apart := false }
def DumpBackSaid : Prop := dumpBackRow.holds Try.pinned (OpenSpec.ofChange dumpBackSpec)

/-- ITS FALSE NEIGHBOUR: 'it returns false'. Refute it at one input. -/
def dumpBackWrong : ChangeSpec := { name := "dumpBack", fn := fun _ => fun
  | [d] => { results := [.lit (.bool false)], args := [d] }
  | _ => none }
def DumpBackWrongFalsely : Prop := dumpBackRow.holds Try.pinned (OpenSpec.ofChange dumpBackWrong)

/-- 'sodalitylaw22.DumpOnce': WHATEVER THE INPUT: true; the input reads as it did. -/
def dumpOnceSpec : ChangeSpec := { name := "dumpOnce", fn := fun _ => fun
  | [d] => { results := [.lit (.bool true)], args := [d] }
  | _ => none }
def dumpOnceRow : OpenClaim := { program := "ytdcbglljljfleaa", sum := "97af850f85b9a099fe44357518b8de894563092d429837ed075770bd327d5711", func := "sodality/sodalitylaw22.DumpOnce", spec := "dumpOnce", unfollowed := true, recurses := true, apart := false }
def DumpOnceSaid : Prop := dumpOnceRow.holds Try.pinned (OpenSpec.ofChange dumpOnceSpec)

/-- ITS FALSE NEIGHBOUR: 'it returns false'. Refute it at one input. -/
def dumpOnceWrong : ChangeSpec := { name := "dumpOnce", fn := fun _ => fun
  | [d] => { results := [.lit (.bool false)], args := [d] }
  | _ => none }
def DumpOnceWrongFalsely : Prop := dumpOnceRow.holds Try.pinned (OpenSpec.ofChange dumpOnceWrong)

/- THE SECOND FORM. 'bulk': how many values and letters a reading holds, each counted each time it is reached (what is shared counts as often as it is met; a slice's spare places count too). A statement '..UptoSaid' is the law's where the arguments, and the package variables that the reading takes, are together of bulk at most 1048576: NARROWER than '..Said'. Prove '..Said' where nothing that the law and all that it calls make is longer than what came in: it says more and counts as full. Else prove '..UptoSaid'. A law counts once. -/
mutual
def uptoBulk {H : Type} : DataW H → Nat
  | .lit (.string bytes) => bytes.length + 1
  | .lit _ => 1
  | .nil => 1
  | .ptr d => uptoBulk d + 1
  | .slice elems spare => uptoBulkAll elems + uptoBulkAll spare + 1
  | .agg parts => uptoBulkAll parts + 1
  | .iface _ d => uptoBulk d + 1
  | .map entries => uptoBulkEntries entries + 1
  | .held _ => 1
def uptoBulkAll {H : Type} : List (DataW H) → Nat
  | [] => 0
  | d :: r => uptoBulk d + uptoBulkAll r
def uptoBulkEntries {H : Type} : List (Lit × DataW H) → Nat
  | [] => 0
  | x :: r => uptoBulkEntry x + uptoBulkEntries r
def uptoBulkEntry {H : Type} : Lit × DataW H → Nat
  | (.string bytes, d) => bytes.length + uptoBulk d + 1
  | (_, d) => uptoBulk d + 1
 end
def uptoSmall : (H : Type) → List (DataW H) → Bool := fun _ ds => decide (uptoBulkAll ds ≤ 1048576)
def OpenSpec.upto (s : _root_.Go.ChangeSpec) : _root_.Go.OpenSpec := { _root_.Go.OpenSpec.ofChange s with cond := some uptoSmall }

/-- 'sodalitylaw22.DumpPuts', WHERE WHAT IT READS IS OF BULK AT MOST 1048576: true; the input reads as it did. -/
def dumpPutsUptoRow : OpenClaim := { program := "ytdcbglljljfleaa", sum := "97af850f85b9a099fe44357518b8de894563092d429837ed075770bd327d5711", func := "sodality/sodalitylaw22.DumpPuts", spec := "dumpPuts", unfollowed := true, recurses := true, apart := false, narrowed := true }
def DumpPutsUptoSaid : Prop := dumpPutsUptoRow.holds Try.pinned (OpenSpec.upto dumpPutsSpec)

/-- 'sodalitylaw22.DumpGets', WHERE WHAT IT READS IS OF BULK AT MOST 1048576: true; the input reads as it did. -/
def dumpGetsUptoRow : OpenClaim := { program := "ytdcbglljljfleaa", sum := "97af850f85b9a099fe44357518b8de894563092d429837ed075770bd327d5711", func := "sodality/sodalitylaw22.DumpGets", spec := "dumpGets", unfollowed := true, recurses := true, apart := false, narrowed := true }
def DumpGetsUptoSaid : Prop := dumpGetsUptoRow.holds Try.pinned (OpenSpec.upto dumpGetsSpec)

/-- 'sodalitylaw22.DumpBack', WHERE WHAT IT READS IS OF BULK AT MOST 1048576: true; the input reads as it did. -/
def dumpBackUptoRow : OpenClaim := { program := "ytdcbglljljfleaa", sum := "97af850f85b9a099fe44357518b8de894563092d429837ed075770bd327d5711", func := "sodality/sodalitylaw22.DumpBack", spec := "dumpBack", unfollowed := true, recurses := true, apart := false, narrowed := true }
def DumpBackUptoSaid : Prop := dumpBackUptoRow.holds Try.pinned (OpenSpec.upto dumpBackSpec)

/-- 'sodalitylaw22.DumpOnce', WHERE WHAT IT READS IS OF BULK AT MOST 1048576: true; the input reads as it did. -/
def dumpOnceUptoRow : OpenClaim := { program := "ytdcbglljljfleaa", sum := "97af850f85b9a099fe44357518b8de894563092d429837ed075770bd327d5711", func := "sodality/sodalitylaw22.DumpOnce", spec := "dumpOnce", unfollowed := true, recurses := true, apart := false, narrowed := true }
def DumpOnceUptoSaid : Prop := dumpOnceUptoRow.holds Try.pinned (OpenSpec.upto dumpOnceSpec)

end Rows
end Go.Proofs.Ytdcbglljljfleaa
