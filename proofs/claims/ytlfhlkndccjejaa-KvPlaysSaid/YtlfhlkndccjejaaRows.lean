/-
  No cell of these rows narrows 'for every input' (looked for: loops, veiled, ifaces, maps, wideKeys, modest, calm, conditions, laid).
  DERIVED. THE GIVEN ROWS OF THIS SEAT. 6 by the template 'for every input the law returns true; each argument reads behind the call as it read before'; 0 by the template 'total and deterministic' (their statements: YtlfhlkndccjejaaTotals.lean).
  GIVEN WITH THE SEED: the statements are not yours to turn. If you find one false, say at which input.
  Laid BY PROGRAM, IN A SANDBOX (cutbox-rows.mjs): the forced cells as the released guide's own fill.sh prints them over the translation e27f89c285eec1e6… (all of the seat's roots in one cut). By AI agents, Wed Nov 11 2026. No macro, syntax, notation, axiom, sorry.
-/
import Derived.Test.YtlfhlkndccjejaaChecked
import GoSem.Claim
import GoSem.ClaimJoined
import GoSem.ClaimMapViews
import Derived.JoinedTies
import Derived.KernelRfl
namespace Go.Proofs.Ytlfhlkndccjejaa
/- THE CELL 'sum', in the pinned program and in every row, IS THE sha256 OF THE DUMP (.gsa) THAT YtlfhlkndccjejaaProg.lean LOADS. Nothing in Lean hashes anything: it is a label: what it is worth is what the hold of that sum in a sandbox is worth. -/
noncomputable def Try.pinned : Pinned := { name := "ytlfhlkndccjejaa", sum := "e27f89c285eec1e648b4717f73f09862d0060f9934ddb217b8a16a26472bb502", checked := Try.checked }
namespace Rows
def none {H : Type} : Left H := { results := [], args := [] }

/-- 'sodalitylaw19.RosterLoads': WHATEVER THE INPUT: true; the input reads as it did. -/
def rosterLoadsSpec : ChangeSpec := { name := "rosterLoads", fn := fun _ => fun
  | [d1, d2] => { results := [.lit (.bool true)], args := [d1, d2] }
  | _ => none }
def rosterLoadsRow : OpenClaim := { program := "ytlfhlkndccjejaa", sum := "e27f89c285eec1e648b4717f73f09862d0060f9934ddb217b8a16a26472bb502", func := "sodality/sodalitylaw19.RosterLoads", spec := "rosterLoads", unfollowed := true, recurses := true, apart := false }
def RosterLoadsSaid : Prop := rosterLoadsRow.holds Try.pinned (OpenSpec.ofChange rosterLoadsSpec)

/-- ITS FALSE NEIGHBOUR: 'it returns false'. Refute it at one input. -/
def rosterLoadsWrong : ChangeSpec := { name := "rosterLoads", fn := fun _ => fun
  | [d1, d2] => { results := [.lit (.bool false)], args := [d1, d2] }
  | _ => none }
def RosterLoadsWrongFalsely : Prop := rosterLoadsRow.holds Try.pinned (OpenSpec.ofChange rosterLoadsWrong)

/-- 'sodalitylaw16.KvLoads': WHATEVER THE INPUT: true; the input reads as it did. -/
def kvLoadsSpec : ChangeSpec := { name := "kvLoads", fn := fun _ => fun
  | [d1, d2, d3] => { results := [.lit (.bool true)], args := [d1, d2, d3] }
  | _ => none }
def kvLoadsRow : OpenClaim := { program := "ytlfhlkndccjejaa", sum := "e27f89c285eec1e648b4717f73f09862d0060f9934ddb217b8a16a26472bb502", func := "sodality/sodalitylaw16.KvLoads", spec := "kvLoads", inPlace := ["internal/bytealg.IndexByteString", "internal/bytealg.IndexString"], unfollowed := true, recurses := true, named := ["internal/bytealg.MaxLen"], apart := false }
def KvLoadsSaid : Prop := kvLoadsRow.holds Try.pinned (OpenSpec.ofChange kvLoadsSpec)

/-- ITS FALSE NEIGHBOUR: 'it returns false'. Refute it at one input. -/
def kvLoadsWrong : ChangeSpec := { name := "kvLoads", fn := fun _ => fun
  | [d1, d2, d3] => { results := [.lit (.bool false)], args := [d1, d2, d3] }
  | _ => none }
def KvLoadsWrongFalsely : Prop := kvLoadsRow.holds Try.pinned (OpenSpec.ofChange kvLoadsWrong)

/-- 'sodalitylaw16.KvPlays': WHATEVER THE INPUT: true; the input reads as it did. -/
def kvPlaysSpec : ChangeSpec := { name := "kvPlays", fn := fun _ => fun
  | [d1, d2] => { results := [.lit (.bool true)], args := [d1, d2] }
  | _ => none }
def kvPlaysRow : OpenClaim := { program := "ytlfhlkndccjejaa", sum := "e27f89c285eec1e648b4717f73f09862d0060f9934ddb217b8a16a26472bb502", func := "sodality/sodalitylaw16.KvPlays", spec := "kvPlays", inPlace := ["internal/bytealg.IndexByteString", "internal/bytealg.IndexString"], unfollowed := true, recurses := true, named := ["internal/bytealg.MaxLen"], apart := false }
def KvPlaysSaid : Prop := kvPlaysRow.holds Try.pinned (OpenSpec.ofChange kvPlaysSpec)

/-- ITS FALSE NEIGHBOUR: 'it returns false'. Refute it at one input. -/
def kvPlaysWrong : ChangeSpec := { name := "kvPlays", fn := fun _ => fun
  | [d1, d2] => { results := [.lit (.bool false)], args := [d1, d2] }
  | _ => none }
def KvPlaysWrongFalsely : Prop := kvPlaysRow.holds Try.pinned (OpenSpec.ofChange kvPlaysWrong)

/-- 'sodalitylaw16.KvOnce': WHATEVER THE INPUT: true; the input reads as it did. -/
def kvOnceSpec : ChangeSpec := { name := "kvOnce", fn := fun _ => fun
  | [d1, d2, d3] => { results := [.lit (.bool true)], args := [d1, d2, d3] }
  | _ => none }
def kvOnceRow : OpenClaim := { program := "ytlfhlkndccjejaa", sum := "e27f89c285eec1e648b4717f73f09862d0060f9934ddb217b8a16a26472bb502", func := "sodality/sodalitylaw16.KvOnce", spec := "kvOnce", inPlace := ["internal/bytealg.IndexByteString", "internal/bytealg.IndexString"], unfollowed := true, recurses := true, named := ["internal/bytealg.MaxLen"], apart := false }
def KvOnceSaid : Prop := kvOnceRow.holds Try.pinned (OpenSpec.ofChange kvOnceSpec)

/-- ITS FALSE NEIGHBOUR: 'it returns false'. Refute it at one input. -/
def kvOnceWrong : ChangeSpec := { name := "kvOnce", fn := fun _ => fun
  | [d1, d2, d3] => { results := [.lit (.bool false)], args := [d1, d2, d3] }
  | _ => none }
def KvOnceWrongFalsely : Prop := kvOnceRow.holds Try.pinned (OpenSpec.ofChange kvOnceWrong)

/-- 'sodalitylaw16.KvHeld': WHATEVER THE INPUT: true; the input reads as it did. -/
def kvHeldSpec : ChangeSpec := { name := "kvHeld", fn := fun _ => fun
  | [d1, d2, d3] => { results := [.lit (.bool true)], args := [d1, d2, d3] }
  | _ => none }
def kvHeldRow : OpenClaim := { program := "ytlfhlkndccjejaa", sum := "e27f89c285eec1e648b4717f73f09862d0060f9934ddb217b8a16a26472bb502", func := "sodality/sodalitylaw16.KvHeld", spec := "kvHeld", inPlace := ["internal/bytealg.IndexByteString", "internal/bytealg.IndexString"], unfollowed := true, recurses := true, named := ["internal/bytealg.MaxLen"], apart := false }
def KvHeldSaid : Prop := kvHeldRow.holds Try.pinned (OpenSpec.ofChange kvHeldSpec)

/-- ITS FALSE NEIGHBOUR: 'it returns false'. Refute it at one input. -/
def kvHeldWrong : ChangeSpec := { name := "kvHeld", fn := fun _ => fun
  | [d1, d2, d3] => { results := [.lit (.bool false)], args := [d1, d2, d3] }
  | _ => none }
def KvHeldWrongFalsely : Prop := kvHeldRow.holds Try.pinned (OpenSpec.ofChange kvHeldWrong)

/-- 'sodalitylaw16.KvBack': WHATEVER THE INPUT: true; the input reads as it did. -/
def kvBackSpec : ChangeSpec := { name := "kvBack", fn := fun _ => fun
  | [d] => { results := [.lit (.bool true)], args := [d] }
  | _ => none }
def kvBackRow : OpenClaim := { program := "ytlfhlkndccjejaa", sum := "e27f89c285eec1e648b4717f73f09862d0060f9934ddb217b8a16a26472bb502", func := "sodality/sodalitylaw16.KvBack", spec := "kvBack", inPlace := ["internal/bytealg.IndexByteString", "internal/bytealg.IndexString"], unfollowed := true, recurses := true, named := ["internal/bytealg.MaxLen"], apart := false }
def KvBackSaid : Prop := kvBackRow.holds Try.pinned (OpenSpec.ofChange kvBackSpec)

/-- ITS FALSE NEIGHBOUR: 'it returns false'. Refute it at one input. -/
def kvBackWrong : ChangeSpec := { name := "kvBack", fn := fun _ => fun
  | [d] => { results := [.lit (.bool false)], args := [d] }
  | _ => none }
def KvBackWrongFalsely : Prop := kvBackRow.holds Try.pinned (OpenSpec.ofChange kvBackWrong)

/- THE SECOND FORM. 'bulk': how many values and letters a reading holds, each counted each time it is reached (what is shared counts as often as it is met; a slice's spare places count too). A statement '..UptoSaid' is the law's where the arguments, and the package variables that the reading takes, are together of bulk at most 1048576: NARROWER than '..Said'. Prove '..Said' where nothing that the law and all that it calls make is longer than what came in: it says more and counts as full. Else prove '..UptoSaid'. A law counts once. -/
mutual
def uptoBulk {H : Type} : DataW H → Nat
  | .lit (.string bytes) => bytes.length + 1
  | .lit _ => 1
  | .nil => 1
  | .ptr d => uptoBulk d + 1
  | .slice elems spare => uptoBulkAll elems + uptoBulkAll spare + 1
  | .agg parts => uptoBulkAll parts + 1
  | .iface _ d => uptoBulk d + 1
  | .map entries => uptoBulkEntries entries + 1
  | .held _ => 1
def uptoBulkAll {H : Type} : List (DataW H) → Nat
  | [] => 0
  | d :: r => uptoBulk d + uptoBulkAll r
def uptoBulkEntries {H : Type} : List (Lit × DataW H) → Nat
  | [] => 0
  | x :: r => uptoBulkEntry x + uptoBulkEntries r
def uptoBulkEntry {H : Type} : Lit × DataW H → Nat
  | (.string bytes, d) => bytes.length + uptoBulk d + 1
  | (_, d) => uptoBulk d + 1
 end
def uptoSmall : (H : Type) → List (DataW H) → Bool := fun _ ds => decide (uptoBulkAll ds ≤ 1048576)
def OpenSpec.upto (s : _root_.Go.ChangeSpec) : _root_.Go.OpenSpec := { _root_.Go.OpenSpec.ofChange s with cond := some uptoSmall }

/-- 'sodalitylaw19.RosterLoads', WHERE WHAT IT READS IS OF BULK AT MOST 1048576: true; the input reads as it did. -/
def rosterLoadsUptoRow : OpenClaim := { program := "ytlfhlkndccjejaa", sum := "e27f89c285eec1e648b4717f73f09862d0060f9934ddb217b8a16a26472bb502", func := "sodality/sodalitylaw19.RosterLoads", spec := "rosterLoads", unfollowed := true, recurses := true, apart := false, narrowed := true }
def RosterLoadsUptoSaid : Prop := rosterLoadsUptoRow.holds Try.pinned (OpenSpec.upto rosterLoadsSpec)

/-- 'sodalitylaw16.KvLoads', WHERE WHAT IT READS IS OF BULK AT MOST 1048576: true; the input reads as it did. -/
def kvLoadsUptoRow : OpenClaim := { program := "ytlfhlkndccjejaa", sum := "e27f89c285eec1e648b4717f73f09862d0060f9934ddb217b8a16a26472bb502", func := "sodality/sodalitylaw16.KvLoads", spec := "kvLoads", inPlace := ["internal/bytealg.IndexByteString", "internal/bytealg.IndexString"], unfollowed := true, recurses := true, named := ["internal/bytealg.MaxLen"], apart := false, narrowed := true }
def KvLoadsUptoSaid : Prop := kvLoadsUptoRow.holds Try.pinned (OpenSpec.upto kvLoadsSpec)

/-- 'sodalitylaw16.KvPlays', WHERE WHAT IT READS IS OF BULK AT MOST 1048576: true; the input reads as it did. -/
def kvPlaysUptoRow : OpenClaim := { program := "ytlfhlkndccjejaa", sum := "e27f89c285eec1e648b4717f73f09862d0060f9934ddb217b8a16a26472bb502", func := "sodality/sodalitylaw16.KvPlays", spec := "kvPlays", inPlace := ["internal/bytealg.IndexByteString", "internal/bytealg.IndexString"], unfollowed := true, recurses := true, named := ["internal/bytealg.MaxLen"], apart := false, narrowed := true }
def KvPlaysUptoSaid : Prop := kvPlaysUptoRow.holds Try.pinned (OpenSpec.upto kvPlaysSpec)

/-- 'sodalitylaw16.KvOnce', WHERE WHAT IT READS IS OF BULK AT MOST 1048576: true; the input reads as it did. -/
def kvOnceUptoRow : OpenClaim := { program := "ytlfhlkndccjejaa", sum := "e27f89c285eec1e648b4717f73f09862d0060f9934ddb217b8a16a26472bb502", func := "sodality/sodalitylaw16.KvOnce", spec := "kvOnce", inPlace := ["internal/bytealg.IndexByteString", "internal/bytealg.IndexString"], unfollowed := true, recurses := true, named := ["internal/bytealg.MaxLen"], apart := false, narrowed := true }
def KvOnceUptoSaid : Prop := kvOnceUptoRow.holds Try.pinned (OpenSpec.upto kvOnceSpec)

/-- 'sodalitylaw16.KvHeld', WHERE WHAT IT READS IS OF BULK AT MOST 1048576: true; the input reads as it did. -/
def kvHeldUptoRow : OpenClaim := { program := "ytlfhlkndccjejaa", sum := "e27f89c285eec1e648b4717f73f09862d0060f9934ddb217b8a16a26472bb502", func := "sodality/sodalitylaw16.KvHeld", spec := "kvHeld", inPlace := ["internal/bytealg.IndexByteString", "internal/bytealg.IndexString"], unfollowed := true, recurses := true, named := ["internal/bytealg.MaxLen"], apart := false, narrowed := true }
def KvHeldUptoSaid : Prop := kvHeldUptoRow.holds Try.pinned (OpenSpec.upto kvHeldSpec)

/-- 'sodalitylaw16.KvBack', WHERE WHAT IT READS IS OF BULK AT MOST 1048576: true; the input reads as it did. -/
def kvBackUptoRow : OpenClaim := { program := "ytlfhlkndccjejaa", sum := "e27f89c285eec1e648b4717f73f09862d0060f9934ddb217b8a16a26472bb502", func := "sodality/sodalitylaw16.KvBack", spec := "kvBack", inPlace := ["internal/bytealg.IndexByteString", "internal/bytealg.IndexString"], unfollowed := true, recurses := true, named := ["internal/bytealg.MaxLen"], apart := false, narrowed := true }
def KvBackUptoSaid : Prop := kvBackUptoRow.holds Try.pinned (OpenSpec.upto kvBackSpec)

end Rows
end Go.Proofs.Ytlfhlkndccjejaa
