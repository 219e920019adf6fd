/-
  No cell of these rows narrows 'for every input' (looked for: loops, veiled, ifaces, maps, wideKeys, modest, calm, conditions, laid).
  DERIVED. THE GIVEN ROWS OF THIS SEAT. 4 by the template 'for every input the law returns true; each argument reads behind the call as it read before'; 0 by the template 'total and deterministic' (their statements: YtgpnpcahcegadaaGreatTotals.lean).
  GIVEN WITH THE SEED: the statements are not yours to turn. If you find one false, say at which input.
  Laid BY PROGRAM, IN A SANDBOX (cutbox-rows.mjs): the forced cells as the released guide's own fill.sh prints them over the translation a1a3f5814ce53172… (all of the seat's roots in one cut). By AI agents, Wed Nov 11 2026. No macro, syntax, notation, axiom, sorry.
-/
import Derived.Test.YtgpnpcahcegadaaGreatChecked
import GoSem.Claim
import GoSem.ClaimJoined
import GoSem.ClaimMapViews
import Derived.JoinedTies
import Derived.KernelRfl
namespace Go.Proofs.YtgpnpcahcegadaaGreat
/- THE CELL 'sum', in the pinned program and in every row, IS THE sha256 OF THE DUMP (.gsa) THAT YtgpnpcahcegadaaGreatProg.lean LOADS. Nothing in Lean hashes anything: it is a label: what it is worth is what the hold of that sum in a sandbox is worth. -/
noncomputable def Tryz.pinned : Pinned := { name := "ytgpnpcahcegadaagreat", sum := "a1a3f5814ce53172ca2e1a9905502710b606e95daa31f2a6143a4b6d43d68409", checked := Tryz.checked }
namespace Rows
def none {H : Type} : Left H := { results := [], args := [] }

/-- 'sodalitylaw19.RosterPlays': WHATEVER THE INPUT: true; the input reads as it did. -/
def rosterPlaysSpec : ChangeSpec := { name := "rosterPlays", fn := fun _ => fun
  | [d1, d2] => { results := [.lit (.bool true)], args := [d1, d2] }
  | _ => none }
def rosterPlaysRow : OpenClaim := { program := "ytgpnpcahcegadaagreat", sum := "a1a3f5814ce53172ca2e1a9905502710b606e95daa31f2a6143a4b6d43d68409", func := "sodality/sodalitylaw19.RosterPlays", spec := "rosterPlays", unfollowed := true, recurses := true, apart := false }
def RosterPlaysSaid : Prop := rosterPlaysRow.holds Tryz.pinned (OpenSpec.ofChange rosterPlaysSpec)

/-- ITS FALSE NEIGHBOUR: 'it returns false'. Refute it at one input. -/
def rosterPlaysWrong : ChangeSpec := { name := "rosterPlays", fn := fun _ => fun
  | [d1, d2] => { results := [.lit (.bool false)], args := [d1, d2] }
  | _ => none }
def RosterPlaysWrongFalsely : Prop := rosterPlaysRow.holds Tryz.pinned (OpenSpec.ofChange rosterPlaysWrong)

/-- 'sodalitylaw19.RosterWhole': WHATEVER THE INPUT: true; the input reads as it did. -/
def rosterWholeSpec : ChangeSpec := { name := "rosterWhole", fn := fun _ => fun
  | [d] => { results := [.lit (.bool true)], args := [d] }
  | _ => none }
def rosterWholeRow : OpenClaim := { program := "ytgpnpcahcegadaagreat", sum := "a1a3f5814ce53172ca2e1a9905502710b606e95daa31f2a6143a4b6d43d68409", func := "sodality/sodalitylaw19.RosterWhole", spec := "rosterWhole", unfollowed := true, recurses := true, apart := false }
def RosterWholeSaid : Prop := rosterWholeRow.holds Tryz.pinned (OpenSpec.ofChange rosterWholeSpec)

/-- ITS FALSE NEIGHBOUR: 'it returns false'. Refute it at one input. -/
def rosterWholeWrong : ChangeSpec := { name := "rosterWhole", fn := fun _ => fun
  | [d] => { results := [.lit (.bool false)], args := [d] }
  | _ => none }
def RosterWholeWrongFalsely : Prop := rosterWholeRow.holds Tryz.pinned (OpenSpec.ofChange rosterWholeWrong)

/-- 'sodalitylaw19.RosterHealth': WHATEVER THE INPUT: true; the input reads as it did. -/
def rosterHealthSpec : ChangeSpec := { name := "rosterHealth", fn := fun _ => fun
  | [d1, d2, d3] => { results := [.lit (.bool true)], args := [d1, d2, d3] }
  | _ => none }
def rosterHealthRow : OpenClaim := { program := "ytgpnpcahcegadaagreat", sum := "a1a3f5814ce53172ca2e1a9905502710b606e95daa31f2a6143a4b6d43d68409", func := "sodality/sodalitylaw19.RosterHealth", spec := "rosterHealth", unfollowed := true, recurses := true, apart := false }
def RosterHealthSaid : Prop := rosterHealthRow.holds Tryz.pinned (OpenSpec.ofChange rosterHealthSpec)

/-- ITS FALSE NEIGHBOUR: 'it returns false'. Refute it at one input. -/
def rosterHealthWrong : ChangeSpec := { name := "rosterHealth", fn := fun _ => fun
  | [d1, d2, d3] => { results := [.lit (.bool false)], args := [d1, d2, d3] }
  | _ => none }
def RosterHealthWrongFalsely : Prop := rosterHealthRow.holds Tryz.pinned (OpenSpec.ofChange rosterHealthWrong)

/-- 'sodalitylaw19.RosterBack': WHATEVER THE INPUT: true; the input reads as it did. -/
def rosterBackSpec : ChangeSpec := { name := "rosterBack", fn := fun _ => fun
  | [d] => { results := [.lit (.bool true)], args := [d] }
  | _ => none }
def rosterBackRow : OpenClaim := { program := "ytgpnpcahcegadaagreat", sum := "a1a3f5814ce53172ca2e1a9905502710b606e95daa31f2a6143a4b6d43d68409", func := "sodality/sodalitylaw19.RosterBack", spec := "rosterBack", unfollowed := true, recurses := true, apart := false }
def RosterBackSaid : Prop := rosterBackRow.holds Tryz.pinned (OpenSpec.ofChange rosterBackSpec)

/-- ITS FALSE NEIGHBOUR: 'it returns false'. Refute it at one input. -/
def rosterBackWrong : ChangeSpec := { name := "rosterBack", fn := fun _ => fun
  | [d] => { results := [.lit (.bool false)], args := [d] }
  | _ => none }
def RosterBackWrongFalsely : Prop := rosterBackRow.holds Tryz.pinned (OpenSpec.ofChange rosterBackWrong)

/- THE SECOND FORM. 'bulk': how many values and letters a reading holds, each counted each time it is reached (what is shared counts as often as it is met; a slice's spare places count too). A statement '..UptoSaid' is the law's where the arguments, and the package variables that the reading takes, are together of bulk at most 1048576: NARROWER than '..Said'. Prove '..Said' where nothing that the law and all that it calls make is longer than what came in: it says more and counts as full. Else prove '..UptoSaid'. A law counts once. -/
mutual
def uptoBulk {H : Type} : DataW H → Nat
  | .lit (.string bytes) => bytes.length + 1
  | .lit _ => 1
  | .nil => 1
  | .ptr d => uptoBulk d + 1
  | .slice elems spare => uptoBulkAll elems + uptoBulkAll spare + 1
  | .agg parts => uptoBulkAll parts + 1
  | .iface _ d => uptoBulk d + 1
  | .map entries => uptoBulkEntries entries + 1
  | .held _ => 1
def uptoBulkAll {H : Type} : List (DataW H) → Nat
  | [] => 0
  | d :: r => uptoBulk d + uptoBulkAll r
def uptoBulkEntries {H : Type} : List (Lit × DataW H) → Nat
  | [] => 0
  | x :: r => uptoBulkEntry x + uptoBulkEntries r
def uptoBulkEntry {H : Type} : Lit × DataW H → Nat
  | (.string bytes, d) => bytes.length + uptoBulk d + 1
  | (_, d) => uptoBulk d + 1
 end
def uptoSmall : (H : Type) → List (DataW H) → Bool := fun _ ds => decide (uptoBulkAll ds ≤ 1048576)
def OpenSpec.upto (s : _root_.Go.ChangeSpec) : _root_.Go.OpenSpec := { _root_.Go.OpenSpec.ofChange s with cond := some uptoSmall }

/-- 'sodalitylaw19.RosterPlays', WHERE WHAT IT READS IS OF BULK AT MOST 1048576: true; the input reads as it did. -/
def rosterPlaysUptoRow : OpenClaim := { program := "ytgpnpcahcegadaagreat", sum := "a1a3f5814ce53172ca2e1a9905502710b606e95daa31f2a6143a4b6d43d68409", func := "sodality/sodalitylaw19.RosterPlays", spec := "rosterPlays", unfollowed := true, recurses := true, apart := false, narrowed := true }
def RosterPlaysUptoSaid : Prop := rosterPlaysUptoRow.holds Tryz.pinned (OpenSpec.upto rosterPlaysSpec)

/-- 'sodalitylaw19.RosterWhole', WHERE WHAT IT READS IS OF BULK AT MOST 1048576: true; the input reads as it did. -/
def rosterWholeUptoRow : OpenClaim := { program := "ytgpnpcahcegadaagreat", sum := "a1a3f5814ce53172ca2e1a9905502710b606e95daa31f2a6143a4b6d43d68409", func := "sodality/sodalitylaw19.RosterWhole", spec := "rosterWhole", unfollowed := true, recurses := true, apart := false, narrowed := true }
def RosterWholeUptoSaid : Prop := rosterWholeUptoRow.holds Tryz.pinned (OpenSpec.upto rosterWholeSpec)

/-- 'sodalitylaw19.RosterHealth', WHERE WHAT IT READS IS OF BULK AT MOST 1048576: true; the input reads as it did. -/
def rosterHealthUptoRow : OpenClaim := { program := "ytgpnpcahcegadaagreat", sum := "a1a3f5814ce53172ca2e1a9905502710b606e95daa31f2a6143a4b6d43d68409", func := "sodality/sodalitylaw19.RosterHealth", spec := "rosterHealth", unfollowed := true, recurses := true, apart := false, narrowed := true }
def RosterHealthUptoSaid : Prop := rosterHealthUptoRow.holds Tryz.pinned (OpenSpec.upto rosterHealthSpec)

/-- 'sodalitylaw19.RosterBack', WHERE WHAT IT READS IS OF BULK AT MOST 1048576: true; the input reads as it did. -/
def rosterBackUptoRow : OpenClaim := { program := "ytgpnpcahcegadaagreat", sum := "a1a3f5814ce53172ca2e1a9905502710b606e95daa31f2a6143a4b6d43d68409", func := "sodality/sodalitylaw19.RosterBack", spec := "rosterBack", unfollowed := true, recurses := true, apart := false, narrowed := true }
def RosterBackUptoSaid : Prop := rosterBackUptoRow.holds Tryz.pinned (OpenSpec.upto rosterBackSpec)

end Rows
end Go.Proofs.YtgpnpcahcegadaaGreat
