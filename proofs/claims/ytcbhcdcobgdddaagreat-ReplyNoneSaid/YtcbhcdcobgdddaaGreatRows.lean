/-
  No cell of these rows narrows 'for every input' (looked for: loops, veiled, ifaces, maps, wideKeys, modest, calm, conditions, laid).
  DERIVED. THE GIVEN ROWS OF THIS SEAT. 3 by the template 'for every input the law returns true; each argument reads behind the call as it read before'; 0 by the template 'total and deterministic' (their statements: YtcbhcdcobgdddaaGreatTotals.lean).
  GIVEN WITH THE SEED: the statements are not yours to turn. If you find one false, say at which input.
  Laid BY PROGRAM, IN A SANDBOX (cutbox-rows.mjs): the forced cells as the released guide's own fill.sh prints them over the translation 9c78de4d102d032a… (all of the seat's roots in one cut). By AI agents, Wed Nov 11 2026. No macro, syntax, notation, axiom, sorry.
-/
import Derived.Test.YtcbhcdcobgdddaaGreatChecked
import GoSem.Claim
import GoSem.ClaimJoined
import GoSem.ClaimMapViews
import Derived.JoinedTies
import Derived.KernelRfl
namespace Go.Proofs.YtcbhcdcobgdddaaGreat
/- THE CELL 'sum', in the pinned program and in every row, IS THE sha256 OF THE DUMP (.gsa) THAT YtcbhcdcobgdddaaGreatProg.lean LOADS. Nothing in Lean hashes anything: it is a label: what it is worth is what the hold of that sum in a sandbox is worth. -/
noncomputable def Tryz.pinned : Pinned := { name := "ytcbhcdcobgdddaagreat", sum := "9c78de4d102d032aaa466e19bb4f0bb08cea6879ec50d95b01dab6d6d18711c2", checked := Tryz.checked }
namespace Rows
def none {H : Type} : Left H := { results := [], args := [] }

/-- 'undertowlaw24.ReplySays': WHATEVER THE INPUT: true; the input reads as it did. -/
def replySaysSpec : ChangeSpec := { name := "replySays", fn := fun _ => fun
  | [d1, d2] => { results := [.lit (.bool true)], args := [d1, d2] }
  | _ => none }
def replySaysRow : OpenClaim := { program := "ytcbhcdcobgdddaagreat", sum := "9c78de4d102d032aaa466e19bb4f0bb08cea6879ec50d95b01dab6d6d18711c2", func := "undertow/undertowlaw24.ReplySays", spec := "replySays", inPlace := ["slices.overlaps[undertow/api.Span]"], unfollowed := true, recurses := true, apart := false }
def ReplySaysSaid : Prop := replySaysRow.holds Tryz.pinned (OpenSpec.ofChange replySaysSpec)

/-- ITS FALSE NEIGHBOUR: 'it returns false'. Refute it at one input. -/
def replySaysWrong : ChangeSpec := { name := "replySays", fn := fun _ => fun
  | [d1, d2] => { results := [.lit (.bool false)], args := [d1, d2] }
  | _ => none }
def ReplySaysWrongFalsely : Prop := replySaysRow.holds Tryz.pinned (OpenSpec.ofChange replySaysWrong)

/-- 'undertowlaw24.ReplyPlays': WHATEVER THE INPUT: true; the input reads as it did. -/
def replyPlaysSpec : ChangeSpec := { name := "replyPlays", fn := fun _ => fun
  | [d1, d2, d3, d4] => { results := [.lit (.bool true)], args := [d1, d2, d3, d4] }
  | _ => none }
def replyPlaysRow : OpenClaim := { program := "ytcbhcdcobgdddaagreat", sum := "9c78de4d102d032aaa466e19bb4f0bb08cea6879ec50d95b01dab6d6d18711c2", func := "undertow/undertowlaw24.ReplyPlays", spec := "replyPlays", inPlace := ["slices.overlaps[undertow/api.Span]"], unfollowed := true, recurses := true, apart := false }
def ReplyPlaysSaid : Prop := replyPlaysRow.holds Tryz.pinned (OpenSpec.ofChange replyPlaysSpec)

/-- ITS FALSE NEIGHBOUR: 'it returns false'. Refute it at one input. -/
def replyPlaysWrong : ChangeSpec := { name := "replyPlays", fn := fun _ => fun
  | [d1, d2, d3, d4] => { results := [.lit (.bool false)], args := [d1, d2, d3, d4] }
  | _ => none }
def ReplyPlaysWrongFalsely : Prop := replyPlaysRow.holds Tryz.pinned (OpenSpec.ofChange replyPlaysWrong)

/-- 'undertowlaw24.ReplyNone': WHATEVER THE INPUT: true; the input reads as it did. -/
def replyNoneSpec : ChangeSpec := { name := "replyNone", fn := fun _ => fun
  | [d] => { results := [.lit (.bool true)], args := [d] }
  | _ => none }
def replyNoneRow : OpenClaim := { program := "ytcbhcdcobgdddaagreat", sum := "9c78de4d102d032aaa466e19bb4f0bb08cea6879ec50d95b01dab6d6d18711c2", func := "undertow/undertowlaw24.ReplyNone", spec := "replyNone", inPlace := ["slices.overlaps[undertow/api.Span]"], unfollowed := true, recurses := true, apart := false }
def ReplyNoneSaid : Prop := replyNoneRow.holds Tryz.pinned (OpenSpec.ofChange replyNoneSpec)

/-- ITS FALSE NEIGHBOUR: 'it returns false'. Refute it at one input. -/
def replyNoneWrong : ChangeSpec := { name := "replyNone", fn := fun _ => fun
  | [d] => { results := [.lit (.bool false)], args := [d] }
  | _ => none }
def ReplyNoneWrongFalsely : Prop := replyNoneRow.holds Tryz.pinned (OpenSpec.ofChange replyNoneWrong)

/- THE SECOND FORM. 'bulk': how many values and letters a reading holds, each counted each time it is reached (what is shared counts as often as it is met; a slice's spare places count too). A statement '..UptoSaid' is the law's where the arguments, and the package variables that the reading takes, are together of bulk at most 1048576: NARROWER than '..Said'. Prove '..Said' where nothing that the law and all that it calls make is longer than what came in: it says more and counts as full. Else prove '..UptoSaid'. A law counts once. -/
mutual
def uptoBulk {H : Type} : DataW H → Nat
  | .lit (.string bytes) => bytes.length + 1
  | .lit _ => 1
  | .nil => 1
  | .ptr d => uptoBulk d + 1
  | .slice elems spare => uptoBulkAll elems + uptoBulkAll spare + 1
  | .agg parts => uptoBulkAll parts + 1
  | .iface _ d => uptoBulk d + 1
  | .map entries => uptoBulkEntries entries + 1
  | .held _ => 1
def uptoBulkAll {H : Type} : List (DataW H) → Nat
  | [] => 0
  | d :: r => uptoBulk d + uptoBulkAll r
def uptoBulkEntries {H : Type} : List (Lit × DataW H) → Nat
  | [] => 0
  | x :: r => uptoBulkEntry x + uptoBulkEntries r
def uptoBulkEntry {H : Type} : Lit × DataW H → Nat
  | (.string bytes, d) => bytes.length + uptoBulk d + 1
  | (_, d) => uptoBulk d + 1
 end
def uptoSmall : (H : Type) → List (DataW H) → Bool := fun _ ds => decide (uptoBulkAll ds ≤ 1048576)
def OpenSpec.upto (s : _root_.Go.ChangeSpec) : _root_.Go.OpenSpec := { _root_.Go.OpenSpec.ofChange s with cond := some uptoSmall }

/-- 'undertowlaw24.ReplySays', WHERE WHAT IT READS IS OF BULK AT MOST 1048576: true; the input reads as it did. -/
def replySaysUptoRow : OpenClaim := { program := "ytcbhcdcobgdddaagreat", sum := "9c78de4d102d032aaa466e19bb4f0bb08cea6879ec50d95b01dab6d6d18711c2", func := "undertow/undertowlaw24.ReplySays", spec := "replySays", inPlace := ["slices.overlaps[undertow/api.Span]"], unfollowed := true, recurses := true, apart := false, narrowed := true }
def ReplySaysUptoSaid : Prop := replySaysUptoRow.holds Tryz.pinned (OpenSpec.upto replySaysSpec)

/-- 'undertowlaw24.ReplyPlays', WHERE WHAT IT READS IS OF BULK AT MOST 1048576: true; the input reads as it did. -/
def replyPlaysUptoRow : OpenClaim := { program := "ytcbhcdcobgdddaagreat", sum := "9c78de4d102d032aaa466e19bb4f0bb08cea6879ec50d95b01dab6d6d18711c2", func := "undertow/undertowlaw24.ReplyPlays", spec := "replyPlays", inPlace := ["slices.overlaps[undertow/api.Span]"], unfollowed := true, recurses := true, apart := false, narrowed := true }
def ReplyPlaysUptoSaid : Prop := replyPlaysUptoRow.holds Tryz.pinned (OpenSpec.upto replyPlaysSpec)

/-- 'undertowlaw24.ReplyNone', WHERE WHAT IT READS IS OF BULK AT MOST 1048576: true; the input reads as it did. -/
def replyNoneUptoRow : OpenClaim := { program := "ytcbhcdcobgdddaagreat", sum := "9c78de4d102d032aaa466e19bb4f0bb08cea6879ec50d95b01dab6d6d18711c2", func := "undertow/undertowlaw24.ReplyNone", spec := "replyNone", inPlace := ["slices.overlaps[undertow/api.Span]"], unfollowed := true, recurses := true, apart := false, narrowed := true }
def ReplyNoneUptoSaid : Prop := replyNoneUptoRow.holds Tryz.pinned (OpenSpec.upto replyNoneSpec)

end Rows
end Go.Proofs.YtcbhcdcobgdddaaGreat
