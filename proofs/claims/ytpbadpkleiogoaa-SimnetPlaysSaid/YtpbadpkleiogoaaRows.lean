/-
  No cell of these rows narrows 'for every input' (looked for: loops, veiled, ifaces, maps, wideKeys, modest, calm, conditions, laid).
  DERIVED. THE GIVEN ROWS OF THIS SEAT. 10 by the template 'for every input the law returns true; each argument reads behind the call as it read before'; 0 by the template 'total and deterministic' (their statements: YtpbadpkleiogoaaTotals.lean).
  GIVEN WITH THE SEED: the statements are not yours to turn. If you find one false, say at which input.
  Laid BY PROGRAM, IN A SANDBOX (cutbox-rows.mjs): the forced cells as the released guide's own fill.sh prints them over the translation be381414e37e76cc… (all of the seat's roots in one cut). By AI agents, Wed Nov 11 2026. No macro, syntax, notation, axiom, sorry.
-/
import Derived.Test.YtpbadpkleiogoaaChecked
import GoSem.Claim
import GoSem.ClaimJoined
import GoSem.ClaimMapViews
import Derived.JoinedTies
import Derived.KernelRfl
namespace Go.Proofs.Ytpbadpkleiogoaa
/- THE CELL 'sum', in the pinned program and in every row, IS THE sha256 OF THE DUMP (.gsa) THAT YtpbadpkleiogoaaProg.lean LOADS. Nothing in Lean hashes anything: it is a label: what it is worth is what the hold of that sum in a sandbox is worth. -/
noncomputable def Try.pinned : Pinned := { name := "ytpbadpkleiogoaa", sum := "be381414e37e76cc20c475d44bc04742bf3a6790405b43340bca2aadbd1eeae1", checked := Try.checked }
namespace Rows
def none {H : Type} : Left H := { results := [], args := [] }

/-- 'rolodexlaw20.RetryKnown': WHATEVER THE INPUT: true; the input reads as it did. -/
def retryKnownSpec : ChangeSpec := { name := "retryKnown", fn := fun _ => fun
  | [] => { results := [.lit (.bool true)], args := [] }
  | _ => none }
def retryKnownRow : OpenClaim := { program := "ytpbadpkleiogoaa", sum := "be381414e37e76cc20c475d44bc04742bf3a6790405b43340bca2aadbd1eeae1", func := "rolodex/rolodexlaw20.RetryKnown", spec := "retryKnown", apart := false }
def RetryKnownSaid : Prop := retryKnownRow.holds Try.pinned (OpenSpec.ofChange retryKnownSpec)

/-- ITS FALSE NEIGHBOUR: 'it returns false'. Refute it at one input. -/
def retryKnownWrong : ChangeSpec := { name := "retryKnown", fn := fun _ => fun
  | [] => { results := [.lit (.bool false)], args := [] }
  | _ => none }
def RetryKnownWrongFalsely : Prop := retryKnownRow.holds Try.pinned (OpenSpec.ofChange retryKnownWrong)

/-- 'rolodexlaw20.RetryDelays': WHATEVER THE INPUT: true; the input reads as it did. -/
def retryDelaysSpec : ChangeSpec := { name := "retryDelays", fn := fun _ => fun
  | [d1, d2, d3, d4] => { results := [.lit (.bool true)], args := [d1, d2, d3, d4] }
  | _ => none }
def retryDelaysRow : OpenClaim := { program := "ytpbadpkleiogoaa", sum := "be381414e37e76cc20c475d44bc04742bf3a6790405b43340bca2aadbd1eeae1", func := "rolodex/rolodexlaw20.RetryDelays", spec := "retryDelays", apart := false }
def RetryDelaysSaid : Prop := retryDelaysRow.holds Try.pinned (OpenSpec.ofChange retryDelaysSpec)

/-- ITS FALSE NEIGHBOUR: 'it returns false'. Refute it at one input. -/
def retryDelaysWrong : ChangeSpec := { name := "retryDelays", fn := fun _ => fun
  | [d1, d2, d3, d4] => { results := [.lit (.bool false)], args := [d1, d2, d3, d4] }
  | _ => none }
def RetryDelaysWrongFalsely : Prop := retryDelaysRow.holds Try.pinned (OpenSpec.ofChange retryDelaysWrong)

/-- 'rolodexlaw20.RetryPlays': WHATEVER THE INPUT: true; the input reads as it did. -/
def retryPlaysSpec : ChangeSpec := { name := "retryPlays", fn := fun _ => fun
  | [d1, d2, d3, d4] => { results := [.lit (.bool true)], args := [d1, d2, d3, d4] }
  | _ => none }
def retryPlaysRow : OpenClaim := { program := "ytpbadpkleiogoaa", sum := "be381414e37e76cc20c475d44bc04742bf3a6790405b43340bca2aadbd1eeae1", func := "rolodex/rolodexlaw20.RetryPlays", spec := "retryPlays", apart := false }
def RetryPlaysSaid : Prop := retryPlaysRow.holds Try.pinned (OpenSpec.ofChange retryPlaysSpec)

/-- ITS FALSE NEIGHBOUR: 'it returns false'. Refute it at one input. -/
def retryPlaysWrong : ChangeSpec := { name := "retryPlays", fn := fun _ => fun
  | [d1, d2, d3, d4] => { results := [.lit (.bool false)], args := [d1, d2, d3, d4] }
  | _ => none }
def RetryPlaysWrongFalsely : Prop := retryPlaysRow.holds Try.pinned (OpenSpec.ofChange retryPlaysWrong)

/-- 'rolodexlaw20.RetryGrows': WHATEVER THE INPUT: true; the input reads as it did. -/
def retryGrowsSpec : ChangeSpec := { name := "retryGrows", fn := fun _ => fun
  | [d1, d2, d3, d4, d5] => { results := [.lit (.bool true)], args := [d1, d2, d3, d4, d5] }
  | _ => none }
def retryGrowsRow : OpenClaim := { program := "ytpbadpkleiogoaa", sum := "be381414e37e76cc20c475d44bc04742bf3a6790405b43340bca2aadbd1eeae1", func := "rolodex/rolodexlaw20.RetryGrows", spec := "retryGrows", apart := false }
def RetryGrowsSaid : Prop := retryGrowsRow.holds Try.pinned (OpenSpec.ofChange retryGrowsSpec)

/-- ITS FALSE NEIGHBOUR: 'it returns false'. Refute it at one input. -/
def retryGrowsWrong : ChangeSpec := { name := "retryGrows", fn := fun _ => fun
  | [d1, d2, d3, d4, d5] => { results := [.lit (.bool false)], args := [d1, d2, d3, d4, d5] }
  | _ => none }
def RetryGrowsWrongFalsely : Prop := retryGrowsRow.holds Try.pinned (OpenSpec.ofChange retryGrowsWrong)

/-- 'rolodexlaw20.RetryReady': WHATEVER THE INPUT: true; the input reads as it did. -/
def retryReadySpec : ChangeSpec := { name := "retryReady", fn := fun _ => fun
  | [d1, d2, d3, d4, d5] => { results := [.lit (.bool true)], args := [d1, d2, d3, d4, d5] }
  | _ => none }
def retryReadyRow : OpenClaim := { program := "ytpbadpkleiogoaa", sum := "be381414e37e76cc20c475d44bc04742bf3a6790405b43340bca2aadbd1eeae1", func := "rolodex/rolodexlaw20.RetryReady", spec := "retryReady", apart := false }
def RetryReadySaid : Prop := retryReadyRow.holds Try.pinned (OpenSpec.ofChange retryReadySpec)

/-- ITS FALSE NEIGHBOUR: 'it returns false'. Refute it at one input. -/
def retryReadyWrong : ChangeSpec := { name := "retryReady", fn := fun _ => fun
  | [d1, d2, d3, d4, d5] => { results := [.lit (.bool false)], args := [d1, d2, d3, d4, d5] }
  | _ => none }
def RetryReadyWrongFalsely : Prop := retryReadyRow.holds Try.pinned (OpenSpec.ofChange retryReadyWrong)

/-- 'rolodexlaw6.SimnetKnown': WHATEVER THE INPUT: true; the input reads as it did. -/
def simnetKnownSpec : ChangeSpec := { name := "simnetKnown", fn := fun _ => fun
  | [] => { results := [.lit (.bool true)], args := [] }
  | _ => none }
def simnetKnownRow : OpenClaim := { program := "ytpbadpkleiogoaa", sum := "be381414e37e76cc20c475d44bc04742bf3a6790405b43340bca2aadbd1eeae1", func := "rolodex/rolodexlaw6.SimnetKnown", spec := "simnetKnown", unfollowed := true, recurses := true, apart := false }
def SimnetKnownSaid : Prop := simnetKnownRow.holds Try.pinned (OpenSpec.ofChange simnetKnownSpec)

/-- ITS FALSE NEIGHBOUR: 'it returns false'. Refute it at one input. -/
def simnetKnownWrong : ChangeSpec := { name := "simnetKnown", fn := fun _ => fun
  | [] => { results := [.lit (.bool false)], args := [] }
  | _ => none }
def SimnetKnownWrongFalsely : Prop := simnetKnownRow.holds Try.pinned (OpenSpec.ofChange simnetKnownWrong)

/-- 'rolodexlaw6.SimnetPlays': WHATEVER THE INPUT: true; the input reads as it did. -/
def simnetPlaysSpec : ChangeSpec := { name := "simnetPlays", fn := fun _ => fun
  | [d] => { results := [.lit (.bool true)], args := [d] }
  | _ => none }
def simnetPlaysRow : OpenClaim := { program := "ytpbadpkleiogoaa", sum := "be381414e37e76cc20c475d44bc04742bf3a6790405b43340bca2aadbd1eeae1", func := "rolodex/rolodexlaw6.SimnetPlays", spec := "simnetPlays", unfollowed := true, recurses := true, apart := false }
def SimnetPlaysSaid : Prop := simnetPlaysRow.holds Try.pinned (OpenSpec.ofChange simnetPlaysSpec)

/-- ITS FALSE NEIGHBOUR: 'it returns false'. Refute it at one input. -/
def simnetPlaysWrong : ChangeSpec := { name := "simnetPlays", fn := fun _ => fun
  | [d] => { results := [.lit (.bool false)], args := [d] }
  | _ => none }
def SimnetPlaysWrongFalsely : Prop := simnetPlaysRow.holds Try.pinned (OpenSpec.ofChange simnetPlaysWrong)

/-- 'rolodexlaw6.SimnetOnce': WHATEVER THE INPUT: true; the input reads as it did. -/
def simnetOnceSpec : ChangeSpec := { name := "simnetOnce", fn := fun _ => fun
  | [d1, d2] => { results := [.lit (.bool true)], args := [d1, d2] }
  | _ => none }
def simnetOnceRow : OpenClaim := { program := "ytpbadpkleiogoaa", sum := "be381414e37e76cc20c475d44bc04742bf3a6790405b43340bca2aadbd1eeae1", func := "rolodex/rolodexlaw6.SimnetOnce", spec := "simnetOnce", unfollowed := true, recurses := true, apart := false }
def SimnetOnceSaid : Prop := simnetOnceRow.holds Try.pinned (OpenSpec.ofChange simnetOnceSpec)

/-- ITS FALSE NEIGHBOUR: 'it returns false'. Refute it at one input. -/
def simnetOnceWrong : ChangeSpec := { name := "simnetOnce", fn := fun _ => fun
  | [d1, d2] => { results := [.lit (.bool false)], args := [d1, d2] }
  | _ => none }
def SimnetOnceWrongFalsely : Prop := simnetOnceRow.holds Try.pinned (OpenSpec.ofChange simnetOnceWrong)

/-- 'rolodexlaw6.SimnetFed': WHATEVER THE INPUT: true; the input reads as it did. -/
def simnetFedSpec : ChangeSpec := { name := "simnetFed", fn := fun _ => fun
  | [d1, d2, d3] => { results := [.lit (.bool true)], args := [d1, d2, d3] }
  | _ => none }
def simnetFedRow : OpenClaim := { program := "ytpbadpkleiogoaa", sum := "be381414e37e76cc20c475d44bc04742bf3a6790405b43340bca2aadbd1eeae1", func := "rolodex/rolodexlaw6.SimnetFed", spec := "simnetFed", unfollowed := true, recurses := true, apart := false }
def SimnetFedSaid : Prop := simnetFedRow.holds Try.pinned (OpenSpec.ofChange simnetFedSpec)

/-- ITS FALSE NEIGHBOUR: 'it returns false'. Refute it at one input. -/
def simnetFedWrong : ChangeSpec := { name := "simnetFed", fn := fun _ => fun
  | [d1, d2, d3] => { results := [.lit (.bool false)], args := [d1, d2, d3] }
  | _ => none }
def SimnetFedWrongFalsely : Prop := simnetFedRow.holds Try.pinned (OpenSpec.ofChange simnetFedWrong)

/-- 'rolodexlaw6.SimnetClock': WHATEVER THE INPUT: true; the input reads as it did. -/
def simnetClockSpec : ChangeSpec := { name := "simnetClock", fn := fun _ => fun
  | [d] => { results := [.lit (.bool true)], args := [d] }
  | _ => none }
def simnetClockRow : OpenClaim := { program := "ytpbadpkleiogoaa", sum := "be381414e37e76cc20c475d44bc04742bf3a6790405b43340bca2aadbd1eeae1", func := "rolodex/rolodexlaw6.SimnetClock", spec := "simnetClock", unfollowed := true, recurses := true, apart := false }
def SimnetClockSaid : Prop := simnetClockRow.holds Try.pinned (OpenSpec.ofChange simnetClockSpec)

/-- ITS FALSE NEIGHBOUR: 'it returns false'. Refute it at one input. -/
def simnetClockWrong : ChangeSpec := { name := "simnetClock", fn := fun _ => fun
  | [d] => { results := [.lit (.bool false)], args := [d] }
  | _ => none }
def SimnetClockWrongFalsely : Prop := simnetClockRow.holds Try.pinned (OpenSpec.ofChange simnetClockWrong)

/- THE SECOND FORM. 'bulk': how many values and letters a reading holds, each counted each time it is reached (what is shared counts as often as it is met; a slice's spare places count too). A statement '..UptoSaid' is the law's where the arguments, and the package variables that the reading takes, are together of bulk at most 1048576: NARROWER than '..Said'. Prove '..Said' where nothing that the law and all that it calls make is longer than what came in: it says more and counts as full. Else prove '..UptoSaid'. A law counts once. -/
mutual
def uptoBulk {H : Type} : DataW H → Nat
  | .lit (.string bytes) => bytes.length + 1
  | .lit _ => 1
  | .nil => 1
  | .ptr d => uptoBulk d + 1
  | .slice elems spare => uptoBulkAll elems + uptoBulkAll spare + 1
  | .agg parts => uptoBulkAll parts + 1
  | .iface _ d => uptoBulk d + 1
  | .map entries => uptoBulkEntries entries + 1
  | .held _ => 1
def uptoBulkAll {H : Type} : List (DataW H) → Nat
  | [] => 0
  | d :: r => uptoBulk d + uptoBulkAll r
def uptoBulkEntries {H : Type} : List (Lit × DataW H) → Nat
  | [] => 0
  | x :: r => uptoBulkEntry x + uptoBulkEntries r
def uptoBulkEntry {H : Type} : Lit × DataW H → Nat
  | (.string bytes, d) => bytes.length + uptoBulk d + 1
  | (_, d) => uptoBulk d + 1
 end
def uptoSmall : (H : Type) → List (DataW H) → Bool := fun _ ds => decide (uptoBulkAll ds ≤ 1048576)
def OpenSpec.upto (s : _root_.Go.ChangeSpec) : _root_.Go.OpenSpec := { _root_.Go.OpenSpec.ofChange s with cond := some uptoSmall }

/-- 'rolodexlaw20.RetryKnown', WHERE WHAT IT READS IS OF BULK AT MOST 1048576: true; the input reads as it did. -/
def retryKnownUptoRow : OpenClaim := { program := "ytpbadpkleiogoaa", sum := "be381414e37e76cc20c475d44bc04742bf3a6790405b43340bca2aadbd1eeae1", func := "rolodex/rolodexlaw20.RetryKnown", spec := "retryKnown", apart := false, narrowed := true }
def RetryKnownUptoSaid : Prop := retryKnownUptoRow.holds Try.pinned (OpenSpec.upto retryKnownSpec)

/-- 'rolodexlaw20.RetryDelays', WHERE WHAT IT READS IS OF BULK AT MOST 1048576: true; the input reads as it did. -/
def retryDelaysUptoRow : OpenClaim := { program := "ytpbadpkleiogoaa", sum := "be381414e37e76cc20c475d44bc04742bf3a6790405b43340bca2aadbd1eeae1", func := "rolodex/rolodexlaw20.RetryDelays", spec := "retryDelays", apart := false, narrowed := true }
def RetryDelaysUptoSaid : Prop := retryDelaysUptoRow.holds Try.pinned (OpenSpec.upto retryDelaysSpec)

/-- 'rolodexlaw20.RetryPlays', WHERE WHAT IT READS IS OF BULK AT MOST 1048576: true; the input reads as it did. -/
def retryPlaysUptoRow : OpenClaim := { program := "ytpbadpkleiogoaa", sum := "be381414e37e76cc20c475d44bc04742bf3a6790405b43340bca2aadbd1eeae1", func := "rolodex/rolodexlaw20.RetryPlays", spec := "retryPlays", apart := false, narrowed := true }
def RetryPlaysUptoSaid : Prop := retryPlaysUptoRow.holds Try.pinned (OpenSpec.upto retryPlaysSpec)

/-- 'rolodexlaw20.RetryGrows', WHERE WHAT IT READS IS OF BULK AT MOST 1048576: true; the input reads as it did. -/
def retryGrowsUptoRow : OpenClaim := { program := "ytpbadpkleiogoaa", sum := "be381414e37e76cc20c475d44bc04742bf3a6790405b43340bca2aadbd1eeae1", func := "rolodex/rolodexlaw20.RetryGrows", spec := "retryGrows", apart := false, narrowed := true }
def RetryGrowsUptoSaid : Prop := retryGrowsUptoRow.holds Try.pinned (OpenSpec.upto retryGrowsSpec)

/-- 'rolodexlaw20.RetryReady', WHERE WHAT IT READS IS OF BULK AT MOST 1048576: true; the input reads as it did. -/
def retryReadyUptoRow : OpenClaim := { program := "ytpbadpkleiogoaa", sum := "be381414e37e76cc20c475d44bc04742bf3a6790405b43340bca2aadbd1eeae1", func := "rolodex/rolodexlaw20.RetryReady", spec := "retryReady", apart := false, narrowed := true }
def RetryReadyUptoSaid : Prop := retryReadyUptoRow.holds Try.pinned (OpenSpec.upto retryReadySpec)

/-- 'rolodexlaw6.SimnetKnown', WHERE WHAT IT READS IS OF BULK AT MOST 1048576: true; the input reads as it did. -/
def simnetKnownUptoRow : OpenClaim := { program := "ytpbadpkleiogoaa", sum := "be381414e37e76cc20c475d44bc04742bf3a6790405b43340bca2aadbd1eeae1", func := "rolodex/rolodexlaw6.SimnetKnown", spec := "simnetKnown", unfollowed := true, recurses := true, apart := false, narrowed := true }
def SimnetKnownUptoSaid : Prop := simnetKnownUptoRow.holds Try.pinned (OpenSpec.upto simnetKnownSpec)

/-- 'rolodexlaw6.SimnetPlays', WHERE WHAT IT READS IS OF BULK AT MOST 1048576: true; the input reads as it did. -/
def simnetPlaysUptoRow : OpenClaim := { program := "ytpbadpkleiogoaa", sum := "be381414e37e76cc20c475d44bc04742bf3a6790405b43340bca2aadbd1eeae1", func := "rolodex/rolodexlaw6.SimnetPlays", spec := "simnetPlays", unfollowed := true, recurses := true, apart := false, narrowed := true }
def SimnetPlaysUptoSaid : Prop := simnetPlaysUptoRow.holds Try.pinned (OpenSpec.upto simnetPlaysSpec)

/-- 'rolodexlaw6.SimnetOnce', WHERE WHAT IT READS IS OF BULK AT MOST 1048576: true; the input reads as it did. -/
def simnetOnceUptoRow : OpenClaim := { program := "ytpbadpkleiogoaa", sum := "be381414e37e76cc20c475d44bc04742bf3a6790405b43340bca2aadbd1eeae1", func := "rolodex/rolodexlaw6.SimnetOnce", spec := "simnetOnce", unfollowed := true, recurses := true, apart := false, narrowed := true }
def SimnetOnceUptoSaid : Prop := simnetOnceUptoRow.holds Try.pinned (OpenSpec.upto simnetOnceSpec)

/-- 'rolodexlaw6.SimnetFed', WHERE WHAT IT READS IS OF BULK AT MOST 1048576: true; the input reads as it did. -/
def simnetFedUptoRow : OpenClaim := { program := "ytpbadpkleiogoaa", sum := "be381414e37e76cc20c475d44bc04742bf3a6790405b43340bca2aadbd1eeae1", func := "rolodex/rolodexlaw6.SimnetFed", spec := "simnetFed", unfollowed := true, recurses := true, apart := false, narrowed := true }
def SimnetFedUptoSaid : Prop := simnetFedUptoRow.holds Try.pinned (OpenSpec.upto simnetFedSpec)

/-- 'rolodexlaw6.SimnetClock', WHERE WHAT IT READS IS OF BULK AT MOST 1048576: true; the input reads as it did. -/
def simnetClockUptoRow : OpenClaim := { program := "ytpbadpkleiogoaa", sum := "be381414e37e76cc20c475d44bc04742bf3a6790405b43340bca2aadbd1eeae1", func := "rolodex/rolodexlaw6.SimnetClock", spec := "simnetClock", unfollowed := true, recurses := true, apart := false, narrowed := true }
def SimnetClockUptoSaid : Prop := simnetClockUptoRow.holds Try.pinned (OpenSpec.upto simnetClockSpec)

end Rows
end Go.Proofs.Ytpbadpkleiogoaa
