/-
  No cell of these rows narrows 'for every input' (looked for: loops, veiled, ifaces, maps, wideKeys, modest, calm, conditions, laid).
  DERIVED. THE GIVEN ROWS OF THIS SEAT. 5 by the template 'for every input the law returns true; each argument reads behind the call as it read before'; 0 by the template 'total and deterministic' (their statements: YtklbhidlbdabbaaTotals.lean).
  GIVEN WITH THE SEED: the statements are not yours to turn. If you find one false, say at which input.
  Laid BY PROGRAM, IN A SANDBOX (cutbox-rows.mjs): the forced cells as the released guide's own fill.sh prints them over the translation bc59b1415362834c… (all of the seat's roots in one cut). By AI agents, Wed Nov 11 2026. No macro, syntax, notation, axiom, sorry.
-/
import Derived.Test.YtklbhidlbdabbaaChecked
import GoSem.Claim
import GoSem.ClaimJoined
import GoSem.ClaimMapViews
import Derived.JoinedTies
import Derived.KernelRfl
namespace Go.Proofs.Ytklbhidlbdabbaa
/- THE CELL 'sum', in the pinned program and in every row, IS THE sha256 OF THE DUMP (.gsa) THAT YtklbhidlbdabbaaProg.lean LOADS. Nothing in Lean hashes anything: it is a label: what it is worth is what the hold of that sum in a sandbox is worth. -/
noncomputable def Try.pinned : Pinned := { name := "ytklbhidlbdabbaa", sum := "bc59b1415362834ce053f4ea2a82b611769b7f8c2b0e203c4c06c16d3b5f1c52", checked := Try.checked }
namespace Rows
def none {H : Type} : Left H := { results := [], args := [] }

/-- 'jacquardlaw20.ClockRounds': WHATEVER THE INPUT: true; the input reads as it did. -/
def clockRoundsSpec : ChangeSpec := { name := "clockRounds", fn := fun _ => fun
  | [d1, d2] => { results := [.lit (.bool true)], args := [d1, d2] }
  | _ => none }
def clockRoundsRow : OpenClaim := { program := "ytklbhidlbdabbaa", sum := "bc59b1415362834ce053f4ea2a82b611769b7f8c2b0e203c4c06c16d3b5f1c52", func := "jacquard/jacquardlaw20.ClockRounds", spec := "clockRounds", unfollowed := true, recurses := true, apart := false }
def ClockRoundsSaid : Prop := clockRoundsRow.holds Try.pinned (OpenSpec.ofChange clockRoundsSpec)

/-- ITS FALSE NEIGHBOUR: 'it returns false'. Refute it at one input. -/
def clockRoundsWrong : ChangeSpec := { name := "clockRounds", fn := fun _ => fun
  | [d1, d2] => { results := [.lit (.bool false)], args := [d1, d2] }
  | _ => none }
def ClockRoundsWrongFalsely : Prop := clockRoundsRow.holds Try.pinned (OpenSpec.ofChange clockRoundsWrong)

/-- 'jacquardlaw20.ClockPicks': WHATEVER THE INPUT: true; the input reads as it did. -/
def clockPicksSpec : ChangeSpec := { name := "clockPicks", fn := fun _ => fun
  | [d1, d2, d3] => { results := [.lit (.bool true)], args := [d1, d2, d3] }
  | _ => none }
def clockPicksRow : OpenClaim := { program := "ytklbhidlbdabbaa", sum := "bc59b1415362834ce053f4ea2a82b611769b7f8c2b0e203c4c06c16d3b5f1c52", func := "jacquard/jacquardlaw20.ClockPicks", spec := "clockPicks", unfollowed := true, recurses := true, apart := false }
def ClockPicksSaid : Prop := clockPicksRow.holds Try.pinned (OpenSpec.ofChange clockPicksSpec)

/-- ITS FALSE NEIGHBOUR: 'it returns false'. Refute it at one input. -/
def clockPicksWrong : ChangeSpec := { name := "clockPicks", fn := fun _ => fun
  | [d1, d2, d3] => { results := [.lit (.bool false)], args := [d1, d2, d3] }
  | _ => none }
def ClockPicksWrongFalsely : Prop := clockPicksRow.holds Try.pinned (OpenSpec.ofChange clockPicksWrong)

/-- 'jacquardlaw20.ClockPlays': WHATEVER THE INPUT: true; the input reads as it did. -/
def clockPlaysSpec : ChangeSpec := { name := "clockPlays", fn := fun _ => fun
  | [d] => { results := [.lit (.bool true)], args := [d] }
  | _ => none }
def clockPlaysRow : OpenClaim := { program := "ytklbhidlbdabbaa", sum := "bc59b1415362834ce053f4ea2a82b611769b7f8c2b0e203c4c06c16d3b5f1c52", func := "jacquard/jacquardlaw20.ClockPlays", spec := "clockPlays", unfollowed := true, recurses := true, apart := false }
def ClockPlaysSaid : Prop := clockPlaysRow.holds Try.pinned (OpenSpec.ofChange clockPlaysSpec)

/-- ITS FALSE NEIGHBOUR: 'it returns false'. Refute it at one input. -/
def clockPlaysWrong : ChangeSpec := { name := "clockPlays", fn := fun _ => fun
  | [d] => { results := [.lit (.bool false)], args := [d] }
  | _ => none }
def ClockPlaysWrongFalsely : Prop := clockPlaysRow.holds Try.pinned (OpenSpec.ofChange clockPlaysWrong)

/-- 'jacquardlaw20.ClockNils': WHATEVER THE INPUT: true; the input reads as it did. -/
def clockNilsSpec : ChangeSpec := { name := "clockNils", fn := fun _ => fun
  | [d] => { results := [.lit (.bool true)], args := [d] }
  | _ => none }
def clockNilsRow : OpenClaim := { program := "ytklbhidlbdabbaa", sum := "bc59b1415362834ce053f4ea2a82b611769b7f8c2b0e203c4c06c16d3b5f1c52", func := "jacquard/jacquardlaw20.ClockNils", spec := "clockNils", unfollowed := true, recurses := true, apart := false }
def ClockNilsSaid : Prop := clockNilsRow.holds Try.pinned (OpenSpec.ofChange clockNilsSpec)

/-- ITS FALSE NEIGHBOUR: 'it returns false'. Refute it at one input. -/
def clockNilsWrong : ChangeSpec := { name := "clockNils", fn := fun _ => fun
  | [d] => { results := [.lit (.bool false)], args := [d] }
  | _ => none }
def ClockNilsWrongFalsely : Prop := clockNilsRow.holds Try.pinned (OpenSpec.ofChange clockNilsWrong)

/-- 'jacquardlaw20.ClockTrue': WHATEVER THE INPUT: true; the input reads as it did. -/
def clockTrueSpec : ChangeSpec := { name := "clockTrue", fn := fun _ => fun
  | [d1, d2, d3] => { results := [.lit (.bool true)], args := [d1, d2, d3] }
  | _ => none }
def clockTrueRow : OpenClaim := { program := "ytklbhidlbdabbaa", sum := "bc59b1415362834ce053f4ea2a82b611769b7f8c2b0e203c4c06c16d3b5f1c52", func := "jacquard/jacquardlaw20.ClockTrue", spec := "clockTrue", unfollowed := true, recurses := true, apart := false }
def ClockTrueSaid : Prop := clockTrueRow.holds Try.pinned (OpenSpec.ofChange clockTrueSpec)

/-- ITS FALSE NEIGHBOUR: 'it returns false'. Refute it at one input. -/
def clockTrueWrong : ChangeSpec := { name := "clockTrue", fn := fun _ => fun
  | [d1, d2, d3] => { results := [.lit (.bool false)], args := [d1, d2, d3] }
  | _ => none }
def ClockTrueWrongFalsely : Prop := clockTrueRow.holds Try.pinned (OpenSpec.ofChange clockTrueWrong)

/- THE SECOND FORM. 'bulk': how many values and letters a reading holds, each counted each time it is reached (what is shared counts as often as it is met; a slice's spare places count too). A statement '..UptoSaid' is the law's where the arguments, and the package variables that the reading takes, are together of bulk at most 1048576: NARROWER than '..Said'. Prove '..Said' where nothing that the law and all that it calls make is longer than what came in: it says more and counts as full. Else prove '..UptoSaid'. A law counts once. -/
mutual
def uptoBulk {H : Type} : DataW H → Nat
  | .lit (.string bytes) => bytes.length + 1
  | .lit _ => 1
  | .nil => 1
  | .ptr d => uptoBulk d + 1
  | .slice elems spare => uptoBulkAll elems + uptoBulkAll spare + 1
  | .agg parts => uptoBulkAll parts + 1
  | .iface _ d => uptoBulk d + 1
  | .map entries => uptoBulkEntries entries + 1
  | .held _ => 1
def uptoBulkAll {H : Type} : List (DataW H) → Nat
  | [] => 0
  | d :: r => uptoBulk d + uptoBulkAll r
def uptoBulkEntries {H : Type} : List (Lit × DataW H) → Nat
  | [] => 0
  | x :: r => uptoBulkEntry x + uptoBulkEntries r
def uptoBulkEntry {H : Type} : Lit × DataW H → Nat
  | (.string bytes, d) => bytes.length + uptoBulk d + 1
  | (_, d) => uptoBulk d + 1
 end
def uptoSmall : (H : Type) → List (DataW H) → Bool := fun _ ds => decide (uptoBulkAll ds ≤ 1048576)
def OpenSpec.upto (s : _root_.Go.ChangeSpec) : _root_.Go.OpenSpec := { _root_.Go.OpenSpec.ofChange s with cond := some uptoSmall }

/-- 'jacquardlaw20.ClockRounds', WHERE WHAT IT READS IS OF BULK AT MOST 1048576: true; the input reads as it did. -/
def clockRoundsUptoRow : OpenClaim := { program := "ytklbhidlbdabbaa", sum := "bc59b1415362834ce053f4ea2a82b611769b7f8c2b0e203c4c06c16d3b5f1c52", func := "jacquard/jacquardlaw20.ClockRounds", spec := "clockRounds", unfollowed := true, recurses := true, apart := false, narrowed := true }
def ClockRoundsUptoSaid : Prop := clockRoundsUptoRow.holds Try.pinned (OpenSpec.upto clockRoundsSpec)

/-- 'jacquardlaw20.ClockPicks', WHERE WHAT IT READS IS OF BULK AT MOST 1048576: true; the input reads as it did. -/
def clockPicksUptoRow : OpenClaim := { program := "ytklbhidlbdabbaa", sum := "bc59b1415362834ce053f4ea2a82b611769b7f8c2b0e203c4c06c16d3b5f1c52", func := "jacquard/jacquardlaw20.ClockPicks", spec := "clockPicks", unfollowed := true, recurses := true, apart := false, narrowed := true }
def ClockPicksUptoSaid : Prop := clockPicksUptoRow.holds Try.pinned (OpenSpec.upto clockPicksSpec)

/-- 'jacquardlaw20.ClockPlays', WHERE WHAT IT READS IS OF BULK AT MOST 1048576: true; the input reads as it did. -/
def clockPlaysUptoRow : OpenClaim := { program := "ytklbhidlbdabbaa", sum := "bc59b1415362834ce053f4ea2a82b611769b7f8c2b0e203c4c06c16d3b5f1c52", func := "jacquard/jacquardlaw20.ClockPlays", spec := "clockPlays", unfollowed := true, recurses := true, apart := false, narrowed := true }
def ClockPlaysUptoSaid : Prop := clockPlaysUptoRow.holds Try.pinned (OpenSpec.upto clockPlaysSpec)

/-- 'jacquardlaw20.ClockNils', WHERE WHAT IT READS IS OF BULK AT MOST 1048576: true; the input reads as it did. -/
def clockNilsUptoRow : OpenClaim := { program := "ytklbhidlbdabbaa", sum := "bc59b1415362834ce053f4ea2a82b611769b7f8c2b0e203c4c06c16d3b5f1c52", func := "jacquard/jacquardlaw20.ClockNils", spec := "clockNils", unfollowed := true, recurses := true, apart := false, narrowed := true }
def ClockNilsUptoSaid : Prop := clockNilsUptoRow.holds Try.pinned (OpenSpec.upto clockNilsSpec)

/-- 'jacquardlaw20.ClockTrue', WHERE WHAT IT READS IS OF BULK AT MOST 1048576: true; the input reads as it did. -/
def clockTrueUptoRow : OpenClaim := { program := "ytklbhidlbdabbaa", sum := "bc59b1415362834ce053f4ea2a82b611769b7f8c2b0e203c4c06c16d3b5f1c52", func := "jacquard/jacquardlaw20.ClockTrue", spec := "clockTrue", unfollowed := true, recurses := true, apart := false, narrowed := true }
def ClockTrueUptoSaid : Prop := clockTrueUptoRow.holds Try.pinned (OpenSpec.upto clockTrueSpec)

end Rows
end Go.Proofs.Ytklbhidlbdabbaa
