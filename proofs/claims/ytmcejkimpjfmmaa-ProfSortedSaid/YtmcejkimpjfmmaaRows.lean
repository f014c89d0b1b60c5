/-
  No cell of these rows narrows 'for every input' (looked for: loops, veiled, ifaces, maps, wideKeys, modest, calm, conditions, laid).
  DERIVED. THE GIVEN ROWS OF THIS SEAT. 5 by the template 'for every input the law returns true; each argument reads behind the call as it read before'; 0 by the template 'total and deterministic' (their statements: YtmcejkimpjfmmaaTotals.lean).
  GIVEN WITH THE SEED: the statements are not yours to turn. If you find one false, say at which input.
  Laid BY PROGRAM, IN A SANDBOX (cutbox-rows.mjs): the forced cells as the released guide's own fill.sh prints them over the translation dc834be6f5e7a702… (all of the seat's roots in one cut). By AI agents, Wed Nov 11 2026. No macro, syntax, notation, axiom, sorry.
-/
import Derived.Test.YtmcejkimpjfmmaaChecked
import GoSem.Claim
import GoSem.ClaimJoined
import GoSem.ClaimMapViews
import Derived.JoinedTies
import Derived.KernelRfl
namespace Go.Proofs.Ytmcejkimpjfmmaa
/- THE CELL 'sum', in the pinned program and in every row, IS THE sha256 OF THE DUMP (.gsa) THAT YtmcejkimpjfmmaaProg.lean LOADS. Nothing in Lean hashes anything: it is a label: what it is worth is what the hold of that sum in a sandbox is worth. -/
noncomputable def Try.pinned : Pinned := { name := "ytmcejkimpjfmmaa", sum := "dc834be6f5e7a702a23419431a7b958671f3fa6b9346571087da9db5c2ae7b58", checked := Try.checked }
namespace Rows
def none {H : Type} : Left H := { results := [], args := [] }

/-- 'jacquardlaw14.ProfAdds': WHATEVER THE INPUT: true; the input reads as it did. -/
def profAddsSpec : ChangeSpec := { name := "profAdds", fn := fun _ => fun
  | [d] => { results := [.lit (.bool true)], args := [d] }
  | _ => none }
def profAddsRow : OpenClaim := { program := "ytmcejkimpjfmmaa", sum := "dc834be6f5e7a702a23419431a7b958671f3fa6b9346571087da9db5c2ae7b58", func := "jacquard/jacquardlaw14.ProfAdds", spec := "profAdds", unfollowed := true, recurses := true, plainKeys := false, apart := false }
def ProfAddsSaid : Prop := profAddsRow.holds Try.pinned (OpenSpec.ofChange profAddsSpec)

/-- ITS FALSE NEIGHBOUR: 'it returns false'. Refute it at one input. -/
def profAddsWrong : ChangeSpec := { name := "profAdds", fn := fun _ => fun
  | [d] => { results := [.lit (.bool false)], args := [d] }
  | _ => none }
def ProfAddsWrongFalsely : Prop := profAddsRow.holds Try.pinned (OpenSpec.ofChange profAddsWrong)

/-- 'jacquardlaw14.ProfSorted': WHATEVER THE INPUT: true; the input reads as it did. -/
def profSortedSpec : ChangeSpec := { name := "profSorted", fn := fun _ => fun
  | [d1, d2] => { results := [.lit (.bool true)], args := [d1, d2] }
  | _ => none }
def profSortedRow : OpenClaim := { program := "ytmcejkimpjfmmaa", sum := "dc834be6f5e7a702a23419431a7b958671f3fa6b9346571087da9db5c2ae7b58", func := "jacquard/jacquardlaw14.ProfSorted", spec := "profSorted", unfollowed := true, recurses := true, plainKeys := false, apart := false }
def ProfSortedSaid : Prop := profSortedRow.holds Try.pinned (OpenSpec.ofChange profSortedSpec)

/-- ITS FALSE NEIGHBOUR: 'it returns false'. Refute it at one input. -/
def profSortedWrong : ChangeSpec := { name := "profSorted", fn := fun _ => fun
  | [d1, d2] => { results := [.lit (.bool false)], args := [d1, d2] }
  | _ => none }
def ProfSortedWrongFalsely : Prop := profSortedRow.holds Try.pinned (OpenSpec.ofChange profSortedWrong)

/-- 'jacquardlaw14.ProfOwn': WHATEVER THE INPUT: true; the input reads as it did. -/
def profOwnSpec : ChangeSpec := { name := "profOwn", fn := fun _ => fun
  | [d] => { results := [.lit (.bool true)], args := [d] }
  | _ => none }
def profOwnRow : OpenClaim := { program := "ytmcejkimpjfmmaa", sum := "dc834be6f5e7a702a23419431a7b958671f3fa6b9346571087da9db5c2ae7b58", func := "jacquard/jacquardlaw14.ProfOwn", spec := "profOwn", unfollowed := true, recurses := true, plainKeys := false, apart := false }
def ProfOwnSaid : Prop := profOwnRow.holds Try.pinned (OpenSpec.ofChange profOwnSpec)

/-- ITS FALSE NEIGHBOUR: 'it returns false'. Refute it at one input. -/
def profOwnWrong : ChangeSpec := { name := "profOwn", fn := fun _ => fun
  | [d] => { results := [.lit (.bool false)], args := [d] }
  | _ => none }
def ProfOwnWrongFalsely : Prop := profOwnRow.holds Try.pinned (OpenSpec.ofChange profOwnWrong)

/-- 'jacquardlaw14.ProfPlays': WHATEVER THE INPUT: true; the input reads as it did. -/
def profPlaysSpec : ChangeSpec := { name := "profPlays", fn := fun _ => fun
  | [d1, d2, d3] => { results := [.lit (.bool true)], args := [d1, d2, d3] }
  | _ => none }
def profPlaysRow : OpenClaim := { program := "ytmcejkimpjfmmaa", sum := "dc834be6f5e7a702a23419431a7b958671f3fa6b9346571087da9db5c2ae7b58", func := "jacquard/jacquardlaw14.ProfPlays", spec := "profPlays", unfollowed := true, recurses := true, plainKeys := false, apart := false }
def ProfPlaysSaid : Prop := profPlaysRow.holds Try.pinned (OpenSpec.ofChange profPlaysSpec)

/-- ITS FALSE NEIGHBOUR: 'it returns false'. Refute it at one input. -/
def profPlaysWrong : ChangeSpec := { name := "profPlays", fn := fun _ => fun
  | [d1, d2, d3] => { results := [.lit (.bool false)], args := [d1, d2, d3] }
  | _ => none }
def ProfPlaysWrongFalsely : Prop := profPlaysRow.holds Try.pinned (OpenSpec.ofChange profPlaysWrong)

/-- 'jacquardlaw14.ProfNils': WHATEVER THE INPUT: true; the input reads as it did. -/
def profNilsSpec : ChangeSpec := { name := "profNils", fn := fun _ => fun
  | [d] => { results := [.lit (.bool true)], args := [d] }
  | _ => none }
def profNilsRow : OpenClaim := { program := "ytmcejkimpjfmmaa", sum := "dc834be6f5e7a702a23419431a7b958671f3fa6b9346571087da9db5c2ae7b58", func := "jacquard/jacquardlaw14.ProfNils", spec := "profNils", unfollowed := true, recurses := true, plainKeys := false, apart := false }
def ProfNilsSaid : Prop := profNilsRow.holds Try.pinned (OpenSpec.ofChange profNilsSpec)

/-- ITS FALSE NEIGHBOUR: 'it returns false'. Refute it at one input. -/
def profNilsWrong : ChangeSpec := { name := "profNils", fn := fun _ => fun
  | [d] => { results := [.lit (.bool false)], args := [d] }
  | _ => none }
def ProfNilsWrongFalsely : Prop := profNilsRow.holds Try.pinned (OpenSpec.ofChange profNilsWrong)

/- THE SECOND FORM. 'bulk': how many values and letters a reading holds, each counted each time it is reached (what is shared counts as often as it is met; a slice's spare places count too). A statement '..UptoSaid' is the law's where the arguments, and the package variables that the reading takes, are together of bulk at most 1048576: NARROWER than '..Said'. Prove '..Said' where nothing that the law and all that it calls make is longer than what came in: it says more and counts as full. Else prove '..UptoSaid'. A law counts once. -/
mutual
def uptoBulk {H : Type} : DataW H → Nat
  | .lit (.string bytes) => bytes.length + 1
  | .lit _ => 1
  | .nil => 1
  | .ptr d => uptoBulk d + 1
  | .slice elems spare => uptoBulkAll elems + uptoBulkAll spare + 1
  | .agg parts => uptoBulkAll parts + 1
  | .iface _ d => uptoBulk d + 1
  | .map entries => uptoBulkEntries entries + 1
  | .held _ => 1
def uptoBulkAll {H : Type} : List (DataW H) → Nat
  | [] => 0
  | d :: r => uptoBulk d + uptoBulkAll r
def uptoBulkEntries {H : Type} : List (Lit × DataW H) → Nat
  | [] => 0
  | x :: r => uptoBulkEntry x + uptoBulkEntries r
def uptoBulkEntry {H : Type} : Lit × DataW H → Nat
  | (.string bytes, d) => bytes.length + uptoBulk d + 1
  | (_, d) => uptoBulk d + 1
 end
def uptoSmall : (H : Type) → List (DataW H) → Bool := fun _ ds => decide (uptoBulkAll ds ≤ 1048576)
def OpenSpec.upto (s : _root_.Go.ChangeSpec) : _root_.Go.OpenSpec := { _root_.Go.OpenSpec.ofChange s with cond := some uptoSmall }

/-- 'jacquardlaw14.ProfAdds', WHERE WHAT IT READS IS OF BULK AT MOST 1048576: true; the input reads as it did. -/
def profAddsUptoRow : OpenClaim := { program := "ytmcejkimpjfmmaa", sum := "dc834be6f5e7a702a23419431a7b958671f3fa6b9346571087da9db5c2ae7b58", func := "jacquard/jacquardlaw14.ProfAdds", spec := "profAdds", unfollowed := true, recurses := true, plainKeys := false, apart := false, narrowed := true }
def ProfAddsUptoSaid : Prop := profAddsUptoRow.holds Try.pinned (OpenSpec.upto profAddsSpec)

/-- 'jacquardlaw14.ProfSorted', WHERE WHAT IT READS IS OF BULK AT MOST 1048576: true; the input reads as it did. -/
def profSortedUptoRow : OpenClaim := { program := "ytmcejkimpjfmmaa", sum := "dc834be6f5e7a702a23419431a7b958671f3fa6b9346571087da9db5c2ae7b58", func := "jacquard/jacquardlaw14.ProfSorted", spec := "profSorted", unfollowed := true, recurses := true, plainKeys := false, apart := false, narrowed := true }
def ProfSortedUptoSaid : Prop := profSortedUptoRow.holds Try.pinned (OpenSpec.upto profSortedSpec)

/-- 'jacquardlaw14.ProfOwn', WHERE WHAT IT READS IS OF BULK AT MOST 1048576: true; the input reads as it did. -/
def profOwnUptoRow : OpenClaim := { program := "ytmcejkimpjfmmaa", sum := "dc834be6f5e7a702a23419431a7b958671f3fa6b9346571087da9db5c2ae7b58", func := "jacquard/jacquardlaw14.ProfOwn", spec := "profOwn", unfollowed := true, recurses := true, plainKeys := false, apart := false, narrowed := true }
def ProfOwnUptoSaid : Prop := profOwnUptoRow.holds Try.pinned (OpenSpec.upto profOwnSpec)

/-- 'jacquardlaw14.ProfPlays', WHERE WHAT IT READS IS OF BULK AT MOST 1048576: true; the input reads as it did. -/
def profPlaysUptoRow : OpenClaim := { program := "ytmcejkimpjfmmaa", sum := "dc834be6f5e7a702a23419431a7b958671f3fa6b9346571087da9db5c2ae7b58", func := "jacquard/jacquardlaw14.ProfPlays", spec := "profPlays", unfollowed := true, recurses := true, plainKeys := false, apart := false, narrowed := true }
def ProfPlaysUptoSaid : Prop := profPlaysUptoRow.holds Try.pinned (OpenSpec.upto profPlaysSpec)

/-- 'jacquardlaw14.ProfNils', WHERE WHAT IT READS IS OF BULK AT MOST 1048576: true; the input reads as it did. -/
def profNilsUptoRow : OpenClaim := { program := "ytmcejkimpjfmmaa", sum := "dc834be6f5e7a702a23419431a7b958671f3fa6b9346571087da9db5c2ae7b58", func := "jacquard/jacquardlaw14.ProfNils", spec := "profNils", unfollowed := true, recurses := true, plainKeys := false, apart := false, narrowed := true }
def ProfNilsUptoSaid : Prop := profNilsUptoRow.holds Try.pinned (OpenSpec.upto profNilsSpec)

end Rows
end Go.Proofs.Ytmcejkimpjfmmaa
