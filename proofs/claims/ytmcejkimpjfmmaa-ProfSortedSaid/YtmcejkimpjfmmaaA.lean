/- The profile's map: what a place-keyed map of ints holds, as a function. -/
import Derived.Test.YtmcejkimpjfmmaaProg
import Derived.WalkKit
import Derived.WalkSpells
import Derived.WalkLawsBesides
import Derived.Lib.Hide
import Derived.Maps.OwnSet
import Derived.Maps.OwnOps
import Derived.WideKeyEntry
import Derived.WideKeyPair
import Derived.DeepKeys4
set_option linter.unusedVariables false
set_option linter.unusedSimpArgs false
namespace Go.Proofs.Ytmcejkimpjfmmaa
open Go.RowKit Go.Lib Go.Maps

abbrev I64 (x : Int) : Prop := -9223372036854775808 ≤ x ∧ x ≤ 9223372036854775807
theorem wf_of {x : Int} (h : I64 x) : (Lit.int .i64 x).wf = true := WalkArith.wf_i64 h
theorem of_wf {x : Int} (h : (Lit.int .i64 x).wf = true) : I64 x := by
  have hmin : IntKind.i64.min = -9223372036854775808 := rfl
  have hmax : IntKind.i64.max = 9223372036854775807 := rfl
  simp only [Lit.wf, Bool.and_eq_true, decide_eq_true_eq] at h
  unfold I64; omega
theorem laidOut : laidOutB Try.prog = true := by kernel_rfl
theorem row71 : (71 : TypeId) < Try.prog.types.size := of_decide_eq_true (by kernel_rfl)
theorem wide71 : (match Try.prog.underlying 71 with | some (.array _ _) | some (.struct _) => true | _ => false) = true := by rw [Try.underlying71]
set_option maxRecDepth 100000 in
theorem law71 : Go.WideMaps.KeyLaw Try.prog 71 := deep_law_laid laidOut (m := 2) (by omega) row71 (by kernel_rfl) wide71
theorem key71 : Keyed Try.prog 71 := Keyed.of_law law71
theorem zero3 (w : World) : (zeroValue 3).run Try.prog w = .ok (.int .i64 0) w := by kernel_rfl
theorem cells71 : Try.prog.cellsOf 71 = 2 := by kernel_rfl
theorem cells3 : Try.prog.cellsOf 3 = 1 := by kernel_rfl
theorem kt71 : Try.prog.keyType 71 = true := by kernel_rfl
theorem pos_succ {n k : Nat} (h : k < n) : ∃ m, n = m + 1 := ⟨n - 1, by omega⟩
theorem size_types : ∃ m, Try.prog.types.size = m + 1 := pos_succ row71

/-- The key's value, and how a claim reads it. -/
abbrev pk (f a : Int) : Value := .agg #[.int .i64 f, .int .i64 a]
abbrev lk (f a : Int) : Lit := .string (Go.keyBytes [.int .i64 f, .int .i64 a])
theorem keyOf_place {f a : Int} (hf : I64 f) (ha : I64 a) : keyOf Try.prog 71 (pk f a) = some (lk f a) := by
  obtain ⟨m, hm⟩ := size_types
  unfold keyOf
  simp only [Try.underlying71]
  rw [if_pos (by simp [kt71, Value.formed, Try.underlying71, cells71]), hm]
  unfold Program.keyLits
  simp only [Try.underlying71, Value.cells]
  rw [if_pos (by simp [cells71])]
  simp [cells3, Program.keyLits, Try.underlying3, wf_of hf, wf_of ha]
end Go.Proofs.Ytmcejkimpjfmmaa
