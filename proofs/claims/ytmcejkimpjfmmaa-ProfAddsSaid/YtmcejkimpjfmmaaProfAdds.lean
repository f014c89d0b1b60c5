/-
  Proved: 'ProfAdds' answers true for every input, and its arguments read afterwards as before. No condition.
-/
import Derived.Test.YtmcejkimpjfmmaaRows
import Derived.Test.YtmcejkimpjfmmaaAd
import Derived.WalkKit
import Derived.ProofKit
import Derived.OpenShut
import Derived.ShutString
import Derived.ChangeOld
import Derived.Below
import Derived.Lib.SmallJoins
import Derived.Test.YtmcejkimpjfmmaaFlat
set_option linter.unusedVariables false
set_option linter.unusedSimpArgs false
namespace Go.Proofs.Ytmcejkimpjfmmaa.profAdds
open Go.ChangeShapes Go.WideShapes Go.ChangeAt Go.RowKit
open Go.ChangeMaps (open_string shut_string)

theorem own : ownKnob Try.prog.godebug = none := by kernel_rfl
theorem laidOut : laidOutB Try.prog = true := by kernel_rfl
def IsRow (k : IntKind) (w : World) (a : Option Addr) (len cap : Nat) (zs : List Int) : Prop :=
  (a = none ∧ len = 0 ∧ cap = 0 ∧ zs = []) ∨
  ∃ x, a = some x ∧ len ≤ cap ∧ cap ≤ maxLen ∧ zs.length = cap ∧ (∀ i, i < zs.length → w.cell? (x.add i) = some (.int k (zs.getD i 0))) ∧ ∀ n ∈ zs, (Lit.int k n).wf = true
def IsFlat0 (w : World) (a : Option Addr) (len cap : Nat) : Prop :=
  (a = none ∧ len = 0 ∧ cap = 0) ∨ ∃ x, a = some x ∧ len ≤ cap ∧ cap ≤ maxLen ∧ ∀ i, i < len → ∃ (y0 : Int) (y1 : Int) (y2 : Int) (y3 : Int) (y4 : Int) (y5 : Int), w.cell? (x.add (i * 6 + 0)) = some (.int .i64 y0) ∧ w.cell? (x.add (i * 6 + 1)) = some (.int .i64 y1) ∧ w.cell? (x.add (i * 6 + 2)) = some (.int .i64 y2) ∧ w.cell? (x.add (i * 6 + 3)) = some (.int .i64 y3) ∧ w.cell? (x.add (i * 6 + 4)) = some (.int .i64 y4) ∧ w.cell? (x.add (i * 6 + 5)) = some (.int .u64 y5) ∧ (Lit.int .i64 y0).wf = true ∧ (Lit.int .i64 y1).wf = true ∧ (Lit.int .i64 y2).wf = true ∧ (Lit.int .i64 y3).wf = true ∧ (Lit.int .i64 y4).wf = true ∧ (Lit.int .u64 y5).wf = true

theorem walk (a0 : Option Addr) (len0 cap0 : Nat) (w : World) (w0 : IsFlat0 w a0 len0 cap0) :
    Calls Try.prog 3 #[.slice a0 len0 cap0] w fun e w' => e = .returned (.bool true) ∧ Below w.heap.size w w' :=
  adds_all a0 len0 cap0 w w0

set_option maxRecDepth 100000 in
theorem lifted (os : Os) (started : os.Started) (H : Type) (enc : TypeId × Value → H) :
    ReturnsInHanded {} Try.checked os 3 .any (Rows.profAddsSpec.pre6 enc Try.prog Try.f3 Rows.profAddsRow.domain false) (Rows.profAddsSpec.post enc Try.prog Try.f3 false true false false) := by
  refine returnsInHanded_of_change (C := Try.checked) own started (by kernel_rfl) Try.func3
    (ChangeSpec.witness6 (enc := enc) (C := Try.checked) false ⟨#[], #[.slice none 0 0], []⟩ 8 (by kernel_rfl) (by kernel_rfl) (by kernel_rfl) (by kernel_rfl)) ?_
  intro W base args ds gs before hval0 hW hcnd _
  have hval : ∀ (j : Nat) t v, Try.f3.params[j]? = some t → args[j]? = some v → Value.okWide Try.prog W .any base t v := hval0
  have hW' := hW
  obtain ⟨p, q, hA0, hV, rfl, hfz, hnd⟩ := hW
  have hA : DataW.TrodAll enc Try.prog W 0 (fun _ => true) true Try.f3.params.toList args.toList ds p := hA0
  rw [Try.params3] at hA hval
  obtain ⟨v0, vs0, d0, ds0, p0, q0, hargs, rfl, rfl, h0, r0⟩ := trodAll_cons hA
  obtain ⟨rfl, rfl, rfl⟩ := trodAll_nil r0
  obtain rfl : args = #[v0] := by cases args; simp_all
  obtain ⟨rfl, rfl⟩ := trodVars_none hV
  have k0 := h0
  have lt0 : ∀ x ∈ p0, x.block < W.heap.size := by obtain ⟨m, hm⟩ := k0; exact DataW.trod_lt m _ _ _ hm
  obtain ⟨a0, len0, cap0, rfl⟩ := okWide_slice Try.underlying22 (hval 0 22 v0 rfl rfl)
  have w0 : IsFlat0 W a0 len0 cap0 := by
    obtain ⟨fuel, hf⟩ := h0
    have cE : Try.prog.cellsOf 32 = 6 := by kernel_rfl
    rcases flat_slice Try.underlying22 hf with hcs | ⟨x, l, c, n, hcs, hl, hm, hx⟩
    · simp [Value.cells] at hcs
      obtain ⟨rfl, rfl, rfl⟩ := hcs
      exact .inl ⟨rfl, rfl, rfl⟩
    · simp [Value.cells] at hcs
      obtain ⟨rfl, rfl, rfl⟩ := hcs
      refine .inr ⟨_, rfl, hl, hm, fun i hi => ?_⟩
      obtain ⟨es, y, hlen, hcell, htr⟩ := hx i hi
      rw [cE] at hcell
      obtain ⟨x0, e0, u0⟩ := flat_int Try.underlying32 htr (j := 0) rfl rfl Try.underlying3 (by kernel_rfl)
      obtain ⟨x1, e1, u1⟩ := flat_int Try.underlying32 htr (j := 1) rfl rfl Try.underlying3 (by kernel_rfl)
      obtain ⟨x2, e2, u2⟩ := flat_int Try.underlying32 htr (j := 2) rfl rfl Try.underlying3 (by kernel_rfl)
      obtain ⟨x3, e3, u3⟩ := flat_int Try.underlying32 htr (j := 3) rfl rfl Try.underlying3 (by kernel_rfl)
      obtain ⟨x4, e4, u4⟩ := flat_int Try.underlying32 htr (j := 4) rfl rfl Try.underlying3 (by kernel_rfl)
      obtain ⟨x5, e5, u5⟩ := flat_int Try.underlying32 htr (j := 5) rfl rfl Try.underlying30 (by kernel_rfl)
      exact ⟨x0, x1, x2, x3, x4, x5, hcell 0 _ e0, hcell 1 _ e1, hcell 2 _ e2, hcell 3 _ e3, hcell 4 _ e4, hcell 5 _ e5, u0, u1, u2, u3, u4, u5⟩
  clear hA0 hval0
  refine (walk a0 len0 cap0 W w0).mono fun e W' ⟨he, bel⟩ => ?_
  subst he
  exact ⟨_, rfl, _, _, _, [], _, [], hW', trodAll_mk1 (shut_bool Try.underlying4 _), (trodAll_cons_mk (Below.trod laidOut (by kernel_rfl) (of_decide_eq_true (by kernel_rfl)) k0 bel lt0) trodAll_mk0), rfl, bel.frame _, fun h => by cases h⟩

theorem over : Rows.profAddsRow.holds Try.pinned (OpenSpec.ofChange Rows.profAddsSpec) :=
  OpenClaim.holds_of_wide 3 Try.f3 rfl rfl rfl rfl rfl rfl rfl ⟨rfl, rfl, rfl, rfl, rfl⟩ rfl rfl rfl rfl rfl (by kernel_rfl) Try.func3 (by kernel_rfl)
    (of_decide_eq_true (by kernel_rfl)) (by unfold Func.isWrapper; first | (rw [if_pos (by decide +kernel)]; kernel_rfl) | (rw [if_neg (by decide +kernel)]; exact ⟨rfl, rfl⟩))
    (fun os started H enc _ => lifted os started H enc)

theorem proved : Rows.ProfAddsSaid := over
#print axioms proved
end Go.Proofs.Ytmcejkimpjfmmaa.profAdds
