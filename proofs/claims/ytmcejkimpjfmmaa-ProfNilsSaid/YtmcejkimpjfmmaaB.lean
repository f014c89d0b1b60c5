/- The profile's small functions. -/
import Derived.Test.YtmcejkimpjfmmaaA
import Derived.Deep.QuietTactic
import Derived.BigQuiet
import Derived.Below
import Derived.OwnWalk
set_option linter.unusedVariables false
set_option linter.unusedSimpArgs false
namespace Go.Proofs.Ytmcejkimpjfmmaa
open Go.RowKit Go.Lib Go.Maps

/-- What is wrong with a number below F. -/
def badF (F : Nat) (f : Int) : Int := if f < 0 ∨ (F : Int) ≤ f then 1 else 0
theorem badF_bad {F : Nat} {f : Int} (h : f < 0 ∨ (F : Int) ≤ f) : badF F f = 1 := if_pos h
theorem badF_ok {F : Nat} {f : Int} (h : 0 ≤ f ∧ f < (F : Int)) : badF F f = 0 := if_neg (by omega)

set_option maxHeartbeats 400000 in
theorem fun_nil (f : Int) (w : World) : Calls Try.prog 29 #[.pointer none, .int .i64 f] w fun e w' => e = .returned (.int .i64 5) ∧ w = w' := by
  go_enter Try.func29, Try.ntmps29
  go_wp2
  go_ret
  exact ⟨rfl, rfl⟩
set_option maxHeartbeats 400000 in
theorem global_nil (f : Int) (w : World) : Calls Try.prog 36 #[.pointer none, .int .i64 f] w fun e w' => e = .returned (.int .i64 5) ∧ w = w' := by
  go_enter Try.func36, Try.ntmps36
  go_wp2
  go_ret
  exact ⟨rfl, rfl⟩
set_option maxHeartbeats 400000 in
theorem fun_any (f : Int) (b F : Nat) (A : Option Addr) (w : World) (hc : w.cell? ⟨b, 0, none⟩ = some (.slice A F F)) :
    Calls Try.prog 29 #[.pointer (some ⟨b, 0, none⟩), .int .i64 f] w fun e w' => e = .returned (.int .i64 (badF F f)) ∧ w = w' := by
  by_cases h0 : f < 0
  · rw [badF_bad (.inl h0)]
    go_enter Try.func29, Try.ntmps29
    go_wp2
    go_ret
    exact ⟨rfl, rfl⟩
  · by_cases h1 : (F : Int) ≤ f
    · rw [badF_bad (.inr h1)]
      go_enter Try.func29, Try.ntmps29
      go_wp2
      go_ret
      exact ⟨rfl, rfl⟩
    · rw [badF_ok (by omega)]
      go_enter Try.func29, Try.ntmps29
      go_wp2
      go_ret
      exact ⟨rfl, rfl⟩
set_option maxHeartbeats 400000 in
theorem global_any (f : Int) (b F : Nat) (A : Option Addr) (w : World) (hc : w.cell? ⟨b, 1, none⟩ = some (.slice A F F)) :
    Calls Try.prog 36 #[.pointer (some ⟨b, 0, none⟩), .int .i64 f] w fun e w' => e = .returned (.int .i64 (badF F f)) ∧ w = w' := by
  by_cases h0 : f < 0
  · rw [badF_bad (.inl h0)]
    go_enter Try.func36, Try.ntmps36
    go_wp2
    go_ret
    exact ⟨rfl, rfl⟩
  · by_cases h1 : (F : Int) ≤ f
    · rw [badF_bad (.inr h1)]
      go_enter Try.func36, Try.ntmps36
      go_wp2
      go_ret
      exact ⟨rfl, rfl⟩
    · rw [badF_ok (by omega)]
      go_enter Try.func36, Try.ntmps36
      go_wp2
      go_ret
      exact ⟨rfl, rfl⟩
theorem num_any (x : Int) (w : World) : Calls Try.prog 10 #[.int .i64 x] w fun e w' => e = .returned (.int .i64 x) ∧ w = w' := by
  go_enter Try.func10, Try.ntmps10
  go_wp2
  go_ret
  exact ⟨rfl, rfl⟩

/-! a nil profile -/
set_option maxHeartbeats 400000 in
theorem begin_nil (f : Int) (w : World) : Calls Try.prog 24 #[.pointer none, .int .i64 f] w fun e w' => e = .returned (.int .i64 5) ∧ w = w' := by
  go_enter Try.func24, Try.ntmps24
  go_wp2_with (go_at_call 29; refine (fun_nil f w).mono ?_; rintro e w' ⟨rfl, rfl⟩)
  go_ret
  exact ⟨rfl, rfl⟩
set_option maxHeartbeats 400000 in
theorem loop_nil (f : Int) (w : World) : Calls Try.prog 25 #[.pointer none, .int .i64 f] w fun e w' => e = .returned (.int .i64 5) ∧ w = w' := by
  go_enter Try.func25, Try.ntmps25
  go_wp2_with (go_at_call 24; refine (begin_nil f w).mono ?_; rintro e w' ⟨rfl, rfl⟩)
  go_ret
  exact ⟨rfl, rfl⟩
set_option maxHeartbeats 400000 in
theorem spot_nil (f a : Int) (w : World) : Calls Try.prog 30 #[.pointer none, .int .i64 f, .int .i64 a] w fun e w' => e = .returned (.int .i64 5) ∧ w = w' := by
  go_enter Try.func30, Try.ntmps30
  go_wp2_with (go_at_call 29; refine (fun_nil f w).mono ?_; rintro e w' ⟨rfl, rfl⟩)
  go_ret
  exact ⟨rfl, rfl⟩
set_option maxHeartbeats 400000 in
theorem pair_nil (f a x y : Int) (w : World) : Calls Try.prog 26 #[.pointer none, .int .i64 f, .int .i64 a, .int .i64 x, .int .i64 y] w fun e w' => e = .returned (.int .i64 5) ∧ w = w' := by
  go_enter Try.func26, Try.ntmps26
  go_wp2_with (go_at_call 30; refine (spot_nil f a w).mono ?_; rintro e w' ⟨rfl, rfl⟩)
  go_ret
  exact ⟨rfl, rfl⟩
set_option maxHeartbeats 400000 in
theorem wrote_nil (f v : Int) (w : World) : Calls Try.prog 27 #[.pointer none, .int .i64 f, .int .u64 v] w fun e w' => e = .returned (.int .i64 5) ∧ w = w' := by
  go_enter Try.func27, Try.ntmps27
  go_wp2_with (go_at_call 36; refine (global_nil f w).mono ?_; rintro e w' ⟨rfl, rfl⟩)
  go_ret
  exact ⟨rfl, rfl⟩
set_option maxHeartbeats 400000 in
theorem cool_nil (f : Int) (w : World) : Calls Try.prog 28 #[.pointer none, .int .i64 f] w fun e w' => e = .returned (.int .i64 5) ∧ w = w' := by
  go_enter Try.func28, Try.ntmps28
  go_wp2_with (go_at_call 29; refine (fun_nil f w).mono ?_; rintro e w' ⟨rfl, rfl⟩)
  go_ret
  exact ⟨rfl, rfl⟩
set_option maxHeartbeats 400000 in
theorem heat_nil (f : Int) (w : World) : Calls Try.prog 12 #[.pointer none, .int .i64 f] w fun e w' => e = .returned (.tuple #[.int .i64 0, .int .i64 5]) ∧ w = w' := by
  go_enter Try.func12, Try.ntmps12
  go_wp2_with (go_at_call 29; refine (fun_nil f w).mono ?_; rintro e w' ⟨rfl, rfl⟩)
  go_ret2
  exact ⟨rfl, rfl⟩
set_option maxHeartbeats 400000 in
theorem kinds_nil (f a : Int) (w : World) : Calls Try.prog 13 #[.pointer none, .int .i64 f, .int .i64 a] w fun e w' => e = .returned (.tuple #[.int .i64 0, .int .i64 5]) ∧ w = w' := by
  go_enter Try.func13, Try.ntmps13
  go_wp2_with (go_at_call 30; refine (spot_nil f a w).mono ?_; rintro e w' ⟨rfl, rfl⟩)
  go_ret2
  exact ⟨rfl, rfl⟩
set_option maxHeartbeats 400000 in
theorem writes_nil (f : Int) (w : World) : Calls Try.prog 23 #[.pointer none, .int .i64 f] w fun e w' => e = .returned (.tuple #[.int .i64 0, .int .u64 0, .int .i64 5]) ∧ w = w' := by
  go_enter Try.func23, Try.ntmps23
  go_wp2_with (go_at_call 36; refine (global_nil f w).mono ?_; rintro e w' ⟨rfl, rfl⟩)
  go_ret3
  exact ⟨rfl, rfl⟩
set_option maxHeartbeats 400000 in
theorem hot_nil (f : Int) (w : World) : Calls Try.prog 15 #[.pointer none, .int .i64 f] w fun e w' => e = .returned (.slice none 0 0) ∧ w = w' := by
  go_enter Try.func15, Try.ntmps15
  go_wp2_with fail
  go_ret
  exact ⟨rfl, rfl⟩
set_option maxHeartbeats 400000 in
theorem stable_nil (w : World) : Calls Try.prog 18 #[.pointer none] w fun e w' => e = .returned (.slice none 0 0) ∧ w = w' := by
  go_enter Try.func18, Try.ntmps18
  go_wp2_with fail
  go_ret
  exact ⟨rfl, rfl⟩
end Go.Proofs.Ytmcejkimpjfmmaa
