/- Pair. -/
import Derived.Test.YtmcejkimpjfmmaaK
set_option linter.unusedVariables false
set_option linter.unusedSimpArgs false
namespace Go.Proofs.Ytmcejkimpjfmmaa
open Go.RowKit Go.Lib Go.Maps

set_option maxHeartbeats 400000 in
theorem pair_spot (f a x y : Int) (w : World) {b hb wb m F G h wn wv k kf} (p : IsProf w b hb wb m F G h wn wv k kf) (hx : f < 0 ∨ (F : Int) ≤ f ∨ a < 0 ∨ 65536 ≤ a) :
    Calls Try.prog 26 #[.pointer (some ⟨b, 0, none⟩), .int .i64 f, .int .i64 a, .int .i64 x, .int .i64 y] w fun e w' => e = .returned (.int .i64 1) ∧ w = w' := by
  have hs := spot_any f a w p
  rw [show badS F f a = 1 from if_pos hx] at hs
  have HS := Lib.hid hs
  clear hs p
  go_enter Try.func26, Try.ntmps26
  go_wp2_with (go_at_call 30; refine HS.out.mono ?_; rintro e w' ⟨rfl, rfl⟩)
  go_ret
  exact ⟨rfl, rfl⟩

set_option maxHeartbeats 1000000 in
theorem pair_arg (f a x y : Int) (w : World) {b hb wb m F G h wn wv k kf} (p : IsProf w b hb wb m F G h wn wv k kf) (hf : 0 ≤ f ∧ f < (F : Int)) (ha : 0 ≤ a ∧ a < 65536) (hx : x < 0 ∨ y < 0 ∨ 3 < x ∨ 3 < y) :
    Calls Try.prog 26 #[.pointer (some ⟨b, 0, none⟩), .int .i64 f, .int .i64 a, .int .i64 x, .int .i64 y] w fun e w' => e = .returned (.int .i64 1) ∧ w = w' := by
  have hs := spot_any f a w p
  rw [show badS F f a = 0 from if_neg (by omega)] at hs
  have HS := Lib.hid hs
  clear hs p
  have hx : x < 0 ∨ (0 ≤ x ∧ y < 0) ∨ (0 ≤ x ∧ 0 ≤ y ∧ 3 < x) ∨ (0 ≤ x ∧ 0 ≤ y ∧ x ≤ 3 ∧ 3 < y) := by omega
  rcases hx with hx | hx | hx | hx <;>
  · go_enter Try.func26, Try.ntmps26
    go_wp2_with (go_at_call 30; refine HS.out.mono ?_; rintro e w' ⟨rfl, rfl⟩)
    go_ret
    exact ⟨rfl, rfl⟩
end Go.Proofs.Ytmcejkimpjfmmaa
