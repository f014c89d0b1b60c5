/- spot, Kinds, Pair. -/
import Derived.Test.YtmcejkimpjfmmaaI
set_option linter.unusedVariables false
set_option linter.unusedSimpArgs false
namespace Go.Proofs.Ytmcejkimpjfmmaa
open Go.RowKit Go.Lib Go.Maps

def badS (F : Nat) (f a : Int) : Int := if f < 0 ∨ (F : Int) ≤ f ∨ a < 0 ∨ 65536 ≤ a then 1 else 0
set_option maxHeartbeats 400000 in
theorem spot_any (f a : Int) (w : World) {b hb wb m F G h wn wv k kf} (p : IsProf w b hb wb m F G h wn wv k kf) :
    Calls Try.prog 30 #[.pointer (some ⟨b, 0, none⟩), .int .i64 f, .int .i64 a] w fun e w' => e = .returned (.int .i64 (badS F f a)) ∧ w = w' := by
  have hfun := fun_any (f : Int) b F _ w p.c0
  have HF := Lib.hid hfun
  clear hfun p
  by_cases h0 : f < 0 ∨ (F : Int) ≤ f
  · have hb := badF_bad h0
    rw [show badS F f a = 1 from if_pos (by omega)]
    go_enter Try.func30, Try.ntmps30
    go_wp2_with (go_at_call 29; refine HF.out.mono ?_; rintro e w' ⟨rfl, rfl⟩; rw [hb])
    go_ret
    exact ⟨rfl, rfl⟩
  · have hb := badF_ok (F := F) (f := f) (by omega)
    by_cases h1 : a < 0
    · rw [show badS F f a = 1 from if_pos (by omega)]
      go_enter Try.func30, Try.ntmps30
      go_wp2_with (go_at_call 29; refine HF.out.mono ?_; rintro e w' ⟨rfl, rfl⟩; rw [hb])
      go_ret
      exact ⟨rfl, rfl⟩
    · by_cases h2 : 65536 ≤ a
      · rw [show badS F f a = 1 from if_pos (by omega)]
        go_enter Try.func30, Try.ntmps30
        go_wp2_with (go_at_call 29; refine HF.out.mono ?_; rintro e w' ⟨rfl, rfl⟩; rw [hb])
        go_ret
        exact ⟨rfl, rfl⟩
      · rw [show badS F f a = 0 from if_neg (by omega)]
        go_enter Try.func30, Try.ntmps30
        go_wp2_with (go_at_call 29; refine HF.out.mono ?_; rintro e w' ⟨rfl, rfl⟩; rw [hb])
        go_ret
        exact ⟨rfl, rfl⟩

set_option maxHeartbeats 400000 in
theorem kinds_ok (f a : Int) (w : World) {b hb wb m F G h wn wv k kf} (p : IsProf w b hb wb m F G h wn wv k kf) (hf : 0 ≤ f ∧ f < (F : Int)) (ha : 0 ≤ a ∧ a < 65536) :
    Calls Try.prog 13 #[.pointer (some ⟨b, 0, none⟩), .int .i64 f, .int .i64 a] w fun e w' => e = .returned (.tuple #[.int .i64 ((kf f a).getD 0), .int .i64 0]) ∧ w = w' := by
  have hs := spot_any f a w p
  rw [show badS F f a = 0 from if_neg (by omega)] at hs
  have HS := Lib.hid hs
  have hc := p.c2
  have hF := p.fits
  have hl := p.map.look f a (by unfold I64; omega) (by unfold I64; omega)
  clear hs p
  go_enter Try.func13, Try.ntmps13
  go_wp2_with (go_at_call 30; refine HS.out.mono ?_; rintro e w' ⟨rfl, rfl⟩)
  go_ret2
  exact ⟨rfl, rfl⟩
set_option maxHeartbeats 400000 in
theorem kinds_bad (f a : Int) (w : World) {b hb wb m F G h wn wv k kf} (p : IsProf w b hb wb m F G h wn wv k kf) (hx : f < 0 ∨ (F : Int) ≤ f ∨ a < 0 ∨ 65536 ≤ a) :
    Calls Try.prog 13 #[.pointer (some ⟨b, 0, none⟩), .int .i64 f, .int .i64 a] w fun e w' => e = .returned (.tuple #[.int .i64 0, .int .i64 1]) ∧ w = w' := by
  have hs := spot_any f a w p
  rw [show badS F f a = 1 from if_pos hx] at hs
  have HS := Lib.hid hs
  clear hs p
  go_enter Try.func13, Try.ntmps13
  go_wp2_with (go_at_call 30; refine HS.out.mono ?_; rintro e w' ⟨rfl, rfl⟩)
  go_ret2
  exact ⟨rfl, rfl⟩
end Go.Proofs.Ytmcejkimpjfmmaa
