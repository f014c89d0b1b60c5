/- Writes, Pair. -/
import Derived.Test.YtmcejkimpjfmmaaJ
set_option linter.unusedVariables false
set_option linter.unusedSimpArgs false
namespace Go.Proofs.Ytmcejkimpjfmmaa
open Go.RowKit Go.Lib Go.Maps

set_option maxHeartbeats 400000 in
theorem writes_bad (g : Int) (w : World) {b hb wb m F G h wn wv k kf} (p : IsProf w b hb wb m F G h wn wv k kf) (hf : g < 0 ∨ (G : Int) ≤ g) :
    Calls Try.prog 23 #[.pointer (some ⟨b, 0, none⟩), .int .i64 g] w fun e w' => e = .returned (.tuple #[.int .i64 0, .int .u64 0, .int .i64 1]) ∧ w = w' := by
  have hfun := global_any (g : Int) b G _ w p.c1
  rw [badF_bad hf] at hfun
  have HF := Lib.hid hfun
  clear hfun p
  go_enter Try.func23, Try.ntmps23
  go_wp2_with (go_at_call 36; refine HF.out.mono ?_; rintro e w' ⟨rfl, rfl⟩)
  go_ret3
  exact ⟨rfl, rfl⟩
set_option maxHeartbeats 400000 in
theorem writes_ok (g : Nat) (w : World) {b hb wb m F G h wn wv k kf} (p : IsProf w b hb wb m F G h wn wv k kf) (hg : g < G) :
    Calls Try.prog 23 #[.pointer (some ⟨b, 0, none⟩), .int .i64 g] w fun e w' => e = .returned (.tuple #[.int .i64 (wn g), .int .u64 (wv g), .int .i64 0]) ∧ ∃ n, w' = w.drewN n := by
  have hc := p.c1
  have hx := p.wr.c0 hg
  have hy := p.wr.c1 hg
  have hfun := global_any (g : Int) b G _ w hc
  rw [badF_ok (by omega)] at hfun
  have HF := Lib.hid hfun
  clear hfun p
  go_enter Try.func23, Try.ntmps23
  go_wp2_with (go_at_call 36; refine HF.out.mono ?_; rintro e w' ⟨rfl, rfl⟩)
  go_quiet (fail)
  go_wp2_with fail
  go_ret3
  exact ⟨rfl, _, rfl⟩
end Go.Proofs.Ytmcejkimpjfmmaa
