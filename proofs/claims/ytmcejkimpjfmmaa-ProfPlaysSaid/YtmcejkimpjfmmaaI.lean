/- Wrote, spot, Kinds, Writes. -/
import Derived.Test.YtmcejkimpjfmmaaH
set_option linter.unusedVariables false
set_option linter.unusedSimpArgs false
namespace Go.Proofs.Ytmcejkimpjfmmaa
open Go.RowKit Go.Lib Go.Maps

theorem IsProf.setWrote {w b hb wb m F G h wn wv k kf} (p : IsProf w b hb wb m F G h wn wv k kf) {g : Nat} (hg : g < G) (n v : Int) (hn : 0 ≤ n ∧ n ≤ 1099511627776) :
    IsProf ((w.setCell ⟨wb, g * 2, none⟩ (.int .i64 n)).setCell ⟨wb, g * 2 + 1, none⟩ (.int .u64 v)) b hb wb m F G h (set1 wn g n) (set1 wv g v) k kf := by
  obtain ⟨n1, n2, n3, n4, n5, n6⟩ := p.ne
  have e : ∀ i, i ≠ wb → ((w.setCell ⟨wb, g * 2, none⟩ (.int .i64 n)).setCell ⟨wb, g * 2 + 1, none⟩ (.int .u64 v)).heap[i]? = w.heap[i]? := fun i hi => by
    rw [Below.heap_setCell _ _ _ _ (by simpa using hi), Below.heap_setCell _ _ _ _ (by simpa using hi)]
  refine ⟨(e b n2).trans p.blk, p.heat.block (e hb n4), p.wr.store hg n v, p.map.block (e m (Ne.symm n6)), p.hh, fun i hi => ?_, p.ne, p.fits⟩
  unfold set1; split
  · exact hn
  · exact p.hw i hi

set_option maxHeartbeats 400000 in
theorem wrote_ok (g : Nat) (v : Int) (w : World) {b hb wb m F G h wn wv k kf} (p : IsProf w b hb wb m F G h wn wv k kf) (hg : g < G) :
    Calls Try.prog 27 #[.pointer (some ⟨b, 0, none⟩), .int .i64 g, .int .u64 v] w fun e w' => e = .returned (.int .i64 0) ∧ IsProf w' b hb wb m F G h (set1 wn g (min (wn g + 1) 1099511627776)) (set1 wv g v) k kf ∧ Only (Mine hb wb m) w w' := by
  have hc := p.c1
  have hx := p.wr.c0 hg
  have hy := p.wr.c1 hg
  have hh := p.hw g hg
  have hfun := global_any (g : Int) b G _ w hc
  rw [badF_ok (by omega)] at hfun
  have hm := more_val wb (g * 2) (wn g) v (wv g) w hx hy (p.wr.free _) (p.wr.free _) hh
  have HF := Lib.hid hfun
  have HM := Lib.hid hm
  have HP := Lib.hid (p.setWrote hg (min (wn g + 1) 1099511627776) v (by omega))
  clear hfun hm p
  go_enter Try.func27, Try.ntmps27
  go_wp2_with (first | (go_at_call 36; refine HF.out.mono ?_; rintro e w' ⟨rfl, rfl⟩) | (go_at_call 38; refine HM.out.mono ?_; rintro e w' ⟨rfl, rfl⟩))
  go_ret
  exact ⟨rfl, HP.out, ((Only.refl _ w).setCell (.inr (.inl rfl)) _).setCell (.inr (.inl rfl)) _⟩
set_option maxHeartbeats 400000 in
theorem wrote_bad (g v : Int) (w : World) {b hb wb m F G h wn wv k kf} (p : IsProf w b hb wb m F G h wn wv k kf) (hf : g < 0 ∨ (G : Int) ≤ g) :
    Calls Try.prog 27 #[.pointer (some ⟨b, 0, none⟩), .int .i64 g, .int .u64 v] w fun e w' => e = .returned (.int .i64 1) ∧ w = w' := by
  have hfun := global_any (g : Int) b G _ w p.c1
  rw [badF_bad hf] at hfun
  have HF := Lib.hid hfun
  clear hfun p
  go_enter Try.func27, Try.ntmps27
  go_wp2_with (go_at_call 36; refine HF.out.mono ?_; rintro e w' ⟨rfl, rfl⟩)
  go_ret
  exact ⟨rfl, rfl⟩
end Go.Proofs.Ytmcejkimpjfmmaa
