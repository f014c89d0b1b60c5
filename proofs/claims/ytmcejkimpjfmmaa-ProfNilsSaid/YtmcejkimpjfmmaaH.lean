/- Begin, Loop, Cool. -/
import Derived.Test.YtmcejkimpjfmmaaG
set_option linter.unusedVariables false
set_option linter.unusedSimpArgs false
namespace Go.Proofs.Ytmcejkimpjfmmaa
open Go.RowKit Go.Lib Go.Maps

/-- w' is w but for the blocks of S; nothing is made. -/
structure Only (S : Nat → Prop) (w w' : World) : Prop where
  os : w'.os = w.os
  tape : w'.tape = w.tape
  output : w'.output = w.output
  size : w.heap.size ≤ w'.heap.size
  block : ∀ i, i < w.heap.size → ¬ S i → w'.heap[i]? = w.heap[i]?
theorem Only.refl (S) (w : World) : Only S w w := ⟨rfl, rfl, rfl, Nat.le_refl _, fun _ _ _ => rfl⟩
theorem Only.setCell {S} {w w' : World} (h : Only S w w') {a : Addr} (ha : S a.block) (u : Value) : Only S w (w'.setCell a u) :=
  ⟨h.os, h.tape, h.output, by simpa using h.size, fun i hi hn => by
    rw [Below.heap_setCell w' a u i (fun e => hn (by rw [e]; exact ha))]; exact h.block i hi hn⟩
theorem Only.drewN {S} {w w' : World} (h : Only S w w') (n : Nat) : Only S w (w'.drewN n) := ⟨h.os, h.tape, h.output, h.size, h.block⟩
theorem Only.trans {S} {a b c : World} (h : Only S a b) (k : Only S b c) : Only S a c :=
  ⟨k.os.trans h.os, k.tape.trans h.tape, k.output.trans h.output, Nat.le_trans h.size k.size, fun i hi hn => (k.block i (Nat.lt_of_lt_of_le hi h.size) hn).trans (h.block i hi hn)⟩
abbrev Mine (hb wb m : Nat) : Nat → Prop := fun i => i = hb ∨ i = wb ∨ i = m

theorem IsProf.setHeat {w b hb wb m F G h wn wv k kf} (p : IsProf w b hb wb m F G h wn wv k kf) {f : Nat} (hf : f < F) (n : Int) (hn : 0 ≤ n ∧ n ≤ 1099511627776) :
    IsProf ((w.setCell ⟨hb, f * 2, none⟩ (.int .i64 n)).setCell ⟨hb, f * 2 + 1, none⟩ (.int .i64 0)) b hb wb m F G (set1 h f n) wn wv k kf := by
  obtain ⟨n1, n2, n3, n4, n5, n6⟩ := p.ne
  have e : ∀ i, i ≠ hb → ((w.setCell ⟨hb, f * 2, none⟩ (.int .i64 n)).setCell ⟨hb, f * 2 + 1, none⟩ (.int .i64 0)).heap[i]? = w.heap[i]? := fun i hi => by
    rw [Below.heap_setCell _ _ _ _ (by simpa using hi), Below.heap_setCell _ _ _ _ (by simpa using hi)]
  have hz : set1 (fun _ => 0) f 0 = fun _ => (0 : Int) := by funext j; unfold set1; split <;> rfl
  refine ⟨(e b n1).trans p.blk, ?_, p.wr.block (e wb (Ne.symm n4)), p.map.block (e m (Ne.symm n5)), fun i hi => ?_, p.hw, p.ne, p.fits⟩
  · have := p.heat.store hf n 0
    rw [hz] at this
    exact this
  · unfold set1; split
    · exact hn
    · exact p.hh i hi

set_option maxHeartbeats 400000 in
theorem begin_ok (f : Nat) (w : World) {b hb wb m F G h wn wv k kf} (p : IsProf w b hb wb m F G h wn wv k kf) (hf : f < F) :
    Calls Try.prog 24 #[.pointer (some ⟨b, 0, none⟩), .int .i64 f] w fun e w' => e = .returned (.int .i64 0) ∧ IsProf w' b hb wb m F G (set1 h f (min (h f + 1) 1099511627776)) wn wv k kf ∧ Only (Mine hb wb m) w w' := by
  have hc := p.c0
  have hx := p.heat.c0 hf
  have hy := p.heat.c1 hf
  have hh := p.hh f hf
  have hfun := fun_any (f : Int) b F _ w hc
  rw [badF_ok (by omega)] at hfun
  have hm := more_int hb (f * 2) (h f) 0 0 w hx hy (p.heat.free _) (p.heat.free _) hh
  have HF := Lib.hid hfun
  have HM := Lib.hid hm
  have HP := Lib.hid (p.setHeat hf (min (h f + 1) 1099511627776) (by omega))
  clear hfun hm p
  go_enter Try.func24, Try.ntmps24
  go_wp2_with (first | (go_at_call 29; refine HF.out.mono ?_; rintro e w' ⟨rfl, rfl⟩) | (go_at_call 37; refine HM.out.mono ?_; rintro e w' ⟨rfl, rfl⟩))
  go_ret
  exact ⟨rfl, HP.out, ((Only.refl _ w).setCell (.inl rfl) _).setCell (.inl rfl) _⟩

set_option maxHeartbeats 400000 in
theorem begin_bad (f : Int) (w : World) {b hb wb m F G h wn wv k kf} (p : IsProf w b hb wb m F G h wn wv k kf) (hf : f < 0 ∨ (F : Int) ≤ f) :
    Calls Try.prog 24 #[.pointer (some ⟨b, 0, none⟩), .int .i64 f] w fun e w' => e = .returned (.int .i64 1) ∧ w = w' := by
  have hfun := fun_any (f : Int) b F _ w p.c0
  rw [badF_bad hf] at hfun
  have HF := Lib.hid hfun
  clear hfun p
  go_enter Try.func24, Try.ntmps24
  go_wp2_with (go_at_call 29; refine HF.out.mono ?_; rintro e w' ⟨rfl, rfl⟩)
  go_ret
  exact ⟨rfl, rfl⟩
set_option maxHeartbeats 400000 in
theorem cool_bad (f : Int) (w : World) {b hb wb m F G h wn wv k kf} (p : IsProf w b hb wb m F G h wn wv k kf) (hf : f < 0 ∨ (F : Int) ≤ f) :
    Calls Try.prog 28 #[.pointer (some ⟨b, 0, none⟩), .int .i64 f] w fun e w' => e = .returned (.int .i64 1) ∧ w = w' := by
  have hfun := fun_any (f : Int) b F _ w p.c0
  rw [badF_bad hf] at hfun
  have HF := Lib.hid hfun
  clear hfun p
  go_enter Try.func28, Try.ntmps28
  go_wp2_with (go_at_call 29; refine HF.out.mono ?_; rintro e w' ⟨rfl, rfl⟩)
  go_ret
  exact ⟨rfl, rfl⟩
set_option maxHeartbeats 400000 in
theorem cool_ok (f : Nat) (w : World) {b hb wb m F G h wn wv k kf} (p : IsProf w b hb wb m F G h wn wv k kf) (hf : f < F) :
    Calls Try.prog 28 #[.pointer (some ⟨b, 0, none⟩), .int .i64 f] w fun e w' => e = .returned (.int .i64 0) ∧ IsProf w' b hb wb m F G (set1 h f 0) wn wv k kf ∧ Only (Mine hb wb m) w w' := by
  have hc := p.c0
  have hx := p.heat.c0 hf
  have hy := p.heat.c1 hf
  have f0 := p.heat.free (f * 2)
  have f1 := p.heat.free (f * 2 + 1)
  have hfun := fun_any (f : Int) b F _ w hc
  rw [badF_ok (by omega)] at hfun
  have HF := Lib.hid hfun
  have HP := Lib.hid (p.setHeat hf 0 (by omega))
  clear hfun p
  go_enter Try.func28, Try.ntmps28
  go_wp2_with (go_at_call 29; refine HF.out.mono ?_; rintro e w' ⟨rfl, rfl⟩)
  go_ret
  exact ⟨rfl, HP.out, ((Only.refl _ w).setCell (.inl rfl) _).setCell (.inl rfl) _⟩
set_option maxHeartbeats 400000 in
theorem loop_ok (f : Nat) (w : World) {b hb wb m F G h wn wv k kf} (p : IsProf w b hb wb m F G h wn wv k kf) (hf : f < F) :
    Calls Try.prog 25 #[.pointer (some ⟨b, 0, none⟩), .int .i64 f] w fun e w' => e = .returned (.int .i64 0) ∧ IsProf w' b hb wb m F G (set1 h f (min (h f + 1) 1099511627776)) wn wv k kf ∧ Only (Mine hb wb m) w w' := by
  have HB := Lib.hid (begin_ok f w p hf)
  clear p
  go_enter Try.func25, Try.ntmps25
  go_wp2_with fail
  refine HB.out.mono ?_
  rintro e w1 ⟨rfl, h1, h2⟩
  go_wp2_with fail
  go_ret
  exact ⟨rfl, h1, h2⟩
set_option maxHeartbeats 400000 in
theorem loop_bad (f : Int) (w : World) {b hb wb m F G h wn wv k kf} (p : IsProf w b hb wb m F G h wn wv k kf) (hf : f < 0 ∨ (F : Int) ≤ f) :
    Calls Try.prog 25 #[.pointer (some ⟨b, 0, none⟩), .int .i64 f] w fun e w' => e = .returned (.int .i64 1) ∧ w = w' := by
  have HB := Lib.hid (begin_bad f w p hf)
  clear p
  go_enter Try.func25, Try.ntmps25
  go_wp2_with (go_at_call 24; refine HB.out.mono ?_; rintro e w' ⟨rfl, rfl⟩)
  go_ret
  exact ⟨rfl, rfl⟩
end Go.Proofs.Ytmcejkimpjfmmaa
