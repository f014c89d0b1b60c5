/- The profile's state; Begin, Loop, Cool, Heat. -/
import Derived.Test.YtmcejkimpjfmmaaF
set_option linter.unusedVariables false
set_option linter.unusedSimpArgs false
namespace Go.Proofs.Ytmcejkimpjfmmaa
open Go.RowKit Go.Lib Go.Maps

/-- The profile in block b: the rows hb, wb of counters, the map m. -/
structure IsProf (w : World) (b hb wb m F G : Nat) (h wn wv : Nat → Int) (k : Nat) (kf : Int → Int → Option Int) : Prop where
  blk : w.heap[b]? = some (.cells #[.slice (some ⟨hb, 0, none⟩) F F, .slice (some ⟨wb, 0, none⟩) G G, .map (some m)] 65 (0, 0))
  heat : Row w hb 68 .i64 F h (fun _ => 0)
  wr : Row w wb 79 .u64 G wn wv
  map : MapP w m k kf
  hh : ∀ i, i < F → 0 ≤ h i ∧ h i ≤ 1099511627776
  hw : ∀ i, i < G → 0 ≤ wn i ∧ wn i ≤ 1099511627776
  ne : b ≠ hb ∧ b ≠ wb ∧ b ≠ m ∧ hb ≠ wb ∧ hb ≠ m ∧ wb ≠ m
  fits : F ≤ 1024 ∧ G ≤ 1024
theorem IsProf.c0 {w b hb wb m F G h wn wv k kf} (p : IsProf w b hb wb m F G h wn wv k kf) : w.cell? ⟨b, 0, none⟩ = some (.slice (some ⟨hb, 0, none⟩) F F) := by simp [World.cell?, p.blk]
theorem IsProf.c1 {w b hb wb m F G h wn wv k kf} (p : IsProf w b hb wb m F G h wn wv k kf) : w.cell? ⟨b, 1, none⟩ = some (.slice (some ⟨wb, 0, none⟩) G G) := by simp [World.cell?, p.blk]
theorem IsProf.c2 {w b hb wb m F G h wn wv k kf} (p : IsProf w b hb wb m F G h wn wv k kf) : w.cell? ⟨b, 2, none⟩ = some (.map (some m)) := by simp [World.cell?, p.blk]

set_option maxHeartbeats 400000 in
theorem heat_ok (f : Nat) (w : World) {b hb wb m F G h wn wv k kf} (p : IsProf w b hb wb m F G h wn wv k kf) (hf : f < F) :
    Calls Try.prog 12 #[.pointer (some ⟨b, 0, none⟩), .int .i64 f] w fun e w' => e = .returned (.tuple #[.int .i64 (h f), .int .i64 0]) ∧ w = w' := by
  have hc := p.c0
  have hx := p.heat.c0 hf
  have hfun := fun_any (f : Int) b F _ w hc
  rw [badF_ok (by omega)] at hfun
  have HF := Lib.hid hfun
  clear hfun p
  go_enter Try.func12, Try.ntmps12
  go_wp2_with (go_at_call 29; refine HF.out.mono ?_; rintro e w' ⟨rfl, rfl⟩)
  go_ret2
  exact ⟨rfl, rfl⟩
set_option maxHeartbeats 400000 in
theorem heat_bad (f : Int) (w : World) {b hb wb m F G h wn wv k kf} (p : IsProf w b hb wb m F G h wn wv k kf) (hf : f < 0 ∨ (F : Int) ≤ f) :
    Calls Try.prog 12 #[.pointer (some ⟨b, 0, none⟩), .int .i64 f] w fun e w' => e = .returned (.tuple #[.int .i64 0, .int .i64 1]) ∧ w = w' := by
  have hfun := fun_any (f : Int) b F _ w p.c0
  rw [badF_bad hf] at hfun
  have HF := Lib.hid hfun
  clear hfun p
  go_enter Try.func12, Try.ntmps12
  go_wp2_with (go_at_call 29; refine HF.out.mono ?_; rintro e w' ⟨rfl, rfl⟩)
  go_ret2
  exact ⟨rfl, rfl⟩
end Go.Proofs.Ytmcejkimpjfmmaa
