/- The walk of the law ClockNils; 'Next'. -/
import Derived.Test.YtklbhidlbdabbaaJ
set_option linter.unusedVariables false
set_option linter.unusedSimpArgs false
namespace Go.Proofs.Ytklbhidlbdabbaa
open Go.RowKit Go.Lib Go.Maps Go.Sort

set_option maxHeartbeats 400000 in
theorem sleepers_nil (w : World) : Calls Try.prog 27 #[.pointer none] w fun e w' => e = .returned (.slice none 0 0) ∧ Below w.heap.size w w' := by
  go_enter Try.func27, Try.ntmps27
  go_wp2
  go_ret
  exact ⟨rfl, below_alloc _⟩

set_option maxHeartbeats 400000 in
theorem next_nil (w : World) : Calls Try.prog 22 #[.pointer none] w fun e w' => e = .returned (.tuple #[.int .i64 0, .bool false]) ∧ Below w.heap.size w w' := by
  go_enter Try.func22, Try.ntmps22
  go_wp2_with fail
  refine (sleepers_nil w).mono ?_
  rintro e w1 ⟨rfl, hB⟩
  go_wp2_with fail
  go_ret2
  exact ⟨rfl, hB⟩

set_option maxRecDepth 100000 in
set_option maxHeartbeats 1000000 in
theorem nils_any (d t n : Int) (w : World) : Calls Try.prog 6 #[.agg #[.int .i64 d, .int .i64 t, .int .i64 n]] w fun e w' => e = .returned (.bool true) ∧ Below w.heap.size w w' := by
  go_enter Try.func6, Try.ntmps6
  go_wp2_with fail
  refine (sleep_nil _ _ _).mono ?_
  rintro e w1 ⟨rfl, rfl⟩
  go_wp2_with fail
  refine (next_nil _).mono ?_
  rintro e w1 ⟨rfl, hB1⟩
  have hB0 := below_alloc (w := w) (.cells #[.int .i64 d, .int .i64 t, .int .i64 n] 41)
  have hs0 : (w.alloc (.cells #[.int .i64 d, .int .i64 t, .int .i64 n] 41)).heap.size = w.heap.size + 1 := by simp
  have k1 : w1.cell? ⟨w.heap.size, 1, none⟩ = some (.int .i64 t) := (hB1.cell (p := ⟨w.heap.size, 1, none⟩) (by simp)).trans (World.cell?_alloc_at2 w _ 1)
  have k2 : w1.cell? ⟨w.heap.size, 2, none⟩ = some (.int .i64 n) := (hB1.cell (p := ⟨w.heap.size, 2, none⟩) (by simp)).trans (World.cell?_alloc_at2 w _ 2)
  have hBw := below_next hB0 (by omega) hB1
  have hs1 : w.heap.size < w1.heap.size := by have := hB1.size; omega
  clear hB0 hB1 hs0
  go_wp2_with fail
  refine (wake_nil _ _).mono ?_
  rintro e w2 ⟨rfl, rfl⟩
  go_wp2_with fail
  refine (now_nil _).mono ?_
  rintro e w2 ⟨rfl, rfl⟩
  go_wp2_with fail
  refine (sleepers_nil _).mono ?_
  rintro e w2 ⟨rfl, hB2⟩
  have k3 : w2.cell? ⟨w.heap.size, 1, none⟩ = some (.int .i64 t) := (hB2.cell (p := ⟨w.heap.size, 1, none⟩) hs1).trans k1
  have k4 : w2.cell? ⟨w.heap.size, 2, none⟩ = some (.int .i64 n) := (hB2.cell (p := ⟨w.heap.size, 2, none⟩) hs1).trans k2
  have hB3 := below_next hBw (by omega) hB2
  clear k1 k2 hBw hB2
  go_wp2_with fail
  refine (awake_nil _ _).mono ?_
  rintro e w3 ⟨rfl, rfl⟩
  go_wp2_with fail
  refine (num_any _ _).mono ?_
  rintro e w3 ⟨rfl, rfl⟩
  go_wp2_with fail
  refine (tick_nil _ _).mono ?_
  rintro e w3 ⟨rfl, rfl⟩
  go_wp2_with fail
  refine (num_any _ _).mono ?_
  rintro e w3 ⟨rfl, rfl⟩
  go_wp2_with fail
  refine (live_any _).mono ?_
  rintro e w3 ⟨rfl, hB4⟩
  go_wp2_with fail
  go_ret
  exact ⟨rfl, below_next hB3 hB3.size hB4⟩
end Go.Proofs.Ytklbhidlbdabbaa
