/- The profile's counters. -/
import Derived.Test.YtmcejkimpjfmmaaE
set_option linter.unusedVariables false
set_option linter.unusedSimpArgs false
namespace Go.Proofs.Ytmcejkimpjfmmaa
open Go.RowKit Go.Lib Go.Maps

set_option maxHeartbeats 400000 in
theorem more_int (g o : Nat) (n v u : Int) (w : World) (h0 : w.cell? ⟨g, o, none⟩ = some (.int .i64 n)) (h1 : w.cell? ⟨g, o + 1, none⟩ = some (.int .i64 u)) (f0 : w.frozen? ⟨g, o, none⟩ = false) (f1 : w.frozen? ⟨g, o + 1, none⟩ = false) (hn : 0 ≤ n ∧ n ≤ 1099511627776) :
    Calls Try.prog 37 #[.pointer (some ⟨g, o, none⟩), .int .i64 v] w fun e w' => e = .returned (.tuple #[]) ∧ w' = (w.setCell ⟨g, o, none⟩ (.int .i64 (min (n + 1) 1099511627776))).setCell ⟨g, o + 1, none⟩ (.int .i64 v) := by
  by_cases hm : n + 1 ≤ 1099511627776
  · rw [show min (n + 1) 1099511627776 = n + 1 by omega]
    go_enter Try.func37, Try.ntmps37
    go_wp2
    go_end0
    exact ⟨rfl, rfl⟩
  · rw [show min (n + 1) 1099511627776 = 1099511627776 by omega]
    go_enter Try.func37, Try.ntmps37
    go_wp2
    go_end0
    exact ⟨rfl, rfl⟩
set_option maxHeartbeats 400000 in
theorem more_val (g o : Nat) (n v u : Int) (w : World) (h0 : w.cell? ⟨g, o, none⟩ = some (.int .i64 n)) (h1 : w.cell? ⟨g, o + 1, none⟩ = some (.int .u64 u)) (f0 : w.frozen? ⟨g, o, none⟩ = false) (f1 : w.frozen? ⟨g, o + 1, none⟩ = false) (hn : 0 ≤ n ∧ n ≤ 1099511627776) :
    Calls Try.prog 38 #[.pointer (some ⟨g, o, none⟩), .int .u64 v] w fun e w' => e = .returned (.tuple #[]) ∧ w' = (w.setCell ⟨g, o, none⟩ (.int .i64 (min (n + 1) 1099511627776))).setCell ⟨g, o + 1, none⟩ (.int .u64 v) := by
  by_cases hm : n + 1 ≤ 1099511627776
  · rw [show min (n + 1) 1099511627776 = n + 1 by omega]
    go_enter Try.func38, Try.ntmps38
    go_wp2
    go_end0
    exact ⟨rfl, rfl⟩
  · rw [show min (n + 1) 1099511627776 = 1099511627776 by omega]
    go_enter Try.func38, Try.ntmps38
    go_wp2
    go_end0
    exact ⟨rfl, rfl⟩
end Go.Proofs.Ytmcejkimpjfmmaa
