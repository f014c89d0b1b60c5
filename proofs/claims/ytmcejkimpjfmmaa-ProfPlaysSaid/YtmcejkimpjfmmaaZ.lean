/- The walk of the law ProfNils. -/
import Derived.Test.YtmcejkimpjfmmaaY
set_option linter.unusedVariables false
set_option linter.unusedSimpArgs false
namespace Go.Proofs.Ytmcejkimpjfmmaa
open Go.RowKit Go.Lib Go.Maps

theorem Row6 {w : World} {s : Nat} {v0 v1 v2 v3 v4 v5 : Value} {t : TypeId} (h : w.heap[s]? = some (.cells #[v0, v1, v2, v3, v4, v5] t (0, 0))) :
    w.cell? ⟨s, 0, none⟩ = some v0 ∧ w.cell? ⟨s, 1, none⟩ = some v1 ∧ w.cell? ⟨s, 2, none⟩ = some v2 ∧ w.cell? ⟨s, 3, none⟩ = some v3 ∧ w.cell? ⟨s, 4, none⟩ = some v4 ∧ w.cell? ⟨s, 5, none⟩ = some v5 ∧ (∀ j, w.frozen? ⟨s, j, none⟩ = false) := by
  simp [World.cell?, World.frozen?, h]
theorem box_set {w : World} {s : Nat} {v0 v1 v2 v3 v4 v5 : Value} {t : TypeId} (h : w.heap[s]? = some (.cells #[v0, v1, v2, v3, v4, v5] t (0, 0))) (u : Value) :
    (w.setCell ⟨s, 0, none⟩ u).heap[s]? = some (.cells #[u, v1, v2, v3, v4, v5] t (0, 0)) := by
  simp [World.setCell, Array.getElem?_modify, h]

set_option maxHeartbeats 1000000 in
theorem tell_nil (d f t a c v : Int) (w : World) : Calls Try.prog 11 #[.pointer none, .agg #[.int .i64 d, .int .i64 f, .int .i64 t, .int .i64 a, .int .i64 c, .int .u64 v]] w fun e w' => e = .returned (.int .i64 5) ∧ Below w.heap.size w w' := by
  have hB : Below w.heap.size w (w.alloc (.cells #[.int .i64 d, .int .i64 f, .int .i64 t, .int .i64 a, .int .i64 c, .int .u64 v] 32)) := below_alloc _
  have HB := Lib.hid hB
  clear hB
  by_cases h0 : d = 0
  · subst h0
    go_enter Try.func11, Try.ntmps11
    go_wp2_with (go_at_call 24; refine (begin_nil _ _).mono ?_; rintro e w1 ⟨rfl, rfl⟩)
    go_ret
    exact ⟨rfl, HB.out⟩
  by_cases h1 : d = 1
  · subst h1
    go_enter Try.func11, Try.ntmps11
    go_wp2_with (go_at_call 25; refine (loop_nil _ _).mono ?_; rintro e w1 ⟨rfl, rfl⟩)
    go_ret
    exact ⟨rfl, HB.out⟩
  by_cases h2 : d = 2
  · subst h2
    go_enter Try.func11, Try.ntmps11
    go_wp2_with (go_at_call 26; refine (pair_nil _ _ _ _ _).mono ?_; rintro e w1 ⟨rfl, rfl⟩)
    go_ret
    exact ⟨rfl, HB.out⟩
  by_cases h3 : d = 3
  · subst h3
    go_enter Try.func11, Try.ntmps11
    go_wp2_with (go_at_call 27; refine (wrote_nil _ _ _).mono ?_; rintro e w1 ⟨rfl, rfl⟩)
    go_ret
    exact ⟨rfl, HB.out⟩
  · have e0 : (d == 0) = false := by simpa using h0
    have e1 : (d == 1) = false := by simpa using h1
    have e2 : (d == 2) = false := by simpa using h2
    have e3 : (d == 3) = false := by simpa using h3
    clear h0 h1 h2 h3
    go_enter Try.func11, Try.ntmps11
    go_wp2_with (go_at_call 28; refine (cool_nil _ _).mono ?_; rintro e w1 ⟨rfl, rfl⟩)
    go_ret
    exact ⟨rfl, HB.out⟩

set_option maxRecDepth 100000 in
set_option maxHeartbeats 2000000 in
theorem nils_any (d f t a c v : Int) (w : World) : Calls Try.prog 7 #[.agg #[.int .i64 d, .int .i64 f, .int .i64 t, .int .i64 a, .int .i64 c, .int .u64 v]] w fun e w' => e = .returned (.bool true) ∧ Below w.heap.size w w' := by
  have hB : Below w.heap.size w (w.alloc (.cells #[.int .i64 d, .int .i64 f, .int .i64 t, .int .i64 a, .int .i64 c, .int .u64 v] 32)) := below_alloc _
  have hb := heap_alloc_new w (.cells #[.int .i64 d, .int .i64 f, .int .i64 t, .int .i64 a, .int .i64 c, .int .u64 v] 32)
  have HB := Lib.hid hB
  have Hb := Lib.hid hb
  clear hB hb
  go_enter Try.func7, Try.ntmps7
  go_wp2_with fail
  go_loopw [4] (fun i wr => ∃ (j : Nat) (d : Int), j ≤ 5 ∧ i = .int .i64 j ∧ Hid (wr.heap[w.heap.size]? = some (.cells #[.int .i64 d, .int .i64 f, .int .i64 t, .int .i64 a, .int .i64 c, .int .u64 v] 32)) ∧ Below w.heap.size w wr) (fun i _ => 5 - (intOf i).toNat)
  case atStart => exact ⟨0, d, by omega, rfl, Hb, HB.out⟩
  case round =>
    obtain ⟨j, d, hj, rfl, hb, hB⟩ := hrel
    obtain ⟨c0, c1, c2, c3, c4, c5, fr⟩ := Row6 hb.out
    have f0 := fr 0
    have hlt := (Array.getElem?_eq_some_iff.1 hb.out).1
    clear fr
    by_cases hlt5 : j < 5
    · have hb2 := box_set hb.out (.int .i64 j)
      have hB2 : Below w.heap.size w (wr.setCell ⟨w.heap.size, 0, none⟩ (.int .i64 j)) := hB.setCell (Nat.le_refl _) _
      have HB2 := Lib.hid hB2
      have Hb2 := Lib.hid hb2
      clear hB2 hb2
      go_wp2_with fail
      refine (tell_nil _ _ _ _ _ _ _).mono ?_
      rintro e w1 ⟨rfl, hB3⟩
      have h3 := (hB3.block w.heap.size (by simpa using hlt)).trans Hb2.out
      have hB4 := below_next HB2.out (by simp; omega) hB3
      have H3 := Lib.hid h3
      clear h3 c0 c1 c2 c3 c4 c5 hB3
      go_wp2_with (go_at_call 10; refine (num_any _ _).mono ?_; rintro e w' ⟨rfl, rfl⟩)
      go_roundw
      case rel => exact ⟨j + 1, j, by omega, by go_num, H3, hB4⟩
      case measure => simp [intOf]; omega
    · go_wp2_with fail
      refine (heat_nil _ _).mono ?_
      rintro e w1 ⟨rfl, rfl⟩
      go_wp2_with fail
      refine (kinds_nil _ _ _).mono ?_
      rintro e w1 ⟨rfl, rfl⟩
      go_wp2_with fail
      refine (writes_nil _ _).mono ?_
      rintro e w1 ⟨rfl, rfl⟩
      go_wp2_with (first | (go_at_call 10; refine (num_any _ _).mono ?_; rintro e w' ⟨rfl, rfl⟩) | (go_at_call 15; refine (hot_nil _ _).mono ?_; rintro e w' ⟨rfl, rfl⟩) | (go_at_call 18; refine (stable_nil _).mono ?_; rintro e w' ⟨rfl, rfl⟩) | (go_at_call 8; refine (live_any _).mono ?_; rintro e w2 ⟨rfl, hB2⟩))
      go_ret
      exact ⟨rfl, below_next hB hB.size hB2⟩
end Go.Proofs.Ytmcejkimpjfmmaa
