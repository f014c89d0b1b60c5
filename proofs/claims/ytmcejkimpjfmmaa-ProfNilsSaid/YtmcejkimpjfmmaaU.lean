/- The order of the hottest. -/
import Derived.Test.YtmcejkimpjfmmaaS
import Derived.Sort.Grow
import Derived.StillTailTactics
import Derived.Deep.RegionWith
set_option linter.unusedVariables false
set_option linter.unusedSimpArgs false
namespace Go.Proofs.Ytmcejkimpjfmmaa
open Go.RowKit Go.Lib Go.Maps Go.Sort

set_option maxHeartbeats 400000 in
theorem isNaN_any (x : Int) (w : World) : Calls Try.prog 53 #[.int .i64 x] w fun e w' => e = .returned (.bool false) ∧ w = w' := by
  go_enter Try.func53, Try.ntmps53
  go_wp2
  go_ret
  exact ⟨by simp, rfl⟩

def cmp3 (x y : Int) : Int := if x < y then -1 else if y < x then 1 else 0
set_option maxHeartbeats 400000 in
theorem compare_any (x y : Int) (w : World) : Calls Try.prog 42 #[.int .i64 x, .int .i64 y] w fun e w' => e = .returned (.int .i64 (cmp3 x y)) ∧ w = w' := by
  rcases (show x < y ∨ (¬ x < y ∧ y < x) ∨ (¬ x < y ∧ ¬ y < x) by omega) with h | ⟨h, h'⟩ | ⟨h, h'⟩
  · have e : cmp3 x y = -1 := by simp [cmp3, h]
    rw [e]; clear e
    go_enter Try.func42, Try.ntmps42
    go_wp2_with (go_at_call 53; refine (isNaN_any _ _).mono ?_; rintro e w' ⟨rfl, rfl⟩)
    go_ret
    exact ⟨rfl, rfl⟩
  · have e : cmp3 x y = 1 := by simp [cmp3, h, h']
    rw [e]; clear e
    go_enter Try.func42, Try.ntmps42
    go_wp2_with (go_at_call 53; refine (isNaN_any _ _).mono ?_; rintro e w' ⟨rfl, rfl⟩)
    go_ret
    exact ⟨rfl, rfl⟩
  · have e : cmp3 x y = 0 := by simp [cmp3, h, h']
    rw [e]; clear e
    go_enter Try.func42, Try.ntmps42
    go_wp2_with (go_at_call 53; refine (isNaN_any _ _).mono ?_; rintro e w' ⟨rfl, rfl⟩)
    go_ret
    exact ⟨rfl, rfl⟩

set_option maxHeartbeats 400000 in
theorem or2_any (x y : Int) (b c : Nat) (w : World) (h0 : w.cell? ⟨b, 0, none⟩ = some (.int .i64 x)) (h1 : w.cell? ⟨b, 1, none⟩ = some (.int .i64 y)) :
    Calls Try.prog 41 #[.slice (some ⟨b, 0, none⟩) 2 c] w fun e w' => e = .returned (.int .i64 (if x = 0 then y else x)) ∧ w = w' := by
  by_cases hx : x = 0
  · rw [if_pos hx]
    subst hx
    by_cases hy : y = 0
    · subst hy
      go_enter Try.func41, Try.ntmps41
      go_wp2
      go_loop [8] (fun i => ∃ k : Nat, k ≤ 2 ∧ i = .int .i64 k) (fun i => 2 - (intOf i).toNat)
      case atStart => exact ⟨0, by omega, rfl⟩
      case round =>
        obtain ⟨k, hk, rfl⟩ := hrel
        rcases (show k = 0 ∨ k = 1 ∨ k = 2 by omega) with rfl | rfl | rfl
        · go_wp2
          go_round
          case rel => exact ⟨1, by omega, by go_num⟩
          case measure => simp [intOf]
        · go_wp2
          go_round
          case rel => exact ⟨2, by omega, by go_num⟩
          case measure => simp [intOf]
        · go_wp2
          go_ret
          exact ⟨rfl, rfl⟩
    · have hy' : (y != 0) = true := by simpa using hy
      go_enter Try.func41, Try.ntmps41
      go_wp2
      go_loop [8] (fun i => ∃ k : Nat, k ≤ 1 ∧ i = .int .i64 k) (fun i => 2 - (intOf i).toNat)
      case atStart => exact ⟨0, by omega, rfl⟩
      case round =>
        obtain ⟨k, hk, rfl⟩ := hrel
        rcases (show k = 0 ∨ k = 1 by omega) with rfl | rfl
        · go_wp2
          go_round
          case rel => exact ⟨1, by omega, by go_num⟩
          case measure => simp [intOf]
        · go_wp2
          go_ret
          exact ⟨rfl, rfl⟩
  · rw [if_neg hx]
    have hx' : (x != 0) = true := by simpa using hx
    go_enter Try.func41, Try.ntmps41
    go_wp2
    refine wp_loop_rounds 1 ?_; rw [rounds_succ]
    go_wp2
    go_ret
    exact ⟨rfl, rfl⟩

def lexc (u v x y : Int) : Int := if cmp3 u v = 0 then cmp3 x y else cmp3 u v
theorem World.cell?_alloc_at2 (w : World) (cs : Array Value) {t : TypeId} (i : Nat) {v : Value} (h : cs[i]? = some v := by rfl) : (w.alloc (.cells cs t)).drew.cell? ⟨w.heap.size, i, none⟩ = some v := by
  have e : (w.alloc (.cells cs t)).heap[w.heap.size]? = some (.cells cs t) := heap_alloc_new w _
  show (w.alloc (.cells cs t)).cell? _ = _
  simp only [World.cell?, e]
  exact h

set_option maxRecDepth 20000 in
set_option maxHeartbeats 1000000 in
theorem hotter_any (x y : Int × Int) (W : World) :
    Calls Try.prog 32 #[.agg #[.int .i64 x.1, .int .i64 x.2], .agg #[.int .i64 y.1, .int .i64 y.2]] W fun e w' => e = .returned (.int .i64 (lexc y.2 x.2 x.1 y.1)) ∧ ∃ q os', w' = grow (W.drewN q) os' := by
  obtain ⟨f1, h1⟩ := x
  obtain ⟨f2, h2⟩ := y
  simp only
  have hq1 := compare_any h2 h1
  have hq2 := compare_any f1 f2
  generalize hw2 : ((W.alloc (.cells #[.int .i64 f1, .int .i64 h1] 74)).alloc (.cells #[.int .i64 f2, .int .i64 h2] 74)) = w2
  have hsz : W.heap.size + 1 + 1 = w2.heap.size := by rw [← hw2]; simp
  have ca0 : w2.cell? ⟨W.heap.size, 0, none⟩ = some (.int .i64 f1) := by rw [← hw2]; exact (World.cell?_alloc_lt _ _ _ (by simp)).trans (World.cell?_alloc_at2 W _ 0)
  have ca1 : w2.cell? ⟨W.heap.size, 1, none⟩ = some (.int .i64 h1) := by rw [← hw2]; exact (World.cell?_alloc_lt _ _ _ (by simp)).trans (World.cell?_alloc_at2 W _ 1)
  have cb0 : w2.cell? ⟨W.heap.size + 1, 0, none⟩ = some (.int .i64 f2) := by rw [← hw2]; have := World.cell?_alloc_at2 (W.alloc (.cells #[.int .i64 f1, .int .i64 h1] 74)) #[.int .i64 f2, .int .i64 h2] (t := 74) 0; rwa [World.size_alloc] at this
  have cb1 : w2.cell? ⟨W.heap.size + 1, 1, none⟩ = some (.int .i64 h2) := by rw [← hw2]; have := World.cell?_alloc_at2 (W.alloc (.cells #[.int .i64 f1, .int .i64 h1] 74)) #[.int .i64 f2, .int .i64 h2] (t := 74) 1; rwa [World.size_alloc] at this
  have hor := or2_any (cmp3 h2 h1) (cmp3 f1 f2) w2.heap.size 2 (w2.alloc (.cells #[.int .i64 (cmp3 h2 h1), .int .i64 (cmp3 f1 f2)] 3)).drew (World.cell?_alloc_at2 w2 _ 0) (World.cell?_alloc_at2 w2 _ 1)
  unfold lexc
  generalize cmp3 h2 h1 = c1 at *
  generalize cmp3 f1 f2 = c2 at *
  generalize (if c1 = 0 then c2 else c1) = r at *
  have hx1 : Calls Try.prog 42 #[.int .i64 h2, .int .i64 h1] w2.drew fun e w' => e = .returned (.int .i64 c1) ∧ w' = w2.drew := (hq1 _).mono fun e w' ⟨a, b⟩ => ⟨a, b.symm⟩
  have hx2 : Calls Try.prog 42 #[.int .i64 f1, .int .i64 f2] w2.drew fun e w' => e = .returned (.int .i64 c2) ∧ w' = w2.drew := (hq2 _).mono fun e w' ⟨a, b⟩ => ⟨a, b.symm⟩
  have hend : ∃ q os', (w2.alloc (.cells #[.int .i64 c1, .int .i64 c2] 3)).drew = grow (W.drewN q) os' := ⟨1, _, by rw [← hw2, alloc_eq_grow, alloc_eq_grow, alloc_eq_grow, grow_grow, grow_grow]; rfl⟩
  have HEND := Lib.hid hend
  have HOR := Lib.hid hor
  have HX1 := Lib.hid hx1
  have HX2 := Lib.hid hx2
  have HW := Lib.hid hw2
  have HS := Lib.hid hsz
  clear hor hq1 hq2 hx1 hx2 hend hsz hw2
  go_enter Try.func32, Try.ntmps32
  go_wp2_with fail
  rw [HW.out]
  refine wp_region_still_tail 10 (by kernel_rfl) (by kernel_rfl) ?_
  simp only [List.take_succ_cons, List.take_zero, List.drop_succ_cons, List.drop_zero]
  change wpStill _ _ w2.drew _ _ _
  repeat still_step
  still_call HX1.out
  repeat still_step
  still_call HX2.out
  repeat still_step
  try refine wpStill_nil ?_
  clear HX1 HX2 ca0 ca1 cb0 cb1
  go_wp2_with (go_at_call 41; refine HOR.out.mono ?_; rintro e w' ⟨rfl, rfl⟩)
  go_ret
  exact ⟨rfl, HEND.out⟩
end Go.Proofs.Ytmcejkimpjfmmaa
