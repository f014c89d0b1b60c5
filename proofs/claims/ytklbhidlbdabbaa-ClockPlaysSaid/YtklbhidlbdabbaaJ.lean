/- The walks of the laws ClockRounds and ClockPicks. -/
import Derived.Test.YtklbhidlbdabbaaI
import Derived.OpenShut
set_option linter.unusedVariables false
set_option linter.unusedSimpArgs false
namespace Go.Proofs.Ytklbhidlbdabbaa
open Go.RowKit Go.Lib Go.Maps Go.Sort

theorem choose_at (A : Option Addr) (n c : Nat) (X : Nat → Int) (k j : Int) (w : World) (hA : RI w A n X) (h0 : 0 < n) (h : k % n = j) :
    Calls Try.prog 8 #[.slice A n c, .int .i64 k] w fun e w' => e = .returned (.tuple #[.int .i64 (X j.toNat), .bool true]) ∧ w = w' := by
  rw [← h]; exact choose_some A n c X k w hA h0

set_option maxHeartbeats 400000 in
theorem rounds_far (A : Option Addr) (n c : Nat) (k : Int) (w : World) (h : n < 1 ∨ 100 < n) (hk : -32768 ≤ k ∧ k ≤ 32767) (hm : n ≤ 9223372036854775807) :
    Calls Try.prog 3 #[.slice A n c, .int .i16 k] w fun e w' => e = .returned (.bool true) ∧ Below w.heap.size w w' := by
  rcases h with h | h
  · obtain rfl : n = 0 := by omega
    go_enter Try.func3, Try.ntmps3
    go_wp2_with fail
    refine (choose_none _ _ _ _).mono ?_
    rintro e w1 ⟨rfl, rfl⟩
    go_wp2_with fail
    refine (live_any _).mono ?_
    rintro e w1 ⟨rfl, hB⟩
    go_wp2_with fail
    go_ret
    exact ⟨rfl, hB⟩
  · go_enter Try.func3, Try.ntmps3
    go_wp2_with fail
    refine (choose_none _ _ _ _).mono ?_
    rintro e w1 ⟨rfl, rfl⟩
    go_wp2_with fail
    refine (live_any _).mono ?_
    rintro e w1 ⟨rfl, hB⟩
    go_wp2_with fail
    go_ret
    exact ⟨rfl, hB⟩

set_option maxRecDepth 100000 in
set_option maxHeartbeats 1000000 in
theorem rounds_near (A : Option Addr) (n c : Nat) (X : Nat → Int) (k : Int) (w : World) (h0 : 1 ≤ n) (h1 : n ≤ 100) (hk : -32768 ≤ k ∧ k ≤ 32767) (hA : RI w A n X) :
    Calls Try.prog 3 #[.slice A n c, .int .i16 k] w fun e w' => e = .returned (.bool true) ∧ Below w.heap.size w w' := by
  obtain ⟨hk1, hk2⟩ := hk
  obtain ⟨b, o, rfl, hc⟩ := hA.2 (by omega)
  have HA := Lib.hid hA; clear hA
  have HC := Lib.hid hc; clear hc
  go_enter Try.func3, Try.ntmps3
  go_wp2_with fail
  go_loop [8] (fun i => ∃ j : Nat, j ≤ n ∧ i = .int .i64 j) (fun i => n - (intOf i).toNat)
  case atStart => exact ⟨0, by omega, rfl⟩
  case round =>
    obtain ⟨j, hj, rfl⟩ := hrel
    by_cases hlt : j < n
    · have e1 : (k + (j : Int)) % n = (k + j) % n := rfl
      have e2 : (k + (j : Int) + n) % n = (k + j) % n := Int.add_emod_right ..
      have e3 : (k + (j : Int) - n) % n = (k + j) % n := Int.sub_emod_right ..
      have e4 : (j : Int) % n = j := Int.emod_eq_of_lt (by omega) (by omega)
      have c1 := choose_at _ n c X _ _ w HA.out h0 e1
      have c2 := choose_at _ n c X _ _ w HA.out h0 e2
      have c3 := choose_at _ n c X _ _ w HA.out h0 e3
      have c4 := choose_at _ n c X _ _ w HA.out h0 e4
      have ca := HC.out j hlt
      clear e1 e2 e3 e4
      rw [Int.toNat_natCast] at c4
      generalize X ((k + (j : Int)) % n).toNat = x at c1 c2 c3
      generalize X j = y at c4 ca
      have C1 := Lib.hid c1; clear c1
      have C2 := Lib.hid c2; clear c2
      have C3 := Lib.hid c3; clear c3
      have C4 := Lib.hid c4; clear c4
      go_wp2_with fail
      refine C1.out.mono ?_
      rintro e w1 ⟨rfl, rfl⟩
      go_wp2_with fail
      refine C2.out.mono ?_
      rintro e w1 ⟨rfl, rfl⟩
      go_wp2_with fail
      refine C3.out.mono ?_
      rintro e w1 ⟨rfl, rfl⟩
      go_wp2_with fail
      refine C4.out.mono ?_
      rintro e w1 ⟨rfl, rfl⟩
      go_wp2_with fail
      go_round
      case rel => exact ⟨j + 1, by omega, by go_num⟩
      case measure => simp [intOf]; omega
    · go_wp2_with fail
      refine (live_any _).mono ?_
      rintro e w1 ⟨rfl, hB⟩
      go_wp2_with fail
      go_ret
      exact ⟨rfl, hB⟩

/-- What 'Choose' tells: both texts alike. -/
theorem choose_two (A : Option Addr) (n c : Nat) (X : Nat → Int) (k : Int) (w : World) (hA : RI w A n X) : ∃ (t : Int) (ok : Bool),
    (Calls Try.prog 8 #[.slice A n c, .int .i64 k] w fun e w' => e = .returned (.tuple #[.int .i64 t, .bool ok]) ∧ w = w') ∧
    (Calls Try.prog 10 #[.slice A n c, .int .i64 k] w fun e w' => e = .returned (.tuple #[.int .i64 t, .bool ok]) ∧ w = w') := by
  by_cases h0 : 0 < n
  · exact ⟨_, _, choose_some A n c X k w hA h0, refchoose_some A n c X k w hA h0⟩
  · obtain rfl : n = 0 := by omega
    exact ⟨_, _, choose_none A c k w, refchoose_none A c k w⟩
theorem draw_two (A : Option Addr) (n c : Nat) (X : Nat → Int) (i m : Int) (w : World) (hA : RI w A n X) (hm : m ≤ 9223372036854775807) : ∃ (t e0 : Int),
    (Calls Try.prog 11 #[.slice A n c, .int .i64 i, .int .i64 m] w fun e w' => e = .returned (.tuple #[.int .i64 t, .int .i64 e0]) ∧ w = w') ∧
    (Calls Try.prog 12 #[.slice A n c, .int .i64 i, .int .i64 m] w fun e w' => e = .returned (.tuple #[.int .i64 t, .int .i64 e0]) ∧ w = w') := by
  by_cases h : i < 0 ∨ m < 1
  · exact ⟨_, _, draw_arg A n c i m w h, refdraw_arg A n c i m w h⟩
  · by_cases h0 : 0 < n
    · exact ⟨_, _, draw_some A n c X i m w hA h0 (by omega) (by omega) hm, refdraw_some A n c X i m w hA h0 (by omega) (by omega) hm⟩
    · obtain rfl : n = 0 := by omega
      exact ⟨_, _, draw_none A c i m w (by omega) (by omega), refdraw_none A c i m w (by omega) (by omega)⟩

set_option maxHeartbeats 400000 in
theorem picks_far (A : Option Addr) (n c : Nat) (i m : Int) (w : World) (h : 300 < n) (hm : n ≤ 9223372036854775807) :
    Calls Try.prog 4 #[.slice A n c, .int .i64 i, .int .i64 m] w fun e w' => e = .returned (.bool true) ∧ Below w.heap.size w w' := by
  go_enter Try.func4, Try.ntmps4
  go_wp2_with fail
  refine (live_any _).mono ?_
  rintro e w1 ⟨rfl, hB⟩
  go_wp2_with fail
  go_ret
  exact ⟨rfl, hB⟩

set_option maxRecDepth 100000 in
set_option maxHeartbeats 1000000 in
theorem picks_near (A : Option Addr) (n c : Nat) (X : Nat → Int) (i m : Int) (w : World) (h : n ≤ 300) (hA : RI w A n X) (hm : m ≤ 9223372036854775807) :
    Calls Try.prog 4 #[.slice A n c, .int .i64 i, .int .i64 m] w fun e w' => e = .returned (.bool true) ∧ Below w.heap.size w w' := by
  obtain ⟨t, ok, c1, c2⟩ := choose_two A n c X i w hA
  obtain ⟨d, e0, c3, c4⟩ := draw_two A n c X i m w hA hm
  have C1 := Lib.hid c1; clear c1
  have C2 := Lib.hid c2; clear c2
  have C3 := Lib.hid c3; clear c3
  have C4 := Lib.hid c4; clear c4
  clear hA
  go_enter Try.func4, Try.ntmps4
  go_wp2_with fail
  refine C1.out.mono ?_
  rintro e w1 ⟨rfl, rfl⟩
  go_wp2_with fail
  refine C2.out.mono ?_
  rintro e w1 ⟨rfl, rfl⟩
  go_wp2_with fail
  refine C3.out.mono ?_
  rintro e w1 ⟨rfl, rfl⟩
  go_wp2_with fail
  refine C4.out.mono ?_
  rintro e w1 ⟨rfl, rfl⟩
  go_wp2_with (go_at_call 13; refine (num_any _ _).mono ?_; rintro e w' ⟨rfl, rfl⟩)
  refine (live_any _).mono ?_
  rintro e w1 ⟨rfl, hB⟩
  go_wp2_with fail
  go_ret
  exact ⟨rfl, hB⟩

/-- A row of numbers that came in. -/
theorem RI_of_row {w : World} {x : Addr} {len cap : Nat} {zs : List Int} (hl : len ≤ cap) (hz : zs.length = cap) (hs : len ≤ 140737488351232)
    (hc : ∀ i, i < zs.length → w.cell? (x.add i) = some (.int .i64 (zs.getD i 0))) : RI w (some x) len (fun j => zs.getD j 0) := by
  refine ⟨hs, fun h0 => ?_⟩
  obtain ⟨b, o, rfl, h⟩ := ints_at hc (by omega)
  exact ⟨b, o, rfl, fun j hj => h j (by omega)⟩
theorem RI_none (w : World) (X : Nat → Int) : RI w none 0 X := ⟨by decide, fun h => by omega⟩
theorem i16_of {x : Int} (h : (Lit.int .i16 x).wf = true) : -32768 ≤ x ∧ x ≤ 32767 := by
  have hmin : IntKind.i16.min = -32768 := rfl
  have hmax : IntKind.i16.max = 32767 := rfl
  simp only [Lit.wf, Bool.and_eq_true, decide_eq_true_eq] at h
  omega
theorem rounds_all (a : Option Addr) (len cap : Nat) (zs : List Int) (k : Int) (w : World) (hk : (Lit.int .i16 k).wf = true)
    (h : (a = none ∧ len = 0 ∧ cap = 0 ∧ zs = []) ∨ ∃ x, a = some x ∧ len ≤ cap ∧ cap ≤ maxLen ∧ zs.length = cap ∧ (∀ i, i < zs.length → w.cell? (x.add i) = some (.int .i64 (zs.getD i 0))) ∧ ∀ n ∈ zs, (Lit.int .i64 n).wf = true) :
    Calls Try.prog 3 #[.slice a len cap, .int .i16 k] w fun e w' => e = .returned (.bool true) ∧ Below w.heap.size w w' := by
  rcases h with ⟨rfl, rfl, rfl, rfl⟩ | ⟨x, rfl, hl, hm, hz, hc, hw⟩
  · exact rounds_far none 0 0 k w (.inl (by omega)) (i16_of hk) (by omega)
  · unfold maxLen at hm
    by_cases h : len < 1 ∨ 100 < len
    · exact rounds_far _ len cap k w h (i16_of hk) (by omega)
    · exact rounds_near _ len cap _ k w (by omega) (by omega) (i16_of hk) (RI_of_row hl hz (by omega) hc)
theorem picks_all (a : Option Addr) (len cap : Nat) (zs : List Int) (i m : Int) (w : World) (hk : (Lit.int .i64 m).wf = true)
    (h : (a = none ∧ len = 0 ∧ cap = 0 ∧ zs = []) ∨ ∃ x, a = some x ∧ len ≤ cap ∧ cap ≤ maxLen ∧ zs.length = cap ∧ (∀ i, i < zs.length → w.cell? (x.add i) = some (.int .i64 (zs.getD i 0))) ∧ ∀ n ∈ zs, (Lit.int .i64 n).wf = true) :
    Calls Try.prog 4 #[.slice a len cap, .int .i64 i, .int .i64 m] w fun e w' => e = .returned (.bool true) ∧ Below w.heap.size w w' := by
  have hm2 := (of_wf hk).2
  rcases h with ⟨rfl, rfl, rfl, rfl⟩ | ⟨x, rfl, hl, hm, hz, hc, hw⟩
  · exact picks_near none 0 0 (fun _ => 0) i m w (by omega) (RI_none w _) hm2
  · unfold maxLen at hm
    by_cases h : 300 < len
    · exact picks_far _ len cap i m w h (by omega)
    · exact picks_near _ len cap _ i m w (by omega) (RI_of_row hl hz (by omega) hc) hm2
end Go.Proofs.Ytklbhidlbdabbaa
