/- The walks of SameInts, Choose, Draw, mod. -/
import Derived.Test.YtklbhidlbdabbaaC
set_option linter.unusedVariables false
set_option linter.unusedSimpArgs false
namespace Go.Proofs.Ytklbhidlbdabbaa
open Go.RowKit Go.Lib Go.Maps

/-- The first n elements behind A are X 0, X 1, .. -/
def RI (w : World) (A : Option Addr) (n : Nat) (X : Nat → Int) : Prop :=
  n ≤ 140737488351232 ∧ (0 < n → ∃ b o, A = some ⟨b, o, none⟩ ∧ ∀ j, j < n → w.cell? ⟨b, o + j, none⟩ = some (.int .i64 (X j)))
theorem RI.drewN {w : World} {A n X} (h : RI w A n X) (q : Nat) : RI (w.drewN q) A n X := h
theorem RI.block {w w' : World} {A n X} (h : RI w A n X) (hb : ∀ b o, A = some ⟨b, o, none⟩ → w'.heap[b]? = w.heap[b]?) : RI w' A n X :=
  ⟨h.1, fun h0 => by
    obtain ⟨b, o, e, hc⟩ := h.2 h0
    exact ⟨b, o, e, fun j hj => (World.cell?_of_block (hb b o e)).trans (hc j hj)⟩⟩

def sameB (n m : Nat) (X Y : Nat → Int) : Bool := decide (n = m ∧ ∀ j, j < n → X j = Y j)
theorem sameB_false {n m X Y} (j : Nat) (hj : j < n) (h : X j ≠ Y j) : sameB n m X Y = false := by
  simp only [sameB, decide_eq_false_iff_not]; intro ⟨_, k⟩; exact h (k j hj)

theorem sameB_true {n X Y} (h : ∀ j, j < n → X j = Y j) : sameB n n X Y = true := decide_eq_true ⟨rfl, h⟩

set_option maxHeartbeats 400000 in
theorem same_len (A B : Option Addr) (n m c d : Nat) (w : World) (h : n ≠ m) :
    Calls Try.prog 26 #[.slice A n c, .slice B m d] w fun e w' => e = .returned (.bool false) ∧ w' = w := by
  have hb : ((n : Int) != (m : Int)) = true := by rw [bne_iff_ne]; omega
  go_enter Try.func26, Try.ntmps26
  go_wp2
  go_ret
  exact ⟨rfl, rfl⟩

set_option maxHeartbeats 800000 in
theorem same_eq (A B : Option Addr) (n c d : Nat) (X Y : Nat → Int) (w : World) (hA : RI w A n X) (hB : RI w B n Y) :
    Calls Try.prog 26 #[.slice A n c, .slice B n d] w fun e w' => e = .returned (.bool (sameB n n X Y)) ∧ ∃ q, w' = w.drewN q := by
  have hn := hA.1
  by_cases h0 : 0 < n
  · obtain ⟨ba, oa, rfl, hca⟩ := hA.2 h0
    obtain ⟨bb, ob, rfl, hcb⟩ := hB.2 h0
    clear hA hB
    go_enter Try.func26, Try.ntmps26
    go_wp2
    go_loopw [5] (fun i wr => ∃ k q : Nat, k ≤ n ∧ i = .int .i64 k ∧ wr = w.drewN q ∧ Hid (∀ j, j < k → X j = Y j)) (fun i _ => n - (intOf i).toNat)
    case atStart => exact ⟨0, 0, by omega, rfl, rfl, fun j hj => by omega⟩
    case round =>
      obtain ⟨k, q, hk, rfl, rfl, hs⟩ := hrel
      by_cases hlt : k < n
      · have ca := hca k hlt
        have cb := hcb k hlt
        clear hca hcb
        generalize hx : X k = x at *
        generalize hy : Y k = y at *
        have HX := Lib.hid hx; clear hx
        have HY := Lib.hid hy; clear hy
        by_cases hxy : x = y
        · have HXY := Lib.hid hxy
          have hb : (x != y) = false := by simpa using hxy
          clear hxy
          go_wp2
          go_quiet (fail)
          go_wp2
          go_roundw
          case rel => exact ⟨k + 1, q + nq, by omega, by go_num, rfl, fun j hj => by
            rcases (show j < k ∨ j = k by omega) with h | rfl
            · exact hs.out j h
            · rw [HX.out, HY.out, HXY.out]⟩
          case measure => simp [intOf]; omega
        · have hb : (x != y) = true := by simpa using hxy
          go_wp2
          go_quiet (fail)
          go_wp2
          go_ret
          exact ⟨by rw [sameB_false k hlt (by rw [HX.out, HY.out]; exact hxy)]; rfl, q + nq, World.drewN_drewN ..⟩
      · go_wp2
        go_ret
        exact ⟨by rw [sameB_true (fun j hj => hs.out j (by omega))]; rfl, q, rfl⟩
  · obtain rfl : n = 0 := by omega
    go_enter Try.func26, Try.ntmps26
    go_wp2
    refine wp_loop_rounds 1 ?_; rw [rounds_succ]
    go_wp2
    go_ret
    exact ⟨by rw [sameB_true (fun j hj => by omega)]; rfl, 0, rfl⟩

theorem same_any (A B : Option Addr) (n m c d : Nat) (X Y : Nat → Int) (w : World) (hA : RI w A n X) (hB : RI w B m Y) :
    Calls Try.prog 26 #[.slice A n c, .slice B m d] w fun e w' => e = .returned (.bool (sameB n m X Y)) ∧ ∃ q, w' = w.drewN q := by
  by_cases h : n = m
  · subst h; exact same_eq A B n c d X Y w hA hB
  · refine (same_len A B n m c d w h).mono ?_
    rintro e w' ⟨rfl, rfl⟩
    exact ⟨by rw [show sameB n m X Y = false by simp [sameB, h]], 0, rfl⟩

theorem ret_i {a b : Int} (h : a = b) : Ending.returned (.int .i64 a) = Ending.returned (.int .i64 b) := by rw [h]
theorem ret_2 {a b : Int} {v : Value} (h : a = b) : Ending.returned (.tuple #[.int .i64 a, v]) = Ending.returned (.tuple #[.int .i64 b, v]) := by rw [h]
theorem emod_of {k n r q : Int} (h : k = n * q + r) (h0 : 0 ≤ r) (h1 : r < n) : k % n = r := by
  rw [h, Int.add_comm, Int.add_mul_emod_self_left, Int.emod_eq_of_lt h0 h1]
theorem tmod_pos (k n : Int) (hn : 1 ≤ n) (h : 0 ≤ k.tmod n) : k % n = k.tmod n :=
  emod_of (q := k.tdiv n) (by have := Int.mul_tdiv_add_tmod k n; omega) h (Int.tmod_lt_of_pos k (by omega))
theorem tmod_neg (k n : Int) (hn : 1 ≤ n) (h : k.tmod n < 0) : k % n = k.tmod n + n :=
  emod_of (q := k.tdiv n - 1) (by have := Int.mul_tdiv_add_tmod k n; rw [Int.mul_sub]; omega) (by have := Int.lt_tmod_of_pos k (show 0 < n by omega); omega) (by omega)

set_option maxHeartbeats 400000 in
theorem mod_any (k n : Int) (w : World) (hn : 1 ≤ n) (hn2 : n ≤ 9223372036854775807) :
   Calls Try.prog 28 #[.int .i64 k, .int .i64 n] w fun e w' => e = .returned (.int .i64 (k % n)) ∧ w = w' := by
  have hb1 : -n < k.tmod n := Int.lt_tmod_of_pos k (by omega)
  have hp := tmod_pos k n hn
  have hq := tmod_neg k n hn
  have HP := Lib.hid hp; clear hp
  have HQ := Lib.hid hq; clear hq
  go_enter Try.func28, Try.ntmps28
  go_wp2
  · have h : k.tmod n < 0 := by assumption
    go_ret
    exact ⟨ret_i (HQ.out h).symm, rfl⟩
  · have h : 0 ≤ k.tmod n := by assumption
    go_ret
    exact ⟨ret_i (HP.out h).symm, rfl⟩

theorem emod_bd (k n : Int) (h : 1 ≤ n) : 0 ≤ k % n ∧ k % n < n := ⟨Int.emod_nonneg k (by omega), Int.emod_lt_of_pos k (by omega)⟩

theorem refmod_eq (k n : Int) (hn : 1 ≤ n) : (k.tmod n + n) % n = k % n := by
  rw [Int.add_emod_right]
  have h := Int.mul_tdiv_add_tmod k n
  have e : k % n = (n * k.tdiv n + k.tmod n) % n := by rw [h]
  rw [e, Int.add_comm, Int.add_mul_emod_self_left]

set_option maxHeartbeats 400000 in
theorem refmod_any (k n : Int) (w : World) (hn : 1 ≤ n) (hn2 : n ≤ 4611686018427387904) :
   Calls Try.prog 29 #[.int .i64 k, .int .i64 n] w fun e w' => e = .returned (.int .i64 (k % n)) ∧ w = w' := by
  have hb1 : -n < k.tmod n := Int.lt_tmod_of_pos k (by omega)
  have hb2 : k.tmod n < n := Int.tmod_lt_of_pos k (by omega)
  go_enter Try.func29, Try.ntmps29
  go_wp2
  go_ret
  exact ⟨ret_i (refmod_eq k n hn), rfl⟩

set_option maxHeartbeats 400000 in
theorem choose_none (A : Option Addr) (c : Nat) (k : Int) (w : World) :
    Calls Try.prog 8 #[.slice A 0 c, .int .i64 k] w fun e w' => e = .returned (.tuple #[.int .i64 0, .bool false]) ∧ w = w' := by
  go_enter Try.func8, Try.ntmps8
  go_wp2
  go_ret2
  exact ⟨rfl, rfl⟩
set_option maxHeartbeats 400000 in
theorem refchoose_none (A : Option Addr) (c : Nat) (k : Int) (w : World) :
    Calls Try.prog 10 #[.slice A 0 c, .int .i64 k] w fun e w' => e = .returned (.tuple #[.int .i64 0, .bool false]) ∧ w = w' := by
  go_enter Try.func10, Try.ntmps10
  go_wp2
  go_ret2
  exact ⟨rfl, rfl⟩

set_option maxHeartbeats 400000 in
theorem choose_some (A : Option Addr) (n c : Nat) (X : Nat → Int) (k : Int) (w : World) (hA : RI w A n X) (h0 : 0 < n) :
    Calls Try.prog 8 #[.slice A n c, .int .i64 k] w fun e w' => e = .returned (.tuple #[.int .i64 (X (k % n).toNat), .bool true]) ∧ w = w' := by
  have hn := hA.1
  obtain ⟨ba, oa, rfl, hca⟩ := hA.2 h0
  clear hA
  have hb := emod_bd k n (by omega)
  obtain ⟨j, hj⟩ : ∃ j : Nat, k % n = j := ⟨_, (Int.toNat_of_nonneg hb.1).symm⟩
  have hm := mod_any k n
  rw [hj] at hb hm ⊢
  have ca := hca j (by omega)
  rw [Int.toNat_natCast]
  generalize X j = x at *
  have hz : ((n : Int) == 0) = false := by rw [beq_eq_false_iff_ne]; omega
  clear hca hj
  have hlt : j < n := by omega
  have HM := Lib.hid hm; clear hm
  go_enter Try.func8, Try.ntmps8
  go_wp2_with (go_at_call 28; refine (HM.out _ (by omega) (by omega)).mono ?_; rintro e w' ⟨rfl, rfl⟩)
  go_ret2
  exact ⟨rfl, rfl⟩

set_option maxHeartbeats 400000 in
theorem refchoose_some (A : Option Addr) (n c : Nat) (X : Nat → Int) (k : Int) (w : World) (hA : RI w A n X) (h0 : 0 < n) :
    Calls Try.prog 10 #[.slice A n c, .int .i64 k] w fun e w' => e = .returned (.tuple #[.int .i64 (X (k % n).toNat), .bool true]) ∧ w = w' := by
  have hn := hA.1
  obtain ⟨ba, oa, rfl, hca⟩ := hA.2 h0
  clear hA
  have hb := emod_bd k n (by omega)
  obtain ⟨j, hj⟩ : ∃ j : Nat, k % n = j := ⟨_, (Int.toNat_of_nonneg hb.1).symm⟩
  have hm := refmod_any k n
  rw [hj] at hb hm ⊢
  have ca := hca j (by omega)
  rw [Int.toNat_natCast]
  generalize X j = x at *
  have hz : ((n : Int) == 0) = false := by rw [beq_eq_false_iff_ne]; omega
  clear hca hj
  have hlt : j < n := by omega
  have HM := Lib.hid hm; clear hm
  go_enter Try.func10, Try.ntmps10
  go_wp2_with (go_at_call 29; refine (HM.out _ (by omega) (by omega)).mono ?_; rintro e w' ⟨rfl, rfl⟩)
  go_ret2
  exact ⟨rfl, rfl⟩

set_option maxHeartbeats 400000 in
theorem draw_arg (A : Option Addr) (n c : Nat) (i m : Int) (w : World) (h : i < 0 ∨ m < 1) :
    Calls Try.prog 11 #[.slice A n c, .int .i64 i, .int .i64 m] w fun e w' => e = .returned (.tuple #[.int .i64 0, .int .i64 1]) ∧ w = w' := by
  have h' : i < 0 ∨ (0 ≤ i ∧ m < 1) := by omega
  clear h
  rcases h' with h | ⟨h, h'⟩ <;>
  · go_enter Try.func11, Try.ntmps11
    go_wp2
    go_ret2
    exact ⟨rfl, rfl⟩
set_option maxHeartbeats 400000 in
theorem refdraw_arg (A : Option Addr) (n c : Nat) (i m : Int) (w : World) (h : i < 0 ∨ m < 1) :
    Calls Try.prog 12 #[.slice A n c, .int .i64 i, .int .i64 m] w fun e w' => e = .returned (.tuple #[.int .i64 0, .int .i64 1]) ∧ w = w' := by
  have h' : i < 0 ∨ (0 ≤ i ∧ m < 1) := by omega
  clear h
  rcases h' with h | ⟨h, h'⟩ <;>
  · go_enter Try.func12, Try.ntmps12
    go_wp2
    go_ret2
    exact ⟨rfl, rfl⟩
set_option maxHeartbeats 400000 in
theorem draw_none (A : Option Addr) (c : Nat) (i m : Int) (w : World) (h : 0 ≤ i) (h1 : 1 ≤ m) :
    Calls Try.prog 11 #[.slice A 0 c, .int .i64 i, .int .i64 m] w fun e w' => e = .returned (.tuple #[.int .i64 0, .int .i64 0]) ∧ w = w' := by
  go_enter Try.func11, Try.ntmps11
  go_wp2
  go_ret2
  exact ⟨rfl, rfl⟩
set_option maxHeartbeats 400000 in
theorem refdraw_none (A : Option Addr) (c : Nat) (i m : Int) (w : World) (h : 0 ≤ i) (h1 : 1 ≤ m) :
    Calls Try.prog 12 #[.slice A 0 c, .int .i64 i, .int .i64 m] w fun e w' => e = .returned (.tuple #[.int .i64 0, .int .i64 0]) ∧ w = w' := by
  go_enter Try.func12, Try.ntmps12
  go_wp2
  go_ret2
  exact ⟨rfl, rfl⟩

set_option maxHeartbeats 400000 in
theorem draw_some (A : Option Addr) (n c : Nat) (X : Nat → Int) (i m : Int) (w : World) (hA : RI w A n X) (h0 : 0 < n) (h : 0 ≤ i) (h1 : 1 ≤ m) (h2 : m ≤ 9223372036854775807) :
    Calls Try.prog 11 #[.slice A n c, .int .i64 i, .int .i64 m] w fun e w' => e = .returned (.tuple #[.int .i64 (X (i % n).toNat % m), .int .i64 0]) ∧ w = w' := by
  have hn := hA.1
  obtain ⟨ba, oa, rfl, hca⟩ := hA.2 h0
  clear hA
  have hb := emod_bd i n (by omega)
  have ca := hca (i % n).toNat (by omega)
  generalize X (i % n).toNat = x at *
  have hz : ((n : Int) == 0) = false := by rw [beq_eq_false_iff_ne]; omega
  have hz1 : ¬ (n : Int) = 0 := by omega
  clear hca
  go_enter Try.func11, Try.ntmps11
  go_wp2_with (go_at_call 28; refine (mod_any _ _ _ (by omega) (by omega)).mono ?_; rintro e w' ⟨rfl, rfl⟩)
  go_ret2
  exact ⟨rfl, rfl⟩

set_option maxHeartbeats 400000 in
theorem refdraw_some (A : Option Addr) (n c : Nat) (X : Nat → Int) (i m : Int) (w : World) (hA : RI w A n X) (h0 : 0 < n) (h : 0 ≤ i) (h1 : 1 ≤ m) (h2 : m ≤ 9223372036854775807) :
    Calls Try.prog 12 #[.slice A n c, .int .i64 i, .int .i64 m] w fun e w' => e = .returned (.tuple #[.int .i64 (X (i % n).toNat % m), .int .i64 0]) ∧ w = w' := by
  have hn := hA.1
  obtain ⟨ba, oa, rfl, hca⟩ := hA.2 h0
  clear hA
  have hb := emod_bd i n (by omega)
  have ca := hca (i % n).toNat (by omega)
  generalize X (i % n).toNat = x at *
  have hz : ((n : Int) == 0) = false := by rw [beq_eq_false_iff_ne]; omega
  have hz1 : ¬ (n : Int) = 0 := by omega
  clear hca
  have hb1 : -m < x.tmod m := Int.lt_tmod_of_pos x (by omega)
  have HP := Lib.hid (tmod_pos x m h1)
  have HQ := Lib.hid (tmod_neg x m h1)
  go_enter Try.func12, Try.ntmps12
  go_wp2
  · have h : x.tmod m < 0 := by assumption
    go_ret2
    exact ⟨ret_2 (HQ.out h).symm, rfl⟩
  · have h : 0 ≤ x.tmod m := by assumption
    go_ret2
    exact ⟨ret_2 (HP.out h).symm, rfl⟩
end Go.Proofs.Ytklbhidlbdabbaa
