/- SameInts; the page's example. -/
import Derived.Test.YtmcejkimpjfmmaaW
set_option linter.unusedVariables false
set_option linter.unusedSimpArgs false
namespace Go.Proofs.Ytmcejkimpjfmmaa
open Go.RowKit Go.Lib Go.Maps

/-- The first n elements behind A are X 0, X 1, .. -/
def RI (w : World) (A : Option Addr) (n : Nat) (X : Nat → Int) : Prop :=
  n ≤ 140737488351232 ∧ (0 < n → ∃ b o, A = some ⟨b, o, none⟩ ∧ ∀ j, j < n → w.cell? ⟨b, o + j, none⟩ = some (.int .i64 (X j)))
theorem RI.drewN {w : World} {A n X} (h : RI w A n X) (q : Nat) : RI (w.drewN q) A n X := h
theorem RI.block {w w' : World} {A n X} (h : RI w A n X) (hb : ∀ b o, A = some ⟨b, o, none⟩ → w'.heap[b]? = w.heap[b]?) : RI w' A n X :=
  ⟨h.1, fun h0 => by
    obtain ⟨b, o, e, hc⟩ := h.2 h0
    exact ⟨b, o, e, fun j hj => (World.cell?_of_block (hb b o e)).trans (hc j hj)⟩⟩

def sameB (n m : Nat) (X Y : Nat → Int) : Bool := decide (n = m ∧ ∀ j, j < n → X j = Y j)
theorem sameB_false {n m X Y} (j : Nat) (hj : j < n) (h : X j ≠ Y j) : sameB n m X Y = false := by
  simp only [sameB, decide_eq_false_iff_not]; intro ⟨_, k⟩; exact h (k j hj)

theorem sameB_true {n X Y} (h : ∀ j, j < n → X j = Y j) : sameB n n X Y = true := decide_eq_true ⟨rfl, h⟩

set_option maxHeartbeats 400000 in
theorem same_len (A B : Option Addr) (n m c d : Nat) (w : World) (h : n ≠ m) :
    Calls Try.prog 14 #[.slice A n c, .slice B m d] w fun e w' => e = .returned (.bool false) ∧ w' = w := by
  have hb : ((n : Int) != (m : Int)) = true := by rw [bne_iff_ne]; omega
  go_enter Try.func14, Try.ntmps14
  go_wp2
  go_ret
  exact ⟨rfl, rfl⟩

set_option maxHeartbeats 800000 in
theorem same_eq (A B : Option Addr) (n c d : Nat) (X Y : Nat → Int) (w : World) (hA : RI w A n X) (hB : RI w B n Y) :
    Calls Try.prog 14 #[.slice A n c, .slice B n d] w fun e w' => e = .returned (.bool (sameB n n X Y)) ∧ ∃ q, w' = w.drewN q := by
  have hn := hA.1
  by_cases h0 : 0 < n
  · obtain ⟨ba, oa, rfl, hca⟩ := hA.2 h0
    obtain ⟨bb, ob, rfl, hcb⟩ := hB.2 h0
    clear hA hB
    go_enter Try.func14, Try.ntmps14
    go_wp2
    go_loopw [5] (fun i wr => ∃ k q : Nat, k ≤ n ∧ i = .int .i64 k ∧ wr = w.drewN q ∧ Hid (∀ j, j < k → X j = Y j)) (fun i _ => n - (intOf i).toNat)
    case atStart => exact ⟨0, 0, by omega, rfl, rfl, fun j hj => by omega⟩
    case round =>
      obtain ⟨k, q, hk, rfl, rfl, hs⟩ := hrel
      by_cases hlt : k < n
      · have ca := hca k hlt
        have cb := hcb k hlt
        clear hca hcb
        generalize hx : X k = x at *
        generalize hy : Y k = y at *
        have HX := Lib.hid hx; clear hx
        have HY := Lib.hid hy; clear hy
        by_cases hxy : x = y
        · have HXY := Lib.hid hxy
          have hb : (x != y) = false := by simpa using hxy
          clear hxy
          go_wp2
          go_quiet (fail)
          go_wp2
          go_roundw
          case rel => exact ⟨k + 1, q + nq, by omega, by go_num, rfl, fun j hj => by
            rcases (show j < k ∨ j = k by omega) with h | rfl
            · exact hs.out j h
            · rw [HX.out, HY.out, HXY.out]⟩
          case measure => simp [intOf]; omega
        · have hb : (x != y) = true := by simpa using hxy
          go_wp2
          go_quiet (fail)
          go_wp2
          go_ret
          exact ⟨by rw [sameB_false k hlt (by rw [HX.out, HY.out]; exact hxy)]; rfl, q + nq, World.drewN_drewN ..⟩
      · go_wp2
        go_ret
        exact ⟨by rw [sameB_true (fun j hj => hs.out j (by omega))]; rfl, q, rfl⟩
  · obtain rfl : n = 0 := by omega
    go_enter Try.func14, Try.ntmps14
    go_wp2
    refine wp_loop_rounds 1 ?_; rw [rounds_succ]
    go_wp2
    go_ret
    exact ⟨by rw [sameB_true (fun j hj => by omega)]; rfl, 0, rfl⟩

theorem same_any (A B : Option Addr) (n m c d : Nat) (X Y : Nat → Int) (w : World) (hA : RI w A n X) (hB : RI w B m Y) :
    Calls Try.prog 14 #[.slice A n c, .slice B m d] w fun e w' => e = .returned (.bool (sameB n m X Y)) ∧ ∃ q, w' = w.drewN q := by
  by_cases h : n = m
  · subst h; exact same_eq A B n c d X Y w hA hB
  · refine (same_len A B n m c d w h).mono ?_
    rintro e w' ⟨rfl, rfl⟩
    exact ⟨by rw [show sameB n m X Y = false by simp [sameB, h]], 0, rfl⟩
theorem own_slice {w : World} {base n : Nat} {e : TypeId} {size : Nat} {v : Value} {xs : List Value} (h : w.ownsRow base e size v n xs) : ∃ A c, v = .slice A n c := by
  rcases h.2 with ⟨rfl, rfl⟩ | ⟨g, cap, cur, rfl, _⟩
  · exact ⟨none, 0, rfl⟩
  · exact ⟨_, cap, rfl⟩
/-- An owned row of numbers is read as them. -/
theorem own_RI {w : World} {base n : Nat} {A : Option Addr} {c : Nat} {ts : List Int} (h : w.ownsRow base 3 1 (.slice A n c) n (ts.map (Value.int .i64))) (hn : n ≤ 140737488351232) : RI w A n (fun j => ts.getD j 0) := by
  refine ⟨hn, fun h0 => ?_⟩
  rcases h.2 with ⟨h1, h2⟩ | ⟨g, cap, cur, h1, hb, hh, hc, _, hs, ht⟩
  · omega
  · cases h1
    refine ⟨g, 0, rfl, fun j hj => ?_⟩
    have hl : ts.length = n := by have := h.1; simpa using this
    have h3 : (cur.toList.take (n * 1))[j]? = (ts.map (Value.int .i64))[j]? := by rw [ht]
    rw [List.getElem?_take_of_lt (by omega)] at h3
    simp only [World.cell?, hh, Nat.zero_add, Option.isSome_none, Bool.false_eq_true, if_false]
    rw [← Array.getElem?_toList, h3]
    simp [show j < ts.length by omega]
theorem own_base {w : World} {base n : Nat} {e : TypeId} {size : Nat} {A : Option Addr} {c : Nat} {xs : List Value} (h : w.ownsRow base e size (.slice A n c) n xs) {b o : Nat} (hA : A = some ⟨b, o, none⟩) : base ≤ b ∧ b < w.heap.size := by
  rcases h.2 with ⟨h1, h2⟩ | ⟨g, cap, cur, h1, hb, hh, _⟩
  · cases h1; cases hA
  · cases h1; cases hA; exact ⟨hb, (Array.getElem?_eq_some_iff.1 hh).1⟩

/-- A literal of numbers is read as them. -/
theorem RI_new (w : World) (cs : Array Value) (t : TypeId) (n : Nat) (ts : List Int) (hn : ts.length = n) (hl : n ≤ 140737488351232) (h : cs.toList = ts.map (Value.int .i64)) : RI (w.alloc (.cells cs t)) (some ⟨w.heap.size, 0, none⟩) n (fun j => ts.getD j 0) := by
  refine ⟨hl, fun _ => ⟨_, _, rfl, fun j hj => ?_⟩⟩
  have e : (w.alloc (.cells cs t)).heap[w.heap.size]? = some (.cells cs t) := heap_alloc_new w _
  simp only [World.cell?, e, Option.isSome_none, Bool.false_eq_true, if_false, Nat.zero_add]
  rw [← Array.getElem?_toList, h]
  simp [show j < ts.length by omega]


theorem hot_L (least : Int) (w : World) {b hb wb m F G L} (p : ProfL w b hb wb m F G L) :
    Calls Try.prog 15 #[.pointer (some ⟨b, 0, none⟩), .int .i64 least] w fun e w' => ∃ v l, e = .returned v ∧ Hots (fun f => heatL L f) F least l ∧ w'.ownsRow w.heap.size 3 1 v l.length (l.map fun (f : Nat) => Value.int .i64 f) ∧ Below w.heap.size w w' := by
  obtain ⟨h, wn, wv, k, kf, P, hk, e1, e2, e3⟩ := p
  refine (hot_ok least w P).mono ?_
  rintro e w' ⟨v, l, rfl, hl, ho, hB⟩
  exact ⟨v, l, rfl, hl.congr e1, ho, hB⟩
theorem stable_L (w : World) {b hb wb m F G L} (p : ProfL w b hb wb m F G L) :
    Calls Try.prog 18 #[.pointer (some ⟨b, 0, none⟩)] w fun e w' => ∃ v, e = .returned v ∧ w'.ownsRow w.heap.size 50 2 v (stabL G (fun g => (wrL L g).1) (fun g => (wrL L g).2)).length (cells2 .u64 (stabL G (fun g => (wrL L g).1) (fun g => (wrL L g).2))) ∧ Below w.heap.size w w' := by
  obtain ⟨h, wn, wv, k, kf, P, hk, e1, e2, e3⟩ := p
  rw [← stabL_congr e2]
  exact stable_ok w P
def natX (l : List Nat) : Nat → Int := fun j => ((l.getD j 0 : Nat) : Int)
theorem own_nats {w : World} {base : Nat} {A : Option Addr} {c : Nat} {l : List Nat} (h : w.ownsRow base 3 1 (.slice A l.length c) l.length (l.map fun (f : Nat) => Value.int .i64 f)) (hn : l.length ≤ 140737488351232) : RI w A l.length (natX l) := by
  have e : (l.map fun (f : Nat) => Value.int .i64 f) = (l.map fun (f : Nat) => (f : Int)).map (Value.int .i64) := by rw [List.map_map]; rfl
  rw [e] at h
  have := own_RI h hn
  refine ⟨this.1, fun h0 => ?_⟩
  obtain ⟨b, o, e, hc⟩ := this.2 h0
  refine ⟨b, o, e, fun j hj => (hc j hj).trans ?_⟩
  simp [natX, List.getD, List.getElem?_map]
  cases l[j]? <;> rfl
theorem hots_small : ∀ l, Hots (fun f => heatL (tellL 2 1 (tellL 2 1 (tellL 2 1 (tellL 2 1 [] ⟨0, 1, 0, 0, 0, 0⟩) ⟨1, 1, 0, 0, 0, 0⟩) ⟨0, 0, 0, 0, 0, 0⟩) ⟨2, 0, 5, 0, 1, 0⟩) f) 2 1 l → l = [1, 0] := by
  intro l hl
  refine hl.uniq ⟨by decide, fun f => ?_, ?_⟩
  · constructor
    · intro h
      simp at h
      rcases h with rfl | rfl <;> decide
    · rintro ⟨h, _⟩
      simp; omega
  · simp; decide
theorem new21 (w : World) : Calls Try.prog 9 #[.int .i64 2, .int .i64 1] w (NewP 2 1 w) := new_ok 2 1 w (by omega)

set_option maxRecDepth 20000 in
set_option maxHeartbeats 2000000 in
theorem live_any (w : World) : Calls Try.prog 8 #[] w fun e w' => e = .returned (.bool true) ∧ Below w.heap.size w w' := by
  go_enter Try.func8, Try.ntmps8
  go_wp2_with fail
  refine (new21 w).mono ?_
  rintro e w1 ⟨b, hb, wb, m, rfl, P, hB1, g0, g1, g2, g3⟩
  have HP := Lib.hid (ProfL.start P)
  clear P
  go_wp2_with (go_at_call 10; refine (num_any _ _).mono ?_; rintro e w' ⟨rfl, rfl⟩)
  refine (begin_L ⟨0, 1, 0, 0, 0, 0⟩ w1 HP.out (.inl rfl) (by simp)).mono ?_
  rintro e w2 ⟨rfl, h2, o2⟩
  have hB2 := two_below hB1 o2 hB1.size g1 g2 g3
  have HP2 := Lib.hid h2
  clear h2 o2 HP hB1
  go_wp2_with fail
  refine (loop_L ⟨1, 1, 0, 0, 0, 0⟩ w2 HP2.out (.inr rfl) (by decide)).mono ?_
  rintro e w3 ⟨rfl, h3, o3⟩
  have hB3 := two_below hB2 o3 hB2.size g1 g2 g3
  have HP3 := Lib.hid h3
  clear h3 o3 HP2 hB2
  go_wp2_with fail
  refine (begin_L ⟨0, 0, 0, 0, 0, 0⟩ w3 HP3.out (.inl rfl) (by decide)).mono ?_
  rintro e w4 ⟨rfl, h4, o4⟩
  have hB4 := two_below hB3 o4 hB3.size g1 g2 g3
  have HP4 := Lib.hid h4
  clear h4 o4 HP3 hB3
  go_wp2_with fail
  refine (pair_L ⟨2, 0, 5, 0, 1, 0⟩ w4 HP4.out rfl (by decide)).mono ?_
  rintro e w5 ⟨rfl, h5, o5⟩
  have hB5 := two_below hB4 o5 hB4.size g1 g2 g3
  have HP5 := Lib.hid h5
  clear h5 o5 HP4 hB4
  go_wp2_with fail
  refine (kinds_L 0 5 w5 HP5.out).mono ?_
  rintro e w6 ⟨rfl, rfl⟩
  go_wp2_with fail
  refine (hot_L 1 w5 HP5.out).mono ?_
  rintro e w7 ⟨v, l, rfl, hl, hown, hB7⟩
  obtain rfl := hots_small l hl
  obtain ⟨A, c, rfl⟩ := own_slice hown
  have hR := own_nats hown (by simp)
  have hB8 := below_next hB5 hB5.size hB7
  have hlt : ∀ b' o', A = some ⟨b', o', none⟩ → b' < w7.heap.size := fun b' o' e => (own_base hown e).2
  have hR8 : RI (w7.alloc (.cells #[.int .i64 1, .int .i64 0] 3)) A 2 (natX [1, 0]) := hR.block (fun b' o' e => (below_alloc _).block b' (hlt b' o' e))
  have hN := RI_new w7 #[.int .i64 1, .int .i64 0] 3 2 [1, 0] rfl (by omega) rfl
  have hs := same_any A _ 2 2 c 2 _ _ _ hR8 hN
  rw [show sameB 2 2 (natX [1, 0]) (fun j => [(1 : Int), 0].getD j 0) = true from sameB_true (fun j hj => by rcases (show j = 0 ∨ j = 1 by omega) with rfl | rfl <;> rfl)] at hs
  have HS := Lib.hid hs
  have hk : (kindV 2 (tellL 2 1 (tellL 2 1 (tellL 2 1 (tellL 2 1 [] ⟨0, 1, 0, 0, 0, 0⟩) ⟨1, 1, 0, 0, 0, 0⟩) ⟨0, 0, 0, 0, 0, 0⟩) ⟨2, 0, 5, 0, 1, 0⟩) 0 5 == 33) = true := by decide
  have HB := Lib.hid (below_next hB8 hB8.size (below_alloc (.cells #[.int .i64 1, .int .i64 0] 3)))
  clear hs hR hN hR8 hlt hown hl hB7 hB8 hB5 HP5
  go_wp2_with fail
  refine HS.out.mono ?_
  rintro e w9 ⟨rfl, q, rfl⟩
  go_wp2_with fail
  refine (num_any _ _).mono ?_
  rintro e w' ⟨rfl, rfl⟩
  go_wp2_with fail
  go_ret
  exact ⟨rfl, below_drewN HB.out q⟩
end Go.Proofs.Ytmcejkimpjfmmaa
