/- When the first one awakes; the page's examples. -/
import Derived.Test.YtklbhidlbdabbaaH
set_option linter.unusedVariables false
set_option linter.unusedSimpArgs false
namespace Go.Proofs.Ytklbhidlbdabbaa
open Go.RowKit Go.Lib Go.Maps Go.Sort

theorem own_slice {w : World} {base n : Nat} {e : TypeId} {size : Nat} {v : Value} {xs : List Value} (h : w.ownsRow base e size v n xs) : ∃ A c, v = .slice A n c := by
  rcases h.2 with ⟨rfl, rfl⟩ | ⟨g, cap, cur, rfl, _⟩
  · exact ⟨none, 0, rfl⟩
  · exact ⟨_, cap, rfl⟩
/-- An owned row of numbers is read as them. -/
theorem own_RI {w : World} {base n : Nat} {A : Option Addr} {c : Nat} {ts : List Int} (h : w.ownsRow base 3 1 (.slice A n c) n (ts.map (Value.int .i64))) (hn : n ≤ 140737488351232) : RI w A n (fun j => ts.getD j 0) := by
  refine ⟨hn, fun h0 => ?_⟩
  rcases h.2 with ⟨h1, h2⟩ | ⟨g, cap, cur, h1, hb, hh, hc, _, hs, ht⟩
  · omega
  · cases h1
    refine ⟨g, 0, rfl, fun j hj => ?_⟩
    have hl : ts.length = n := by have := h.1; simpa using this
    have h3 : (cur.toList.take (n * 1))[j]? = (ts.map (Value.int .i64))[j]? := by rw [ht]
    rw [List.getElem?_take_of_lt (by omega)] at h3
    simp only [World.cell?, hh, Nat.zero_add, Option.isSome_none, Bool.false_eq_true, if_false]
    rw [← Array.getElem?_toList, h3]
    simp [show j < ts.length by omega]
theorem own_base {w : World} {base n : Nat} {e : TypeId} {size : Nat} {A : Option Addr} {c : Nat} {xs : List Value} (h : w.ownsRow base e size (.slice A n c) n xs) {b o : Nat} (hA : A = some ⟨b, o, none⟩) : base ≤ b ∧ b < w.heap.size := by
  rcases h.2 with ⟨h1, h2⟩ | ⟨g, cap, cur, h1, hb, hh, _⟩
  · cases h1; cases hA
  · cases h1; cases hA; exact ⟨hb, (Array.getElem?_eq_some_iff.1 hh).1⟩

set_option maxHeartbeats 400000 in
theorem num_any (x : Int) (w : World) : Calls Try.prog 13 #[.int .i64 x] w fun e w' => e = .returned (.int .i64 x) ∧ w = w' := by
  go_enter Try.func13, Try.ntmps13
  go_wp2
  go_ret
  exact ⟨rfl, rfl⟩

set_option maxHeartbeats 400000 in
theorem new_any0 (w : World) : Calls Try.prog 14 #[] w fun e w' => e = .returned (.pointer (some ⟨w.heap.size + 1, 0, none⟩)) ∧
    w' = (w.alloc (.map #[] 0)).alloc (.cells #[.int .i64 0, .map (some w.heap.size)] 64) := by
  have hmm := @run_makeMap Try.prog
  go_enter Try.func14, Try.ntmps14
  go_wp2
  go_ret
  exact ⟨rfl, rfl⟩
theorem new_any (w : World) : Calls Try.prog 14 #[] w fun e w' => ∃ b m, e = .returned (.pointer (some ⟨b, 0, none⟩)) ∧ w.heap.size ≤ b ∧ w.heap.size ≤ m ∧
    IsClock w' b m 0 0 (fun _ => none) ∧ Below w.heap.size w w' :=
  (new_any0 w).mono fun e w' ⟨he, hw⟩ => by
    subst hw
    have h1 := heap_alloc_new (w.alloc (.map #[] 0)) (.cells #[.int .i64 0, .map (some w.heap.size)] 64)
    rw [World.size_alloc] at h1
    exact ⟨_, _, he, by omega, Nat.le_refl _, ⟨h1, (MapF.made w).kept (World.grownBy_alloc _ _ none) (by simp)⟩, ((Below.refl _ w).alloc (Nat.le_refl _) _).alloc (by simp) _⟩

/-- Of a clock of the call's own. -/
theorem two_below {B : Nat} {w w1 w2 : World} {b m : Nat} (h : Below B w w1) (h2 : Only (Two b m) w1 w2) (hB : B ≤ w1.heap.size) (hb : B ≤ b) (hm : B ≤ m) : Below B w w2 :=
  h.trans (Only.toBelow (h2.mono (fun i _ hi => by rcases hi with rfl | rfl <;> assumption)) hB)

theorem IsClock.below {w w' : World} {b m k now f} (h : IsClock w b m k now f) (hB : Below w.heap.size w w') : IsClock w' b m k now f := h.block (hB.block b h.lt) (hB.block m h.2.lt)
theorem IsClock.drewN {w : World} {b m k now f} (h : IsClock w b m k now f) (q : Nat) : IsClock (w.drewN q) b m k now f := h
theorem below_alloc {w : World} (o : Obj) : Below w.heap.size w (w.alloc o) := (Below.refl _ w).alloc (Nat.le_refl _) o
theorem below_drewN {B : Nat} {w w' : World} (h : Below B w w') (q : Nat) : Below B w (w'.drewN q) := ⟨h.os, h.tape, h.output, h.size, h.block⟩
theorem below_next {B : Nat} {w w1 w2 : World} (h : Below B w w1) (hB : B ≤ w1.heap.size) (h2 : Below w1.heap.size w1 w2) : Below B w w2 := h.trans (h2.mono hB)

/-- A literal of numbers is read as them. -/
theorem RI_new (w : World) (cs : Array Value) (t : TypeId) (n : Nat) (ts : List Int) (hn : ts.length = n) (hl : n ≤ 140737488351232) (h : cs.toList = ts.map (Value.int .i64)) : RI (w.alloc (.cells cs t)) (some ⟨w.heap.size, 0, none⟩) n (fun j => ts.getD j 0) := by
  refine ⟨hl, fun _ => ⟨_, _, rfl, fun j hj => ?_⟩⟩
  have e : (w.alloc (.cells cs t)).heap[w.heap.size]? = some (.cells cs t) := heap_alloc_new w _
  simp only [World.cell?, e, Option.isSome_none, Bool.false_eq_true, if_false, Nat.zero_add]
  rw [← Array.getElem?_toList, h]
  simp [show j < ts.length by omega]

theorem sleepers_one : ∀ ts, SleepList (upd (fun _ => none) 3 (some (0 + 5))) 4 ts → ts = [3] := by
  intro ts h
  have hm : ∀ t, t ∈ ts ↔ t = 3 := fun t => by
    rw [h.mem]; unfold upd
    by_cases e : t = 3 <;> simp [e]
  match ts, h.nodup, hm with
  | [], _, hm => have := (hm 3).2 rfl; simp at this
  | [a], _, hm => have := (hm a).1 (by simp); rw [this]
  | a :: b :: r, hn, hm =>
    have h1 := (hm a).1 (by simp)
    have h2 := (hm b).1 (by simp)
    rw [h1, h2] at hn; simp at hn

set_option maxHeartbeats 1000000 in
theorem live_any (w : World) : Calls Try.prog 9 #[] w fun e w' => e = .returned (.bool true) ∧ Below w.heap.size w w' := by
  go_enter Try.func9, Try.ntmps9
  go_wp2_with fail
  refine (new_any w).mono ?_
  rintro e w1 ⟨b, m, rfl, hb, hm, h1, hB1⟩
  go_wp2_with fail
  refine (sleep_ok 3 5 0 w1 b m 0 _ h1 (by omega) (by omega) (by omega) (by omega) (by omega) (by omega) rfl (by decide)).mono ?_
  rintro e w2 ⟨rfl, h2, o2⟩
  have hB2 := two_below hB1 o2 hB1.size hb hm
  clear h1 hB1 o2
  go_wp2_with fail
  refine (tick_ok 4 0 w2 b m 1 _ h2 (by omega) (by omega) (by omega) (by omega)).mono ?_
  rintro e w3 ⟨rfl, h3, o3⟩
  have hB3 := two_below hB2 o3 hB2.size hb hm
  rw [show min ((0 : Int) + 4) 1099511627776 = 4 by decide] at h3
  clear h2 hB2 o3
  go_wp2_with fail
  refine (sleepers_any w3 b m 1 4 _ h3 (fun t u h => by unfold upd at h; split at h <;> (try cases h); unfold I64; omega) (by omega)).mono ?_
  rintro e w4 ⟨v, ts, rfl, hts, hown, hB4⟩
  obtain rfl := sleepers_one ts hts
  obtain ⟨A, c, rfl⟩ := own_slice hown
  have h4 := h3.below hB4
  have hB5 := below_next hB3 hB3.size hB4
  have hR4 := own_RI hown (by decide)
  have hb3 := h3.lt
  have hm3 := h3.2.lt
  have hbase : ∀ b' o', A = some ⟨b', o', none⟩ → w3.heap.size ≤ b' ∧ b' < w4.heap.size := fun b' o' e => own_base hown e
  clear h3 hB3 hts hown hB4
  go_wp2_with fail
  refine (tick_ok 1 4 w4 b m 1 _ h4 (by omega) (by omega) (by omega) (by omega)).mono ?_
  rintro e w5 ⟨rfl, h5, o5⟩
  rw [show min ((4 : Int) + 1) 1099511627776 = 5 by decide] at h5
  have hB6 := two_below hB5 o5 hB5.size hb hm
  have hR5 : RI w5 A 1 (fun j => [(3 : Int)].getD j 0) := hR4.block (fun b' o' e => by
    have := hbase b' o' e
    exact o5.block b' this.2 (fun hh => by rcases hh with hh | hh <;> omega))
  have hbase5 : ∀ b' o', A = some ⟨b', o', none⟩ → b' < w5.heap.size := fun b' o' e => Nat.lt_of_lt_of_le (hbase b' o' e).2 o5.size
  clear h4 hR4 hB5 o5 hbase
  go_wp2_with fail
  refine (choose_some _ 2 2 (fun j => [(2 : Int), 5].getD j 0) (-1) _ (RI_new w5 #[.int .i64 2, .int .i64 5] 3 2 [2, 5] rfl (by decide) rfl) (by decide)).mono ?_
  rintro e w6 ⟨rfl, rfl⟩
  have h6 := h5.below (below_alloc (.cells #[.int .i64 2, .int .i64 5] 3))
  have hB7 := below_next hB6 hB6.size (below_alloc (.cells #[.int .i64 2, .int .i64 5] 3))
  have hR6 : RI (w5.alloc (.cells #[.int .i64 2, .int .i64 5] 3)) A 1 (fun j => [(3 : Int)].getD j 0) := hR5.block (fun b' o' e => (below_alloc _).block b' (hbase5 b' o' e))
  have hbase6 : ∀ b' o', A = some ⟨b', o', none⟩ → b' < (w5.alloc (.cells #[.int .i64 2, .int .i64 5] 3)).heap.size := fun b' o' e => by have := hbase5 b' o' e; simp; omega
  clear h5 hR5 hB6 hbase5
  rw [show [(2 : Int), 5].getD ((-1 : Int) % ((2 : Nat) : Int)).toNat 0 = 5 by decide]
  generalize w5.alloc (.cells #[.int .i64 2, .int .i64 5] 3) = w6 at *
  go_wp2_with (go_at_call 13; refine (num_any _ _).mono ?_; rintro e w' ⟨rfl, rfl⟩)
  refine (same_any A _ 1 1 c 1 _ _ _ (hR6.block (fun b' o' e => (below_alloc _).block b' (hbase6 b' o' e))) (RI_new w6 #[.int .i64 3] 3 1 [3] rfl (by decide) rfl)).mono ?_
  rintro e w7 ⟨rfl, q, rfl⟩
  rw [show sameB 1 1 (fun j => [(3 : Int)].getD j 0) (fun j => [(3 : Int)].getD j 0) = true from sameB_true (fun j hj => rfl)]
  have h7 := (h6.below (below_alloc (.cells #[.int .i64 3] 3))).drewN q
  have hB8 := below_drewN (below_next hB7 hB7.size (below_alloc (.cells #[.int .i64 3] 3))) q
  clear h6 hB7 hR6 hbase6
  generalize (w6.alloc (.cells #[.int .i64 3] 3)).drewN q = w7 at *
  go_wp2_with fail
  refine (awake_any 3 5 w7 b m 1 _ h7 (by unfold I64; omega)).mono ?_
  rintro e w8 ⟨rfl, q2, rfl⟩
  have h9 := h7.drewN q2
  have hB9 := below_drewN hB8 q2
  rw [show (!(upd (fun _ => none) 3 (some (0 + 5)) 3).isSome || decide ((upd (fun _ => none) 3 (some (0 + 5)) 3).getD 0 ≤ (5 : Int))) = true by simp [upd]]
  clear h7 hB8
  generalize w7.drewN q2 = w8 at *
  go_wp2_with fail
  refine (now_any 5 w8 b h9.cell0).mono ?_
  rintro e w9 ⟨rfl, rfl⟩
  clear h9
  go_wp2_with fail
  go_ret
  exact ⟨rfl, hB9⟩
end Go.Proofs.Ytklbhidlbdabbaa
