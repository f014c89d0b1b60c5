/- The iterator over those that sleep ('asleep'), for every loop body. -/
import Derived.Test.YtklbhidlbdabbaaE
import Derived.RangeFuncNested
import Derived.RangeFuncMany
import Derived.RangeFuncLeaves
import Derived.RangeFuncBox
import Derived.Sort.MapsRangeIn
import Derived.OwnWalkIn
import Derived.TacticsInMore
import Derived.RegionIn
import Derived.LoopNIn
import Derived.LoopIn
import Derived.Shelf.Abstract
import Derived.Maps.AppendAt
set_option linter.unusedVariables false
set_option linter.unusedSimpArgs false
namespace Go.Proofs.Ytklbhidlbdabbaa
open Go.RowKit Go.Lib Go.Maps Go.Sort Go.Shelf
attribute [local go_sem] Oper.semAt_some

abbrev encs2 (p : Int × Int) : Array Value := #[.int .i64 p.1, .int .i64 p.2]
/-- Blocks c and b are as they were. -/
def Both (c b : Nat) (W W' : World) : Prop := W'.heap[c]? = W.heap[c]? ∧ W'.heap[b]? = W.heap[b]?
theorem Both.refl (c b : Nat) (W : World) : Both c b W W := ⟨rfl, rfl⟩
theorem Both.trans {c b : Nat} {W X Y : World} (h : Both c b W X) (k : Both c b X Y) : Both c b W Y := ⟨k.1.trans h.1, k.2.trans h.2⟩
theorem Both.grown {c b : Nat} {W X Y : World} {row : Option Nat} (h : Both c b W X) (hg : X.grownBy Y row) (hc : c < X.heap.size) (hb : b < X.heap.size) (h1 : some c ≠ row) (h2 : some b ≠ row) : Both c b W Y :=
  ⟨(hg.block c hc h1).trans h.1, (hg.block b hb h2).trans h.2⟩
/-- What a round that goes on keeps: maps, iterators, and blocks c and b. -/
def Kp2 (c b : Nat) (W W' : World) : Prop := KeepsWalks W W' ∧ Both c b W W'
theorem kp_t {c b : Nat} {W X Y : World} (h : Kp2 c b W X) (k : Kp2 c b X Y) : Kp2 c b W Y := ⟨h.1.trans k.1, h.2.trans k.2⟩
theorem kp_b {c b : Nat} {w : World} (h1 : c < w.heap.size) (h2 : b < w.heap.size) (W : World) (l : Nat) (o o' : Obj) (hl : w.heap.size ≤ l) (h : W.heap[l]? = some o) (hc : o.isCells = false) (hw : o.isWalk = false) : Kp2 c b W (W.putObj l o') :=
  ⟨walksK_b (w := w) W l o o' hl h hc hw, World.putObj_heap_other (by omega), World.putObj_heap_other (by omega)⟩
theorem Kp2.refl (c b W) : Kp2 c b W W := ⟨KeepsWalks.refl _, Both.refl _ _ _⟩

/-- The pairs that have come so far. -/
structure Came (f : Int → Option Int) (left : Lit → Bool) (qs : List (Int × Int)) : Prop where
  nodup : (qs.map (·.1)).Nodup
  mem : ∀ x, x ∈ qs.map (·.1) ↔ ((f x).isSome = true ∧ left (.int .i64 x) = false)
  val : ∀ p ∈ qs, f p.1 = some p.2
theorem Came.start {D0 : DataW Unit} {f} (h : Rd D0 f) : Came f (has D0) [] :=
  ⟨by simp, fun x => by rw [(h x).1]; cases (f x).isSome <;> simp, by simp⟩
theorem Came.step {f left qs} (h : Came f left qs) {x u : Int} (hx : f x = some u) (hl : left (.int .i64 x) = true) :
    Came f (fun z => left z && !z.sameKey (.int .i64 x)) (qs ++ [(x, u)]) := by
  have hnew : x ∉ qs.map (·.1) := fun hm => by have := ((h.mem x).1 hm).2; rw [hl] at this; cases this
  refine ⟨?_, fun y => ?_, fun p hp => ?_⟩
  · rw [List.map_append, List.nodup_append]
    exact ⟨h.nodup, by simp, fun a ha b hb => by simp at hb; subst hb; exact fun e => hnew (e ▸ ha)⟩
  · rw [List.map_append, List.mem_append, h.mem y]
    by_cases hy : y = x
    · subst hy; simp [hx, Lit.sameKey]
    · simp [hy, Lit.sameKey]
  · rcases List.mem_append.1 hp with hp | hp
    · exact h.val p hp
    · simp at hp; subst hp; exact hx

/-- Those whose time has not come. -/
def late (now : Int) (qs : List (Int × Int)) : List (Int × Int) := qs.filter fun p => decide (now < p.2)
theorem late_hit (now : Int) (qs) {x u : Int} (h : now < u) : late now (qs ++ [(x, u)]) = late now qs ++ [(x, u)] := by simp [late, h]
theorem late_miss (now : Int) (qs) {x u : Int} (h : ¬ now < u) : late now (qs ++ [(x, u)]) = late now qs := by simp [late, h]
theorem late_le (now : Int) (qs) : (late now qs).length ≤ qs.length := List.length_filter_le _ _
/-- All of them, each once. -/
structure AllLate (f : Int → Option Int) (now : Int) (ps : List (Int × Int)) : Prop where
  nodup : (ps.map (·.1)).Nodup
  mem : ∀ x, x ∈ ps.map (·.1) ↔ ∃ u, f x = some u ∧ now < u
  val : ∀ p ∈ ps, f p.1 = some p.2
theorem Came.all {f left qs} (h : Came f left qs) (hl : ∀ kl, left kl = false) (now : Int) : AllLate f now (late now qs) := by
  refine ⟨?_, fun x => ?_, fun p hp => h.val p (List.mem_filter.1 hp).1⟩
  · exact h.nodup.sublist (List.Sublist.map _ List.filter_sublist)
  · constructor
    · intro hx
      obtain ⟨p, hp, rfl⟩ := List.mem_map.1 hx
      have hp' := List.mem_filter.1 hp
      exact ⟨p.2, h.val p hp'.1, by simpa using hp'.2⟩
    · rintro ⟨u, hu, hlt⟩
      obtain ⟨p, hp, rfl⟩ := List.mem_map.1 ((h.mem x).2 ⟨by rw [hu]; rfl, hl _⟩)
      have e : p.2 = u := by have := h.val p hp; rw [hu] at this; injection this with this; exact this.symm
      exact List.mem_map.2 ⟨p, List.mem_filter.2 ⟨hp, by simp [e, hlt]⟩, rfl⟩

set_option maxRecDepth 100000 in
set_option maxHeartbeats 1000000 in
theorem asleep1_in (F : Fence) (n : Nat) (h36 : F.fn 36) (hro : F.round = none) (hn : 1 ≤ n) (l Bc b m k : Nat) (now : Int) (f : Int → Option Int) (D0 : DataW Unit) (J Jx : List (Int × Int) → World → Prop)
    (hY : ∀ pre x W, J pre W → pre.length < Maps.size D0 → YieldAt F (n - 1) Try.prog l (encs2 x) W fun e W' =>
      (e = .returned (.bool true) ∧ J (pre ++ [x]) W' ∧ Kp2 Bc b W W') ∨ (e = .returned (.bool false) ∧ Jx (pre ++ [x]) W'))
    (W : World) (hJ : AbidesFrom W.heap.size J) (hBc : Bc < W.heap.size) (hb : b < W.heap.size)
    (hcap : W.cell? ⟨Bc, 0, none⟩ = some (.pointer (some ⟨b, 0, none⟩))) (hc0 : W.cell? ⟨b, 0, none⟩ = some (.int .i64 now)) (hc1 : W.cell? ⟨b, 1, none⟩ = some (.map (some m)))
    (hown : W.ownsMap Try.prog 3 (plainElem Try.prog 3) m k D0) (hrd : Rd D0 f) (h0 : J [] W) :
    CallsIn F n Try.prog 36 #[.func (.yield l) #[] #[], .pointer (some ⟨Bc, 0, none⟩)] W fun e W' => (∃ v, e = .returned v) ∧
      ((∃ ps, (AllLate f now ps ∧ ps.length ≤ Maps.size D0) ∧ J ps W') ∨ (∃ pre, Jx pre W')) := by
  refine callsIn_of_wp Try.func36 rfl h36 ?_ hro
  simp only [Try.ntmps36, List.size_toArray, List.length_cons, List.length_nil, Nat.reduceAdd, Nat.reduceSub, Array.replicate_succ, Array.replicate_zero, List.push_toArray, List.append_toArray, List.nil_append, List.cons_append]
  gi_wp2_with (first
    | (gi_at_range; refine wpListIn_range_own _ rfl _ 62 rfl 3 3 law3 Try.underlying62 _ m k _ rfl hown ?_; intro w0 hrg0 hg0 hs0)
    | gi_in)
  go_frame
  have hB0 : Both Bc b W w0 := (Both.refl _ _ W).grown hg0 hBc hb (by simp) (by simp)
  gi_loopw [3, 4] (fun _ _ wr => ∃ (left : Lit → Bool) (cnt : Nat) (qs : List (Int × Int)), wr.ranges Try.prog 3 (plainElem Try.prog 3) m W.heap.size k D0 left cnt ∧ qs.length + cnt ≤ Maps.size D0 ∧ Came f left qs ∧ J (late now qs) wr ∧ Both Bc b W wr ∧ W.heap.size ≤ wr.heap.size)
    (fun _ _ wr => wr.rangeLeft m W.heap.size)
  case atStart =>
    exact ⟨_, _, [], hrg0, by simp, Came.start hrd, hJ [] W w0 none h0 hg0 (fun r e => by cases e), hB0, hg0.size⟩
  case round =>
    obtain ⟨left, cnt, qs, hrg, hcs, hC, hJs, hB, hWs⟩ := hrel
    clear hB0
    gi_wp2_with (first
      | (gi_at_next; refine wpListIn_next_ranges _ rfl _ rfl 3 law3 (plainElem Try.prog 3) (Value.int .i64) (Value.int .i64) (fun key kl hk => by obtain ⟨x, hx, _⟩ := Maps.keyOf_int_inv Try.underlying3 hk; exact ⟨x, hx⟩) (fun v y hv => by obtain ⟨c, rfl, _⟩ := plainElem_int_inv Try.underlying3 hv; exact ⟨c, rfl⟩) m W.heap.size k _ _ _ rfl hrg ?_ ?_)
      | gi_in)
    · intro hc0 hl0
      gi_wp2
      go_end0
      exact ⟨⟨_, rfl⟩, .inl ⟨_, ⟨hC.all hl0 now, by have := late_le now qs; omega⟩, hJs⟩⟩
    · intro x u kl yd yp w2 cnt2 hkey hlk hv hat hrg2 hlt hg2 hs2 hen
      obtain ⟨x', ex, rfl, _⟩ := Maps.keyOf_int_inv Try.underlying3 hkey
      obtain rfl : x = x' := by injection ex
      obtain ⟨u', eu, ez, _⟩ := plainElem_int_inv Try.underlying3 hv
      obtain rfl : u = u' := by injection eu
      obtain rfl : yd = .lit (.int .i64 u) := (Prod.mk.inj ez).1
      have hfx : f x = some u := by
        have hh : has D0 (.int .i64 x) = true := has_true_of_atKey hat
        rw [(hrd x).1] at hh
        obtain ⟨c, hc⟩ := Option.isSome_iff_exists.1 hh
        have := ((hrd x).2 c hc).2 .nil
        rw [hat] at this
        injection this with this; injection this with _ this
        rw [hc, this]
      have hJ2 : J (late now qs) w2 := hJ _ wr w2 (some W.heap.size) hJs hg2 (fun r e => by cases e; exact ⟨Nat.le_refl _, hrg.iter_walk⟩)
      have hB2 : Both Bc b W w2 := hB.grown hg2 (by omega) (by omega) (by simp; omega) (by simp; omega)
      have hWs2 : W.heap.size ≤ w2.heap.size := Nat.le_trans hWs hg2.size
      have hC2 := hC.step hfx hlk
      have k1 : w2.cell? ⟨Bc, 0, none⟩ = some (.pointer (some ⟨b, 0, none⟩)) := (World.cell?_of_block hB2.1).trans hcap
      have k2 : w2.cell? ⟨b, 0, none⟩ = some (.int .i64 now) := (World.cell?_of_block hB2.2).trans hc0
      by_cases hnow : now < u
      · obtain ⟨fn, tmps, assign, body, hy, hR⟩ := hY (late now qs) (x, u) w2 hJ2 (by have := late_le now qs; omega)
        dsimp only [encs2] at hy
        have HC2 := Lib.hid hC2
        clear hs2 hat hfx hC2 hC hJ
        gi_wp2
        refine hR.mono ?_
        rintro e W3 (⟨rfl, hJ3, hk3⟩ | ⟨rfl, hJx3⟩)
        · gi_wp2
          have hrg3 := hrg2.of_walks hk3.1
          go_roundw
          case rel => exact ⟨_, cnt2, qs ++ [(x, u)], hrg3, by simp; omega, HC2.out, by rw [late_hit now qs hnow]; exact hJ3, hB2.trans hk3.2, Nat.le_trans hWs2 hk3.1.size⟩
          case measure => rw [hrg3.left_eq, hrg.left_eq]; exact hlt
        · gi_wp2
          refine bodyPost_ret (results_none rfl _ _ _) rfl ?_
          exact ⟨⟨_, rfl⟩, .inr ⟨_, hJx3⟩⟩
      · have HC2 := Lib.hid hC2
        have hd : decide (now < u) = false := by simpa using hnow
        clear hs2 hat hfx hC2 hC hJ
        gi_wp2
        rename_i K1 a1 K2 a2 x1 h1 w1 heq
        refine ⟨fun _ h => (by cases h), a2 _ _ ?_⟩
        clear heq x1 h1 w1 a2 K2
        gi_wp2
        go_roundw
        case rel => exact ⟨_, cnt2, qs ++ [(x, u)], hrg2, by simp; omega, HC2.out, by rw [late_miss now qs (by omega)]; exact hJ2, hB2, hWs2⟩
        case measure => rw [hrg2.left_eq, hrg.left_eq]; exact hlt
end Go.Proofs.Ytklbhidlbdabbaa
