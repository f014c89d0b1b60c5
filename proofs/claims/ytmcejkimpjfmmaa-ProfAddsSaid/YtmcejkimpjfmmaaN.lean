/- New. -/
import Derived.Test.YtmcejkimpjfmmaaM
import Derived.Laws.MakeOwn
import Derived.Carry
set_option linter.unusedVariables false
set_option linter.unusedSimpArgs false
namespace Go.Proofs.Ytmcejkimpjfmmaa
open Go.RowKit Go.Lib Go.Maps

theorem run_make_rowN {P : Program} (t e : TypeId) (i : TypeInfo) (z : Value) (ht : P.underlying t = some (.slice e)) (hi : P.info? e = some i) (hz : i.zero = some z)
    (kl kc : IntKind) (n c : Nat) (hnc : n ≤ c) (hbytes : i.bytes * c ≤ 281474976710656) (h63 : c ≤ 9223372036854775807) (w : World) :
    (Instr.makeSlice t (.int kl (n : Int)) (.int kc (c : Int))).run P w = .ok (.slice (some ⟨w.heap.size, 0, none⟩) n c) (w.alloc (.cells (madeCells z.cells (c * i.size)) e)) := by
  have hb : (i.bytes : Int) * (c : Int) ≤ 281474976710656 := by
    have h : ((i.bytes * c : Nat) : Int) ≤ 281474976710656 := by omega
    rwa [Int.natCast_mul] at h
  have hr := run_make (P := P) w t e i z ht hi hz kl kc n c (by omega) (by omega) hb (by omega)
  simp only [Int.toNat_natCast] at hr
  exact hr
theorem info68 : (Try.prog.info? 68).map (fun i => (i.zero, i.size, i.bytes)) = some (some (.agg #[.int .i64 0, .int .i64 0]), 2, 16) := by kernel_rfl
theorem info79 : (Try.prog.info? 79).map (fun i => (i.zero, i.size, i.bytes)) = some (some (.agg #[.int .i64 0, .int .u64 0]), 2, 16) := by kernel_rfl
theorem make61 (n : Nat) (hn : n ≤ 1024) (w : World) : (Instr.makeSlice 61 (.int .i64 (n : Int)) (.int .i64 (n : Int))).run Try.prog w = .ok (.slice (some ⟨w.heap.size, 0, none⟩) n n) (w.alloc (.cells (madeCells #[.int .i64 0, .int .i64 0] (n * 2)) 68)) := by
  obtain ⟨i0, hi, hz0, hz1, hz2⟩ := info_parts info68
  have := run_make_rowN 61 68 i0 _ Try.underlying61 hi hz0 .i64 .i64 n n (Nat.le_refl _) (by rw [hz2]; omega) (by omega) w
  rw [hz1] at this
  exact this
theorem make62 (n : Nat) (hn : n ≤ 1024) (w : World) : (Instr.makeSlice 62 (.int .i64 (n : Int)) (.int .i64 (n : Int))).run Try.prog w = .ok (.slice (some ⟨w.heap.size, 0, none⟩) n n) (w.alloc (.cells (madeCells #[.int .i64 0, .int .u64 0] (n * 2)) 79)) := by
  obtain ⟨i0, hi, hz0, hz1, hz2⟩ := info_parts info79
  have := run_make_rowN 62 79 i0 _ Try.underlying62 hi hz0 .i64 .i64 n n (Nat.le_refl _) (by rw [hz2]; omega) (by omega) w
  rw [hz1] at this
  exact this
theorem row_made {w : World} {g : Nat} {t : TypeId} {q : IntKind} (n : Nat) (h : w.heap[g]? = some (.cells (madeCells #[.int .i64 0, .int q 0] (n * 2)) t (0, 0))) : Row w g t q n (fun _ => 0) (fun _ => 0) := by
  refine ⟨_, h, fun i hi => ?_⟩
  have h1 : i * 2 < n * 2 := by omega
  have h2 : i * 2 + 1 < n * 2 := by omega
  constructor
  · simp [madeCells, h1]
  · simp [madeCells, h2, show (i * 2 + 1) % 2 = 1 by omega]
theorem MapP.of {w : World} {m : Nat} (h : w.heap[m]? = some (.map #[] 0)) : MapP w m 0 (fun _ _ => none) := by
  obtain ⟨D, ⟨es, clock, e, r⟩, hr⟩ := MapP.made w
  have e2 := heap_alloc_new w (.map #[] 0)
  rw [e2] at e
  injection e with e
  injection e with e3 e4
  subst e3; subst e4
  exact ⟨D, ⟨_, _, h, r⟩, hr⟩

/-- A new profile. -/
def NewP (F G : Nat) (w : World) (e : Ending) (w' : World) : Prop := ∃ b hb wb m, e = .returned (.tuple #[.pointer (some ⟨b, 0, none⟩), .int .i64 0]) ∧ IsProf w' b hb wb m F G (fun _ => 0) (fun _ => 0) (fun _ => 0) 0 (fun _ _ => none) ∧ Below w.heap.size w w' ∧ w.heap.size ≤ b ∧ w.heap.size ≤ hb ∧ w.heap.size ≤ wb ∧ w.heap.size ≤ m
theorem below_alloc {w : World} (o : Obj) : Below w.heap.size w (w.alloc o) := (Below.refl _ w).alloc (Nat.le_refl _) o
theorem below_drewN {B : Nat} {w w' : World} (h : Below B w w') (q : Nat) : Below B w (w'.drewN q) := ⟨h.os, h.tape, h.output, h.size, h.block⟩
theorem below_next {B : Nat} {w w1 w2 : World} (h : Below B w w1) (hB : B ≤ w1.heap.size) (h2 : Below w1.heap.size w1 w2) : Below B w w2 := h.trans (h2.mono hB)
theorem at0 (w : World) (A B C : Obj) : (((w.alloc A).alloc B).alloc C).heap[w.heap.size]? = some A :=
  (Below.heap_alloc _ C _ (by simp; omega)).trans ((Below.heap_alloc _ B _ (by simp)).trans (heap_alloc_new w A))
theorem at1 (w : World) (A B C : Obj) : (((w.alloc A).alloc B).alloc C).heap[w.heap.size + 1]? = some B := by
  have := heap_alloc_new (w.alloc A) B
  rw [World.size_alloc] at this
  exact (Below.heap_alloc _ C _ (by simp)).trans this
theorem at2 (w : World) (A B C : Obj) : (((w.alloc A).alloc B).alloc C).heap[w.heap.size + 1 + 1]? = some C := by
  have := heap_alloc_new ((w.alloc A).alloc B) C
  rw [World.size_alloc, World.size_alloc] at this
  exact this
theorem newP_of {w w3 : World} {F G hb wb m q : Nat} (hq : w3.heap.size = q) (hF : F ≤ 1024) (hG : G ≤ 1024) (h1 : w3.heap[hb]? = some (.cells (madeCells #[.int .i64 0, .int .i64 0] (F * 2)) 68 (0, 0))) (h2 : w3.heap[wb]? = some (.cells (madeCells #[.int .i64 0, .int .u64 0] (G * 2)) 79 (0, 0)))
    (h3 : w3.heap[m]? = some (.map #[] 0)) (hB : Below w.heap.size w w3) (g1 : w.heap.size ≤ hb) (g2 : w.heap.size ≤ wb) (g3 : w.heap.size ≤ m) :
    NewP F G w (.returned (.tuple #[.pointer (some ⟨q, 0, none⟩), .int .i64 0])) (w3.alloc (.cells #[.slice (some ⟨hb, 0, none⟩) F F, .slice (some ⟨wb, 0, none⟩) G G, .map (some m)] 65)).drew := by
  subst hq
  have l1 := (Array.getElem?_eq_some_iff.1 h1).1
  have l2 := (Array.getElem?_eq_some_iff.1 h2).1
  have l3 := (Array.getElem?_eq_some_iff.1 h3).1
  have n1 : hb ≠ wb := by rintro rfl; rw [h1] at h2; injection h2 with h2; injection h2 with _ h2; cases h2
  have n2 : hb ≠ m := by rintro rfl; rw [h1] at h3; cases h3
  have n3 : wb ≠ m := by rintro rfl; rw [h2] at h3; cases h3
  refine ⟨_, hb, wb, m, rfl, ⟨heap_alloc_new w3 _, row_made F ((Below.heap_alloc w3 _ hb l1).trans h1), row_made G ((Below.heap_alloc w3 _ wb l2).trans h2), MapP.of ((Below.heap_alloc w3 _ m l3).trans h3), fun i hi => by omega, fun i hi => by omega, ⟨by omega, by omega, by omega, n1, n2, n3⟩, hF, hG⟩, below_drewN (hB.alloc hB.size _) 1, hB.size, g1, g2, g3⟩

set_option maxHeartbeats 400000 in
theorem new_bad (f g : Int) (w : World) (h : f < 1 ∨ 1024 < f ∨ g < 0 ∨ 1024 < g) : Calls Try.prog 9 #[.int .i64 f, .int .i64 g] w fun e w' => e = .returned (.tuple #[.pointer none, .int .i64 1]) ∧ w = w' := by
  have h : f < 1 ∨ (1 ≤ f ∧ 1024 < f) ∨ (1 ≤ f ∧ f ≤ 1024 ∧ g < 0) ∨ (1 ≤ f ∧ f ≤ 1024 ∧ 0 ≤ g ∧ 1024 < g) := by omega
  rcases h with h | h | h | h <;>
  · go_enter Try.func9, Try.ntmps9
    go_wp2_with fail
    go_ret2
    exact ⟨rfl, rfl⟩
set_option maxRecDepth 20000 in
set_option maxHeartbeats 2000000 in
theorem new_ok (f g : Nat) (w : World) (h : 1 ≤ f ∧ f ≤ 1024 ∧ g ≤ 1024) : Calls Try.prog 9 #[.int .i64 f, .int .i64 g] w (NewP f g w) := by
  have hm1 := make61 f h.2.1
  have hm2 := make62 g h.2.2
  have hm3 := @run_makeMap Try.prog
  go_enter Try.func9, Try.ntmps9
  go_wp2_with fail
  go_region
  all_goals go_wp2_with fail
  all_goals go_ret2
  all_goals
    clear hm1 hm2 hm3
    refine newP_of (by simp) h.2.1 h.2.2 (by first | exact at0 _ _ _ _ | exact at1 _ _ _ _ | exact at2 _ _ _ _) (by first | exact at0 _ _ _ _ | exact at1 _ _ _ _ | exact at2 _ _ _ _) (by first | exact at0 _ _ _ _ | exact at1 _ _ _ _ | exact at2 _ _ _ _)
      ((((Below.refl _ w).alloc (Nat.le_refl _) _).alloc (by simp) _).alloc (by simp; omega) _) (by omega) (by omega) (by omega)
end Go.Proofs.Ytmcejkimpjfmmaa
