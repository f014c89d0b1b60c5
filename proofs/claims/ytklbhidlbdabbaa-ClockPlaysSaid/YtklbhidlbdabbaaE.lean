/- The walk of the closure that compares two sleepers. -/
import Derived.Test.YtklbhidlbdabbaaD
import Derived.Sort.Grow
import Derived.StillTailTactics
import Derived.Deep.RegionWith
set_option linter.unusedVariables false
set_option linter.unusedSimpArgs false
namespace Go.Proofs.Ytklbhidlbdabbaa
open Go.RowKit Go.Lib Go.Maps Go.Sort

def lexc (u v x y : Int) : Int := if cmp3 u v = 0 then cmp3 x y else cmp3 u v

theorem World.cell?_alloc_at2 (w : World) (cs : Array Value) {t : TypeId} (i : Nat) {v : Value} (h : cs[i]? = some v := by rfl) : (w.alloc (.cells cs t)).drew.cell? ⟨w.heap.size, i, none⟩ = some v := by
  have e : (w.alloc (.cells cs t)).heap[w.heap.size]? = some (.cells cs t) := heap_alloc_new w _
  show (w.alloc (.cells cs t)).cell? _ = _
  simp only [World.cell?, e]
  exact h

set_option maxHeartbeats 1000000 in
theorem less_core (x y u v : Int) (w : World) (b m Bc : Nat) (hcap : w.cell? ⟨Bc, 0, none⟩ = some (.pointer (some ⟨b, 0, none⟩))) (hc1 : w.cell? ⟨b, 1, none⟩ = some (.map (some m)))
    (hl1 : ∀ n, (Instr.lookup 62 (.map (some m)) (.int .i64 x) false).run Try.prog (w.drewN n) = .ok (.int .i64 u) (w.drewN n))
    (hl2 : ∀ n, (Instr.lookup 62 (.map (some m)) (.int .i64 y) false).run Try.prog (w.drewN n) = .ok (.int .i64 v) (w.drewN n)) :
    Calls Try.prog 33 #[.int .i64 x, .int .i64 y, .pointer (some ⟨Bc, 0, none⟩)] w fun e w' => e = .returned (.int .i64 (lexc u v x y)) ∧ ∃ q os', w' = grow (w.drewN q) os' := by
  have hq1 := compare_any u v
  have hq2 := compare_any x y
  have hd1 := hl1 1
  have hd2 := hl2 1
  have hd1 : (Instr.lookup 62 (.map (some m)) (.int .i64 x) false).run Try.prog w.drew = .ok (.int .i64 u) w.drew := hd1
  have hd2 : (Instr.lookup 62 (.map (some m)) (.int .i64 y) false).run Try.prog w.drew = .ok (.int .i64 v) w.drew := hd2
  clear hl1 hl2
  have hor := or2_any (cmp3 u v) (cmp3 x y) w.heap.size 2 (w.alloc (.cells #[.int .i64 (cmp3 u v), .int .i64 (cmp3 x y)] 3)).drew (World.cell?_alloc_at2 w _ 0) (World.cell?_alloc_at2 w _ 1)
  unfold lexc
  generalize cmp3 u v = c1 at *
  generalize cmp3 x y = c2 at *
  generalize (if c1 = 0 then c2 else c1) = r at *
  have HOR := Lib.hid hor; clear hor
  have H1 := Lib.hid hq1; clear hq1
  have H2 := Lib.hid hq2; clear hq2
  go_enter Try.func33, Try.ntmps33
  go_wp2_with fail
  refine wp_region_still_tail 16 (by kernel_rfl) (by kernel_rfl) ?_
  simp only [List.take_succ_cons, List.take_zero, List.drop_succ_cons, List.drop_zero]
  have hx1 : Calls Try.prog 35 #[.int .i64 u, .int .i64 v] w.drew fun e w' => e = .returned (.int .i64 c1) ∧ w' = w.drew := (H1.out _).mono fun e w' ⟨a, b⟩ => ⟨a, b.symm⟩
  have hx2 : Calls Try.prog 35 #[.int .i64 x, .int .i64 y] w.drew fun e w' => e = .returned (.int .i64 c2) ∧ w' = w.drew := (H2.out _).mono fun e w' ⟨a, b⟩ => ⟨a, b.symm⟩
  have HX1 := Lib.hid hx1; clear hx1
  have HX2 := Lib.hid hx2; clear hx2
  change wpStill _ _ w.drew _ _ _
  repeat still_step
  still_call HX1.out
  repeat still_step
  still_call HX2.out
  repeat still_step
  try refine wpStill_nil ?_
  clear HX1 HX2 H1 H2 hd1 hd2 hcap hc1
  go_wp2_with (go_at_call 34; refine HOR.out.mono ?_; rintro e w' ⟨rfl, rfl⟩)
  go_ret
  exact ⟨rfl, 1, #[.cells #[.int .i64 c1, .int .i64 c2] 3], by rw [← alloc_eq_grow]; rfl⟩

/-- What the closure needs of a world. -/
structure LessAt (w : World) (b m k Bc : Nat) (f : Int → Option Int) : Prop where
  cap : w.cell? ⟨Bc, 0, none⟩ = some (.pointer (some ⟨b, 0, none⟩))
  cell : w.cell? ⟨b, 1, none⟩ = some (.map (some m))
  map : MapF w m k f

theorem less_any (x y : Int) (w : World) (b m k Bc : Nat) (f) (h : LessAt w b m k Bc f) (hx : I64 x) (hy : I64 y) :
    Calls Try.prog 33 #[.int .i64 x, .int .i64 y, .pointer (some ⟨Bc, 0, none⟩)] w fun e w' => e = .returned (.int .i64 (lexc ((f x).getD 0) ((f y).getD 0) x y)) ∧ ∃ q os', w' = grow (w.drewN q) os' :=
  less_core x y _ _ w b m Bc h.cap h.cell (fun n => (h.map.drewN n).look x hx) (fun n => (h.map.drewN n).look y hy)
end Go.Proofs.Ytklbhidlbdabbaa
