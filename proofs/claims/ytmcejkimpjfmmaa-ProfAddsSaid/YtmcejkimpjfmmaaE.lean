/- The profile's state, and its methods. -/
import Derived.Test.YtmcejkimpjfmmaaD
set_option linter.unusedVariables false
set_option linter.unusedSimpArgs false
namespace Go.Proofs.Ytmcejkimpjfmmaa
open Go.RowKit Go.Lib Go.Maps

/-- Block g is a row of n counters: their numbers, what they keep. -/
structure Row (w : World) (g : Nat) (t : TypeId) (q : IntKind) (n : Nat) (x y : Nat → Int) : Prop where
  blk : ∃ cs : Array Value, w.heap[g]? = some (.cells cs t (0, 0)) ∧ ∀ i, i < n → cs[i * 2]? = some (.int .i64 (x i)) ∧ cs[i * 2 + 1]? = some (.int q (y i))
theorem Row.c0 {w g t q n x y} (h : Row w g t q n x y) {i : Nat} (hi : i < n) : w.cell? ⟨g, i * 2, none⟩ = some (.int .i64 (x i)) := by
  obtain ⟨cs, hb, hc⟩ := h.blk
  simp [World.cell?, hb, (hc i hi).1]
theorem Row.c1 {w g t q n x y} (h : Row w g t q n x y) {i : Nat} (hi : i < n) : w.cell? ⟨g, i * 2 + 1, none⟩ = some (.int q (y i)) := by
  obtain ⟨cs, hb, hc⟩ := h.blk
  simp [World.cell?, hb, (hc i hi).2]
theorem Row.free {w g t q n x y} (h : Row w g t q n x y) (j : Nat) : w.frozen? ⟨g, j, none⟩ = false := by
  obtain ⟨cs, hb, hc⟩ := h.blk
  simp [World.frozen?, hb]
theorem Row.lt {w g t q n x y} (h : Row w g t q n x y) : g < w.heap.size := by
  obtain ⟨cs, hb, _⟩ := h.blk
  exact (Array.getElem?_eq_some_iff.1 hb).1
theorem Row.block {w w' : World} {g t q n x y} (h : Row w g t q n x y) (e : w'.heap[g]? = w.heap[g]?) : Row w' g t q n x y := by
  obtain ⟨cs, hb, hc⟩ := h.blk
  exact ⟨cs, e.trans hb, hc⟩
def set1 (x : Nat → Int) (i : Nat) (v : Int) : Nat → Int := fun j => if j = i then v else x j
/-- A counter is written. -/
theorem Row.store {w : World} {g t q n x y} (h : Row w g t q n x y) {i : Nat} (hi : i < n) (u v : Int) : Row ((w.setCell ⟨g, i * 2, none⟩ (.int .i64 u)).setCell ⟨g, i * 2 + 1, none⟩ (.int q v)) g t q n (set1 x i u) (set1 y i v) := by
  obtain ⟨cs, hb, hc⟩ := h.blk
  refine ⟨(cs.setIfInBounds (i * 2) (.int .i64 u)).setIfInBounds (i * 2 + 1) (.int q v), ?_, fun j hj => ?_⟩
  · simp [World.setCell, Array.getElem?_modify, hb]
  · obtain ⟨h1, h2⟩ := hc j hj
    obtain ⟨l1, _⟩ := Array.getElem?_eq_some_iff.1 h1
    obtain ⟨l2, _⟩ := Array.getElem?_eq_some_iff.1 h2
    by_cases e : j = i
    · subst e
      constructor
      · rw [Array.getElem?_setIfInBounds_ne (by omega), Array.getElem?_setIfInBounds_self_of_lt l1]; simp [set1]
      · rw [Array.getElem?_setIfInBounds_self_of_lt (by simpa using l2)]; simp [set1]
    · constructor
      · rw [Array.getElem?_setIfInBounds_ne (by omega), Array.getElem?_setIfInBounds_ne (by omega)]; simp [set1, e, h1]
      · rw [Array.getElem?_setIfInBounds_ne (by omega), Array.getElem?_setIfInBounds_ne (by omega)]; simp [set1, e, h2]
end Go.Proofs.Ytmcejkimpjfmmaa
