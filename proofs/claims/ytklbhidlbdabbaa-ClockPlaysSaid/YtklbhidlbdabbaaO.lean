/- The walk of the law ClockTrue, for a row that came in. -/
import Derived.Test.YtklbhidlbdabbaaN
set_option linter.unusedVariables false
set_option linter.unusedSimpArgs false
namespace Go.Proofs.Ytklbhidlbdabbaa
open Go.RowKit Go.Lib Go.Maps Go.Sort

theorem cell_lt {w : World} {a : Addr} {v : Value} (h : w.cell? a = some v) : a.block < w.heap.size :=
  Nat.lt_of_not_le fun hle => by
    have e : w.heap[a.block]? = none := Array.getElem?_eq_none hle
    simp [World.cell?, e] at h

/-- Its cells, where a row of Acts lies. -/
theorem acts_of {w : World} {x : Addr} {len : Nat} (h : ∀ i, i < len → ∃ (y0 : Int) (y1 : Int) (y2 : Int), w.cell? (x.add (i * 3 + 0)) = some (.int .i64 y0) ∧ w.cell? (x.add (i * 3 + 1)) = some (.int .i64 y1) ∧ w.cell? (x.add (i * 3 + 2)) = some (.int .i64 y2) ∧ (Lit.int .i64 y0).wf = true ∧ (Lit.int .i64 y1).wf = true ∧ (Lit.int .i64 y2).wf = true) :
    ∃ D T N, Acts w (some x) len D T N ∧ ∀ j, j < len → I64 (T j) ∧ I64 (N j) := by
  have h' : ∀ i, ∃ y0 y1 y2 : Int, i < len → w.cell? (x.add (i * 3 + 0)) = some (.int .i64 y0) ∧ w.cell? (x.add (i * 3 + 1)) = some (.int .i64 y1) ∧ w.cell? (x.add (i * 3 + 2)) = some (.int .i64 y2) ∧ (Lit.int .i64 y0).wf = true ∧ (Lit.int .i64 y1).wf = true ∧ (Lit.int .i64 y2).wf = true := fun i => by
    by_cases hi : i < len
    · obtain ⟨a, b, c, k⟩ := h i hi; exact ⟨a, b, c, fun _ => k⟩
    · exact ⟨0, 0, 0, fun k => absurd k hi⟩
  obtain ⟨D, hD⟩ := Classical.axiomOfChoice h'
  obtain ⟨T, hT⟩ := Classical.axiomOfChoice hD
  obtain ⟨N, hN⟩ := Classical.axiomOfChoice hT
  refine ⟨D, T, N, fun h0 => ?_, fun j hj => ?_⟩
  · obtain ⟨b, off, spot⟩ := x
    have hspot : spot = none := by simpa [Addr.add] using World.cell?_spot (hN 0 h0).1
    subst hspot
    have hlt : b < w.heap.size := cell_lt (a := ⟨b, off + (0 * 3 + 0), none⟩) (by have := (hN 0 h0).1; rw [Go.WideShapes.add_plain] at this; exact this)
    refine ⟨b, off, rfl, hlt, fun j hj => ?_⟩
    obtain ⟨a1, a2, a3, _⟩ := hN j hj
    rw [Go.WideShapes.add_plain] at a1 a2 a3
    exact ⟨a1, by rw [Nat.add_assoc]; exact a2, by rw [Nat.add_assoc]; exact a3⟩
  · obtain ⟨_, _, _, _, h2, h3⟩ := hN j hj
    exact ⟨of_wf h2, of_wf h3⟩

theorem true_all (a : Option Addr) (len cap : Nat) (i m : Int) (w : World) (hi : (Lit.int .i64 i).wf = true) (hm : (Lit.int .i64 m).wf = true)
    (h : (a = none ∧ len = 0 ∧ cap = 0) ∨ ∃ x, a = some x ∧ len ≤ cap ∧ cap ≤ maxLen ∧ ∀ i, i < len → ∃ (y0 : Int) (y1 : Int) (y2 : Int), w.cell? (x.add (i * 3 + 0)) = some (.int .i64 y0) ∧ w.cell? (x.add (i * 3 + 1)) = some (.int .i64 y1) ∧ w.cell? (x.add (i * 3 + 2)) = some (.int .i64 y2) ∧ (Lit.int .i64 y0).wf = true ∧ (Lit.int .i64 y1).wf = true ∧ (Lit.int .i64 y2).wf = true) :
    Calls Try.prog 7 #[.slice a len cap, .int .i64 i, .int .i64 m] w fun e w' => e = .returned (.bool true) ∧ Below w.heap.size w w' := by
  rcases h with ⟨rfl, rfl, rfl⟩ | ⟨x, rfl, hl, hc, hy⟩
  · exact true_near none 0 0 (fun _ => 0) (fun _ => 0) (fun _ => 0) i m w (by omega) (fun h => by omega) (fun j h => by omega) (of_wf hi) (of_wf hm)
  · by_cases h : 60 < len
    · exact true_far _ _ _ _ _ _ h (by unfold maxLen at hc; omega)
    · obtain ⟨D, T, N, hA, hI⟩ := acts_of hy
      exact true_near _ _ _ D T N i m w (by omega) hA hI (of_wf hi) (of_wf hm)
end Go.Proofs.Ytklbhidlbdabbaa
