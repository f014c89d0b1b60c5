/- Slices of flat structs that came in. -/
import Derived.Test.YtmcejkimpjfmmaaProg
import Derived.WalkKit
import Derived.ProofKit
import Derived.Deep.SlicePairs
import Derived.Deep.Strs
set_option linter.unusedVariables false
set_option linter.unusedSimpArgs false
namespace Go.Proofs.Ytmcejkimpjfmmaa
open Go.ChangeShapes Go.WideShapes Go.ChangeAt Go.RowKit Go.Deep
section
variable {H : Type} {enc : TypeId × Value → H} {P : Program} {w : World} {base : Nat} {spare : Nat → Bool} {held : Bool}

/-- An element's cell: the j-th field is a whole number. -/
theorem flat_int {e : TypeId} {fs : Array Field} {n : Nat} {cs : List Value} {y : DataW H × List MemPlace} (he : P.underlying e = some (.struct fs)) (h : DataW.trod enc P w base spare held n e cs = some y)
    {j : Nat} {f : Field} {k : IntKind} (hj : fs[j]? = some f) (ho : f.offset = j) (hk : P.underlying f.type = some (.int k)) (hc : P.cellsOf f.type = 1) : ∃ x, cs[j]? = some (.int k x) ∧ (Lit.int k x).wf = true := by
  obtain ⟨xs, m, _, _, hl, hxl, hf⟩ := DataW.trod_struct he h
  have hg := hf j f hj
  rw [ho, hc] at hg
  have hjl : j < xs.length := by
    have := (Array.getElem?_eq_some_iff.1 hj).1
    omega
  rw [List.getElem?_eq_getElem hjl] at hg
  obtain ⟨x, hx, _, hw⟩ := DataW.trod_int hk hg
  refine ⟨x, ?_, hw⟩
  have h1 : (List.take 1 (List.drop j cs))[0]? = some (.int k x) := by rw [hx]; rfl
  rw [List.getElem?_take_of_lt (by omega), List.getElem?_drop] at h1
  simpa using h1
theorem flat_bool {e : TypeId} {fs : Array Field} {n : Nat} {cs : List Value} {y : DataW H × List MemPlace} (he : P.underlying e = some (.struct fs)) (h : DataW.trod enc P w base spare held n e cs = some y)
    {j : Nat} {f : Field} (hj : fs[j]? = some f) (ho : f.offset = j) (hk : P.underlying f.type = some .bool) (hc : P.cellsOf f.type = 1) : ∃ x, cs[j]? = some (.bool x) := by
  obtain ⟨xs, m, _, _, hl, hxl, hf⟩ := DataW.trod_struct he h
  have hg := hf j f hj
  rw [ho, hc] at hg
  have hjl : j < xs.length := by
    have := (Array.getElem?_eq_some_iff.1 hj).1
    omega
  rw [List.getElem?_eq_getElem hjl] at hg
  obtain ⟨x, hx, _⟩ := DataW.trod_bool hk hg
  refine ⟨x, ?_⟩
  have h1 : (List.take 1 (List.drop j cs))[0]? = some (.bool x) := by rw [hx]; rfl
  rw [List.getElem?_take_of_lt (by omega), List.getElem?_drop] at h1
  simpa using h1

/-- A slice of structs that came in: nil, or its elements' cells, each read as a struct. -/
theorem flat_slice {t e : TypeId} {fuel : Nat} {cs : List Value} {x : DataW H × List MemPlace} (ht : P.underlying t = some (.slice e)) (h : DataW.trod enc P w base spare held fuel t cs = some x) :
    (cs = [.slice none 0 0]) ∨
    ∃ (a : Addr) (len cap n : Nat), cs = [.slice (some a) len cap] ∧ len ≤ cap ∧ cap ≤ maxLen ∧
      ∀ i, i < len → ∃ (es : List Value) (y : DataW H × List MemPlace), es.length = P.cellsOf e ∧ (∀ j v, es[j]? = some v → w.cell? (a.add (i * P.cellsOf e + j)) = some v) ∧ DataW.trod enc P w base spare held n e es = some y := by
  rcases open_slice ht h with h0 | ⟨a, len, cap, m, n, D, Pl, rfl, hb, hl, hm, hmm, rfl, hx⟩
  · exact Or.inl h0.1
  right
  have hlm : len ≤ m := by rw [hmm]; split <;> omega
  refine ⟨a, len, cap, n, rfl, hl, hm, fun i hi => ?_⟩
  obtain ⟨es, h1, h2⟩ := hx i (by omega)
  obtain ⟨_, hlen, hcell⟩ := World.cells?_some h1
  refine ⟨es, _, hlen, fun j v hj => ?_, h2⟩
  have hjl := (List.getElem?_eq_some_iff.1 hj).1
  have e0 := hcell j (by omega)
  rw [add_add] at e0
  rw [e0, hj]
/-- A struct that came in by value: its cells. -/
theorem agg_cells {r : Reach} {b0 : Nat} {t : TypeId} {fs : Array Field} {v : Value} {d : DataW H} {p : List MemPlace} (hs : P.underlying t = some (.struct fs)) (hv : Value.okWide P w r b0 t v) (h : DataW.Trod enc P w base spare held t v d p) :
    ∃ l : List Value, v = .agg ⟨l⟩ ∧ l.length = P.cellsOf t ∧ ∃ n y, DataW.trod enc P w base spare held n t l = some y := by
  obtain ⟨cs, rfl, hsz⟩ := okWide_struct hs hv
  obtain ⟨l⟩ := cs
  obtain ⟨n, hf⟩ := h
  exact ⟨l, rfl, by simpa using hsz, n, _, hf⟩
end
theorem list_of6 {l : List Value} {a b c d e f : Value} (h : l.length = 6) (h0 : l[0]? = some a) (h1 : l[1]? = some b) (h2 : l[2]? = some c) (h3 : l[3]? = some d) (h4 : l[4]? = some e) (h5 : l[5]? = some f) : l = [a, b, c, d, e, f] := by
  match l, h with
  | [_, _, _, _, _, _], _ => simp_all
end Go.Proofs.Ytmcejkimpjfmmaa
