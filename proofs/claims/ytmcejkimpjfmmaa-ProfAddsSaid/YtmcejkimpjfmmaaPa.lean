/- The plain law of ProfAdds: order plays no part. -/
import Derived.Test.YtmcejkimpjfmmaaP
set_option linter.unusedVariables false
set_option linter.unusedSimpArgs false
namespace Go.Proofs.Ytmcejkimpjfmmaa

/-- Calls, turns and pairs that may be told. -/
def plA (x : Ac) : Bool := decide (0 ≤ x.d ∧ x.d ≤ 2) && goodA 5 5 x
def tolds (xs : List Ac) : List Ac := xs.filter plA
def cntA (L : List Ac) : Nat := L.countP fun x => decide (x.d < 2)
theorem tolds_snoc_hit {xs : List Ac} {x : Ac} (h : plA x = true) : tolds (xs ++ [x]) = tolds xs ++ [x] := by simp [tolds, List.filter_append, h]
theorem tolds_snoc_miss {xs : List Ac} {x : Ac} (h : plA x = false) : tolds (xs ++ [x]) = tolds xs := by simp [tolds, List.filter_append, h]
theorem tolds_rev (xs : List Ac) : tolds xs.reverse = (tolds xs).reverse := by simp [tolds, List.filter_reverse]
theorem tolds_len (xs : List Ac) : (tolds xs).length ≤ xs.length := List.length_filter_le _ _
theorem plA_iff {x : Ac} (h : plA x = true) : 0 ≤ x.d ∧ x.d ≤ 2 ∧ 0 ≤ x.f ∧ x.f < 5 := by
  unfold plA goodA at h
  simp only [Bool.and_eq_true, decide_eq_true_eq] at h
  obtain ⟨h1, h2⟩ := h
  split at h2
  · simp only [decide_eq_true_eq] at h2; omega
  · split at h2 <;> simp only [decide_eq_true_eq] at h2 <;> omega
theorem heat_count (L : List Ac) (g : Int) (h : ∀ x ∈ L, plA x = true) : heatL L g = (L.countP fun x => decide (x.d < 2) && decide (x.f = g) : Nat) := by
  revert h
  refine rev_ind (P := fun L => (∀ x ∈ L, plA x = true) → heatL L g = (L.countP fun x => decide (x.d < 2) && decide (x.f = g) : Nat)) (fun _ => rfl) ?_ L
  intro L x ih h
  have hx := plA_iff (h x (by simp))
  rw [heatL_snoc, ih (fun y hy => h y (by simp [hy])), List.countP_append]
  unfold heat1
  by_cases e : x.f = g
  · by_cases e2 : x.d < 2
    · rw [if_neg (by simp [e]), if_neg (by omega), if_pos (by omega)]
      simp [e, e2]
    · rw [if_neg (by simp [e]), if_neg (by omega), if_neg (by omega)]
      simp [e2]
  · rw [if_pos e]
    simp [e]
theorem heat_rev (L : List Ac) (g : Int) (h : ∀ x ∈ L, plA x = true) : heatL L.reverse g = heatL L g := by
  rw [heat_count _ _ (fun x hx => h x (by simpa using hx)), heat_count _ _ h, List.countP_reverse]
theorem kinds_rev (L : List Ac) (f t : Int) : kindsL L.reverse f t = kindsL L f t := by
  simp [kindsL, mask, lefts, rights, List.any_reverse]
def sumH (L : List Ac) : Nat → Int
  | 0 => 0
  | g + 1 => sumH L g + heatL L g
theorem sum_all (L : List Ac) (h : ∀ x ∈ L, plA x = true) : sumH L 5 = (cntA L : Int) := by
  revert h
  refine rev_ind (P := fun L => (∀ x ∈ L, plA x = true) → sumH L 5 = (cntA L : Int)) (fun _ => rfl) ?_ L
  intro L x ih h
  have hx := plA_iff (h x (by simp))
  have ih := ih (fun y hy => h y (by simp [hy]))
  have e : cntA (L ++ [x]) = cntA L + if x.d < 2 then 1 else 0 := by
    unfold cntA
    rw [List.countP_append]
    by_cases e2 : x.d < 2 <;> simp [e2]
  rw [e]
  simp only [sumH, heatL_snoc] at ih ⊢
  have hh : ∀ g : Int, heat1 g (heatL L g) x = heatL L g + if x.d < 2 ∧ x.f = g then 1 else 0 := by
    intro g
    unfold heat1
    by_cases e : x.f = g
    · by_cases e2 : x.d < 2
      · rw [if_neg (by simp [e]), if_neg (by omega), if_pos (by omega), if_pos ⟨e2, e⟩]
      · rw [if_neg (by simp [e]), if_neg (by omega), if_neg (by omega), if_neg (by omega)]; omega
    · rw [if_pos e, if_neg (by omega)]; omega
  rw [hh, hh, hh, hh, hh]
  have hf : x.f = 0 ∨ x.f = 1 ∨ x.f = 2 ∨ x.f = 3 ∨ x.f = 4 := by omega
  clear hh h e
  by_cases e2 : x.d < 2
  · rcases hf with e | e | e | e | e <;> simp [e, e2] at ih ⊢ <;> omega
  · simp [e2] at ih ⊢; omega
/-- The first n. -/
def firsts (X : Nat → Ac) (n : Nat) : List Ac := (List.range n).map X
theorem firsts_succ (X n) : firsts X (n + 1) = firsts X n ++ [X n] := by simp [firsts, List.range_succ]
theorem firsts_len (X n) : (firsts X n).length = n := by simp [firsts]
/-- The last n of N, from behind. -/
def lasts (X : Nat → Ac) (N n : Nat) : List Ac := (List.range n).map fun i => X (N - 1 - i)
theorem lasts_succ (X N n) : lasts X N (n + 1) = lasts X N n ++ [X (N - 1 - n)] := by simp [lasts, List.range_succ]
theorem lasts_len (X N n) : (lasts X N n).length = n := by simp [lasts]
theorem lasts_all (X N) : lasts X N N = (firsts X N).reverse := by
  apply List.ext_getElem
  · simp [lasts, firsts]
  · intro i h1 h2
    simp [lasts, firsts, List.getElem_reverse]
end Go.Proofs.Ytmcejkimpjfmmaa
