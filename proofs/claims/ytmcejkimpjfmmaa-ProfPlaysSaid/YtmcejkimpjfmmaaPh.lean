/- The plain law of the reference's Hot: the hottest of those that are left, again and again. -/
import Derived.Test.YtmcejkimpjfmmaaP
set_option linter.unusedVariables false
set_option linter.unusedSimpArgs false
namespace Go.Proofs.Ytmcejkimpjfmmaa

def Qual (h : Nat → Int) (least : Int) (f : Nat) : Prop := 0 < h f ∧ least ≤ h f
/-- b is the first of the hottest below j. -/
def IsBest (h : Nat → Int) (least : Int) (j b : Nat) : Prop := b < j ∧ Qual h least b ∧ ∀ f, f < j → Qual h least f → h f < h b ∨ (h f = h b ∧ b ≤ f)
def NoBest (h : Nat → Int) (least : Int) (j : Nat) : Prop := ∀ f, f < j → ¬ Qual h least f
theorem NoBest.zero (h least) : NoBest h least 0 := fun f hf => by omega
theorem NoBest.skip {h least j} (a : NoBest h least j) (q : ¬ Qual h least j) : NoBest h least (j + 1) := fun f hf => by
  by_cases e : f = j
  · subst e; exact q
  · exact a f (by omega)
theorem NoBest.take {h least j} (a : NoBest h least j) (q : Qual h least j) : IsBest h least (j + 1) j := ⟨by omega, q, fun f hf hq => by
  by_cases e : f = j
  · subst e; exact .inr ⟨rfl, Nat.le_refl _⟩
  · exact absurd hq (a f (by omega))⟩
theorem IsBest.skip {h least j b} (a : IsBest h least j b) (q : ¬ (Qual h least j ∧ h b < h j)) : IsBest h least (j + 1) b := ⟨by have := a.1; omega, a.2.1, fun f hf hq => by
  by_cases e : f = j
  · subst e
    have := a.1
    have h1 : ¬ h b < h f := fun k => q ⟨hq, k⟩
    omega
  · exact a.2.2 f (by omega) hq⟩
theorem IsBest.take {h least j b} (a : IsBest h least j b) (q : Qual h least j) (k : h b < h j) : IsBest h least (j + 1) j := ⟨by omega, q, fun f hf hq => by
  by_cases e : f = j
  · subst e; exact .inr ⟨rfl, Nat.le_refl _⟩
  · have := a.2.2 f (by omega) hq
    omega⟩

/-- What has been taken, and what is left. -/
def left (h : Nat → Int) (l : List Nat) : Nat → Int := fun f => if f ∈ l then 0 else h f
structure Taken (h : Nat → Int) (F : Nat) (least : Int) (l : List Nat) : Prop where
  nodup : l.Nodup
  qual : ∀ x ∈ l, x < F ∧ Qual h least x
  sorted : l.Pairwise fun x y => h y < h x ∨ (h x = h y ∧ x < y)
  rest : ∀ x ∈ l, ∀ y, y < F → y ∉ l → Qual h least y → h y < h x ∨ (h x = h y ∧ x < y)
theorem Taken.nil (h F least) : Taken h F least [] := ⟨by simp, by simp, by simp, by simp⟩
theorem left_in {h l f} (e : f ∈ l) : left h l f = 0 := if_pos e
theorem left_out {h l f} (e : f ∉ l) : left h l f = h f := if_neg e
theorem qual_left {h least l f} : Qual (left h l) least f ↔ f ∉ l ∧ Qual h least f := by
  by_cases e : f ∈ l
  · simp [Qual, left, e]
  · simp [Qual, left, e]
theorem Taken.done {h F least l} (a : Taken h F least l) (n : NoBest (left h l) least F) : Hots h F least l :=
  ⟨a.nodup, fun f => ⟨fun hf => a.qual f hf, fun hf => by
    by_cases e : f ∈ l
    · exact e
    · exact absurd (qual_left.2 ⟨e, hf.2⟩) (n f hf.1)⟩, a.sorted⟩
theorem Taken.step {h F least l b} (a : Taken h F least l) (n : IsBest (left h l) least F b) : b ∉ l ∧ Taken h F least (l ++ [b]) ∧ left h (l ++ [b]) = fun f => if f = b then 0 else left h l f := by
  obtain ⟨hb, hq, hr⟩ := n
  obtain ⟨hbl, hq⟩ := qual_left.1 hq
  refine ⟨hbl, ⟨?_, ?_, ?_, ?_⟩, ?_⟩
  · rw [List.nodup_append]
    exact ⟨a.nodup, by simp, fun x hx y hy => by simp at hy; subst hy; exact fun e => hbl (e ▸ hx)⟩
  · intro x hx
    rcases List.mem_append.1 hx with hx | hx
    · exact a.qual x hx
    · simp at hx; subst hx; exact ⟨hb, hq⟩
  · rw [List.pairwise_append]
    refine ⟨a.sorted, by simp, fun x hx y hy => ?_⟩
    simp at hy; subst hy
    exact a.rest x hx y hb hbl hq
  · intro x hx y hy hyl hyq
    have hyl' : y ∉ l ∧ y ≠ b := by simpa using hyl
    rcases List.mem_append.1 hx with hx | hx
    · exact a.rest x hx y hy hyl'.1 hyq
    · simp at hx; subst hx
      have := hr y hy (qual_left.2 ⟨hyl'.1, hyq⟩)
      rw [left_out hyl'.1, left_out hbl] at this
      have := hyl'.2
      omega
  · funext f
    by_cases e : f = b
    · subst e; simp [left]
    · simp [left, e]
theorem Taken.len {h F least l} (a : Taken h F least l) : l.length ≤ F := by
  have hp : l.length = ((List.range F).filter fun f => decide (f ∈ l)).length := by
    refine List.Perm.length_eq ?_
    rw [List.perm_ext_iff_of_nodup a.nodup (List.nodup_range.filter _)]
    intro f
    simp
    exact fun hf => (a.qual f hf).1
  rw [hp]
  have := List.length_filter_le (fun f => decide (f ∈ l)) (List.range F)
  simpa using this
end Go.Proofs.Ytmcejkimpjfmmaa
