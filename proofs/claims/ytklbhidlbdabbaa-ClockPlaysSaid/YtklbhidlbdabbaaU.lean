/- The reference's Sleepers. -/
import Derived.Test.YtklbhidlbdabbaaT
set_option linter.unusedVariables false
set_option linter.unusedSimpArgs false
namespace Go.Proofs.Ytklbhidlbdabbaa
open Go.RowKit Go.Lib Go.Maps Go.Sort
attribute [local go_sem ↓] Go.wp_at_zero Go.wp_at_succ

def le2 (p q : Int × Int) : Prop := p.2 < q.2 ∨ (p.2 = q.2 ∧ p.1 ≤ q.1)
/-- Of the first j pairs the best one stands at bi; -1: none is above now. -/
def Best (ps : List (Int × Int)) (now : Int) (j : Nat) (bi : Int) : Prop :=
  (bi = -1 ∧ ∀ i p, i < j → ps[i]? = some p → p.2 ≤ now) ∨ ∃ (k : Nat) (pk : Int × Int), bi = (k : Int) ∧ k < j ∧ ps[k]? = some pk ∧ now < pk.2 ∧ ∀ i p, i < j → ps[i]? = some p → now < p.2 → le2 pk p
theorem Best.zero (ps now) : Best ps now 0 (-1) := .inl ⟨rfl, fun i p h => by omega⟩
theorem Best.skip {ps now j bi p} (h : Best ps now j bi) (hp : ps[j]? = some p) (hle : p.2 ≤ now) : Best ps now (j + 1) bi := by
  rcases h with ⟨e, h⟩ | ⟨k, pk, e, hk, hpk, hn, h⟩
  · exact .inl ⟨e, fun i p' hi hp' => by
      by_cases hij : i = j
      · subst hij; rw [hp] at hp'; cases hp'; exact hle
      · exact h i p' (by omega) hp'⟩
  · exact .inr ⟨k, pk, e, by omega, hpk, hn, fun i p' hi hp' hn' => by
      by_cases hij : i = j
      · subst hij; rw [hp] at hp'; cases hp'; omega
      · exact h i p' (by omega) hp' hn'⟩
theorem Best.first {ps now j p} (h : ∀ i p, i < j → ps[i]? = some p → p.2 ≤ now) (hp : ps[j]? = some p) (hgt : now < p.2) : Best ps now (j + 1) (j : Int) :=
  .inr ⟨j, p, rfl, by omega, hp, hgt, fun i p' hi hp' hn' => by
    by_cases hij : i = j
    · subst hij; rw [hp] at hp'; cases hp'; exact .inr ⟨rfl, Int.le_refl _⟩
    · have := h i p' (by omega) hp'; omega⟩
theorem Best.better {ps now j p} {pk} (h : ∀ i p, i < j → ps[i]? = some p → now < p.2 → le2 pk p) (hp : ps[j]? = some p) (hgt : now < p.2) (hb : p.2 < pk.2 ∨ (p.2 = pk.2 ∧ p.1 < pk.1)) : Best ps now (j + 1) (j : Int) :=
  .inr ⟨j, p, rfl, by omega, hp, hgt, fun i p' hi hp' hn' => by
    by_cases hij : i = j
    · subst hij; rw [hp] at hp'; cases hp'; exact .inr ⟨rfl, Int.le_refl _⟩
    · have := h i p' (by omega) hp' hn'; unfold le2 at *; omega⟩
theorem Best.keep {ps now j p} {k : Nat} {pk} (hk : k < j) (hpk : ps[k]? = some pk) (hn : now < pk.2) (h : ∀ i p, i < j → ps[i]? = some p → now < p.2 → le2 pk p) (hp : ps[j]? = some p) (hb : ¬ (p.2 < pk.2 ∨ (p.2 = pk.2 ∧ p.1 < pk.1))) : Best ps now (j + 1) (k : Int) :=
  .inr ⟨k, pk, rfl, by omega, hpk, hn, fun i p' hi hp' hn' => by
    by_cases hij : i = j
    · subst hij; rw [hp] at hp'; cases hp'; unfold le2; omega
    · exact h i p' (by omega) hp' hn'⟩

/-- os are the first of those who sleep, in their order; f1 holds the rest. -/
structure Sel (f : Int → Option Int) (now : Int) (os : List Int) (f1 : Int → Option Int) : Prop where
  sub : ∀ t u, f1 t = some u → f t = some u
  rest : ∀ t u, f t = some u → now < u → t ∈ os ∨ f1 t = some u
  outs : ∀ t, t ∈ os → f1 t = none ∧ ∃ u, f t = some u ∧ now < u
  nodup : os.Nodup
  sorted : os.Pairwise (lexLe f)
  before : ∀ s, s ∈ os → ∀ t u, f1 t = some u → now < u → lexLe f s t
theorem Sel.start (f now) : Sel f now [] f := ⟨fun _ _ h => h, fun _ _ h _ => .inr h, fun _ h => by simp at h, by simp, by simp, fun _ h => by simp at h⟩
theorem Sel.done {f now os f1} (h : Sel f now os f1) (hno : ∀ t u, f1 t = some u → u ≤ now) : SleepList f now os where
  nodup := h.nodup
  mem t := ⟨fun ht => (h.outs t ht).2, fun ⟨u, hu, hl⟩ => by
    rcases h.rest t u hu hl with k | k
    · exact k
    · have := hno t u k; omega⟩
  sorted := h.sorted
theorem Sel.step {f now os f1 t u} (h : Sel f now os f1) (ht : f1 t = some u) (hu : now < u) (hmin : ∀ x v, f1 x = some v → now < v → le2 (t, u) (x, v)) : Sel f now (os ++ [t]) (upd f1 t none) where
  sub x v e := by
    unfold upd at e
    split at e
    · cases e
    · exact h.sub x v e
  rest x v e hl := by
    rcases h.rest x v e hl with k | k
    · exact .inl (by simp [k])
    · by_cases hx : x = t
      · exact .inl (by simp [hx])
      · exact .inr (by simp [upd, hx, k])
  outs x hx := by
    rcases List.mem_append.1 hx with k | k
    · refine ⟨?_, (h.outs x k).2⟩
      unfold upd; split
      · rfl
      · exact (h.outs x k).1
    · simp at k; subst k
      exact ⟨by simp [upd], u, h.sub _ _ ht, hu⟩
  nodup := by
    rw [List.nodup_append]
    refine ⟨h.nodup, by simp, ?_⟩
    rintro a ha b hb rfl
    simp at hb; subst hb
    have := (h.outs _ ha).1; rw [ht] at this; cases this
  sorted := by
    rw [List.pairwise_append]
    refine ⟨h.sorted, by simp, fun a ha b hb => ?_⟩
    simp at hb; subst hb
    exact h.before a ha _ u ht hu
  before s hs x v e hl := by
    unfold upd at e
    split at e
    · cases e
    · rcases List.mem_append.1 hs with k | k
      · exact h.before s k x v e hl
      · simp at k; subst k
        have h1 := hmin x v e hl
        unfold le2 at h1
        unfold lexLe
        rw [h.sub _ _ ht, h.sub _ _ e]
        exact h1

theorem own_block {w w' : World} {base n : Nat} {e : TypeId} {size : Nat} {v : Value} {xs : List Value} (h : w.ownsRow base e size v n xs) (hb : ∀ g, v.ownBlock = some g → w'.heap[g]? = w.heap[g]?) : w'.ownsRow base e size v n xs := by
  refine ⟨h.1, ?_⟩
  rcases h.2 with h2 | ⟨g, cap, cur, rfl, h1, h2, h3⟩
  · exact .inl h2
  · exact .inr ⟨g, cap, cur, rfl, h1, (hb g (by simp [Value.ownBlock])).trans h2, h3⟩
theorem RS.setCell_ne {w : World} {B A n xs} (h : RS w B A n xs) (p : Addr) (u : Value) (hp : ∀ b o, A = some ⟨b, o, none⟩ → b ≠ p.block) : RS (w.setCell p u) B A n xs :=
  ⟨h.1, fun h0 => by
    obtain ⟨b, o, e, h1, h2, h3⟩ := h.2 h0
    exact ⟨b, o, e, h1, by simpa using h2, fun j u hu => (World.cell?_of_block (Below.heap_setCell w p _ b (hp b o e))).trans (h3 j u hu)⟩⟩
theorem blk3_set0 {w : World} {b : Nat} {v0 v1 v2 : Value} {t : TypeId} (h : w.heap[b]? = some (.cells #[v0, v1, v2] t (0, 0))) (u : Value) :
    (w.setCell ⟨b, 0, none⟩ u).heap[b]? = some (.cells #[u, v1, v2] t (0, 0)) := by simp [World.setCell, Array.getElem?_modify, h]
end Go.Proofs.Ytklbhidlbdabbaa
