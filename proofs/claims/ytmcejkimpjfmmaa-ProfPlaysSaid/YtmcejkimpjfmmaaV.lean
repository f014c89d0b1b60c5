/- The library's sort at the order of the hottest. -/
import Derived.Test.YtmcejkimpjfmmaaU
import Derived.Test.YtmcejkimpjfmmaaShelf
set_option linter.unusedVariables false
set_option linter.unusedSimpArgs false
namespace Go.Proofs.Ytmcejkimpjfmmaa
open Go.RowKit Go.Lib Go.Maps Go.Sort Go.Shelf

abbrev encW (x : Int × Int) : List Value := [.int .i64 x.1, .int .i64 x.2]
abbrev cfW (x y : Int × Int) : Int := lexc y.2 x.2 x.1 y.1
theorem lexc_neg (u v x y : Int) : lexc u v x y < 0 ↔ u < v ∨ (u = v ∧ x < y) := by
  have hc : ∀ a b : Int, (a < b ∧ cmp3 a b = -1) ∨ (a = b ∧ cmp3 a b = 0) ∨ (b < a ∧ cmp3 a b = 1) := by
    intro a b
    unfold cmp3
    rcases Int.lt_trichotomy a b with h | h | h
    · exact .inl ⟨h, if_pos h⟩
    · exact .inr (.inl ⟨h, by rw [if_neg (by omega), if_neg (by omega)]⟩)
    · exact .inr (.inr ⟨h, by rw [if_neg (by omega), if_pos h]⟩)
  unfold lexc
  rcases hc u v with ⟨h, e⟩ | ⟨h, e⟩ | ⟨h, e⟩ <;> rcases hc x y with ⟨h', e'⟩ | ⟨h', e'⟩ | ⟨h', e'⟩ <;> rw [e] <;> simp [e'] <;> omega
theorem lt_iff (x y : Int × Int) : ltOf cfW x y = true ↔ y.2 < x.2 ∨ (y.2 = x.2 ∧ x.1 < y.1) := by
  unfold ltOf; rw [decide_eq_true_eq]; exact lexc_neg ..
theorem lt_false_iff (x y : Int × Int) : ltOf cfW x y = false ↔ ¬ (y.2 < x.2 ∨ (y.2 = x.2 ∧ x.1 < y.1)) := by
  rw [← Bool.not_eq_true, lt_iff]
theorem swo : SWO (ltOf cfW) where
  irrefl x := by rw [lt_false_iff]; omega
  trans x y z h1 h2 := by rw [lt_iff] at *; omega
  ntrans x y z h1 h2 := by rw [lt_false_iff] at *; omega
theorem cmpLaysW (blk off size : Nat) (w : World) : CmpLays Try.prog 32 #[] encW 2 cfW blk off size w := fun _ _ _ _ x y => hotter_any x y _

theorem cells2_get (q : IntKind) (xs : List (Int × Int)) (t : Nat) (ht : t < xs.length * 2) : (cells2 q xs)[t]? = some ([Value.int .i64 xs[t / 2]!.1, Value.int q xs[t / 2]!.2][t % 2]!) := by
  induction xs generalizing t with
  | nil => simp at ht
  | cons x xs ih =>
    have e : cells2 q (x :: xs) = Value.int .i64 x.1 :: Value.int q x.2 :: cells2 q xs := by simp [cells2]
    rw [e]
    match t, ht with
    | 0, _ => rfl
    | 1, _ => rfl
    | t + 2, ht =>
      simp only [List.getElem?_cons_succ]
      rw [ih t (by simp at ht; omega)]
      simp [show (t + 2) / 2 = t / 2 + 1 by omega, show (t + 2) % 2 = t % 2 by omega]

theorem holds_of {w : World} {g : Nat} {cur : Array Value} {e : TypeId} {xs : List (Int × Int)} (hb : w.heap[g]? = some (.cells cur e (0, 0))) (ht : cur.toList.take (xs.length * 2) = cells2 .i64 xs) : HoldsK encW 2 w g 0 xs.toArray := by
  intro j hj
  have hj' : j < xs.length * 2 := by simpa using hj
  refine ⟨?_, by simp [World.frozen?, hb]⟩
  have h1 : (cur.toList.take (xs.length * 2))[j]? = (cells2 .i64 xs)[j]? := by rw [ht]
  rw [List.getElem?_take_of_lt hj', cells2_get _ _ _ hj'] at h1
  rw [get_flatK _ _ _ _ (by simpa using hj')]
  simp only [World.cell?, hb, Nat.zero_add]
  simp only [Option.isSome_none, Bool.false_eq_true, if_false]
  rw [← Array.getElem?_toList, h1]
  simp
theorem grownBy_sortedK {w : World} {g n : Nat} {os : Array Obj} (d : Array (Int × Int)) : w.grownBy (sortWorldK encW 2 w g 0 n d os) (some g) := by
  refine ⟨rfl, rfl, rfl, by simp [sortWorldK, putRowK], fun k hk hne => ?_⟩
  unfold sortWorldK
  rw [heap_grow_old _ _ (by simpa [putRowK] using hk)]
  have : g ≠ k := fun e => hne (by rw [e])
  simp [putRowK, putRow, mapBlock, Sort.ahead, Array.getElem?_modify, this]

set_option maxHeartbeats 1000000 in
theorem sort_any (W : World) (base g cap n0 : Nat) (xs : List (Int × Int)) (hn0 : xs.length = n0) (hown : W.ownsRow base 74 2 (.slice (some ⟨g, 0, none⟩) n0 cap) n0 (cells2 .i64 xs)) (hl : n0 < 4611686018427387904) :
    Calls Try.prog 31 #[.slice (some ⟨g, 0, none⟩) n0 cap, .func (.func 32) #[] #[]] W fun e w' => e = .returned (.tuple #[]) ∧
      ∃ ts : List (Int × Int), ts.Perm xs ∧ (ts.Pairwise fun x y => ¬ (x.2 < y.2 ∨ (x.2 = y.2 ∧ y.1 < x.1))) ∧ (∀ i x, ts[i]? = some x → w'.cell? ⟨g, i * 2, none⟩ = some (.int .i64 x.1) ∧ w'.cell? ⟨g, i * 2 + 1, none⟩ = some (.int .i64 x.2)) ∧ W.grownBy w' (some g) := by
  subst hn0
  have eg : ∀ args w, (callFunc 32 args).run Try.prog w = .ok (.enter 32 args) w := enters_of Try.func32 (by kernel_rfl) rfl
  rcases hown.2 with ⟨h0, _⟩ | ⟨g', cap', cur, hv, hg, hb, hn, hcap, hsz, htake⟩
  · cases h0
  cases hv
  have hH : HoldsK encW 2 W g 0 xs.toArray := holds_of hb htake
  have hblk := (Array.getElem?_eq_some_iff.1 hb).1
  have hc := AnyQ.slices_SortFunc Try.sortN 2 Try.isAgg74 Try.sizeOf74 encW (fun _ => rfl) (fun x v hv => by simp [encW] at hv; rcases hv with rfl | rfl <;> rfl) cfW swo 32 #[] g 0 cap xs.toArray W eg (cmpLaysW g 0 _ W) hH hblk (by simpa using hl)
  change Calls Try.prog 31 _ _ _ at hc
  rw [List.size_toArray] at hc
  refine hc.mono ?_
  rintro e w' ⟨rfl, d', n, os, ⟨hs1, _, hp⟩, hs, rfl⟩
  have hsz' : d'.size = xs.length := by simpa using hs1
  have hperm : d'.toList.Perm xs := by
    have e1 : d'.extract 0 xs.length = d' := by rw [← hsz']; simp
    rw [e1] at hp
    simpa using hp
  have hH' := holdsK_sortWorldK encW 2 W g 0 n xs.toArray d' os hblk hH (by simp [hsz'])
  refine ⟨rfl, d'.toList, hperm, ?_, fun i x hx => ?_, grownBy_sortedK d'⟩
  · rw [List.pairwise_iff_getElem]
    intro i j hi hj hij
    have hi' : i < d'.size := by simpa using hi
    have hj' : j < d'.size := by simpa using hj
    have := hs i j (Nat.zero_le _) hij (by omega)
    rw [getElem!_pos d' j hj', getElem!_pos d' i hi', lt_false_iff] at this
    simpa using this
  · have hi : i < d'.size := by
      have := (List.getElem?_eq_some_iff.1 hx).1
      simpa using this
    have c0 := (hH'.cell hi (show 0 < 2 by omega)).1
    have c1 := (hH'.cell hi (show 1 < 2 by omega)).1
    have e : d'[i]! = x := by
      rw [getElem!_pos d' i hi]
      rw [Array.getElem?_toList, Array.getElem?_eq_getElem hi] at hx
      injection hx
    rw [e] at c0 c1
    simp only [Nat.zero_add, Nat.add_zero] at c0 c1
    exact ⟨c0, c1⟩
end Go.Proofs.Ytmcejkimpjfmmaa
