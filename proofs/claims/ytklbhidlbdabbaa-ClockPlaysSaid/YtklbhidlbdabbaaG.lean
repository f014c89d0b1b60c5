/- The library's sort at the clock's comparison. -/
import Derived.Test.YtklbhidlbdabbaaF
import Derived.Test.YtklbhidlbdabbaaShelf
import Derived.Sort.OwnSortedInts
set_option linter.unusedVariables false
set_option linter.unusedSimpArgs false
namespace Go.Proofs.Ytklbhidlbdabbaa
open Go.RowKit Go.Lib Go.Maps Go.Sort Go.Shelf

/-- The whole numbers of 64 bits. -/
abbrev SI := { x : Int // I64 x }
instance : Inhabited SI := ⟨⟨0, by unfold I64; omega⟩⟩
abbrev encI (x : SI) : Value := .int .i64 x.1
theorem one_encI : OneCell encI := fun _ => rfl

def lexLe (f : Int → Option Int) (x y : Int) : Prop := (f x).getD 0 < (f y).getD 0 ∨ ((f x).getD 0 = (f y).getD 0 ∧ x ≤ y)
abbrev cfI (f : Int → Option Int) (x y : SI) : Int := lexc ((f x.1).getD 0) ((f y.1).getD 0) x.1 y.1
theorem lexc_neg (u v x y : Int) : lexc u v x y < 0 ↔ u < v ∨ (u = v ∧ x < y) := by
  have hc : ∀ a b : Int, (a < b ∧ cmp3 a b = -1) ∨ (a = b ∧ cmp3 a b = 0) ∨ (b < a ∧ cmp3 a b = 1) := by
    intro a b
    unfold cmp3
    rcases Int.lt_trichotomy a b with h | h | h
    · exact .inl ⟨h, if_pos h⟩
    · exact .inr (.inl ⟨h, by rw [if_neg (by omega), if_neg (by omega)]⟩)
    · exact .inr (.inr ⟨h, by rw [if_neg (by omega), if_pos h]⟩)
  unfold lexc
  rcases hc u v with ⟨h, e⟩ | ⟨h, e⟩ | ⟨h, e⟩ <;> rcases hc x y with ⟨h', e'⟩ | ⟨h', e'⟩ | ⟨h', e'⟩ <;> rw [e] <;> simp [e'] <;> omega
theorem lt_iff (f) (x y : SI) : ltOf (cfI f) x y = true ↔ (f x.1).getD 0 < (f y.1).getD 0 ∨ ((f x.1).getD 0 = (f y.1).getD 0 ∧ x.1 < y.1) := by
  unfold ltOf; rw [decide_eq_true_eq]; exact lexc_neg ..
theorem lt_false_iff (f) (x y : SI) : ltOf (cfI f) x y = false ↔ lexLe f y.1 x.1 := by
  rw [← Bool.not_eq_true, lt_iff]; unfold lexLe; omega
theorem swo (f) : SWO (ltOf (cfI f)) where
  irrefl x := by rw [lt_false_iff]; exact .inr ⟨rfl, Int.le_refl _⟩
  trans x y z h1 h2 := by rw [lt_iff] at *; omega
  ntrans x y z h1 h2 := by rw [lt_false_iff] at *; unfold lexLe at *; omega

theorem holds_of_blockE {α : Type} [Inhabited α] (en : α → Value) {w : World} {g : Nat} {cur : Array Value} {e : TypeId} {ss : List α} (hb : w.heap[g]? = some (.cells cur e (0, 0))) (ht : cur.toList.take ss.length = ss.map en) : Holds en w g 0 ss.toArray := by
  intro j hj
  have hj' : j < ss.length := by simpa using hj
  refine ⟨?_, by simp [World.frozen?, hb]⟩
  have h1 : (cur.toList.take ss.length)[j]? = (ss.map en)[j]? := by rw [ht]
  rw [List.getElem?_take_of_lt hj'] at h1
  simp only [World.cell?, hb, Nat.zero_add]
  simp only [Option.isSome_none, Bool.false_eq_true, if_false]
  rw [← Array.getElem?_toList, h1]
  simp [hj']
theorem heap_sortedE {α : Type} [Inhabited α] (en : α → Value) {w : World} {g n : Nat} {os : Array Obj} {cur : Array Value} {e : TypeId} {fr : Nat × Nat} (d : Array α) (hb : w.heap[g]? = some (.cells cur e fr)) :
    (sortWorld en w g 0 n d os).heap[g]? = some (.cells (putCells en 0 d cur) e fr) := by
  have hg : g < w.heap.size := (Array.getElem?_eq_some_iff.1 hb).1
  unfold sortWorld
  rw [heap_grow_old _ _ (by simpa using hg)]
  simp [putRow, mapBlock, Sort.ahead, Array.getElem?_modify, hb, onCells]
theorem grownBy_sortedE {α : Type} [Inhabited α] (en : α → Value) {w : World} {g n : Nat} {os : Array Obj} (d : Array α) : w.grownBy (sortWorld en w g 0 n d os) (some g) := by
  refine ⟨rfl, rfl, rfl, by simp [sortWorld], fun k hk hne => ?_⟩
  unfold sortWorld
  rw [heap_grow_old _ _ (by simpa using hk)]
  have : g ≠ k := fun e => hne (by rw [e])
  simp [putRow, mapBlock, Sort.ahead, Array.getElem?_modify, this]
theorem take_putCellsE {α : Type} [Inhabited α] (en : α → Value) (cur : Array Value) (ts : List α) (h : ts.length ≤ cur.size) : (putCells en 0 ts.toArray cur).toList.take ts.length = ts.map en := by
  apply List.ext_getElem?
  intro j
  by_cases hj : j < ts.length
  · rw [List.getElem?_take_of_lt hj, Array.getElem?_toList]
    simp [putCells, hj, show j < cur.size by omega]
  · rw [List.getElem?_take_eq_none (by omega), List.getElem?_eq_none (by simp; omega)]

theorem LessAt.grown {w w' : World} {b m k Bc f} {row : Option Nat} (h : LessAt w b m k Bc f) (hg : w.grownBy w' row) (h1 : some Bc ≠ row) (h2 : some b ≠ row) (h3 : some m ≠ row) : LessAt w' b m k Bc f :=
  ⟨(World.cell?_of_block (hg.block Bc (World.block_lt_of_cell? w _ h.cap) h1)).trans h.cap, (World.cell?_of_block (hg.block b (World.block_lt_of_cell? w _ h.cell) h2)).trans h.cell, h.map.kept hg h3⟩

set_option maxHeartbeats 1000000 in
theorem sort_any (W : World) (base g cap b m k Bc n0 : Nat) (f) (xs : List Int) (hn0 : xs.length = n0) (hx : ∀ x ∈ xs, I64 x) (hown : W.ownsRow base 3 1 (.slice (some ⟨g, 0, none⟩) n0 cap) n0 (xs.map (Value.int .i64)))
    (h : LessAt W b m k Bc f) (h1 : Bc ≠ g) (h2 : b ≠ g) (h3 : m ≠ g) (hl : n0 < 4611686018427387904) :
    Calls Try.prog 32 #[.slice (some ⟨g, 0, none⟩) n0 cap, .func (.func 33) #[] #[.pointer (some ⟨Bc, 0, none⟩)]] W fun e w' => e = .returned (.tuple #[]) ∧
      ∃ ts : List Int, ts.Perm xs ∧ ts.Pairwise (lexLe f) ∧ w'.ownsRow base 3 1 (.slice (some ⟨g, 0, none⟩) n0 cap) n0 (ts.map (Value.int .i64)) ∧ W.grownBy w' (some g) := by
  subst hn0
  obtain ⟨ys, rfl⟩ : ∃ ys : List SI, ys.map (·.1) = xs := ⟨xs.attachWith _ hx, by first | exact List.attachWith_map_subtype_val _ | simp⟩
  have eg : ∀ args w, (callFunc 33 args).run Try.prog w = .ok (.enter 33 args) w := enters_of Try.func33 (by kernel_rfl) rfl
  rcases hown.2 with ⟨h0, _⟩ | ⟨g', cap', cur, hv, hg, hb, hn, hcap, hsz, htake⟩
  · cases h0
  cases hv
  have hm : (ys.map (·.1)).map (Value.int .i64) = ys.map encI := by simp [List.map_map, Function.comp_def]
  have hlen : (ys.map (fun x : SI => x.1)).length = ys.length := by simp
  have hH : Holds encI W g 0 ys.toArray := holds_of_blockE encI hb (by rw [← hm, ← htake, hlen, Nat.mul_one])
  have hcmp : CmpLays1 Try.prog 33 #[.pointer (some ⟨Bc, 0, none⟩)] encI (cfI f) g 0 ys.toArray.size W := fun n os dk _ x y => by
    have hL := h.grown (grownBy_sortedE encI (g := g) (n := n) (os := os) dk) (by simpa using h1) (by simpa using h2) (by simpa using h3)
    exact less_any x.1 y.1 _ b m k Bc f hL x.2 y.2
  have hc := Any.slices_SortFunc Try.sortI encI one_encI (cfI f) (swo f) 33 #[.pointer (some ⟨Bc, 0, none⟩)] g 0 cap ys.toArray W eg hcmp hH (Array.getElem?_eq_some_iff.1 hb).1 (by simpa using hl)
  rw [hlen]
  change Calls Try.prog 32 _ _ _ at hc
  rw [List.size_toArray] at hc
  refine hc.mono ?_
  rintro e w' ⟨rfl, d', n, os, ⟨hs1, _, hp⟩, hs, rfl⟩
  have hsz' : d'.size = ys.length := by simpa using hs1
  have hperm : d'.toList.Perm ys := by
    have e1 : d'.extract 0 ys.length = d' := by rw [← hsz']; simp
    rw [e1] at hp
    simpa using hp
  refine ⟨rfl, d'.toList.map (·.1), hperm.map _, ?_, ⟨by simp [hsz'], .inr ⟨g, cap, _, rfl, hg, heap_sortedE encI d' hb, by rw [← hlen]; exact hn, hcap, by simp [putCells, hsz], ?_⟩⟩, grownBy_sortedE encI d'⟩
  · rw [List.pairwise_map, List.pairwise_iff_getElem]
    intro i j hi hj hij
    have hi' : i < d'.size := by simpa using hi
    have hj' : j < d'.size := by simpa using hj
    have := hs i j (Nat.zero_le _) hij (by omega)
    rw [getElem!_pos d' j hj', getElem!_pos d' i hi', lt_false_iff] at this
    simpa using this
  · have := take_putCellsE encI cur d'.toList (by rw [hsz, Array.length_toList, hsz']; rw [hlen] at hn; omega)
    rw [Nat.mul_one, ← hsz', ← Array.length_toList]
    rw [List.map_map]
    exact this

theorem sort_none (p : Option Addr) (cap : Nat) (fv : Value) (w : World) : Calls Try.prog 32 #[.slice p 0 cap, fv] w fun e w' => e = .returned (.tuple #[]) ∧ w' = w :=
  AnyF.slices_SortFunc_none Try.sortN p cap fv w
end Go.Proofs.Ytklbhidlbdabbaa
