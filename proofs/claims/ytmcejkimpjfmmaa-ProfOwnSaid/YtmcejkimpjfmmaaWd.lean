/- Words for slices of any elements: what is read, what is appended. -/
import Derived.Test.YtmcejkimpjfmmaaProg
import Derived.WalkKit
import Derived.Below
import Derived.OwnWalk
import Derived.Laws.AppendOwn
import Derived.Laws.OwnMore
import Derived.Maps.AppendAt
import Derived.Deep.AppendLies
import Derived.Deep.Onto
import Derived.Deep.Draws
set_option linter.unusedVariables false
set_option linter.unusedSimpArgs false
namespace Go.Proofs.Ytmcejkimpjfmmaa
open Go.RowKit

/-- The slice at A reads as the cells vs; its block is no lower than B. -/
def RV (w : World) (B : Nat) (A : Option Addr) (vs : List Value) : Prop :=
  0 < vs.length → ∃ b o, A = some ⟨b, o, none⟩ ∧ B ≤ b ∧ b < w.heap.size ∧ ∀ j u, vs[j]? = some u → w.cell? ⟨b, o + j, none⟩ = some u
theorem RV.nil (w B A) : RV w B A [] := fun h => by simp at h
theorem RV.mono {w B B' A vs} (h : RV w B A vs) (hB : B' ≤ B) : RV w B' A vs := fun h0 => let ⟨b, o, e, h1, h2⟩ := h h0; ⟨b, o, e, Nat.le_trans hB h1, h2⟩
theorem RV.kept {w w' : World} {B A vs} (h : RV w B A vs) (hs : w.heap.size ≤ w'.heap.size) (hb : ∀ b, B ≤ b → b < w.heap.size → w'.heap[b]? = w.heap[b]?) : RV w' B A vs := fun h0 => by
  obtain ⟨b, o, e, h1, h2, h3⟩ := h h0
  exact ⟨b, o, e, h1, by omega, fun j u hu => (World.cell?_of_block (hb b h1 h2)).trans (h3 j u hu)⟩
theorem RV.below {w w' : World} {B A vs} (h : RV w B A vs) (hB : Below w.heap.size w w') : RV w' B A vs := h.kept hB.size fun b _ hb => hB.block b hb
theorem RV.drewN {w B A vs} (h : RV w B A vs) (q : Nat) : RV (w.drewN q) B A vs := h
theorem RV.setCell {w : World} {B A vs} (h : RV w B A vs) (p : Addr) (u : Value) (hp : p.block < B) : RV (w.setCell p u) B A vs :=
  h.kept (by simp) fun b hb _ => Below.heap_setCell w p u b (by omega)
theorem RV.own {w : World} {base n : Nat} {E : TypeId} {size : Nat} {A : Option Addr} {c : Nat} {vs : List Value} (h : w.ownsRow base E size (.slice A n c) n vs) : RV w base A vs := fun h0 => by
  have hl := h.1
  have hn : 0 < n := by
    rcases Nat.eq_zero_or_pos n with e | e
    · subst e; simp at hl; subst hl; simp at h0
    · exact e
  obtain ⟨g, cap, hv, h1, h2⟩ := h.form hn
  have hA : A = some ⟨g, 0, none⟩ := by injection hv
  subst hA
  refine ⟨g, 0, rfl, h1, h2, fun j u hu => ?_⟩
  have := h.cells (g := g) rfl j u hu
  rw [Go.WideShapes.add_plain] at this
  exact this
theorem RV.lit (w : World) (cs : Array Value) (t : TypeId) (B : Nat) (hB : B ≤ w.heap.size) : RV (w.alloc (.cells cs t)) B (some ⟨w.heap.size, 0, none⟩) cs.toList := fun _ =>
  ⟨_, _, rfl, hB, by simp, fun j u hu => by
    have e : (w.alloc (.cells cs t)).heap[w.heap.size]? = some (.cells cs t) := heap_alloc_new w _
    simp only [World.cell?, e, Nat.zero_add]
    simpa using hu⟩
theorem RV.grown {w w' : World} {B A vs row} (h : RV w B A vs) (hg : w.grownBy w' row) (hr : ∀ k, row = some k → ∀ b o, A = some ⟨b, o, none⟩ → k ≠ b) : RV w' B A vs := fun h0 => by
  obtain ⟨b, o, e, h1, h2, h3⟩ := h h0
  exact ⟨b, o, e, h1, Nat.lt_of_lt_of_le h2 hg.size, fun j u hu => (World.cell?_of_block (hg.block b h2 (fun k => hr b k.symm b o e rfl))).trans (h3 j u hu)⟩

/-- A slice type T of elements E: so many cells, so many bytes. -/
structure ElemT (P : Program) (T E : TypeId) (size bytes : Nat) : Prop where
  ht : P.underlying T = some (.slice E)
  info : ∃ i z, P.info? E = some i ∧ i.zero = some z ∧ i.size = size ∧ i.bytes = bytes ∧ z.cells.size = size
  pos : 0 < size

theorem run_appV {P : Program} {T E : TypeId} {size bytes : Nat} (L : ElemT P T E size bytes) {w : World} (base : Nat) (v : Value) (n : Nat) (xs : List Value) (hown : w.ownsRow base E size v n xs) (B : Nat) (A : Option Addr) (m c : Nat) (ys : List Value) (hr : RV w B A ys)
    (hl : ys.length = m * size) (h1 : ∀ u ∈ ys, u.oneCell' = true) (hb : n + m ≤ maxLen) (hbytes : (n + m) * bytes ≤ 140737488355328) (hbase : base ≤ w.heap.size) (ty : TypeId) :
    ∃ v' w', (Builtin.append_ #[T, T] ty #[v, .slice A m c]).run P w = .ok v' w' ∧ w'.ownsRow base E size v' (n + m) (xs ++ ys) ∧ w.grownBy w' v.ownBlock ∧ (v'.ownBlock = v.ownBlock ∨ v'.ownBlock = some w.heap.size) := by
  obtain ⟨i0, z, hi, hz0, hz1, hz2, hz3⟩ := L.info
  have hp := L.pos
  by_cases hm : m = 0
  · subst hm
    obtain rfl : ys = [] := List.eq_nil_of_length_eq_zero (by simpa using hl)
    refine ⟨v, w, ?_, by simpa using hown, World.grownBy.refl w _, .inl rfl⟩
    rcases hown.2 with ⟨rfl, rfl⟩ | ⟨g, cap, cur, rfl, _, _, hnc, _⟩
    · cases A <;> simp [Builtin.append_, run_underlying L.ht, sizeOf, typeInfo, hi, Builtin.lenOf, Builtin.firstCells, loadCells, loadCellsFrom]
    · cases A <;> simp [Builtin.append_, run_underlying L.ht, sizeOf, typeInfo, hi, Builtin.lenOf, Builtin.firstCells, hnc, storeCells, loadCells, loadCellsFrom]
  · have hpos : 0 < ys.length := by rw [hl]; exact Nat.mul_pos (by omega) hp
    obtain ⟨b, o, rfl, _, _, hc⟩ := hr hpos
    obtain ⟨v', w', h1, h2, h3, _, h5⟩ := run_append_own_at (P := P) w base T ty E i0 z size bytes L.ht hi hz0 hz1 hz2 hz3 hp v n _ hown ⟨b, o, none⟩ m c ys hl
      (fun j u hu => by rw [Go.WideShapes.add_plain]; exact hc j u hu) h1 hb hbytes hbase
    exact ⟨v', w', h1, h2, h3, h5⟩
theorem wp_appV {P : Program} {T E : TypeId} {size bytes : Nat} (L : ElemT P T E size bytes) {o : Oper} {a : Act} {w : World} {K : Act → World → Prop} {Q : Exit → Act → World → Prop} (s x : Operand) (ho : o.op = .call { callee := .builtin .append, args := #[s, x], argTypes := #[T, T] })
    (base : Nat) (v : Value) (n : Nat) (xs : List Value) (hs : a.eval s = v) (hown : w.ownsRow base E size v n xs) (B : Nat) (A : Option Addr) (m c : Nat) (ys : List Value) (hx : a.eval x = .slice A m c) (hr : RV w B A ys)
    (hl : ys.length = m * size) (h1 : ∀ u ∈ ys, u.oneCell' = true) (hb : n + m ≤ maxLen) (hbytes : (n + m) * bytes ≤ 140737488355328) (hbase : base ≤ w.heap.size)
    (h : ∀ v' w', w'.ownsRow base E size v' (n + m) (xs ++ ys) → w.grownBy w' v.ownBlock → (v'.ownBlock = v.ownBlock ∨ v'.ownBlock = some w.heap.size) → K (a.put o.dst v') w') : o.wp P a w K Q := by
  obtain ⟨v', w', hrun, h2, h3, h4⟩ := run_appV L base v n xs hown B A m c ys hr hl h1 hb hbytes hbase o.type
  unfold Oper.wp execOp
  simp only [ho, resolve, invoke, builtin, Sem.run_bind, Sem.run_pure, Result.andThen_ok, List.map_toArray, List.map_cons, List.map_nil, hs, hx, hrun]
  exact h v' w' h2 h3 h4
theorem wpList_appV {P : Program} {T E : TypeId} {size bytes : Nat} (L : ElemT P T E size bytes) {ops : Array Oper} {rest : List Oper} {o : Oper} {a : Act} {w : World} {Q : Exit → Act → World → Prop} (hgd : o.guard = none) (s x : Operand) (ho : o.op = .call { callee := .builtin .append, args := #[s, x], argTypes := #[T, T] })
    (base : Nat) (v : Value) (n : Nat) (xs : List Value) (hs : a.eval s = v) (hown : w.ownsRow base E size v n xs) (B : Nat) (A : Option Addr) (m c : Nat) (ys : List Value) (hx : a.eval x = .slice A m c) (hr : RV w B A ys)
    (hl : ys.length = m * size) (h1 : ∀ u ∈ ys, u.oneCell' = true) (hb : n + m ≤ maxLen) (hbytes : (n + m) * bytes ≤ 140737488355328) (hbase : base ≤ w.heap.size)
    (h : ∀ v' w', w'.ownsRow base E size v' (n + m) (xs ++ ys) → w.grownBy w' v.ownBlock → (v'.ownBlock = v.ownBlock ∨ v'.ownBlock = some w.heap.size) → wpList P ops Q rest (a.put o.dst v') w') : wpList P ops Q (o :: rest) a w :=
  wpList_plain hgd fun _ hK => wp_appV L s x ho base v n xs hs hown B A m c ys hx hr hl h1 hb hbytes hbase fun v' w' h2 h3 h4 => hK _ _ (h v' w' h2 h3 h4)
theorem step_appV {P : Program} {T E : TypeId} {size bytes : Nat} (L : ElemT P T E size bytes) {ops : Array Oper} {o : Oper} {a : Act} {w : World} {K : Act → World → Prop} {Q : Exit → Act → World → Prop} {Ee : Prop} (hgd : o.guard = none) (s x : Operand) (ho : o.op = .call { callee := .builtin .append, args := #[s, x], argTypes := #[T, T] })
    (base : Nat) (v : Value) (n : Nat) (xs : List Value) (hs : a.eval s = v) (hown : w.ownsRow base E size v n xs) (B : Nat) (A : Option Addr) (m c : Nat) (ys : List Value) (hx : a.eval x = .slice A m c) (hr : RV w B A ys)
    (hl : ys.length = m * size) (h1 : ∀ u ∈ ys, u.oneCell' = true) (hb : n + m ≤ maxLen) (hbytes : (n + m) * bytes ≤ 140737488355328) (hbase : base ≤ w.heap.size)
    (h : ∀ v' w', w'.ownsRow base E size v' (n + m) (xs ++ ys) → w.grownBy w' v.ownBlock → (v'.ownBlock = v.ownBlock ∨ v'.ownBlock = some w.heap.size) → K (a.put o.dst v') w') :
    if Region.wanted o (yielded ops a.tmps) = true then Oper.wp P o a w K Q else Ee := by
  have hw : Region.wanted o (yielded ops a.tmps) = true := by simp [Region.wanted, hgd]
  rw [if_pos hw]
  exact wp_appV L s x ho base v n xs hs hown B A m c ys hx hr hl h1 hb hbytes hbase h
theorem own_emptyV {E : TypeId} {size : Nat} (w : World) (base : Nat) (hb : base ≤ w.heap.size) : (w.alloc (.cells #[] E)).ownsRow base E size (.slice (some ⟨w.heap.size, 0, none⟩) 0 0) 0 [] := World.ownsRow_lit w #[] 0 hb (by decide) (by simp)
theorem own_slice' {w : World} {base n : Nat} {e : TypeId} {size : Nat} {v : Value} {xs : List Value} (h : w.ownsRow base e size v n xs) : ∃ A c, v = .slice A n c := by
  rcases h.2 with ⟨rfl, rfl⟩ | ⟨g, cap, cur, rfl, _⟩
  · exact ⟨none, 0, rfl⟩
  · exact ⟨_, cap, rfl⟩
theorem app_below {base n : Nat} {E : TypeId} {size : Nat} {w w1 w2 : World} {v : Value} {xs : List Value} (h : Below base w w1) (hB : base ≤ w1.heap.size) (ho : w1.ownsRow base E size v n xs) (hg : w1.grownBy w2 v.ownBlock) : Below base w w2 := h.grown hg hB (fun k hk => (ho.lt k hk).1)
theorem own_cap {w : World} {base n c : Nat} {e : TypeId} {size : Nat} {A : Option Addr} {xs : List Value} (h : w.ownsRow base e size (.slice A n c) n xs) : n ≤ c := by
  rcases h.2 with ⟨h1, h2⟩ | ⟨g, cap, cur, h1, hb, hh, hc, _⟩
  · omega
  · cases h1; exact hc
end Go.Proofs.Ytmcejkimpjfmmaa
