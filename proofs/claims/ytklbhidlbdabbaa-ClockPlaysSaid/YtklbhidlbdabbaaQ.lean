/- The reference's clock: its lists, and its small functions. -/
import Derived.Test.YtklbhidlbdabbaaO
import Derived.Maps.AppendAt
import Derived.Deep.AppendLies
import Derived.Deep.RegionHeld3
import Derived.Deep.DrawnRows
set_option linter.unusedVariables false
set_option linter.unusedSimpArgs false
namespace Go.Proofs.Ytklbhidlbdabbaa
open Go.RowKit Go.Lib Go.Maps Go.Sort

/-- The slice's first n elements are xs; its block is no lower than B. -/
def RS (w : World) (B : Nat) (A : Option Addr) (n : Nat) (xs : List Int) : Prop :=
  xs.length = n ∧ (0 < n → ∃ b o, A = some ⟨b, o, none⟩ ∧ B ≤ b ∧ b < w.heap.size ∧ ∀ j u, xs[j]? = some u → w.cell? ⟨b, o + j, none⟩ = some (.int .i64 u))
theorem RS.nil (w B) : RS w B none 0 [] := ⟨rfl, fun h => by omega⟩
theorem RS.mono {w B B' A n xs} (h : RS w B A n xs) (hB : B' ≤ B) : RS w B' A n xs :=
  ⟨h.1, fun h0 => let ⟨b, o, e, h1, h2⟩ := h.2 h0; ⟨b, o, e, Nat.le_trans hB h1, h2⟩⟩
theorem RS.kept {w w' : World} {B A n xs} (h : RS w B A n xs) (hs : w.heap.size ≤ w'.heap.size) (hb : ∀ b, B ≤ b → b < w.heap.size → w'.heap[b]? = w.heap[b]?) : RS w' B A n xs :=
  ⟨h.1, fun h0 => by
    obtain ⟨b, o, e, h1, h2, h3⟩ := h.2 h0
    exact ⟨b, o, e, h1, by omega, fun j u hu => (World.cell?_of_block (hb b h1 h2)).trans (h3 j u hu)⟩⟩
theorem RS.below {w w' : World} {B A n xs} (h : RS w B A n xs) (hB : Below w.heap.size w w') : RS w' B A n xs := h.kept hB.size fun b _ hb => hB.block b hb
theorem RS.only {w w' : World} {B A n xs b m} (h : RS w B A n xs) (ho : Only (Two b m) w w') (hb : b < B) (hm : m < B) : RS w' B A n xs :=
  h.kept ho.size fun i hi hl => ho.block i hl (fun e => by rcases e with e | e <;> omega)
theorem RS.RI {w B A n xs} (h : RS w B A n xs) (hn : n ≤ 140737488351232) : RI w A n (fun j => xs.getD j 0) :=
  ⟨hn, fun h0 => by
    obtain ⟨b, o, e, _, _, h3⟩ := h.2 h0
    refine ⟨b, o, e, fun j hj => ?_⟩
    have hl : j < xs.length := by rw [h.1]; exact hj
    rw [h3 j xs[j] (List.getElem?_eq_getElem hl)]
    simp [List.getD, hl]⟩
theorem RS.own {w : World} {base n : Nat} {A : Option Addr} {c : Nat} {xs : List Int} (h : w.ownsRow base 3 1 (.slice A n c) n (xs.map (Value.int .i64))) : RS w base A n xs := by
  refine ⟨by have := h.1; simpa using this, fun h0 => ?_⟩
  obtain ⟨g, cap, hv, h1, h2⟩ := h.form h0
  have hA : A = some ⟨g, 0, none⟩ := by injection hv
  subst hA
  refine ⟨g, 0, rfl, h1, h2, fun j u hu => ?_⟩
  have := h.cells (g := g) rfl j (.int .i64 u) (by simp [hu])
  rw [Go.WideShapes.add_plain] at this
  exact this
theorem RS.take {w B A n xs} (h : RS w B A n xs) (i : Nat) (hi : i ≤ n) : RS w B A i (xs.take i) :=
  ⟨by simp [h.1]; omega, fun h0 => by
    obtain ⟨b, o, e, h1, h2, h3⟩ := h.2 (by omega)
    refine ⟨b, o, e, h1, h2, fun j u hu => h3 j u ?_⟩
    rw [List.getElem?_take] at hu
    split at hu
    · exact hu
    · cases hu⟩
theorem RS.drop {w B A n xs} (h : RS w B A n xs) (i : Nat) (hi : i ≤ n) {A' : Option Addr} (hA : ∀ b o, i < n → A = some ⟨b, o, none⟩ → A' = some ⟨b, o + i, none⟩) : RS w B A' (n - i) (xs.drop i) :=
  ⟨by simp [h.1], fun h0 => by
    obtain ⟨b, o, e, h1, h2, h3⟩ := h.2 (by omega)
    refine ⟨b, o + i, hA b o (by omega) e, h1, h2, fun j u hu => ?_⟩
    rw [Nat.add_assoc]
    exact h3 _ u (by rw [← hu, List.getElem?_drop])⟩

/-- 'append' of such a slice to a row of the call's own. -/
theorem run_app {w : World} (base : Nat) (v : Value) (n : Nat) (xs : List Int) (hown : w.ownsRow base 3 1 v n (xs.map (Value.int .i64))) (B : Nat) (A : Option Addr) (m c : Nat) (ys : List Int) (hr : RS w B A m ys)
    (hb : n + m ≤ 1000) (hbase : base ≤ w.heap.size) (ty : TypeId) :
    ∃ v' w', (Builtin.append_ #[22, 22] ty #[v, .slice A m c]).run Try.prog w = .ok v' w' ∧ w'.ownsRow base 3 1 v' (n + m) ((xs ++ ys).map (Value.int .i64)) ∧ w.grownBy w' v.ownBlock ∧ (v'.ownBlock = v.ownBlock ∨ v'.ownBlock = some w.heap.size) := by
  have int_info : (Try.prog.info? 3).map (fun i => (i.zero, i.size, i.bytes)) = some (some (.int .i64 0), 1, 8) := by kernel_rfl
  obtain ⟨i0, hi, hz0, hz1, hz2⟩ := info_parts int_info
  by_cases hm : m = 0
  · subst hm
    obtain rfl : ys = [] := List.eq_nil_of_length_eq_zero hr.1
    refine ⟨v, w, ?_, by simpa using hown, World.grownBy.refl w _, .inl rfl⟩
    rcases hown.2 with ⟨rfl, rfl⟩ | ⟨g, cap, cur, rfl, _, _, hnc, _⟩
    · cases A <;> simp [Builtin.append_, run_underlying Try.underlying22, sizeOf, typeInfo, hi, Builtin.lenOf, Builtin.firstCells, loadCells, loadCellsFrom]
    · cases A <;> simp [Builtin.append_, run_underlying Try.underlying22, sizeOf, typeInfo, hi, Builtin.lenOf, Builtin.firstCells, hnc, storeCells, loadCells, loadCellsFrom]
  · obtain ⟨b, o, rfl, _, _, hc⟩ := hr.2 (by omega)
    obtain ⟨v', w', h1, h2, h3, _, h5⟩ := run_append_own_at (P := Try.prog) w base 22 ty 3 i0 (.int .i64 0) 1 8 Try.underlying22 hi hz0 hz1 hz2 rfl (by omega) v n _ hown ⟨b, o, none⟩ m c (ys.map (Value.int .i64)) (by simp [hr.1])
      (fun j u hu => by
        rw [List.getElem?_map, Option.map_eq_some_iff] at hu
        obtain ⟨y, hy, rfl⟩ := hu
        rw [Go.WideShapes.add_plain]
        exact hc j y hy) (ints_oneCell _ _) (by simp only [maxLen]; omega) (by omega) hbase
    exact ⟨v', w', h1, by rw [List.map_append]; exact h2, h3, h5⟩

theorem wp_app {o : Oper} {a : Act} {w : World} {K : Act → World → Prop} {Q : Exit → Act → World → Prop} (s x : Operand) (ho : o.op = .call { callee := .builtin .append, args := #[s, x], argTypes := #[22, 22] })
    (base : Nat) (v : Value) (n : Nat) (xs : List Int) (hs : a.eval s = v) (hown : w.ownsRow base 3 1 v n (xs.map (Value.int .i64))) (B : Nat) (A : Option Addr) (m c : Nat) (ys : List Int) (hx : a.eval x = .slice A m c) (hr : RS w B A m ys)
    (hb : n + m ≤ 1000) (hbase : base ≤ w.heap.size)
    (h : ∀ v' w', w'.ownsRow base 3 1 v' (n + m) ((xs ++ ys).map (Value.int .i64)) → w.grownBy w' v.ownBlock → (v'.ownBlock = v.ownBlock ∨ v'.ownBlock = some w.heap.size) → K (a.put o.dst v') w') : o.wp Try.prog a w K Q := by
  obtain ⟨v', w', hrun, h2, h3, h4⟩ := run_app base v n xs hown B A m c ys hr hb hbase o.type
  unfold Oper.wp execOp
  simp only [ho, resolve, invoke, builtin, Sem.run_bind, Sem.run_pure, Result.andThen_ok, List.map_toArray, List.map_cons, List.map_nil, hs, hx, hrun]
  exact h v' w' h2 h3 h4
theorem wpList_app {ops : Array Oper} {rest : List Oper} {o : Oper} {a : Act} {w : World} {Q : Exit → Act → World → Prop} (hgd : o.guard = none) (s x : Operand) (ho : o.op = .call { callee := .builtin .append, args := #[s, x], argTypes := #[22, 22] })
    (base : Nat) (v : Value) (n : Nat) (xs : List Int) (hs : a.eval s = v) (hown : w.ownsRow base 3 1 v n (xs.map (Value.int .i64))) (B : Nat) (A : Option Addr) (m c : Nat) (ys : List Int) (hx : a.eval x = .slice A m c) (hr : RS w B A m ys)
    (hb : n + m ≤ 1000) (hbase : base ≤ w.heap.size)
    (h : ∀ v' w', w'.ownsRow base 3 1 v' (n + m) ((xs ++ ys).map (Value.int .i64)) → w.grownBy w' v.ownBlock → (v'.ownBlock = v.ownBlock ∨ v'.ownBlock = some w.heap.size) → wpList Try.prog ops Q rest (a.put o.dst v') w') : wpList Try.prog ops Q (o :: rest) a w :=
  wpList_plain hgd fun _ hK => wp_app s x ho base v n xs hs hown B A m c ys hx hr hb hbase fun v' w' h2 h3 h4 => hK _ _ (h v' w' h2 h3 h4)
theorem step_app {ops : Array Oper} {o : Oper} {a : Act} {w : World} {K : Act → World → Prop} {Q : Exit → Act → World → Prop} {E : Prop} (hgd : o.guard = none) (s x : Operand) (ho : o.op = .call { callee := .builtin .append, args := #[s, x], argTypes := #[22, 22] })
    (base : Nat) (v : Value) (n : Nat) (xs : List Int) (hs : a.eval s = v) (hown : w.ownsRow base 3 1 v n (xs.map (Value.int .i64))) (B : Nat) (A : Option Addr) (m c : Nat) (ys : List Int) (hx : a.eval x = .slice A m c) (hr : RS w B A m ys)
    (hb : n + m ≤ 1000) (hbase : base ≤ w.heap.size)
    (h : ∀ v' w', w'.ownsRow base 3 1 v' (n + m) ((xs ++ ys).map (Value.int .i64)) → w.grownBy w' v.ownBlock → (v'.ownBlock = v.ownBlock ∨ v'.ownBlock = some w.heap.size) → K (a.put o.dst v') w') :
    if Region.wanted o (yielded ops a.tmps) = true then Oper.wp Try.prog o a w K Q else E := by
  have hw : Region.wanted o (yielded ops a.tmps) = true := by simp [Region.wanted, hgd]
  rw [if_pos hw]
  exact wp_app s x ho base v n xs hs hown B A m c ys hx hr hb hbase h
theorem RS.grown {w w' : World} {B A n xs row} (h : RS w B A n xs) (hg : w.grownBy w' row) (hr : ∀ k b o, row = some k → A = some ⟨b, o, none⟩ → k ≠ b) : RS w' B A n xs :=
  ⟨h.1, fun h0 => by
    obtain ⟨b, o, e, h1, h2, h3⟩ := h.2 h0
    exact ⟨b, o, e, h1, Nat.lt_of_lt_of_le h2 hg.size, fun j u hu => (World.cell?_of_block (hg.block b h2 (fun k => hr b b o k.symm e rfl))).trans (h3 j u hu)⟩⟩
theorem RS.lit (w : World) (t : TypeId) (x : Int) (B : Nat) (hB : B ≤ w.heap.size) : RS (w.alloc (.cells #[.int .i64 x] t)) B (some ⟨w.heap.size, 0, none⟩) 1 [x] :=
  ⟨rfl, fun _ => ⟨_, _, rfl, hB, by simp, fun j u hu => by
    cases j with
    | zero =>
      simp at hu; subst hu
      exact World.cell?_alloc_at2 w _ 0
    | succ j => simp at hu⟩⟩
theorem RS.setCell {w : World} {B A n xs} (h : RS w B A n xs) (p : Addr) (u : Value) (hp : p.block < B) : RS (w.setCell p u) B A n xs :=
  h.kept (by simp) fun b hb _ => Below.heap_setCell w p u b (by omega)
theorem RS.drewN {w : World} {B A n xs} (h : RS w B A n xs) (q : Nat) : RS (w.drewN q) B A n xs := h
theorem own_empty (w : World) (base : Nat) (hb : base ≤ w.heap.size) : (w.alloc (.cells #[] 3)).ownsRow base 3 1 (.slice (some ⟨w.heap.size, 0, none⟩) 0 0) 0 (([] : List Int).map (Value.int .i64)) := World.ownsRow_lit w #[] 0 hb (by decide) rfl

set_option maxHeartbeats 400000 in
theorem place_any (now : Int) (A : Option Addr) (n c : Nat) (A' : Option Addr) (n' c' : Nat) (xs : List Int) (t : Int) (w : World) (B : Nat) (h : RS w B A n xs) (hn : n ≤ 1000) :
    Calls Try.prog 30 #[.agg #[.int .i64 now, .slice A n c, .slice A' n' c'], .int .i64 t] w fun e w' => Below w.heap.size w w' ∧ ((e = .returned (.int .i64 (-1)) ∧ t ∉ xs) ∨ ∃ j : Nat, e = .returned (.int .i64 j) ∧ xs[j]? = some t) := by
  go_enter Try.func30, Try.ntmps30
  go_wp2_with fail
  have hB := below_alloc (w := w) (.cells #[.int .i64 now, .slice A n c, .slice A' n' c'] 39)
  have h' := h.below hB
  have c1 : (w.alloc (.cells #[.int .i64 now, .slice A n c, .slice A' n' c'] 39)).cell? ⟨w.heap.size, 1, none⟩ = some (.slice A n c) := World.cell?_alloc_at2 w _ 1
  generalize w.alloc (.cells #[.int .i64 now, .slice A n c, .slice A' n' c'] 39) = w1 at *
  generalize w.heap.size = q at c1 ⊢
  have hl := h.1
  clear h
  go_loop [5] (fun v => ∃ j : Nat, j ≤ n ∧ v = .int .i64 j ∧ ∀ i u, i < j → xs[i]? = some u → u ≠ t) (fun v => n - (intOf v).toNat)
  case atStart => exact ⟨0, by omega, rfl, fun i u hi => by omega⟩
  case round =>
    obtain ⟨j, hj, rfl, hno⟩ := hrel
    by_cases hlt : j < n
    · obtain ⟨b, o, rfl, _, _, hc⟩ := h'.2 (by omega)
      have hx : xs[j]? = some xs[j] := List.getElem?_eq_getElem (by omega)
      have c2 := hc j _ hx
      generalize xs[j] = x at hx c2
      clear hc
      by_cases ht : x = t
      · subst ht
        go_wp2_with fail
        go_ret
        exact ⟨hB, .inr ⟨j, rfl, hx⟩⟩
      · have ht' : (x == t) = false := by simpa using ht
        go_wp2_with fail
        go_round
        case rel =>
          refine ⟨j + 1, by omega, by go_num, fun i u hi hu => ?_⟩
          by_cases e : i = j
          · subst e; rw [hx] at hu; injection hu with hu; rw [← hu]; exact ht
          · exact hno i u (by omega) hu
        case measure => simp [intOf]; omega
    · go_wp2_with fail
      go_ret
      refine ⟨hB, .inl ⟨rfl, fun hm => ?_⟩⟩
      obtain ⟨i, hi, he⟩ := List.getElem_of_mem hm
      exact hno i _ (by omega) (List.getElem?_eq_getElem hi) he
end Go.Proofs.Ytklbhidlbdabbaa
