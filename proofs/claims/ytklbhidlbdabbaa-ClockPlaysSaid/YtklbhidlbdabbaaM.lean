/- The clock's map: what an int-keyed map of ints holds, as a function. -/
import Derived.Test.YtklbhidlbdabbaaProg
import Derived.WalkKit
import Derived.WalkSpells
import Derived.WalkLawsBesides
import Derived.Lib.Hide
import Derived.Maps.OwnSet
import Derived.Maps.OwnOps
import Derived.Maps.RangeWalk
set_option linter.unusedVariables false
set_option linter.unusedSimpArgs false
namespace Go.Proofs.Ytklbhidlbdabbaa
open Go.RowKit Go.Lib Go.Maps

theorem law3 : Keyed Try.prog 3 := int_keyed Try.underlying3
theorem zero3 (w : World) : (zeroValue 3).run Try.prog w = .ok (.int .i64 0) w := by kernel_rfl
abbrev I64 (x : Int) : Prop := -9223372036854775808 ≤ x ∧ x ≤ 9223372036854775807
theorem wf_of {x : Int} (h : I64 x) : (Lit.int .i64 x).wf = true := WalkArith.wf_i64 h
theorem of_wf {x : Int} (h : (Lit.int .i64 x).wf = true) : I64 x := by
  have hmin : IntKind.i64.min = -9223372036854775808 := rfl
  have hmax : IntKind.i64.max = 9223372036854775807 := rfl
  simp only [Lit.wf, Bool.and_eq_true, decide_eq_true_eq] at h
  unfold I64; omega

/-- D holds what f says. -/
def Rd (D : DataW Unit) (f : Int → Option Int) : Prop := ∀ x : Int, has D (.int .i64 x) = (f x).isSome ∧ ∀ u, f x = some u → I64 u ∧ ∀ zd, D.atKey (.int .i64 x) zd = .lit (.int .i64 u)
def upd (f : Int → Option Int) (t : Int) (u : Option Int) : Int → Option Int := fun x => if x = t then u else f x
/-- Block m is a map of at most k entries that holds what f says. -/
def MapF (w : World) (m k : Nat) (f : Int → Option Int) : Prop := ∃ D : DataW Unit, w.ownsMap Try.prog 3 (plainElem Try.prog 3) m k D ∧ Rd D f

theorem lit_ne {x y : Int} (h : x ≠ y) : (Lit.int .i64 x) ≠ (Lit.int .i64 y) := fun e => h (by injection e)
theorem isKey (x : Int) : WideAt.IsKeyLit (Lit.int .i64 x) := by constructor

theorem Rd.put {D : DataW Unit} {f : Int → Option Int} (h : Rd D f) (hm : IsMap D) (t u : Int) (hu : I64 u) : Rd (D.put (.int .i64 t) (.lit (.int .i64 u))) (upd f t (some u)) := by
  intro x
  by_cases e : x = t
  · subst e
    refine ⟨by rw [has_put_same hm (isKey _)]; simp [upd], fun v hv => ?_⟩
    simp [upd] at hv; subst hv
    exact ⟨hu, fun zd => atKey_put_same hm (isKey _) _ _⟩
  · have hne := lit_ne e
    refine ⟨by rw [has_put_other hne]; simp [upd, e, (h x).1], fun v hv => ?_⟩
    simp [upd, e] at hv
    exact ⟨((h x).2 v hv).1, fun zd => by rw [atKey_put_other hne]; exact ((h x).2 v hv).2 zd⟩

theorem Rd.del {D : DataW Unit} {f : Int → Option Int} (h : Rd D f) (t : Int) : Rd (D.del (.int .i64 t)) (upd f t none) := by
  intro x
  by_cases e : x = t
  · subst e
    refine ⟨by rw [has_del_same]; simp [upd], fun v hv => by simp [upd] at hv⟩
  · have hne := lit_ne e
    refine ⟨by rw [has_del_other hne]; simp [upd, e, (h x).1], fun v hv => ?_⟩
    simp [upd, e] at hv
    exact ⟨((h x).2 v hv).1, fun zd => by rw [atKey_del_other hne]; exact ((h x).2 v hv).2 zd⟩

theorem MapF.made (w : World) : MapF (w.alloc (.map #[] 0)) w.heap.size 0 (fun _ => none) :=
  ⟨_, World.ownsMap_made w _ _ _, fun x => ⟨rfl, fun u h => by cases h⟩⟩
theorem MapF.kept {w w' : World} {m k : Nat} {f} {row : Option Nat} (h : MapF w m k f) (hg : w.grownBy w' row) (hne : some m ≠ row) : MapF w' m k f :=
  let ⟨D, ho, hr⟩ := h; ⟨D, ho.kept hg hne, hr⟩
theorem MapF.drewN {w : World} {m k : Nat} {f} (h : MapF w m k f) (n : Nat) : MapF (w.drewN n) m k f := h
theorem MapF.block {w w' : World} {m k : Nat} {f} (h : MapF w m k f) (e : w'.heap[m]? = w.heap[m]?) : MapF w' m k f := by
  obtain ⟨D, ⟨es, clock, hb, r⟩, hr⟩ := h
  exact ⟨D, ⟨es, clock, e.trans hb, r⟩, hr⟩
theorem MapF.lt {w : World} {m k : Nat} {f} (h : MapF w m k f) : m < w.heap.size := let ⟨_, ho, _⟩ := h; ho.lt
theorem MapF.i64 {w : World} {m k : Nat} {f} (h : MapF w m k f) {x u : Int} (e : f x = some u) : I64 u := let ⟨_, _, hr⟩ := h; ((hr x).2 u e).1

theorem MapF.look {w : World} {m k : Nat} {f} (h : MapF w m k f) (t : Int) (ht : I64 t) :
    (Instr.lookup 62 (.map (some m)) (.int .i64 t) false).run Try.prog w = .ok (.int .i64 ((f t).getD 0)) w := by
  obtain ⟨D, ho, hr⟩ := h
  obtain ⟨c, hrun, hat, _⟩ := ho.lookup_int law3 Try.underlying62 Try.underlying3 (zero3 w) (keyOf_int_mk Try.underlying3 (wf_of ht))
  rw [hrun]
  cases e : f t with
  | some u => rw [((hr t).2 u e).2] at hat; injection hat with hat; injection hat with _ hat; subst hat; rfl
  | none =>
    have hf := (hr t).1; rw [e] at hf
    rw [atKey_of_not_has hf] at hat; injection hat with hat; injection hat with _ hat; subst hat; rfl

theorem MapF.look_ok {w : World} {m k : Nat} {f} (h : MapF w m k f) (t : Int) (ht : I64 t) :
    (Instr.lookup 62 (.map (some m)) (.int .i64 t) true).run Try.prog w = .ok (.tuple #[.int .i64 ((f t).getD 0), .bool (f t).isSome]) w := by
  obtain ⟨D, ho, hr⟩ := h
  obtain ⟨v, ps, hrun, hv⟩ := ho.look_ok law3 Try.underlying62 (zero3 w) (plainElem_int Try.underlying3 (by decide)) (keyOf_int_mk Try.underlying3 (wf_of ht))
  obtain ⟨c, rfl, hat, _⟩ := plainElem_int_inv Try.underlying3 hv
  simp only [Prod.mk.injEq] at hat
  have hat := hat.1
  rw [hrun, (hr t).1]
  cases e : f t with
  | some u => rw [((hr t).2 u e).2] at hat; injection hat with hat; injection hat with _ hat; subst hat; rfl
  | none =>
    have hf := (hr t).1; rw [e] at hf
    rw [atKey_of_not_has hf] at hat; injection hat with hat; injection hat with _ hat; subst hat; rfl

theorem MapF.store {w : World} {m k : Nat} {f} (h : MapF w m k f) (t u : Int) (ht : I64 t) (hu : I64 u) (hk : k < maxLen) :
    ∃ w', (Instr.mapUpdate 62 (.map (some m)) (.int .i64 t) (.int .i64 u)).run Try.prog w = .ok () w' ∧ MapF w' m (k + 1) (upd f t (some u)) ∧ w.mapTurned w' m := by
  obtain ⟨D, ho, hr⟩ := h
  obtain ⟨w', hrun, ho', hg⟩ := ho.store law3 Try.underlying62 hk (keyOf_int_mk Try.underlying3 (wf_of ht)) (plainElem_int Try.underlying3 (wf_of hu))
  exact ⟨w', hrun, ⟨_, ho', hr.put ho.isMap t u hu⟩, hg⟩

theorem MapF.drop {w : World} {m k : Nat} {f} (h : MapF w m k f) (t : Int) (ht : I64 t) (ty : TypeId) :
    ∃ w', (Builtin.delete_ #[62, 3] ty #[.map (some m), .int .i64 t]).run Try.prog w = .ok (.tuple #[]) w' ∧ MapF w' m k (upd f t none) ∧ w.mapTurned w' m := by
  obtain ⟨D, ho, hr⟩ := h
  obtain ⟨w', hrun, ho', hg⟩ := ho.drop law3 Try.underlying62 (keyOf_int_mk Try.underlying3 (wf_of ht)) ty
  exact ⟨w', hrun, ⟨_, ho', hr.del t⟩, hg⟩

/-! the clock -/
/-- Block b is the clock's struct, m its map. -/
def IsClock (w : World) (b m k : Nat) (now : Int) (f : Int → Option Int) : Prop :=
  w.heap[b]? = some (.cells #[.int .i64 now, .map (some m)] 64 (0, 0)) ∧ MapF w m k f
theorem IsClock.cell0 {w b m k now f} (h : IsClock w b m k now f) : w.cell? ⟨b, 0, none⟩ = some (.int .i64 now) := by simp [World.cell?, h.1]
theorem IsClock.cell1 {w b m k now f} (h : IsClock w b m k now f) : w.cell? ⟨b, 1, none⟩ = some (.map (some m)) := by simp [World.cell?, h.1]
theorem IsClock.free {w b m k now f} (h : IsClock w b m k now f) (i : Nat) : w.frozen? ⟨b, i, none⟩ = false := by simp [World.frozen?, h.1]
theorem IsClock.ne {w b m k now f} (h : IsClock w b m k now f) : b ≠ m := by
  rintro rfl
  obtain ⟨h1, D, ⟨es, c, hb, _⟩, _⟩ := h
  rw [h1] at hb; cases hb
theorem IsClock.lt {w b m k now f} (h : IsClock w b m k now f) : b < w.heap.size := (Array.getElem?_eq_some_iff.1 h.1).1
theorem IsClock.block {w w' : World} {b m k now f} (h : IsClock w b m k now f) (h1 : w'.heap[b]? = w.heap[b]?) (h2 : w'.heap[m]? = w.heap[m]?) : IsClock w' b m k now f :=
  ⟨h1.trans h.1, h.2.block h2⟩
end Go.Proofs.Ytklbhidlbdabbaa
