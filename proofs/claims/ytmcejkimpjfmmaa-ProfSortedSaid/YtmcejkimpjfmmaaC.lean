/- The profile's map of places. -/
import Derived.Test.YtmcejkimpjfmmaaB
set_option linter.unusedVariables false
set_option linter.unusedSimpArgs false
namespace Go.Proofs.Ytmcejkimpjfmmaa
open Go.RowKit Go.Lib Go.Maps

theorem lk_inj {x y x' y' : Int} (hx : I64 x) (hy : I64 y) (hx' : I64 x') (hy' : I64 y') (h : lk x y = lk x' y') : x = x' ∧ y = y' := by
  have h1 := keyOf_place hx hy
  have h2 := keyOf_place hx' hy'
  rw [← h] at h2
  have h3 := key71.inj h1 h2
  simpa [pk] using h3
theorem isKey {x y : Int} (hx : I64 x) (hy : I64 y) : WideAt.IsKeyLit (lk x y) := key71.key (keyOf_place hx hy)
/-- D holds what f says. -/
def RdP (D : DataW Unit) (f : Int → Int → Option Int) : Prop := ∀ x y : Int, I64 x → I64 y → has D (lk x y) = (f x y).isSome ∧ ∀ u, f x y = some u → I64 u ∧ ∀ zd, D.atKey (lk x y) zd = .lit (.int .i64 u)
def updP (f : Int → Int → Option Int) (t s : Int) (u : Option Int) : Int → Int → Option Int := fun x y => if x = t ∧ y = s then u else f x y
def MapP (w : World) (m k : Nat) (f : Int → Int → Option Int) : Prop := ∃ D : DataW Unit, w.ownsMap Try.prog 71 (plainElem Try.prog 3) m k D ∧ RdP D f
theorem RdP.put {D : DataW Unit} {f} (h : RdP D f) (hm : IsMap D) (t s u : Int) (ht : I64 t) (hs : I64 s) (hu : I64 u) : RdP (D.put (lk t s) (.lit (.int .i64 u))) (updP f t s (some u)) := by
  intro x y hx hy
  by_cases e : x = t ∧ y = s
  · obtain ⟨rfl, rfl⟩ := e
    refine ⟨by rw [has_put_same hm (isKey hx hy)]; simp [updP], fun v hv => ?_⟩
    simp [updP] at hv; subst hv
    exact ⟨hu, fun zd => atKey_put_same hm (isKey hx hy) _ _⟩
  · have hne : lk x y ≠ lk t s := fun k => e (lk_inj hx hy ht hs k)
    refine ⟨by rw [has_put_other hne]; simp [updP, e, (h x y hx hy).1], fun v hv => ?_⟩
    simp [updP, e] at hv
    exact ⟨((h x y hx hy).2 v hv).1, fun zd => by rw [atKey_put_other hne]; exact ((h x y hx hy).2 v hv).2 zd⟩
theorem MapP.made (w : World) : MapP (w.alloc (.map #[] 0)) w.heap.size 0 (fun _ _ => none) :=
  ⟨_, World.ownsMap_made w _ _ _, fun x y _ _ => ⟨rfl, fun u h => by cases h⟩⟩
theorem MapP.drewN {w : World} {m k : Nat} {f} (h : MapP w m k f) (n : Nat) : MapP (w.drewN n) m k f := h
theorem MapP.block {w w' : World} {m k : Nat} {f} (h : MapP w m k f) (e : w'.heap[m]? = w.heap[m]?) : MapP w' m k f := by
  obtain ⟨D, ⟨es, clock, hb, r⟩, hr⟩ := h
  exact ⟨D, ⟨es, clock, e.trans hb, r⟩, hr⟩
theorem MapP.lt {w : World} {m k : Nat} {f} (h : MapP w m k f) : m < w.heap.size := let ⟨_, ho, _⟩ := h; ho.lt
set_option maxRecDepth 100000 in
theorem MapP.look {w : World} {m k : Nat} {f} (h : MapP w m k f) (t s : Int) (ht : I64 t) (hs : I64 s) :
    (Instr.lookup 63 (.map (some m)) (pk t s) false).run Try.prog w = .ok (.int .i64 ((f t s).getD 0)) w := by
  obtain ⟨D, ho, hr⟩ := h
  obtain ⟨c, hrun, hat, _⟩ := ho.lookup_int key71 Try.underlying63 Try.underlying3 (zero3 w) (keyOf_place ht hs)
  rw [hrun]
  cases e : f t s with
  | some u => rw [((hr t s ht hs).2 u e).2] at hat; injection hat with hat; injection hat with _ hat; subst hat; rfl
  | none =>
    have hf := (hr t s ht hs).1; rw [e] at hf
    rw [atKey_of_not_has hf] at hat; injection hat with hat; injection hat with _ hat; subst hat; rfl
set_option maxRecDepth 100000 in
theorem MapP.store {w : World} {m k : Nat} {f} (h : MapP w m k f) (t s u : Int) (ht : I64 t) (hs : I64 s) (hu : I64 u) (hk : k < maxLen) :
    ∃ w', (Instr.mapUpdate 63 (.map (some m)) (pk t s) (.int .i64 u)).run Try.prog w = .ok () w' ∧ MapP w' m (k + 1) (updP f t s (some u)) ∧ w.mapTurned w' m := by
  obtain ⟨D, ho, hr⟩ := h
  obtain ⟨w', hrun, ho', hg⟩ := ho.store key71 Try.underlying63 hk (keyOf_place ht hs) (plainElem_int Try.underlying3 (wf_of hu))
  exact ⟨w', hrun, ⟨_, ho', hr.put ho.isMap t s u ht hs hu⟩, hg⟩

end Go.Proofs.Ytmcejkimpjfmmaa
