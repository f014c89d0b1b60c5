/- The profile's plain law: what is told, what can be asked. No program here. -/
import Derived.WalkKit
set_option linter.unusedVariables false
set_option linter.unusedSimpArgs false
namespace Go.Proofs.Ytmcejkimpjfmmaa

/-- A thing that is told. -/
structure Ac where
  d : Int
  f : Int
  t : Int
  a : Int
  b : Int
  v : Int

theorem rev_ind {α : Type} {P : List α → Prop} (h0 : P []) (h1 : ∀ L x, P L → P (L ++ [x])) (L : List α) : P L := by
  have h : ∀ n, ∀ L : List α, L.length = n → P L := by
    intro n
    induction n with
    | zero => intro L hL; rw [List.eq_nil_of_length_eq_zero hL]; exact h0
    | succ n ih =>
      intro L hL
      have hne : L ≠ [] := by intro e; rw [e] at hL; simp at hL
      have := h1 L.dropLast (L.getLast hne) (ih _ (by simp [hL]))
      rwa [List.dropLast_concat_getLast] at this
  exact h _ L rfl

/-- How hot, step by step. -/
def heat1 (f n : Int) (x : Ac) : Int :=
  if x.f ≠ f then n else if x.d = 4 then 0 else if x.d = 0 ∨ x.d = 1 then n + 1 else n
def heatL (L : List Ac) (f : Int) : Int := L.foldl (heat1 f) 0
theorem heatL_nil (f : Int) : heatL [] f = 0 := rfl
theorem heatL_snoc (L : List Ac) (x : Ac) (f : Int) : heatL (L ++ [x]) f = heat1 f (heatL L f) x := by simp [heatL]
theorem heatL_bd (L : List Ac) (f : Int) : 0 ≤ heatL L f ∧ heatL L f ≤ L.length := by
  refine rev_ind (P := fun L => 0 ≤ heatL L f ∧ heatL L f ≤ L.length) ?_ ?_ L
  · simp [heatL]
  · intro L x ih
    rw [heatL_snoc]
    unfold heat1
    simp only [List.length_append, List.length_cons, List.length_nil]
    split
    · omega
    · split
      · omega
      · split <;> omega

/-- How often written, and what. -/
def wr1 (g : Int) (p : Int × Int) (x : Ac) : Int × Int := if x.d = 3 ∧ x.f = g then (p.1 + 1, x.v) else p
def wrL (L : List Ac) (g : Int) : Int × Int := L.foldl (wr1 g) (0, 0)
theorem wrL_nil (g : Int) : wrL [] g = (0, 0) := rfl
theorem wrL_snoc (L : List Ac) (x : Ac) (g : Int) : wrL (L ++ [x]) g = wr1 g (wrL L g) x := by simp [wrL]
theorem wrL_bd (L : List Ac) (g : Int) : 0 ≤ (wrL L g).1 ∧ (wrL L g).1 ≤ L.length := by
  refine rev_ind (P := fun L => 0 ≤ (wrL L g).1 ∧ (wrL L g).1 ≤ L.length) ?_ ?_ L
  · simp [wrL]
  · intro L x ih
    rw [wrL_snoc]
    unfold wr1
    simp only [List.length_append, List.length_cons, List.length_nil]
    split
    · simp only; omega
    · omega

/-- The kinds of a place. -/
def hitP (f t : Int) (x : Ac) : Bool := decide (x.d = 2 ∧ x.f = f ∧ x.t = t)
def lefts (L : List Ac) (f t : Int) (i : Nat) : Bool := L.any fun x => hitP f t x && decide (x.a = (i : Int))
def rights (L : List Ac) (f t : Int) (i : Nat) : Bool := L.any fun x => hitP f t x && decide (x.b = (i : Int))
def bit (b : Bool) (n : Nat) : Nat := if b then n else 0
def mask (l r : Nat → Bool) : Nat := bit (l 0) 1 + bit (r 0) 16 + bit (l 1) 2 + bit (r 1) 32 + bit (l 2) 4 + bit (r 2) 64 + bit (l 3) 8 + bit (r 3) 128
def kindsL (L : List Ac) (f t : Int) : Nat := mask (lefts L f t) (rights L f t)
theorem bit_le (b : Bool) (n : Nat) : bit b n ≤ n := by unfold bit; split <;> omega
theorem mask_bd (l r) : mask l r ≤ 255 := by
  unfold mask
  have h0 := bit_le (l 0) 1
  have h1 := bit_le (r 0) 16
  have h2 := bit_le (l 1) 2
  have h3 := bit_le (r 1) 32
  have h4 := bit_le (l 2) 4
  have h5 := bit_le (r 2) 64
  have h6 := bit_le (l 3) 8
  have h7 := bit_le (r 3) 128
  omega
theorem kindsL_bd (L f t) : kindsL L f t ≤ 255 := mask_bd _ _
theorem kindsL_nil (f t : Int) : kindsL [] f t = 0 := rfl
def maskB (l0 l1 l2 l3 r0 r1 r2 r3 : Bool) : Nat := bit l0 1 + bit r0 16 + bit l1 2 + bit r1 32 + bit l2 4 + bit r2 64 + bit l3 8 + bit r3 128
set_option maxRecDepth 100000 in
theorem maskB_or : ∀ (l0 l1 l2 l3 r0 r1 r2 r3 : Bool) (a b : Fin 4),
    maskB (l0 || decide (a.1 = 0)) (l1 || decide (a.1 = 1)) (l2 || decide (a.1 = 2)) (l3 || decide (a.1 = 3)) (r0 || decide (b.1 = 0)) (r1 || decide (b.1 = 1)) (r2 || decide (b.1 = 2)) (r3 || decide (b.1 = 3)) =
      maskB l0 l1 l2 l3 r0 r1 r2 r3 ||| (2 ^ a.1 ||| 16 * 2 ^ b.1) := by decide +kernel
theorem mask_or (l r : Nat → Bool) (a b : Nat) (ha : a < 4) (hb : b < 4) :
    mask (fun i => l i || decide (a = i)) (fun i => r i || decide (b = i)) = mask l r ||| (2 ^ a ||| 16 * 2 ^ b) :=
  maskB_or (l 0) (l 1) (l 2) (l 3) (r 0) (r 1) (r 2) (r 3) ⟨a, ha⟩ ⟨b, hb⟩
theorem kindsL_miss (L : List Ac) (x : Ac) (f t : Int) (h : hitP f t x = false) : kindsL (L ++ [x]) f t = kindsL L f t := by
  simp [kindsL, mask, lefts, rights, h]
theorem kindsL_hit (L : List Ac) (x : Ac) (f t : Int) (a b : Nat) (h : hitP f t x = true) (ea : x.a = (a : Int)) (eb : x.b = (b : Int)) (ha : a < 4) (hb : b < 4) :
    kindsL (L ++ [x]) f t = kindsL L f t ||| (2 ^ a ||| 16 * 2 ^ b) := by
  rw [kindsL, kindsL, ← mask_or _ _ a b ha hb]
  have e1 : lefts (L ++ [x]) f t = fun i => lefts L f t i || decide (a = i) := by
    funext i; simp only [lefts, List.any_append, List.any_cons, List.any_nil, h, ea, Bool.true_and, Bool.or_false]
    congr 1; simp; omega
  have e2 : rights (L ++ [x]) f t = fun i => rights L f t i || decide (b = i) := by
    funext i; simp only [rights, List.any_append, List.any_cons, List.any_nil, h, eb, Bool.true_and, Bool.or_false]
    congr 1; simp; omega
  rw [e1, e2]

/-- May it be told? -/
def goodA (F G : Nat) (x : Ac) : Bool :=
  if x.d = 2 then decide (0 ≤ x.f ∧ x.f < F ∧ 0 ≤ x.t ∧ x.t < 65536 ∧ 0 ≤ x.a ∧ x.a ≤ 3 ∧ 0 ≤ x.b ∧ x.b ≤ 3)
  else if x.d = 3 then decide (0 ≤ x.f ∧ x.f < G) else decide (0 ≤ x.f ∧ x.f < F)
def tellL (F G : Nat) (L : List Ac) (x : Ac) : List Ac := if goodA F G x then L ++ [x] else L
theorem tellL_len (F G L x) : (tellL F G L x).length ≤ L.length + 1 := by unfold tellL; split <;> simp

/-- The hottest ones, in order. -/
structure Hots (h : Nat → Int) (F : Nat) (least : Int) (l : List Nat) : Prop where
  nodup : l.Nodup
  mem : ∀ f, f ∈ l ↔ f < F ∧ 0 < h f ∧ least ≤ h f
  sorted : l.Pairwise fun x y => h y < h x ∨ (h x = h y ∧ x < y)
theorem Hots.uniq {h F least l l'} (a : Hots h F least l) (b : Hots h F least l') : l = l' := by
  have hp : l.Perm l' := by
    rw [List.perm_ext_iff_of_nodup a.nodup b.nodup]
    intro f; rw [a.mem, b.mem]
  exact hp.eq_of_pairwise (fun x y _ _ h1 h2 => by omega) a.sorted b.sorted
theorem Hots.congr {h h' : Nat → Int} {F least l} (a : Hots h F least l) (e : ∀ f, f < F → h f = h' f) : Hots h' F least l := by
  have hl : ∀ f, f ∈ l → h f = h' f := fun f hf => e f ((a.mem f).1 hf).1
  refine ⟨a.nodup, fun f => ?_, ?_⟩
  · rw [a.mem]
    by_cases hf : f < F
    · rw [e f hf]
    · simp [hf]
  · refine (List.pairwise_iff_forall_sublist).2 fun {x y} hs => ?_
    have := (List.pairwise_iff_forall_sublist).1 a.sorted hs
    have hx := hl x (hs.subset (by simp))
    have hy := hl y (hs.subset (by simp))
    rw [hx, hy] at this
    exact this
theorem Hots.len {h F least l} (a : Hots h F least l) : l.length ≤ F := by
  have hp : l.Perm ((List.range F).filter fun f => decide (0 < h f ∧ least ≤ h f)) := by
    rw [List.perm_ext_iff_of_nodup a.nodup (List.nodup_range.filter _)]
    intro f; rw [a.mem]; simp
  have := List.length_filter_le (fun f => decide (0 < h f ∧ least ≤ h f)) (List.range F)
  rw [← hp.length_eq] at this
  simpa using this

/-- Those that were written once. -/
def stabL (G : Nat) (n v : Nat → Int) : List (Int × Int) := ((List.range G).filter fun g => decide (n g = 1)).map fun (g : Nat) => ((g : Int), v g)
theorem stabL_zero (n v) : stabL 0 n v = [] := rfl
theorem stabL_hit {G : Nat} {n v} (h : n G = 1) : stabL (G + 1) n v = stabL G n v ++ [((G : Int), v G)] := by
  simp [stabL, List.range_succ, List.filter_append, h]
theorem stabL_miss {G : Nat} {n v} (h : n G ≠ 1) : stabL (G + 1) n v = stabL G n v := by
  simp [stabL, List.range_succ, List.filter_append, h]
theorem stabL_len (G n v) : (stabL G n v).length ≤ G := by
  simp only [stabL, List.length_map]
  have := List.length_filter_le (fun g => decide (n g = 1)) (List.range G)
  simpa using this
theorem stabL_congr {G : Nat} {n v n' v' : Nat → Int} (h : ∀ g, g < G → n g = n' g ∧ v g = v' g) : stabL G n v = stabL G n' v' := by
  induction G with
  | zero => rfl
  | succ G ih =>
    have e := ih fun g hg => h g (by omega)
    have hg := h G (by omega)
    by_cases h1 : n G = 1
    · rw [stabL_hit h1, stabL_hit (by rw [← hg.1]; exact h1), e, hg.2]
    · rw [stabL_miss h1, stabL_miss (by rw [← hg.1]; exact h1), e]
end Go.Proofs.Ytmcejkimpjfmmaa
