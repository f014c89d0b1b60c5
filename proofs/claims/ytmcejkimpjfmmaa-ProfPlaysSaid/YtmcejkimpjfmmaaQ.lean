/- The profile as a list of what was told. -/
import Derived.Test.YtmcejkimpjfmmaaN
set_option linter.unusedVariables false
set_option linter.unusedSimpArgs false
namespace Go.Proofs.Ytmcejkimpjfmmaa
open Go.RowKit Go.Lib Go.Maps

theorem Only.alloc {S} {w w' : World} (h : Only S w w') (o : Obj) : Only S w (w'.alloc o) :=
  ⟨h.os, h.tape, h.output, by have := h.size; simp; omega, fun i hi hn => (Below.heap_alloc w' o i (Nat.lt_of_lt_of_le hi h.size)).trans (h.block i hi hn)⟩
theorem Only.mono {S T : Nat → Prop} {w w' : World} (h : Only S w w') (e : ∀ i, S i → T i) : Only T w w' := ⟨h.os, h.tape, h.output, h.size, fun i hi hn => h.block i hi (fun hs => hn (e i hs))⟩
theorem Only.toBelow {B : Nat} {w w' : World} (h : Only (fun i => B ≤ i) w w') (hB : B ≤ w.heap.size) : Below B w w' :=
  ⟨h.os, h.tape, h.output, h.size, fun i hi => h.block i (Nat.lt_of_lt_of_le hi hB) (by omega)⟩
theorem two_below {B : Nat} {w w1 w2 : World} {hb wb m : Nat} (h : Below B w w1) (h2 : Only (Mine hb wb m) w1 w2) (hB : B ≤ w1.heap.size) (g1 : B ≤ hb) (g2 : B ≤ wb) (g3 : B ≤ m) : Below B w w2 :=
  h.trans (Only.toBelow (h2.mono (fun i hi => by rcases hi with rfl | rfl | rfl <;> assumption)) hB)
theorem below_only {S} {w w' : World} (h : Below w.heap.size w w') : Only S w w' := ⟨h.os, h.tape, h.output, h.size, fun i hi _ => h.block i hi⟩

theorem IsProf.same {w w' : World} {b hb wb m F G h wn wv k kf} (p : IsProf w b hb wb m F G h wn wv k kf) (e : ∀ i, i < w.heap.size → w'.heap[i]? = w.heap[i]?) : IsProf w' b hb wb m F G h wn wv k kf :=
  ⟨(e b (Array.getElem?_eq_some_iff.1 p.blk).1).trans p.blk, p.heat.block (e hb p.heat.lt), p.wr.block (e wb p.wr.lt), p.map.block (e m p.map.lt), p.hh, p.hw, p.ne, p.fits⟩

/-- The profile in block b holds what was told: L. -/
def ProfL (w : World) (b hb wb m F G : Nat) (L : List Ac) : Prop := ∃ h wn wv k kf, IsProf w b hb wb m F G h wn wv k kf ∧ k ≤ L.length ∧ (∀ f : Nat, f < F → h f = heatL L f) ∧ (∀ g : Nat, g < G → wn g = (wrL L g).1 ∧ wv g = (wrL L g).2) ∧ ∀ f t, (kf f t).getD 0 = (kindsL L f t : Int)
theorem ProfL.below {w w' : World} {b hb wb m F G L} (p : ProfL w b hb wb m F G L) (h : Below w.heap.size w w') : ProfL w' b hb wb m F G L :=
  let ⟨a1, a2, a3, a4, a5, p, r⟩ := p; ⟨a1, a2, a3, a4, a5, p.same h.block, r⟩
theorem ProfL.drewN {w : World} {b hb wb m F G L} (p : ProfL w b hb wb m F G L) (n : Nat) : ProfL (w.drewN n) b hb wb m F G L :=
  let ⟨a1, a2, a3, a4, a5, p, r⟩ := p; ⟨a1, a2, a3, a4, a5, p.same (fun _ _ => rfl), r⟩
theorem ProfL.lts {w : World} {b hb wb m F G L} (p : ProfL w b hb wb m F G L) : b < w.heap.size ∧ hb < w.heap.size ∧ wb < w.heap.size ∧ m < w.heap.size :=
  let ⟨a1, a2, a3, a4, a5, p, r⟩ := p; ⟨(Array.getElem?_eq_some_iff.1 p.blk).1, p.heat.lt, p.wr.lt, p.map.lt⟩
theorem ProfL.start {w : World} {b hb wb m F G} (p : IsProf w b hb wb m F G (fun _ => 0) (fun _ => 0) (fun _ => 0) 0 (fun _ _ => none)) : ProfL w b hb wb m F G [] :=
  ⟨_, _, _, _, _, p, Nat.le_refl _, fun _ _ => rfl, fun _ _ => ⟨rfl, rfl⟩, fun _ _ => rfl⟩

def codeL (F G : Nat) (x : Ac) : Int := if goodA F G x then 0 else 1
/-- What a telling does. -/
def Tells (b hb wb m F G : Nat) (L : List Ac) (x : Ac) (w : World) (e : Ending) (w' : World) : Prop :=
  e = .returned (.int .i64 (codeL F G x)) ∧ ProfL w' b hb wb m F G (tellL F G L x) ∧ Only (Mine hb wb m) w w'
theorem tells_bad {b hb wb m F G L x w} (p : ProfL w b hb wb m F G L) (h : goodA F G x = false) : Tells b hb wb m F G L x w (.returned (.int .i64 1)) w :=
  ⟨by rw [codeL, h]; rfl, by rw [tellL, h]; exact p, Only.refl _ _⟩

theorem hit_d {f t : Int} {x : Ac} (h : x.d ≠ 2) : hitP f t x = false := by simp [hitP, h]
theorem wr1_d {g : Int} {p : Int × Int} {x : Ac} (h : x.d ≠ 3) : wr1 g p x = p := by simp [wr1, h]
theorem heat1_d {f n : Int} {x : Ac} (h : x.d = 2 ∨ x.d = 3) : heat1 f n x = n := by
  unfold heat1
  split
  · rfl
  · rw [if_neg (by omega), if_neg (by omega)]

theorem begin_L (x : Ac) (w : World) {b hb wb m F G L} (p : ProfL w b hb wb m F G L) (hd : x.d = 0 ∨ x.d = 1) (hL : L.length ≤ 1000) :
    Calls Try.prog 24 #[.pointer (some ⟨b, 0, none⟩), .int .i64 x.f] w (Tells b hb wb m F G L x w) := by
  have p0 := p
  obtain ⟨h, wn, wv, k, kf, P, hk, e1, e2, e3⟩ := p
  have hg : goodA F G x = decide (0 ≤ x.f ∧ x.f < F) := by unfold goodA; rw [if_neg (by omega), if_neg (by omega)]
  by_cases hf : 0 ≤ x.f ∧ x.f < F
  · obtain ⟨f, ef⟩ := Int.eq_ofNat_of_zero_le hf.1
    rw [ef] at hf ⊢
    have hg' : goodA F G x = true := by rw [hg, ef]; simpa using hf
    refine (begin_ok f w P (by omega)).mono ?_
    rintro e w' ⟨rfl, P', O⟩
    refine ⟨by rw [codeL, hg']; rfl, ⟨_, _, _, _, _, P', ?_, ?_, ?_, ?_⟩, O⟩
    · rw [tellL, hg']; simp; omega
    · intro j hj
      rw [tellL, hg', if_pos rfl, heatL_snoc]
      have hb := heatL_bd L f
      unfold set1 heat1
      by_cases e : j = f
      · subst e
        rw [if_pos rfl, if_neg (by omega), if_neg (by omega), if_pos hd, e1 j hj]
        omega
      · rw [if_neg e, if_pos (by omega), e1 j hj]
    · intro g hg
      rw [tellL, hg', if_pos rfl, wrL_snoc, wr1_d (by omega)]
      exact e2 g hg
    · intro f t
      rw [tellL, hg', if_pos rfl, kindsL_miss _ _ _ _ (hit_d (by omega))]
      exact e3 f t
  · have hg' : goodA F G x = false := by rw [hg]; simpa using hf
    refine (begin_bad x.f w P (by omega)).mono ?_
    rintro e w' ⟨rfl, rfl⟩
    exact tells_bad p0 hg'
theorem loop_L (x : Ac) (w : World) {b hb wb m F G L} (p : ProfL w b hb wb m F G L) (hd : x.d = 0 ∨ x.d = 1) (hL : L.length ≤ 1000) :
    Calls Try.prog 25 #[.pointer (some ⟨b, 0, none⟩), .int .i64 x.f] w (Tells b hb wb m F G L x w) := by
  have HB := Lib.hid (begin_L x w p hd hL)
  clear p
  go_enter Try.func25, Try.ntmps25
  go_wp2_with fail
  refine HB.out.mono ?_
  rintro e w1 h
  have e0 := h.1
  subst e0
  have HH := Lib.hid h
  clear h
  go_wp2_with fail
  go_ret
  exact HH.out
theorem cool_L (x : Ac) (w : World) {b hb wb m F G L} (p : ProfL w b hb wb m F G L) (hd : x.d = 4) :
    Calls Try.prog 28 #[.pointer (some ⟨b, 0, none⟩), .int .i64 x.f] w (Tells b hb wb m F G L x w) := by
  have p0 := p
  obtain ⟨h, wn, wv, k, kf, P, hk, e1, e2, e3⟩ := p
  have hg : goodA F G x = decide (0 ≤ x.f ∧ x.f < F) := by unfold goodA; rw [if_neg (by omega), if_neg (by omega)]
  by_cases hf : 0 ≤ x.f ∧ x.f < F
  · obtain ⟨f, ef⟩ := Int.eq_ofNat_of_zero_le hf.1
    rw [ef] at hf ⊢
    have hg' : goodA F G x = true := by rw [hg, ef]; simpa using hf
    refine (cool_ok f w P (by omega)).mono ?_
    rintro e w' ⟨rfl, P', O⟩
    refine ⟨by rw [codeL, hg']; rfl, ⟨_, _, _, _, _, P', ?_, ?_, ?_, ?_⟩, O⟩
    · rw [tellL, hg']; simp; omega
    · intro j hj
      rw [tellL, hg', if_pos rfl, heatL_snoc]
      unfold set1 heat1
      by_cases e : j = f
      · subst e
        rw [if_pos rfl, if_neg (by omega), if_pos hd]
      · rw [if_neg e, if_pos (by omega), e1 j hj]
    · intro g hg
      rw [tellL, hg', if_pos rfl, wrL_snoc, wr1_d (by omega)]
      exact e2 g hg
    · intro f t
      rw [tellL, hg', if_pos rfl, kindsL_miss _ _ _ _ (hit_d (by omega))]
      exact e3 f t
  · have hg' : goodA F G x = false := by rw [hg]; simpa using hf
    refine (cool_bad x.f w P (by omega)).mono ?_
    rintro e w' ⟨rfl, rfl⟩
    exact tells_bad p0 hg'
theorem wrote_L (x : Ac) (w : World) {b hb wb m F G L} (p : ProfL w b hb wb m F G L) (hd : x.d = 3) (hL : L.length ≤ 1000) :
    Calls Try.prog 27 #[.pointer (some ⟨b, 0, none⟩), .int .i64 x.f, .int .u64 x.v] w (Tells b hb wb m F G L x w) := by
  have p0 := p
  obtain ⟨h, wn, wv, k, kf, P, hk, e1, e2, e3⟩ := p
  have hg : goodA F G x = decide (0 ≤ x.f ∧ x.f < G) := by unfold goodA; rw [if_neg (by omega), if_pos (by omega)]
  by_cases hf : 0 ≤ x.f ∧ x.f < G
  · obtain ⟨f, ef⟩ := Int.eq_ofNat_of_zero_le hf.1
    rw [ef] at hf ⊢
    have hg' : goodA F G x = true := by rw [hg, ef]; simpa using hf
    refine (wrote_ok f x.v w P (by omega)).mono ?_
    rintro e w' ⟨rfl, P', O⟩
    refine ⟨by rw [codeL, hg']; rfl, ⟨_, _, _, _, _, P', ?_, ?_, ?_, ?_⟩, O⟩
    · rw [tellL, hg']; simp; omega
    · intro j hj
      rw [tellL, hg', if_pos rfl, heatL_snoc, heat1_d (by omega)]
      exact e1 j hj
    · intro j hj
      rw [tellL, hg', if_pos rfl, wrL_snoc]
      have hb := wrL_bd L f
      unfold set1 wr1
      by_cases e : j = f
      · subst e
        rw [if_pos rfl, if_pos rfl, if_pos ⟨hd, ef⟩, (e2 j hj).1]
        refine ⟨?_, rfl⟩
        show min ((wrL L ↑j).fst + 1) 1099511627776 = (wrL L ↑j).fst + 1
        omega
      · rw [if_neg e, if_neg e, if_neg (by omega)]
        exact e2 j hj
    · intro f t
      rw [tellL, hg', if_pos rfl, kindsL_miss _ _ _ _ (hit_d (by omega))]
      exact e3 f t
  · have hg' : goodA F G x = false := by rw [hg]; simpa using hf
    refine (wrote_bad x.f x.v w P (by omega)).mono ?_
    rintro e w' ⟨rfl, rfl⟩
    exact tells_bad p0 hg'
theorem pair_L (x : Ac) (w : World) {b hb wb m F G L} (p : ProfL w b hb wb m F G L) (hd : x.d = 2) (hL : L.length ≤ 1000) :
    Calls Try.prog 26 #[.pointer (some ⟨b, 0, none⟩), .int .i64 x.f, .int .i64 x.t, .int .i64 x.a, .int .i64 x.b] w (Tells b hb wb m F G L x w) := by
  have p0 := p
  obtain ⟨h, wn, wv, k, kf, P, hk, e1, e2, e3⟩ := p
  have hg : goodA F G x = decide (0 ≤ x.f ∧ x.f < F ∧ 0 ≤ x.t ∧ x.t < 65536 ∧ 0 ≤ x.a ∧ x.a ≤ 3 ∧ 0 ≤ x.b ∧ x.b ≤ 3) := by unfold goodA; rw [if_pos hd]
  by_cases hf : 0 ≤ x.f ∧ x.f < F ∧ 0 ≤ x.t ∧ x.t < 65536
  · by_cases ha : 0 ≤ x.a ∧ x.a ≤ 3 ∧ 0 ≤ x.b ∧ x.b ≤ 3
    · have hg' : goodA F G x = true := by rw [hg]; simp; omega
      obtain ⟨a, ea⟩ := Int.eq_ofNat_of_zero_le ha.1
      obtain ⟨c, ec⟩ := Int.eq_ofNat_of_zero_le ha.2.2.1
      rw [ea, ec] at ha ⊢
      refine (pair_ok x.f x.t a c (kindsL L x.f x.t) w P (by omega) (by omega) (by omega) (by omega) (by unfold maxLen; omega) (e3 _ _) (kindsL_bd _ _ _)).mono ?_
      rintro e w' ⟨rfl, P', O⟩
      refine ⟨by rw [codeL, hg']; rfl, ⟨_, _, _, _, _, P', ?_, ?_, ?_, ?_⟩, O⟩
      · rw [tellL, hg']; simp; omega
      · intro j hj
        rw [tellL, hg', if_pos rfl, heatL_snoc, heat1_d (by omega)]
        exact e1 j hj
      · intro j hj
        rw [tellL, hg', if_pos rfl, wrL_snoc, wr1_d (by omega)]
        exact e2 j hj
      · intro f t
        rw [tellL, hg', if_pos rfl]
        unfold updP
        by_cases e : f = x.f ∧ t = x.t
        · obtain ⟨rfl, rfl⟩ := e
          rw [if_pos ⟨rfl, rfl⟩, kindsL_hit L x _ _ a c (by simp [hitP, hd]) ea ec (by omega) (by omega)]
          rfl
        · rw [if_neg e, kindsL_miss _ _ _ _ (by simp [hitP]; intro _ h1 h2; exact e ⟨h1.symm, h2.symm⟩)]
          exact e3 f t
    · have hg' : goodA F G x = false := by rw [hg]; simp; omega
      refine (pair_arg x.f x.t x.a x.b w P (by omega) (by omega) (by omega)).mono ?_
      rintro e w' ⟨rfl, rfl⟩
      exact tells_bad p0 hg'
  · have hg' : goodA F G x = false := by rw [hg]; simp; omega
    refine (pair_spot x.f x.t x.a x.b w P (by omega)).mono ?_
    rintro e w' ⟨rfl, rfl⟩
    exact tells_bad p0 hg'
end Go.Proofs.Ytmcejkimpjfmmaa
