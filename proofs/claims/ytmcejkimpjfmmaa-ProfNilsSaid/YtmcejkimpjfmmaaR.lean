/- tell; what is asked, over the list. -/
import Derived.Test.YtmcejkimpjfmmaaQ
set_option linter.unusedVariables false
set_option linter.unusedSimpArgs false
namespace Go.Proofs.Ytmcejkimpjfmmaa
open Go.RowKit Go.Lib Go.Maps

def normA (x : Ac) : Ac := if 0 ≤ x.d ∧ x.d ≤ 3 then x else { x with d := 4 }
theorem normA_in {x : Ac} (h : 0 ≤ x.d ∧ x.d ≤ 4) : normA x = x := by
  unfold normA
  split
  · rfl
  · obtain ⟨d, f, t, a, b, v⟩ := x
    have : d = 4 := by simp only at *; omega
    subst this; rfl
abbrev acV (x : Ac) : Value := .agg #[.int .i64 x.d, .int .i64 x.f, .int .i64 x.t, .int .i64 x.a, .int .i64 x.b, .int .u64 x.v]
abbrev acO (x : Ac) : Obj := .cells #[.int .i64 x.d, .int .i64 x.f, .int .i64 x.t, .int .i64 x.a, .int .i64 x.b, .int .u64 x.v] 32

set_option maxHeartbeats 1000000 in
theorem tell_any (x : Ac) (w : World) {b hb wb m F G L} (p : ProfL w b hb wb m F G L) (hL : L.length ≤ 1000) :
    Calls Try.prog 11 #[.pointer (some ⟨b, 0, none⟩), acV x] w fun e w' => e = .returned (.int .i64 (codeL F G (normA x))) ∧ ProfL w' b hb wb m F G (tellL F G L (normA x)) ∧ Only (Mine hb wb m) w w' := by
  have hB : Below w.heap.size w (w.alloc (acO x)) := below_alloc _
  have p1 := p.below hB
  have hO : Only (Mine hb wb m) w (w.alloc (acO x)) := (Only.refl _ w).alloc _
  clear hB
  have HP := Lib.hid p1
  clear p1 p
  by_cases h0 : x.d = 0
  · rw [normA_in (by omega)]
    have HB := Lib.hid (begin_L x _ HP.out (.inl h0) hL)
    obtain ⟨d, f, t, a, c, v⟩ := x
    simp only at h0
    subst h0
    go_enter Try.func11, Try.ntmps11
    go_wp2_with (go_at_call 24; refine HB.out.mono ?_; rintro e w1 ⟨rfl, h1, h2⟩)
    go_ret
    exact ⟨rfl, h1, hO.trans h2⟩
  by_cases h1 : x.d = 1
  · rw [normA_in (by omega)]
    have HB := Lib.hid (loop_L x _ HP.out (.inr h1) hL)
    obtain ⟨d, f, t, a, c, v⟩ := x
    simp only at h1
    subst h1
    clear h0
    go_enter Try.func11, Try.ntmps11
    go_wp2_with (go_at_call 25; refine HB.out.mono ?_; rintro e w1 ⟨rfl, h1, h2⟩)
    go_ret
    exact ⟨rfl, h1, hO.trans h2⟩
  by_cases h2 : x.d = 2
  · rw [normA_in (by omega)]
    have HB := Lib.hid (pair_L x _ HP.out h2 hL)
    obtain ⟨d, f, t, a, c, v⟩ := x
    simp only at h2
    subst h2
    clear h0 h1
    go_enter Try.func11, Try.ntmps11
    go_wp2_with (go_at_call 26; refine HB.out.mono ?_; rintro e w1 ⟨rfl, h1, h2⟩)
    go_ret
    exact ⟨rfl, h1, hO.trans h2⟩
  by_cases h3 : x.d = 3
  · rw [normA_in (by omega)]
    have HB := Lib.hid (wrote_L x _ HP.out h3 hL)
    obtain ⟨d, f, t, a, c, v⟩ := x
    simp only at h3
    subst h3
    clear h0 h1 h2
    go_enter Try.func11, Try.ntmps11
    go_wp2_with (go_at_call 27; refine HB.out.mono ?_; rintro e w1 ⟨rfl, h1, h2⟩)
    go_ret
    exact ⟨rfl, h1, hO.trans h2⟩
  · have e : normA x = { x with d := 4 } := by unfold normA; rw [if_neg (by omega)]
    rw [e]
    have HB := Lib.hid (cool_L { x with d := 4 } _ HP.out rfl)
    obtain ⟨d, f, t, a, c, v⟩ := x
    simp only at h0 h1 h2 h3
    have e0 : (d == 0) = false := by simpa using h0
    have e1 : (d == 1) = false := by simpa using h1
    have e2 : (d == 2) = false := by simpa using h2
    have e3 : (d == 3) = false := by simpa using h3
    clear e h0 h1 h2 h3
    go_enter Try.func11, Try.ntmps11
    go_wp2_with (go_at_call 28; refine HB.out.mono ?_; rintro e w1 ⟨rfl, h1, h2⟩)
    go_ret
    exact ⟨rfl, h1, hO.trans h2⟩

/-- What is asked of a function, of a place, of a global. -/
def heatV (F : Nat) (L : List Ac) (f : Int) : Int := if 0 ≤ f ∧ f < F then heatL L f else 0
def kindV (F : Nat) (L : List Ac) (f t : Int) : Int := if 0 ≤ f ∧ f < F ∧ 0 ≤ t ∧ t < 65536 then (kindsL L f t : Int) else 0
def wrV (G : Nat) (L : List Ac) (g : Int) : Int × Int := if 0 ≤ g ∧ g < G then wrL L g else (0, 0)
def errV (c : Prop) [Decidable c] : Int := if c then 0 else 1
theorem heat_L (f : Int) (w : World) {b hb wb m F G L} (p : ProfL w b hb wb m F G L) :
    Calls Try.prog 12 #[.pointer (some ⟨b, 0, none⟩), .int .i64 f] w fun e w' => e = .returned (.tuple #[.int .i64 (heatV F L f), .int .i64 (errV (0 ≤ f ∧ f < F))]) ∧ w = w' := by
  obtain ⟨h, wn, wv, k, kf, P, hk, e1, e2, e3⟩ := p
  unfold heatV errV
  by_cases hf : 0 ≤ f ∧ f < F
  · rw [if_pos hf, if_pos hf]
    obtain ⟨n, rfl⟩ := Int.eq_ofNat_of_zero_le hf.1
    rw [← e1 n (by omega)]
    exact heat_ok n w P (by omega)
  · rw [if_neg hf, if_neg hf]
    exact heat_bad f w P (by omega)
theorem kinds_L (f t : Int) (w : World) {b hb wb m F G L} (p : ProfL w b hb wb m F G L) :
    Calls Try.prog 13 #[.pointer (some ⟨b, 0, none⟩), .int .i64 f, .int .i64 t] w fun e w' => e = .returned (.tuple #[.int .i64 (kindV F L f t), .int .i64 (errV (0 ≤ f ∧ f < F ∧ 0 ≤ t ∧ t < 65536))]) ∧ w = w' := by
  obtain ⟨h, wn, wv, k, kf, P, hk, e1, e2, e3⟩ := p
  unfold kindV errV
  by_cases hf : 0 ≤ f ∧ f < F ∧ 0 ≤ t ∧ t < 65536
  · rw [if_pos hf, if_pos hf, ← e3]
    exact kinds_ok f t w P (by omega) (by omega)
  · rw [if_neg hf, if_neg hf]
    exact kinds_bad f t w P (by omega)
theorem writes_L (g : Int) (w : World) {b hb wb m F G L} (p : ProfL w b hb wb m F G L) :
    Calls Try.prog 23 #[.pointer (some ⟨b, 0, none⟩), .int .i64 g] w fun e w' => e = .returned (.tuple #[.int .i64 (wrV G L g).1, .int .u64 (wrV G L g).2, .int .i64 (errV (0 ≤ g ∧ g < G))]) ∧ ∃ n, w' = w.drewN n := by
  obtain ⟨h, wn, wv, k, kf, P, hk, e1, e2, e3⟩ := p
  unfold wrV errV
  by_cases hf : 0 ≤ g ∧ g < G
  · rw [if_pos hf, if_pos hf]
    obtain ⟨n, rfl⟩ := Int.eq_ofNat_of_zero_le hf.1
    rw [← (e2 n (by omega)).1, ← (e2 n (by omega)).2]
    exact writes_ok n w P (by omega)
  · rw [if_neg hf, if_neg hf]
    refine (writes_bad g w P (by omega)).mono ?_
    rintro e w' ⟨rfl, rfl⟩
    exact ⟨rfl, 0, rfl⟩
end Go.Proofs.Ytmcejkimpjfmmaa
