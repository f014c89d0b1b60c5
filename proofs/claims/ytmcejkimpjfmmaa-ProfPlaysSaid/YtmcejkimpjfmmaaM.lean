/- Pair, where all is right. -/
import Derived.Test.YtmcejkimpjfmmaaL
import Derived.Test.YtmcejkimpjfmmaaP
import Derived.RegionTactic
import Derived.ChangeAlike
import Derived.Laws.BitsAllLaws
import Derived.Laws.BitsLemmas
set_option linter.unusedVariables false
set_option linter.unusedSimpArgs false
namespace Go.Proofs.Ytmcejkimpjfmmaa
open Go.RowKit Go.Lib Go.Maps

theorem ofInt_i64 (a : Nat) (ha : a < 9223372036854775808) : (BitVec.ofInt 64 (a : Int)).toNat = a := by
  rw [BitVec.ofInt_natCast, BitVec.toNat_ofNat]; exact Nat.mod_eq_of_lt (by omega)
theorem i64_or_nat (a b : Nat) (ha : a < 9223372036854775808) (hb : b < 9223372036854775808) : bits .or .i64 (a : Int) (b : Int) = ((a ||| b : Nat) : Int) := by
  have hx : a ||| b < 2 ^ 63 := Nat.or_lt_two_pow (by omega) (by omega)
  show IntKind.i64.wrap ((BitVec.ofInt 64 (a : Int) ||| BitVec.ofInt 64 (b : Int)).toNat : Int) = _
  rw [BitVec.toNat_or, ofInt_i64 a ha, ofInt_i64 b hb, IntKind.wrap_i64]
  omega
def orK (o x y : Nat) : Nat := o ||| (2 ^ x ||| 16 * 2 ^ y)
theorem orK_lt (o x y : Nat) (ho : o ≤ 255) (hx : x ≤ 3) (hy : y ≤ 3) : orK o x y ≤ 255 := by
  have h : orK o x y < 2 ^ 8 := by
    unfold orK
    refine Nat.or_lt_two_pow (by omega) (Nat.or_lt_two_pow ?_ ?_)
    · exact Nat.pow_lt_pow_right (by omega) (by omega)
    · have : y = 0 ∨ y = 1 ∨ y = 2 ∨ y = 3 := by omega
      rcases this with rfl | rfl | rfl | rfl <;> decide
  omega
theorem orK_bits (o x y : Nat) (ho : o ≤ 255) (hx : x ≤ 3) (hy : y ≤ 3) :
    bits .or .i64 (o : Int) (bits .or .i64 (IntKind.i64.wrap (2 ^ x)) (IntKind.i64.wrap (16 * 2 ^ y))) = ((orK o x y : Nat) : Int) := by
  have hx' : x = 0 ∨ x = 1 ∨ x = 2 ∨ x = 3 := by omega
  have hy' : y = 0 ∨ y = 1 ∨ y = 2 ∨ y = 3 := by omega
  have e : bits .or .i64 (IntKind.i64.wrap (2 ^ x)) (IntKind.i64.wrap (16 * 2 ^ y)) = ((2 ^ x ||| 16 * 2 ^ y : Nat) : Int) := by
    rcases hx' with rfl | rfl | rfl | rfl <;> rcases hy' with rfl | rfl | rfl | rfl <;> decide
  rw [e, i64_or_nat _ _ (by omega) ?_]
  · rfl
  · have := orK_lt 0 x y (by omega) hx hy
    unfold orK at this
    rw [Nat.zero_or] at this
    omega

/-- The map alone has turned. -/
theorem IsProf.setMap {w w' : World} {b hb wb m F G h wn wv k kf} (p : IsProf w b hb wb m F G h wn wv k kf) {k' kf'} (hT : w.grownBy w' (some m)) (hM : MapP w' m k' kf') : IsProf w' b hb wb m F G h wn wv k' kf' := by
  obtain ⟨n1, n2, n3, n4, n5, n6⟩ := p.ne
  have lt : ∀ {i : Nat} {o : Obj}, w.heap[i]? = some o → i < w.heap.size := fun hi => (Array.getElem?_eq_some_iff.1 hi).1
  refine ⟨(hT.block b (lt p.blk) (by simpa using n3)).trans p.blk, p.heat.block (hT.block hb p.heat.lt (by simpa using n5)), p.wr.block (hT.block wb p.wr.lt (by simpa using n6)), hM, p.hh, p.hw, p.ne, p.fits⟩
theorem only_map {w w' : World} {hb wb m : Nat} (hT : w.grownBy w' (some m)) : Only (Mine hb wb m) w w' :=
  ⟨hT.os, hT.tape, hT.output, hT.size, fun i hi hn => hT.block i hi (fun e => hn (by simp at e; exact .inr (.inr e)))⟩

set_option maxRecDepth 20000 in
set_option maxHeartbeats 2000000 in
theorem pair_ok (f a : Int) (x y o : Nat) (w : World) {b hb wb m F G h wn wv k kf} (p : IsProf w b hb wb m F G h wn wv k kf) (hf : 0 ≤ f ∧ f < (F : Int)) (ha : 0 ≤ a ∧ a < 65536) (hx : x ≤ 3) (hy : y ≤ 3) (hk : k < maxLen)
    (ho : (kf f a).getD 0 = (o : Int)) (ho2 : o ≤ 255) :
    Calls Try.prog 26 #[.pointer (some ⟨b, 0, none⟩), .int .i64 f, .int .i64 a, .int .i64 x, .int .i64 y] w fun e w' => e = .returned (.int .i64 0) ∧ IsProf w' b hb wb m F G h wn wv (k + 1) (updP kf f a (some ((orK o x y : Nat) : Int))) ∧ Only (Mine hb wb m) w w' := by
  have hs := spot_any f a w p
  rw [show badS F f a = 0 from if_neg (by omega)] at hs
  have HS := Lib.hid hs
  have hc := p.c2
  clear hs
  have hi : I64 f ∧ I64 a := by have := p.fits; unfold I64; omega
  have hl := (p.map.drewN 1).look f a hi.1 hi.2
  obtain ⟨v0, st, w1, hE, hl1, hT1, hSt⟩ := (p.map.drewN 1).entry f a hi.1 hi.2 hk
  have hlt := orK_lt o x y ho2 hx hy
  obtain ⟨w2, hS2, hM2, hT2⟩ := hSt (bits .or .i64 (o : Int) (bits .or .i64 (IntKind.i64.wrap (2 ^ x)) (IntKind.i64.wrap (16 * 2 ^ y)))) (by rw [orK_bits o x y ho2 hx hy]; unfold I64; omega)
  rw [orK_bits o x y ho2 hx hy] at hM2
  have hT2 := hT2.grown
  have hT : w.grownBy w2 (some m) := ⟨hT2.os, hT2.tape, hT2.output, hT2.size, hT2.block⟩
  have h1 : (w.drewN 1) = w.drew := rfl
  rw [h1, ho] at hl
  rw [ho] at hl1
  rw [h1] at hE
  have HP := Lib.hid (p.setMap hT hM2)
  have HO := Lib.hid (only_map (hb := hb) (wb := wb) hT)
  clear hSt hT1 hT2 hM2 hk hi p h1 hT ho hlt
  go_enter Try.func26, Try.ntmps26
  go_wp2_with (go_at_call 30; refine HS.out.mono ?_; rintro e w' ⟨rfl, rfl⟩)
  go_region
  all_goals (go_wp2; go_ret; exact ⟨rfl, HP.out, HO.out⟩)
end Go.Proofs.Ytmcejkimpjfmmaa
