/- The reference's Stable; SameDeps. -/
import Derived.Test.YtmcejkimpjfmmaaRk
set_option linter.unusedVariables false
set_option linter.unusedSimpArgs false
namespace Go.Proofs.Ytmcejkimpjfmmaa
open Go.RowKit Go.Lib Go.Maps

theorem own_kept {w w' : World} {base n : Nat} {E : TypeId} {size : Nat} {v : Value} {xs : List Value} (h : w.ownsRow base E size v n xs) (hB : Below w.heap.size w w') : w'.ownsRow base E size v n xs :=
  h.kept (row := none) ⟨hB.os, hB.tape, hB.output, hB.size, fun i hi _ => hB.block i hi⟩ (by
    cases e : v.ownBlock with
    | none => exact .inl rfl
    | some k => exact .inr (by simp))
set_option maxRecDepth 20000 in
set_option maxHeartbeats 2000000 in
theorem rstable_any (F G : Nat) (A : Option Addr) (n c : Nat) (L : List Ac) (w : World) (B : Nat) (h : RA w B A n L) (hn : n ≤ 1000) (hG : G ≤ 1024) :
    Calls Try.prog 21 #[rp F G A n c] w fun e w' => ∃ v, e = .returned v ∧ w'.ownsRow w.heap.size 50 2 v (stabL G (fun g => (wrL L g).1) (fun g => (wrL L g).2)).length (cells2 .u64 (stabL G (fun g => (wrL L g).1) (fun g => (wrL L g).2))) ∧ Below w.heap.size w w' := by
  obtain ⟨i0, hi, hz0, hz1, hz2⟩ := info_parts info50
  have hB : Below w.heap.size w (w.alloc (.cells #[.int .i64 F, .int .i64 G, .slice A n c] 43)) := below_alloc _
  have hq : (w.alloc (.cells #[.int .i64 F, .int .i64 G, .slice A n c] 43)).heap[w.heap.size]? = some (.cells #[.int .i64 F, .int .i64 G, .slice A n c] 43 (0, 0)) := heap_alloc_new w _
  have hs1 : (w.alloc (.cells #[.int .i64 F, .int .i64 G, .slice A n c] 43)).heap.size = w.heap.size + 1 := by simp
  have HL := Lib.hid h
  have HB := Lib.hid hB
  have HQ := Lib.hid hq
  clear h hB hq
  go_enter Try.func21, Try.ntmps21
  go_wp2_with fail
  generalize w.alloc (.cells #[.int .i64 F, .int .i64 G, .slice A n c] 43) = w1 at *
  have hs2 : w.heap.size < w1.heap.size := by omega
  have hs3 : w.heap.size ≤ w1.heap.size := by omega
  clear hs1
  go_loopw [3, 4] (fun v i wr => ∃ j : Nat, j ≤ G ∧ i = .int .i64 j ∧ wr.ownsRow w1.heap.size 50 2 v (stabL j (fun g => (wrL L g).1) (fun g => (wrL L g).2)).length (cells2 .u64 (stabL j (fun g => (wrL L g).1) (fun g => (wrL L g).2))) ∧ Below w1.heap.size w1 wr) (fun _ i _ => G - (intOf i).toNat)
  case atStart => exact ⟨0, by omega, rfl, World.ownsRow_nil _ _ _ _, Below.refl _ _⟩
  case round =>
    obtain ⟨j, hj, rfl, hown, hBr⟩ := hrel
    obtain ⟨cc0, cc1, cc2, fr, ltq⟩ := blk3 ((hBr.block _ hs2).trans HQ.out)
    have hsr := hBr.size
    clear fr
    by_cases hlt : j < G
    · have hBw := below_next HB.out hs3 hBr
      have hw := rwrites_any (j : Int) F G A n c L wr B (HL.out.below hBw) hn
      have hl := stabL_len j (fun g => (wrL L g).1) (fun g => (wrL L g).2)
      have hHit := stabL_hit (G := j) (n := fun g => (wrL L g).1) (v := fun g => (wrL L g).2)
      have hMiss := stabL_miss (G := j) (n := fun g => (wrL L g).1) (v := fun g => (wrL L g).2)
      have HW := Lib.hid hw
      clear hw hBw
      generalize wrL L (j : Int) = wj at *
      obtain ⟨m, u⟩ := wj
      dsimp only at HW hHit hMiss
      by_cases h1 : m = 1
      · subst h1
        have HE := Lib.hid (hHit rfl)
        clear hHit hMiss
        go_wp2_with fail
        refine HW.out.mono ?_
        rintro e w2 ⟨rfl, hB2⟩
        have hown2 := own_kept hown hB2
        have hB3 := below_next hBr hsr hB2
        have hs3' := hB3.size
        clear hown hB2 cc0 cc1 cc2 HW
        have hcell := cell_two_new w2 (.int .i64 j) (.int .u64 u) 50
        have hB4 : Below w1.heap.size w1 (w2.alloc (.cells #[.int .i64 j, .int .u64 u] 50)) := hB3.alloc hs3' _
        have HC := Lib.hid hcell
        have HB4 := Lib.hid hB4
        clear hcell hB4
        go_wp2_with (at_builtin; refine wpList_append_own _ rfl _ _ 47 rfl w1.heap.size 50 i0 _ 2 16 Try.underlying47 hi hz0 hz1 hz2 rfl (by decide) _ _ _ rfl (hown2.alloc _) ⟨w2.heap.size, 0, none⟩ 1 1 [.int .i64 j, .int .u64 u] rfl rfl HC.out (by simp [Value.oneCell']) (by unfold maxLen; omega) (by omega) (by simp; omega) ?_; intro v' w3 hown3 hg3 _)
        have hB5 := HB4.out.grown hg3 (by simp; omega) (fun g e => (hown2.lt g e).1)
        go_wp2_with fail
        go_roundw
        case rel => exact ⟨j + 1, by omega, by go_num, by rw [HE.out, cells2_snoc, List.length_append]; exact hown3, hB5⟩
        case measure => simp [intOf]; omega
      · have HE := Lib.hid (hMiss h1)
        have k1 : (m == 1) = false := by simpa using h1
        clear hHit hMiss h1
        go_wp2_with fail
        refine HW.out.mono ?_
        rintro e w2 ⟨rfl, hB2⟩
        have hown2 := own_kept hown hB2
        have hB3 := below_next hBr hsr hB2
        clear hown hB2 cc0 cc1 cc2 HW
        go_wp2_with fail
        go_roundw
        case rel => exact ⟨j + 1, by omega, by go_num, by rw [HE.out]; exact hown2, hB3⟩
        case measure => simp [intOf]; omega
    · have e : j = G := by omega
      subst e
      go_wp2_with fail
      go_ret
      exact ⟨_, rfl, hown.mono hs3, below_next HB.out hs3 hBr⟩
end Go.Proofs.Ytmcejkimpjfmmaa
