/- Stable. -/
import Derived.Test.YtmcejkimpjfmmaaR
import Derived.OwnWalk
import Derived.Laws.AppendOwn
import Derived.Laws.OwnMore
set_option linter.unusedVariables false
set_option linter.unusedSimpArgs false
namespace Go.Proofs.Ytmcejkimpjfmmaa
open Go.RowKit Go.Lib Go.Maps

def cells2 (q : IntKind) (l : List (Int × Int)) : List Value := l.flatMap fun p => [.int .i64 p.1, .int q p.2]
theorem cells2_snoc (q l x) : cells2 q (l ++ [x]) = cells2 q l ++ [.int .i64 x.1, .int q x.2] := by simp [cells2]
theorem cells2_len (q l) : (cells2 q l).length = l.length * 2 := by
  induction l with
  | nil => rfl
  | cons x l ih => simp [cells2] at ih ⊢; omega
theorem info50 : (Try.prog.info? 50).map (fun i => (i.zero, i.size, i.bytes)) = some (some (.agg #[.int .i64 0, .int .u64 0]), 2, 16) := by kernel_rfl
theorem info74 : (Try.prog.info? 74).map (fun i => (i.zero, i.size, i.bytes)) = some (some (.agg #[.int .i64 0, .int .i64 0]), 2, 16) := by kernel_rfl
theorem info3 : (Try.prog.info? 3).map (fun i => (i.zero, i.size, i.bytes)) = some (some (.int .i64 0), 1, 8) := by kernel_rfl
theorem cell_two_new (w : World) (x y : Value) (t : TypeId) : ∀ j u, [x, y][j]? = some u → (w.alloc (.cells #[x, y] t)).cell? ((⟨w.heap.size, 0, none⟩ : Addr).add j) = some u := by
  intro j u hu
  have e : (w.alloc (.cells #[x, y] t)).heap[w.heap.size]? = some (.cells #[x, y] t) := heap_alloc_new w _
  rw [Go.WideShapes.add_plain]
  simp only [World.cell?, e, Nat.zero_add]
  simpa using hu

set_option maxRecDepth 20000 in
set_option maxHeartbeats 2000000 in
theorem stable_ok (w : World) {b hb wb m F G h wn wv k kf} (p : IsProf w b hb wb m F G h wn wv k kf) :
    Calls Try.prog 18 #[.pointer (some ⟨b, 0, none⟩)] w fun e w' => ∃ v, e = .returned v ∧ w'.ownsRow w.heap.size 50 2 v (stabL G wn wv).length (cells2 .u64 (stabL G wn wv)) ∧ Below w.heap.size w w' := by
  obtain ⟨i0, hi, hz0, hz1, hz2⟩ := info_parts info50
  have hc := p.c1
  have hG := p.fits.2
  have hwlt := p.wr.lt
  have HR := Lib.hid p.wr
  clear p
  go_enter Try.func18, Try.ntmps18
  go_wp2_with fail
  go_loopw [3, 13] (fun v i wr => ∃ j : Nat, j ≤ G ∧ i = .int .i64 j ∧ wr.ownsRow w.heap.size 50 2 v (stabL j wn wv).length (cells2 .u64 (stabL j wn wv)) ∧ Below w.heap.size w wr) (fun _ i _ => G - (intOf i).toNat)
  case atStart => exact ⟨0, Nat.zero_le _, rfl, World.ownsRow_nil _ _ _ _, Below.refl _ _⟩
  case round =>
    obtain ⟨j, hj, rfl, hown, hB⟩ := hrel
    by_cases hlt : j < G
    · have hr := HR.out.block (hB.block wb hwlt)
      have c0 := hr.c0 hlt
      have c1 := hr.c1 hlt
      have hs := hB.size
      clear hr
      by_cases h1 : wn j = 1
      · have e := stabL_hit (v := wv) h1
        have hl := stabL_len j wn wv
        rw [h1] at c0
        have HE := Lib.hid e
        clear e h1
        have hB1 : Below w.heap.size w ((wr.alloc (.cells #[.int .i64 1, .int .u64 (wv j)] 79)).alloc (.cells #[.int .i64 j, .int .u64 (wv j)] 50)) := (hB.alloc hs _).alloc (by simp; omega) _
        have hcell := cell_two_new (wr.alloc (.cells #[.int .i64 1, .int .u64 (wv j)] 79)) (.int .i64 j) (.int .u64 (wv j)) 50
        rw [World.size_alloc] at hcell
        have HC := Lib.hid hcell
        have HB1 := Lib.hid hB1
        clear hcell hB1
        go_wp2_with (at_builtin; refine wpList_append_own _ rfl _ _ 47 rfl w.heap.size 50 i0 _ 2 16 Try.underlying47 hi hz0 hz1 hz2 rfl (by decide) _ _ _ rfl ((hown.alloc _).alloc _) ⟨wr.heap.size + 1, 0, none⟩ 1 1 [.int .i64 j, .int .u64 (wv j)] rfl rfl HC.out (by simp [Value.oneCell']) (by unfold maxLen; omega) (by omega) (by simp; omega) ?_; intro v' w1 hown1 hg1 _)
        have hB2 := HB1.out.grown hg1 (by simp; omega) (fun g e => (hown.lt g e).1)
        go_wp2_with fail
        go_roundw
        case rel => exact ⟨j + 1, by omega, by go_num, by rw [HE.out, cells2_snoc, List.length_append]; exact hown1, hB2⟩
        case measure => simp [intOf]; omega
      · have e := stabL_miss (v := wv) h1
        have HE := Lib.hid e
        have h1' : (wn j == 1) = false := by simpa using h1
        clear e h1
        go_wp2_with fail
        go_roundw
        case rel => exact ⟨j + 1, by omega, by go_num, by rw [HE.out]; exact hown.alloc _, hB.alloc hs _⟩
        case measure => simp [intOf]; omega
    · go_wp2_with fail
      go_ret
      have e : j = G := by omega
      subst e
      exact ⟨_, rfl, hown, hB⟩
end Go.Proofs.Ytmcejkimpjfmmaa
