/- Hot. -/
import Derived.Test.YtmcejkimpjfmmaaV
import Derived.Shelf.SlSortCmp.NoneTotal
import Derived.Deep.Onto
set_option linter.unusedVariables false
set_option linter.unusedSimpArgs false
namespace Go.Proofs.Ytmcejkimpjfmmaa
open Go.RowKit Go.Lib Go.Maps Go.Shelf

def warmL (h : Nat → Int) (F : Nat) (least : Int) : List (Int × Int) := ((List.range F).filter fun f => decide (0 < h f ∧ least ≤ h f)).map fun (f : Nat) => ((f : Int), h f)
theorem warmL_hit {h : Nat → Int} {F : Nat} {least : Int} (e : 0 < h F ∧ least ≤ h F) : warmL h (F + 1) least = warmL h F least ++ [((F : Int), h F)] := by
  simp [warmL, List.range_succ, List.filter_append, e.1, e.2]
theorem warmL_miss {h : Nat → Int} {F : Nat} {least : Int} (e : ¬ (0 < h F ∧ least ≤ h F)) : warmL h (F + 1) least = warmL h F least := by
  simp only [warmL, List.range_succ, List.filter_append, List.map_append, List.filter_cons, List.filter_nil]
  rw [if_neg (by simpa using e)]
  simp
theorem warmL_len (h F least) : (warmL h F least).length ≤ F := by
  simp only [warmL, List.length_map]
  have := List.length_filter_le (fun f => decide (0 < h f ∧ least ≤ h f)) (List.range F)
  simpa using this
theorem hots_of {h : Nat → Int} {F : Nat} {least : Int} {ts : List (Int × Int)} (hp : ts.Perm (warmL h F least)) (hs : ts.Pairwise fun x y => ¬ (x.2 < y.2 ∨ (x.2 = y.2 ∧ y.1 < x.1))) :
    Hots h F least (ts.map fun x => x.1.toNat) ∧ (ts.map fun x => x.1.toNat).map (fun (f : Nat) => Value.int .i64 f) = ts.map fun x => Value.int .i64 x.1 := by
  have hx : ∀ x ∈ ts, ∃ f : Nat, x = ((f : Int), h f) ∧ f < F ∧ 0 < h f ∧ least ≤ h f := fun x hx => by
    have := (hp.mem_iff).1 hx
    simp only [warmL, List.mem_map, List.mem_filter, List.mem_range, decide_eq_true_eq] at this
    obtain ⟨f, ⟨h1, h2⟩, rfl⟩ := this
    exact ⟨f, rfl, h1, h2⟩
  have hnd : (ts.map fun x => x.1.toNat).Nodup := by
    have h1 : ((warmL h F least).map fun x => x.1.toNat).Nodup := by
      simp only [warmL, List.map_map]
      have : ((fun x : Int × Int => x.1.toNat) ∘ fun (f : Nat) => ((f : Int), h f)) = id := by funext f; simp
      rw [this, List.map_id]
      exact List.nodup_range.filter _
    exact (hp.map _).nodup_iff.2 h1
  refine ⟨⟨hnd, fun f => ?_, ?_⟩, ?_⟩
  · constructor
    · intro hf
      obtain ⟨x, hx1, rfl⟩ := List.mem_map.1 hf
      obtain ⟨g, rfl, h2⟩ := hx x hx1
      simpa using h2
    · intro hf
      refine List.mem_map.2 ⟨((f : Int), h f), (hp.mem_iff).2 ?_, by simp⟩
      simp only [warmL, List.mem_map, List.mem_filter, List.mem_range, decide_eq_true_eq]
      exact ⟨f, ⟨hf.1, hf.2⟩, rfl⟩
  · rw [List.pairwise_map]
    have hnd' := List.pairwise_map.1 hnd
    refine List.Pairwise.imp_of_mem ?_ (hs.and hnd')
    intro x y hx1 hy1 ⟨h1, h2⟩
    obtain ⟨f, rfl, _⟩ := hx x hx1
    obtain ⟨g, rfl, _⟩ := hx y hy1
    simp only [Int.toNat_natCast] at *
    omega
  · rw [List.map_map]
    apply List.map_congr_left
    intro x hx1
    obtain ⟨f, rfl, _⟩ := hx x hx1
    simp

theorem sort_none (p : Option Addr) (cap : Nat) (fv : Value) (w : World) : Calls Try.prog 31 #[.slice p 0 cap, fv] w fun e w' => e = .returned (.tuple #[]) ∧ w' = w :=
  AnyF.slices_SortFunc_none Try.sortN p cap fv w
set_option maxRecDepth 20000 in
set_option maxHeartbeats 2000000 in
theorem hot_ok (least : Int) (w : World) {b hb wb m F G h wn wv k kf} (p : IsProf w b hb wb m F G h wn wv k kf) :
    Calls Try.prog 15 #[.pointer (some ⟨b, 0, none⟩), .int .i64 least] w fun e w' => ∃ v l, e = .returned v ∧ Hots h F least l ∧ w'.ownsRow w.heap.size 3 1 v l.length (l.map fun (f : Nat) => Value.int .i64 f) ∧ Below w.heap.size w w' := by
  obtain ⟨i0, hi, hz0, hz1, hz2⟩ := info_parts info74
  obtain ⟨i3, hi3, hz03, hz13, hz23⟩ := info_parts info3
  have hc := p.c0
  have hF := p.fits.1
  have hlt0 := p.heat.lt
  have HR := Lib.hid p.heat
  have HH := Lib.hid p.hh
  clear p
  go_enter Try.func15, Try.ntmps15
  go_wp2_with fail
  go_loopw [5, 18] (fun v i wr => ∃ j : Nat, j ≤ F ∧ i = .int .i64 j ∧ wr.ownsRow w.heap.size 74 2 v (warmL h j least).length (cells2 .i64 (warmL h j least)) ∧ Below w.heap.size w wr) (fun _ i _ => F - (intOf i).toNat)
  case atStart => exact ⟨0, Nat.zero_le _, rfl, World.ownsRow_nil _ _ _ _, Below.refl _ _⟩
  case round =>
    obtain ⟨j, hj, rfl, hown, hB⟩ := hrel
    by_cases hlt : j < F
    · have hr := HR.out.block (hB.block hb hlt0)
      have c0 := hr.c0 hlt
      have c1 := hr.c1 hlt
      have hs := hB.size
      clear hr
      by_cases h1 : 0 < h j
      · by_cases h2 : least ≤ h j
        · have e := warmL_hit (h := h) (F := j) (least := least) ⟨h1, h2⟩
          have hl := warmL_len h j least
          have HE := Lib.hid e
          generalize h j = n at *
          clear e
          have hB1 : Below w.heap.size w ((wr.alloc (.cells #[.int .i64 n, .int .i64 0] 68)).alloc (.cells #[.int .i64 j, .int .i64 n] 74)) := (hB.alloc hs _).alloc (by simp; omega) _
          have hcell := cell_two_new (wr.alloc (.cells #[.int .i64 n, .int .i64 0] 68)) (.int .i64 j) (.int .i64 n) 74
          rw [World.size_alloc] at hcell
          have HC := Lib.hid hcell
          have HB1 := Lib.hid hB1
          clear hcell hB1
          go_wp2_with (at_builtin; refine wpList_append_own _ rfl _ _ 72 rfl w.heap.size 74 i0 _ 2 16 Try.underlying72 hi hz0 hz1 hz2 rfl (by decide) _ _ _ rfl ((hown.alloc _).alloc _) ⟨wr.heap.size + 1, 0, none⟩ 1 1 [.int .i64 j, .int .i64 n] rfl rfl HC.out (by simp [Value.oneCell']) (by unfold maxLen; omega) (by omega) (by simp; omega) ?_; intro v' w1 hown1 hg1 _)
          have hB2 := HB1.out.grown hg1 (by simp; omega) (fun g e => (hown.lt g e).1)
          go_wp2_with fail
          go_roundw
          case rel => exact ⟨j + 1, by omega, by go_num, by rw [HE.out, cells2_snoc, List.length_append]; exact hown1, hB2⟩
          case measure => simp [intOf]; omega
        · have HE := Lib.hid (warmL_miss (h := h) (F := j) (least := least) (by omega))
          generalize h j = n at *
          go_wp2_with fail
          go_roundw
          case rel => exact ⟨j + 1, by omega, by go_num, by rw [HE.out]; exact hown.alloc _, hB.alloc hs _⟩
          case measure => simp [intOf]; omega
      · have HE := Lib.hid (warmL_miss (h := h) (F := j) (least := least) (by omega))
        generalize h j = n at *
        go_wp2_with fail
        go_roundw
        case rel => exact ⟨j + 1, by omega, by go_num, by rw [HE.out]; exact hown.alloc _, hB.alloc hs _⟩
        case measure => simp [intOf]; omega
    · have e : j = F := by omega
      subst e
      have hB0 := hB
      clear HR HH
      rcases hown.2 with ⟨hv, hlen⟩ | ⟨g, cap, cur, hv, hgb, hgc, hn, hcap, hsz, htake⟩
      · subst hv
        have hnil : warmL h j least = [] := List.eq_nil_of_length_eq_zero hlen
        have HN := Lib.hid hnil
        clear hnil hlen hown
        go_wp2_with (go_at_call 31; refine (sort_none _ _ _ _).mono ?_; rintro e w' ⟨rfl, rfl⟩)
        refine wp_loop_rounds 1 ?_
        rw [rounds_succ]
        go_wp2_with fail
        go_ret
        have h1 := (hots_of (h := h) (F := j) (least := least) (ts := []) (by rw [HN.out]) List.Pairwise.nil).1
        exact ⟨_, [], rfl, h1, World.ownsRow_nil _ _ _ _, hB⟩
      · obtain ⟨n, hn'⟩ : ∃ n, (warmL h j least).length = n := ⟨_, rfl⟩
        rw [hn'] at hv hn
        subst hv
        have hl := warmL_len h j least
        rw [hn'] at hown hl
        have HS := Lib.hid (sort_any wr w.heap.size g cap n _ hn' hown (by omega))
        have HN := Lib.hid hn'
        have hgw := (Array.getElem?_eq_some_iff.1 hgc).1
        clear hown hgc hn hsz htake hn'
        go_wp2_with (go_at_call 31; refine HS.out.mono ?_; rintro e w1 ⟨rfl, ts, hp, hso, hcell, hg1⟩)
        have hB1 := hB.grown hg1 hB.size (fun g' e => by cases e; exact hgb)
        have hlen : ts.length = n := by rw [← HN.out]; exact hp.length_eq
        have HP := Lib.hid hp
        have HO := Lib.hid hso
        have HC := Lib.hid hcell
        have HL := Lib.hid hlen
        have hglt : g < w1.heap.size := Nat.lt_of_lt_of_le hgw hg1.size
        clear hp hso hcell hlen HS hB hg1
        go_loopw [8, 44] (fun v i wr => ∃ k : Nat, k ≤ n ∧ i = .int .i64 k ∧ wr.ownsRow w1.heap.size 3 1 v k ((ts.take k).map fun x => Value.int .i64 x.1) ∧ Below w1.heap.size w1 wr) (fun _ i _ => n - (intOf i).toNat)
        case atStart => exact ⟨0, Nat.zero_le _, rfl, World.ownsRow_nil _ _ _ _, Below.refl _ _⟩
        case round =>
          obtain ⟨k, hk, rfl, hown, hB2⟩ := hrel
          have hs := hB2.size
          by_cases hlt : k < n
          · have hx : ts[k]? = some (ts[k]'(by rw [HL.out]; exact hlt)) := List.getElem?_eq_getElem _
            generalize ts[k]'(by rw [HL.out]; exact hlt) = x at hx
            have c0 := (hB2.cell (p := ⟨g, k * 2, none⟩) hglt).trans (HC.out k x hx).1
            have c1 := (hB2.cell (p := ⟨g, k * 2 + 1, none⟩) hglt).trans (HC.out k x hx).2
            have htk : ts.take (k + 1) = ts.take k ++ [x] := by rw [List.take_add_one, hx]; rfl
            have HT := Lib.hid htk
            clear hx htk
            have hBn : Below w1.heap.size w1 ((wr.alloc (.cells #[.int .i64 x.1, .int .i64 x.2] 74)).alloc (.cells #[.int .i64 x.1] 3)) := (hB2.alloc hs _).alloc (by simp; omega) _
            have hcell := cell_one_new (wr.alloc (.cells #[.int .i64 x.1, .int .i64 x.2] 74)) (.int .i64 x.1) 3
            rw [World.size_alloc] at hcell
            have HC1 := Lib.hid hcell
            have HBn := Lib.hid hBn
            clear hcell hBn
            go_wp2_with (at_builtin; refine wpList_append_own _ rfl _ _ 38 rfl w1.heap.size 3 i3 _ 1 8 Try.underlying38 hi3 hz03 hz13 hz23 rfl (by decide) _ _ _ rfl ((hown.alloc _).alloc _) ⟨wr.heap.size + 1, 0, none⟩ 1 1 [.int .i64 x.1] rfl rfl HC1.out (by simp [Value.oneCell']) (by unfold maxLen; omega) (by omega) (by simp; omega) ?_; intro v' w2 hown1 hg1 _)
            have hB3 := HBn.out.grown hg1 (by simp; omega) (fun g e => (hown.lt g e).1)
            go_wp2_with fail
            go_roundw
            case rel => exact ⟨k + 1, by omega, by go_num, by rw [HT.out, List.map_append]; exact hown1, hB3⟩
            case measure => simp [intOf]; omega
          · have e : k = n := by omega
            subst e
            go_wp2_with fail
            go_ret
            obtain ⟨h1, h2⟩ := hots_of HP.out HO.out
            refine ⟨_, _, rfl, h1, ?_, below_next hB1 hB1.size hB2⟩
            rw [h2, List.length_map, HL.out]
            have e : ts.take k = ts := List.take_of_length_le (by rw [HL.out]; omega)
            rw [e] at hown
            exact hown.mono hB1.size
end Go.Proofs.Ytmcejkimpjfmmaa
