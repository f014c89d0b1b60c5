/- The walk of the law ProfOwn. -/
import Derived.Test.YtmcejkimpjfmmaaPl
import Derived.Deep.RegionHeld3
import Derived.Deep.RegionWith
set_option linter.unusedVariables false
set_option linter.unusedSimpArgs false
namespace Go.Proofs.Ytmcejkimpjfmmaa
open Go.RowKit Go.Lib Go.Maps
attribute [local go_sem ↓] Go.wp_at_zero Go.wp_at_succ

theorem Both.drewN {w0 w : World} {b hb wb m F G rb N L A n c} (h : Both w0 w b hb wb m F G rb N L A n c) (q : Nat) : Both w0 (w.drewN q) b hb wb m F G rb N L A n c := h.below (below_drewN (Below.refl _ w) q)

set_option maxRecDepth 100000 in
set_option maxHeartbeats 4000000 in
theorem own_near (A0 : Option Addr) (n0 c0 : Nat) (X : Nat → Ac) (w : World) (hA : Acts w A0 n0 X) (hn : n0 ≤ 60) :
    Calls Try.prog 5 #[.slice A0 n0 c0] w fun e w' => e = .returned (.bool true) ∧ Below w.heap.size w w' := by
  go_enter Try.func5, Try.ntmps5
  go_wp2_with fail
  refine (new55 w).mono ?_
  rintro e w1 ⟨b, hb, wb, m, rfl, P, hB1, g0, g1, g2, g3⟩
  have HP := Lib.hid (ProfL.start P)
  have hl := (ProfL.start P).lts
  clear P
  go_wp2_with fail
  refine (rnew_ok 5 5 w1 (by omega)).mono ?_
  rintro e w2 ⟨rfl, hB2⟩
  have hsz := hB2.size
  have hB3 := below_alloc (w := w2) (.cells #[.int .i64 5, .int .i64 5, .slice none 0 0] 43)
  have hbo : Both w (w2.alloc (.cells #[.int .i64 5, .int .i64 5, .slice none 0 0] 43)) b hb wb m 5 5 w2.heap.size (w2.heap.size + 1) [] none 0 0 :=
    ⟨(HP.out.below hB2).below hB3, ⟨rfl, RV.nil _ _ _⟩, heap_alloc_new w2 _, below_next (below_next hB1 hB1.size hB2) (by omega) hB3, GoodL.nil _ _, ⟨g0, g1, g2, g3, by omega⟩, by omega, by omega, by simp⟩
  have HBO := Lib.hid hbo
  clear hbo hB3 hB2 HP hB1 g0 g1 g2 g3 hl
  go_wp2_with (go_at_call 10; refine (num_any _ _).mono ?_; rintro e w' ⟨rfl, rfl⟩)
  generalize w2.heap.size = rb at *
  go_loopw [7] (fun i wr => ∃ (j : Nat) (L : List Ac) (A : Option Addr) (n c : Nat), j ≤ n0 ∧ i = .int .i64 j ∧ L.length ≤ j ∧ Hid (Both w wr b hb wb m 5 5 rb (rb + 1) L A n c)) (fun i _ => n0 - (intOf i).toNat)
  case atStart => exact ⟨0, [], none, 0, 0, by omega, rfl, by simp, HBO⟩
  case round =>
    clear HBO
    obtain ⟨j, L, A, n, c, hj, rfl, hL, HBO⟩ := hrel
    have hnl := HBO.out.ref.len
    by_cases hlt : j < n0
    · obtain ⟨ba, o, rfl, hba, hc⟩ := hA (by omega)
      have h6 := hc j hlt
      generalize X j = x at *
      have H6 := Lib.hid h6
      obtain ⟨x0, x1, x2, x3, x4, x5⟩ := h6.block (HBO.out.bel.block ba hba)
      clear hc h6
      by_cases hd : 0 ≤ x.d ∧ x.d ≤ 4
      · obtain ⟨d0, d1⟩ := hd
        have ht := tell_any x wr HBO.out.prof (by omega)
        rw [normA_in ⟨d0, d1⟩] at ht
        have HT := Lib.hid ht
        clear ht
        go_wp2_with fail
        refine HT.out.mono ?_
        rintro e w4 ⟨rfl, hp4, o4⟩
        have hi := HBO.out.hi
        have hne := HBO.out.ne
        have hlo := HBO.out.lo
        have hbel4 := two_below HBO.out.bel o4 HBO.out.bel.size hlo.2.1 hlo.2.2.1 hlo.2.2.2.1
        have hbx4 := (o4.block rb (by have := HBO.out.nw; omega) (by rintro (k | k | k) <;> omega)).trans HBO.out.box
        have HX4 := Lib.hid hbx4
        have hr4 := HBO.out.ref.only o4 (by omega)
        have HR4 := Lib.hid hr4
        have HP4 := Lib.hid hp4
        have HO4 := Lib.hid o4
        have hrb4 : rb + 1 ≤ w4.heap.size := Nat.le_trans HBO.out.nw o4.size
        clear HT hp4 o4 hbx4 hr4 x0 x1 x2 x3 x4 x5
        obtain ⟨x0, x1, x2, x3, x4, x5⟩ := H6.out.block (hbel4.block ba hba)
        obtain ⟨cc0, cc1, cc2, fr, ltb⟩ := blk3 HX4.out
        clear fr
        have HBEL := Lib.hid hbel4
        clear hbel4
        have i1 : (0 : Int) ≤ (j : Int) := by omega
        have i2 : (j : Int) < (n0 : Int) := by omega
        go_upto_region 12 with (fail)
        have hbarb : ba ≠ rb := by omega
        have hba4 : ba < w4.heap.size := Nat.lt_of_lt_of_le hba HBEL.out.size
        have f0 := (blk3 HX4.out).2.2.2.1 0
        go_region_with
          ((go_at_call 17
            refine (rtell_any x 5 5 A n c L _ (rb + 1) (by first | exact hrb4 | simpa using hrb4) (by first | exact HR4.out | exact HR4.out.drewN _ | exact HR4.out.drewN 1) (by omega)).mono ?_
            rintro e w5 ⟨⟨A', n', c', rfl, hr5⟩, hB5⟩
            have b5 : Below w4.heap.size w4 w5 := ⟨hB5.os, hB5.tape, hB5.output, hB5.size, hB5.block⟩
            have hbx5 := (b5.block rb ltb).trans HX4.out
            obtain ⟨y0, y1, y2, y3, y4, y5⟩ := H6.out.block ((b5.block ba hba4).trans (HBEL.out.block ba hba))
            obtain ⟨cc0', cc1', cc2', fr', ltb5⟩ := blk3 hbx5
            have f0' := fr' 0
            have f1' := fr' 1
            have f2' := fr' 2
            have HR5 := Lib.hid hr5
            have HB5 := Lib.hid b5
            have HX5 := Lib.hid hbx5
            clear hr5 hB5 b5 hbx5 fr'))
        all_goals
          have hbb := HBO.out.tell x HP4.out HO4.out (c' := c') HR5.out HB5.out
          have hll := tellL_len 5 5 L x
          have HBB := Lib.hid hbb
          clear hbb
          go_wp2_with fail
          go_roundw
          case rel => exact ⟨j + 1, tellL 5 5 L x, A', n', c', by omega, by go_num, by omega, HBB⟩
          case measure => simp [intOf]; omega
      · have hd' : x.d < 0 ∨ (0 ≤ x.d ∧ 4 < x.d) := by omega
        clear hd
        rcases hd' with hd | ⟨hd0, hd⟩
        · go_wp2_with fail
          go_roundw
          case rel => exact ⟨j + 1, L, A, n, c, by omega, by go_num, by omega, HBO⟩
          case measure => simp [intOf]; omega
        · go_wp2_with fail
          go_roundw
          case rel => exact ⟨j + 1, L, A, n, c, by omega, by go_num, by omega, HBO⟩
          case measure => simp [intOf]; omega
    · clear hA
      go_wp2_with fail
      refine (hot_L 0 wr HBO.out.prof).mono ?_
      rintro e w3 ⟨v, l, rfl, hl, hown, hB3⟩
      obtain ⟨A3, c3, rfl⟩ := own_slice hown
      have hll := hl.len
      have HO3 := Lib.hid (⟨_, hown⟩ : ∃ xs, w3.ownsRow wr.heap.size 3 1 (.slice A3 l.length c3) l.length xs)
      have HB3 := Lib.hid hB3
      have hs3 : wr.heap.size ≤ w3.heap.size := hB3.size
      clear hown hB3 hl
      go_wp2_with fail
      go_loopw [9] (fun i wx => ∃ k : Nat, k ≤ l.length ∧ i = .int .i64 k ∧ Hid (∃ xs, wx.ownsRow wr.heap.size 3 1 (.slice A3 l.length c3) l.length xs) ∧ Hid (Below wr.heap.size wr wx)) (fun i _ => l.length - (intOf i).toNat)
      case atStart => exact ⟨0, by omega, rfl, HO3, HB3⟩
      case round =>
        clear HO3 HB3 hs3
        obtain ⟨k, hk, rfl, HO3, HB3⟩ := hrel
        by_cases hlt2 : k < l.length
        · obtain ⟨xs, hx⟩ := HO3.out
          obtain ⟨g, cap, hv, hg1, hg2⟩ := hx.form (by omega)
          obtain ⟨rfl, rfl⟩ : A3 = some ⟨g, 0, none⟩ ∧ c3 = cap := by injection hv with h1 h2 h3; exact ⟨h1, h3⟩
          have hxl := hx.1
          have hcell : ∃ u, xs[k]? = some u := ⟨xs[k]'(by omega), List.getElem?_eq_getElem _⟩
          obtain ⟨u, hu⟩ := hcell
          have c0 := (hx.cellAt k (by omega)).trans hu
          have f0 := hx.frozenAt k
          have hst := (hx.stored k (.int .i64 (-1))).1
          have hB4 := HB3.out.setCell (p := ⟨g, k, none⟩) hg1 (.int .i64 (-1))
          have HO4 := Lib.hid (⟨_, hst⟩ : ∃ xs, _)
          have HB4 := Lib.hid hB4
          clear hx hv hxl hu hst hB4 HO3 HB3
          go_wp2_with fail
          go_roundw
          case rel => exact ⟨k + 1, by omega, by go_num, HO4, HB4⟩
          case measure => simp [intOf]; omega
        · have hbo2 := HBO.out.below HB3.out
          have HBO2 := Lib.hid hbo2
          clear hbo2 HO3 HB3
          go_wp2_with fail
          obtain ⟨wz, hwz⟩ : ∃ wz, wz = wr := ⟨_, rfl⟩
          subst hwz
          refine (stable_L wz HBO2.out.prof).mono ?_
          rintro e w6 ⟨v, rfl, hown, hB6⟩
          obtain ⟨A6, c6, rfl⟩ := own_slice hown
          have hsl := stabL_len 5 (fun g => (wrL L g).1) (fun g => (wrL L g).2)
          generalize stabL 5 (fun g => (wrL L g).1) (fun g => (wrL L g).2) = sl at *
          have HO6 := Lib.hid (⟨_, hown⟩ : ∃ xs, w6.ownsRow _ 50 2 (.slice A6 sl.length c6) sl.length xs)
          have HB6 := Lib.hid hB6
          clear hown hB6
          go_wp2_with fail
          go_loopw [11] (fun i wy => ∃ k : Nat, k ≤ sl.length ∧ i = .int .i64 k ∧ Hid (∃ xs, wy.ownsRow wz.heap.size 50 2 (.slice A6 sl.length c6) sl.length xs) ∧ Hid (Below wz.heap.size wz wy)) (fun i _ => sl.length - (intOf i).toNat)
          case atStart => exact ⟨0, by omega, rfl, HO6, HB6⟩
          case round =>
            clear HO6 HB6
            obtain ⟨k, hk, rfl, HO6, HB6⟩ := hrel
            by_cases hlt3 : k < sl.length
            · obtain ⟨xs, hx⟩ := HO6.out
              obtain ⟨g, cap, hv, hg1, hg2⟩ := hx.form (by omega)
              obtain ⟨rfl, rfl⟩ : A6 = some ⟨g, 0, none⟩ ∧ c6 = cap := by injection hv with h1 h2 h3; exact ⟨h1, h3⟩
              have hxl := hx.1
              have hcell : ∃ u, xs[k * 2 + 1]? = some u := ⟨xs[k * 2 + 1]'(by omega), List.getElem?_eq_getElem _⟩
              obtain ⟨u, hu⟩ := hcell
              have c0 := (hx.cellAt (k * 2 + 1) (by omega)).trans hu
              have f0 := hx.frozenAt (k * 2 + 1)
              have hst := (hx.stored (k * 2 + 1) (.int .u64 99)).1
              have hB4 := HB6.out.setCell (p := ⟨g, k * 2 + 1, none⟩) hg1 (.int .u64 99)
              have HO4 := Lib.hid (⟨_, hst⟩ : ∃ xs, _)
              have HB4 := Lib.hid hB4
              clear hx hv hxl hu hst hB4 HO6 HB6
              go_wp2_with fail
              go_roundw
              case rel => exact ⟨k + 1, by omega, by go_num, HO4, HB4⟩
              case measure => simp [intOf]; omega
            · have hbo3 := HBO2.out.below HB6.out
              have HBO3 := Lib.hid hbo3
              clear hbo3 HO6 HB6
              go_upto_region 23 with (fail)
              obtain ⟨w4, hw4⟩ : ∃ w4, w4 = wr := ⟨_, rfl⟩
              subst hw4
              obtain ⟨cc0, cc1, cc2, fr, ltq⟩ := blk3 HBO3.out.box
              clear fr
              have HP4 := Lib.hid HBO3.out.prof
              have HL4 := Lib.hid HBO3.out.ref
              have HBm := Lib.hid HBO3.out.bel
              clear HBO HBO2 HBO3
              go_region_held3 (fun w' => w'.cell? ⟨rb, 0, none⟩ = some (.int .i64 5) ∧ w'.cell? ⟨rb, 1, none⟩ = some (.int .i64 5) ∧ w'.cell? ⟨rb, 2, none⟩ = some (.slice A n c))
                (first | go_keep | exact ⟨cc0, cc1, cc2⟩ | exact ⟨y0, y1, y2⟩ | exact ⟨z0, z1, z2⟩ | exact ⟨u0, u1, u2⟩)
                (first
                  | ((go_at_call 15
                      refine (hot_L 0 _ (by first | exact HP4.out | exact HP4.out.drewN _ | exact HP4.out.drewN 1)).mono ?_
                      rintro e w5 ⟨v, l, rfl, hl, hown, hB5⟩
                      have b5 : Below w4.heap.size w4 w5 := ⟨hB5.os, hB5.tape, hB5.output, hB5.size, hB5.block⟩
                      obtain ⟨A5, c5, rfl⟩ := own_slice hown
                      have hll := hl.len
                      have hR5 := own_nats hown (by omega)
                      have hlt5 := fun b' o' e => (own_base (b := b') (o := o') hown e).2
                      have y0 := (b5.cell (p := ⟨rb, 0, none⟩) ltq).trans cc0
                      have y1 := (b5.cell (p := ⟨rb, 1, none⟩) ltq).trans cc1
                      have y2 := (b5.cell (p := ⟨rb, 2, none⟩) ltq).trans cc2
                      have HHl := Lib.hid hl
                      have HR5 := Lib.hid hR5
                      have HLT5 := Lib.hid hlt5
                      have HB5 := Lib.hid b5
                      clear hl hown hB5 b5 hR5 hlt5))
                  | ((go_at_call 19
                      refine (rhot_any 0 5 5 A n c L _ (rb + 1) (HL4.out.below HB5.out) (by omega) (by omega)).mono ?_
                      rintro e w6 ⟨v, l', rfl, hl', hown, hB6⟩
                      obtain rfl := HHl.out.uniq hl'
                      obtain ⟨A6, c6, rfl⟩ := own_slice hown
                      have hR6 := own_nats hown (by omega)
                      have hR56 := HR5.out.block (fun b' o' e => hB6.block b' (HLT5.out b' o' e))
                      have b6 := below_next HB5.out HB5.out.size hB6
                      have hs := same_any A5 A6 _ _ c5 c6 _ _ w6 hR56 hR6
                      rw [sameB_true (fun _ _ => rfl)] at hs
                      have z0 := (b6.cell (p := ⟨rb, 0, none⟩) ltq).trans cc0
                      have z1 := (b6.cell (p := ⟨rb, 1, none⟩) ltq).trans cc1
                      have z2 := (b6.cell (p := ⟨rb, 2, none⟩) ltq).trans cc2
                      have HSM := Lib.hid hs
                      have HB6 := Lib.hid b6
                      clear hl' hown hB6 b6 hR6 hR56 hs y0 y1 y2))
                  | ((go_at_call 14
                      refine HSM.out.mono ?_
                      rintro e w7 ⟨rfl, q7, rfl⟩))
                  | ((go_at_call 18
                      refine (stable_L _ (HP4.out.below (below_drewN HB6.out q7))).mono ?_
                      rintro e w8 ⟨v, rfl, hown, hB8⟩
                      obtain ⟨A8, c8, rfl⟩ := own_slice hown
                      have b8 := below_next (below_drewN HB6.out q7) HB6.out.size hB8
                      have hR8 := RV.own hown
                      have HR8 := Lib.hid hR8
                      have HB8 := Lib.hid b8
                      have y0 := (b8.cell (p := ⟨rb, 0, none⟩) ltq).trans cc0
                      have y1 := (b8.cell (p := ⟨rb, 1, none⟩) ltq).trans cc1
                      have y2 := (b8.cell (p := ⟨rb, 2, none⟩) ltq).trans cc2
                      clear hown hB8 b8 hR8))
                  | ((go_at_call 21
                      refine (rstable_any 5 5 A n c L _ (rb + 1) (HL4.out.below HB8.out) (by omega) (by omega)).mono ?_
                      rintro e w9 ⟨v, rfl, hown, hB9⟩
                      obtain ⟨A9, c9, rfl⟩ := own_slice hown
                      have b9 := below_next HB8.out HB8.out.size hB9
                      have hR9 := RV.own hown
                      have hR89 := HR8.out.below hB9
                      have hsd := samedeps_any A8 A9 _ c8 c9 _ w9 _ _ hR89 hR9 rfl (Nat.le_trans (stabL_len _ _ _) (by omega))
                      have HSD := Lib.hid hsd
                      have HB9 := Lib.hid b9
                      have z0 := (b9.cell (p := ⟨rb, 0, none⟩) ltq).trans cc0
                      have z1 := (b9.cell (p := ⟨rb, 1, none⟩) ltq).trans cc1
                      have z2 := (b9.cell (p := ⟨rb, 2, none⟩) ltq).trans cc2
                      clear hown hB9 b9 hR9 hR89 hsd))
                  | ((go_at_call 20
                      refine HSD.out.mono ?_
                      rintro e w10 ⟨rfl, q10, rfl⟩
                      have HB10 := Lib.hid (below_drewN HB9.out q10)))
                  | ((go_at_call 8
                      refine (live_any _).mono ?_
                      rintro e w11 ⟨rfl, hB11⟩
                      have b11 := below_next HB10.out HB10.out.size hB11
                      have u0 := (b11.cell (p := ⟨rb, 0, none⟩) ltq).trans cc0
                      have u1 := (b11.cell (p := ⟨rb, 1, none⟩) ltq).trans cc1
                      have u2 := (b11.cell (p := ⟨rb, 2, none⟩) ltq).trans cc2
                      have HB11 := Lib.hid b11
                      clear hB11 b11)))
              go_wp2_with fail
              go_ret
              exact ⟨rfl, below_next HBm.out HBm.out.size HB11.out⟩

set_option maxRecDepth 20000 in
theorem own_far (A : Option Addr) (n c : Nat) (w : World) (h : 60 < n) (hn : n ≤ 9223372036854775807) :
    Calls Try.prog 5 #[.slice A n c] w fun e w' => e = .returned (.bool true) ∧ Below w.heap.size w w' := by
  go_enter Try.func5, Try.ntmps5
  go_wp2_with fail
  refine (live_any _).mono ?_
  rintro e w5 ⟨rfl, hB5⟩
  go_wp2_with fail
  go_ret
  exact ⟨rfl, hB5⟩
theorem own_all (A : Option Addr) (n c : Nat) (w : World) (h : IsActs w A n c) :
    Calls Try.prog 5 #[.slice A n c] w fun e w' => e = .returned (.bool true) ∧ Below w.heap.size w w' := by
  obtain ⟨hn, X, hA⟩ := acts_in h
  by_cases h : 60 < n
  · exact own_far A n c w h hn
  · exact own_near A n c X w hA (by omega)
end Go.Proofs.Ytmcejkimpjfmmaa
