/- The walk of the law ProfAdds. -/
import Derived.Test.YtmcejkimpjfmmaaSa
import Derived.Test.YtmcejkimpjfmmaaPa
import Derived.Deep.RegionHeld3
import Derived.Deep.DrawnRows
import Derived.Deep.CutBlock
import Derived.IntWalk
set_option linter.unusedVariables false
set_option linter.unusedSimpArgs false
namespace Go.Proofs.Ytmcejkimpjfmmaa
open Go.RowKit Go.Lib Go.Maps
attribute [local go_sem ↓] Go.wp_at_zero Go.wp_at_succ

theorem IsProf.same4 {w w' : World} {b hb wb m F G h wn wv k kf} (p : IsProf w b hb wb m F G h wn wv k kf) (e : ∀ i, i = b ∨ i = hb ∨ i = wb ∨ i = m → w'.heap[i]? = w.heap[i]?) : IsProf w' b hb wb m F G h wn wv k kf :=
  ⟨(e b (by simp)).trans p.blk, p.heat.block (e hb (by simp)), p.wr.block (e wb (by simp)), p.map.block (e m (by simp)), p.hh, p.hw, p.ne, p.fits⟩
theorem ProfL.only {w w' : World} {b hb wb m F G L S} (p : ProfL w b hb wb m F G L) (h : Only S w w') (e : ¬ S b ∧ ¬ S hb ∧ ¬ S wb ∧ ¬ S m) : ProfL w' b hb wb m F G L := by
  have hl := p.lts
  obtain ⟨a1, a2, a3, a4, a5, p, r⟩ := p
  exact ⟨a1, a2, a3, a4, a5, p.same4 (fun i hi => by rcases hi with rfl | rfl | rfl | rfl <;> exact h.block _ (by omega) (by simp only [e, not_false_eq_true])), r⟩

theorem two0 (w : World) (A B : Obj) : ((w.alloc A).alloc B).drew.heap[w.heap.size]? = some A := (Below.heap_alloc _ B _ (by simp)).trans (heap_alloc_new w A)
theorem two1 (w : World) (A B : Obj) : ((w.alloc A).alloc B).drew.heap[w.heap.size + 1]? = some B := by
  have := heap_alloc_new (w.alloc A) B
  rw [World.size_alloc] at this
  exact this
theorem goodA_norm {x : Ac} (h : 0 ≤ x.d ∧ x.d ≤ 2) : plA x = goodA 5 5 x := by simp [plA, h.1, h.2]
theorem plA_miss {x : Ac} (h : ¬ (0 ≤ x.d ∧ x.d ≤ 2)) : plA x = false := by unfold plA; rw [decide_eq_false h]; rfl
theorem cntA_snoc (L x) : cntA (L ++ [x]) = cntA L + if x.d < 2 then 1 else 0 := by
  unfold cntA; rw [List.countP_append]; by_cases e2 : x.d < 2 <;> simp [e2]

set_option maxRecDepth 100000 in
set_option maxHeartbeats 4000000 in
theorem adds_near (A : Option Addr) (n c : Nat) (X : Nat → Ac) (w : World) (hA : Acts w A n X) (hn : n ≤ 60) :
    Calls Try.prog 3 #[.slice A n c] w fun e w' => e = .returned (.bool true) ∧ Below w.heap.size w w' := by
  go_enter Try.func3, Try.ntmps3
  go_wp2_with fail
  refine (new55 w).mono ?_
  rintro e w1 ⟨b, hb, wb, m, rfl, P, hB1, g0, g1, g2, g3⟩
  have HP := Lib.hid (ProfL.start P)
  clear P
  go_wp2_with fail
  refine (new55 w1).mono ?_
  rintro e w2 ⟨b', hb', wb', m', rfl, P, hB2, g0', g1', g2', g3'⟩
  have HQ := Lib.hid (ProfL.start P)
  have HP2 := Lib.hid (HP.out.below hB2)
  have hl := HP.out.lts
  have hB3 := below_next hB1 hB1.size hB2
  have hsz := hB2.size
  clear P HP hB2
  go_wp2_with (go_at_call 10; refine (num_any _ _).mono ?_; rintro e w' ⟨rfl, rfl⟩)
  go_loopw [7, 8] (fun c i wr => ∃ j : Nat, j ≤ n ∧ i = .int .i64 j ∧ c = .int .i64 (cntA (tolds (firsts X j))) ∧ Hid (ProfL wr b hb wb m 5 5 (tolds (firsts X j))) ∧ Hid (ProfL wr b' hb' wb' m' 5 5 (tolds (lasts X n j))) ∧ Below w.heap.size w wr) (fun _ i _ => n - (intOf i).toNat)
  case atStart => exact ⟨0, by omega, rfl, rfl, HP2, HQ, hB3⟩
  case round =>
    clear HP2 HQ hB3
    obtain ⟨j, hj, rfl, rfl, HP, HQ, hB⟩ := hrel
    have hs := hB.size
    by_cases hlt : j < n
    · obtain ⟨ba, o, rfl, hba, hc⟩ := hA (by omega)
      have hx := (hc j hlt).block (hB.block ba hba)
      obtain ⟨r, hr⟩ : ∃ r, r = n - 1 - j := ⟨_, rfl⟩
      have hy := (hc r (by omega)).block (hB.block ba hba)
      obtain ⟨c0, c1, c2, c3, c4, c5⟩ := hx
      obtain ⟨d0, d1, d2, d3, d4, d5⟩ := hy
      clear hc
      have e1 : r < n := by omega
      have e2 : r + j + 1 = n := by omega
      have HY := Lib.hid (lasts_succ X n j)
      have HX := Lib.hid (firsts_succ X j)
      rw [← hr] at HY
      clear hr
      go_upto_region 11 with (fail)
      generalize X j = x at *
      generalize X r = y at *
      go_cut [9, 10] from 53 to 64 (fun s9 s10 wx => ∃ q1 q2, s9 = .pointer (some ⟨q1, 0, none⟩) ∧ s10 = .pointer (some ⟨q2, 0, none⟩) ∧ Hid (wx.heap[q1]? = some (acO x)) ∧ Hid (wx.heap[q2]? = some (acO y)) ∧ Below wr.heap.size wr wx ∧ wr.heap.size ≤ q1 ∧ wr.heap.size ≤ q2)
      case first =>
        have i1 : IntKind.i64.wrap ((n : Int) - 1) = (n : Int) - 1 := IntWalk.i64_in _ (by omega)
        have i2 : IntKind.i64.wrap ((n : Int) - 1 - (j : Int)) = (r : Int) := by rw [IntWalk.i64_in _ (by omega)]; omega
        have i3 : (0 : Int) ≤ (r : Int) := by omega
        have i4 : (r : Int) < (n : Int) := by omega
        go_region_held3 (fun w' => w'.cell? ⟨ba, o + j * 6, none⟩ = some (.int .i64 x.d) ∧ w'.cell? ⟨ba, o + j * 6 + 1, none⟩ = some (.int .i64 x.f) ∧ w'.cell? ⟨ba, o + j * 6 + 2, none⟩ = some (.int .i64 x.t) ∧ w'.cell? ⟨ba, o + j * 6 + 3, none⟩ = some (.int .i64 x.a) ∧ w'.cell? ⟨ba, o + j * 6 + 4, none⟩ = some (.int .i64 x.b) ∧ w'.cell? ⟨ba, o + j * 6 + 5, none⟩ = some (.int .u64 x.v) ∧
            w'.cell? ⟨ba, o + r * 6, none⟩ = some (.int .i64 y.d) ∧ w'.cell? ⟨ba, o + r * 6 + 1, none⟩ = some (.int .i64 y.f) ∧ w'.cell? ⟨ba, o + r * 6 + 2, none⟩ = some (.int .i64 y.t) ∧ w'.cell? ⟨ba, o + r * 6 + 3, none⟩ = some (.int .i64 y.a) ∧ w'.cell? ⟨ba, o + r * 6 + 4, none⟩ = some (.int .i64 y.b) ∧ w'.cell? ⟨ba, o + r * 6 + 5, none⟩ = some (.int .u64 y.v))
          (go_keep) (fail)
        all_goals go_wp2_with fail
        all_goals
          go_meet
          refine ⟨_, _, rfl, rfl, ?_, ?_, below_drewN (((Below.refl _ wr).alloc (Nat.le_refl _) _).alloc (by simp) _) 1, by omega, by omega⟩
          · first | exact two0 _ _ _ | exact two1 _ _ _
          · first | exact two0 _ _ _ | exact two1 _ _ _
      case rest =>
        obtain ⟨q1, q2, rfl, rfl, h1, h2, hB1, gq1, gq2⟩ := hcut
        obtain ⟨x0, x1, x2, x3, x4, x5, _⟩ := Row6 h1.out
        obtain ⟨cn, hc0⟩ : ∃ cn, cntA (tolds (firsts X j)) = cn := ⟨_, rfl⟩
        have hcb : cn ≤ 60 := by
          rw [← hc0]
          have := tolds_len (firsts X j)
          rw [firsts_len] at this
          exact Nat.le_trans (List.countP_le_length) (by omega)
        rw [hc0]
        have HC0 := Lib.hid hc0
        clear hc0 c0 c1 c2 c3 c4 c5 d0 d1 d2 d3 d4 d5
        have hlp := HP.out.lts
        have hlq := HQ.out.lts
        have hxl := (Array.getElem?_eq_some_iff.1 h1.out).1
        have hyl := (Array.getElem?_eq_some_iff.1 h2.out).1
        by_cases k0 : 0 ≤ x.d
        · by_cases k1 : x.d ≤ 2
          · by_cases e : plA x = true
            · by_cases e2 : x.d < 2
              · have ht := tell_any x wc (HP.out.below hB1) (by have := tolds_len (firsts X j); rw [firsts_len] at this; omega)
                rw [normA_in (by omega)] at ht
                unfold codeL tellL at ht
                rw [← goodA_norm ⟨k0, k1⟩, e] at ht
                rw [if_pos rfl, if_pos rfl] at ht
                have HLX' : tolds (firsts X (j + 1)) = tolds (firsts X j) ++ [x] := by
                  rw [HX.out, tolds_snoc_hit e]
                have HLX := Lib.hid HLX'
                clear HLX'
                have HCN' : cntA (tolds (firsts X j) ++ [x]) = cn + 1 := by
                  rw [cntA_snoc, HC0.out, if_pos e2]
                have HCN := Lib.hid HCN'
                clear HCN'
                have HT := Lib.hid ht
                have HQx := Lib.hid (HQ.out.below hB1)
                have hBx := below_next hB hs hB1
                have hsx := hB1.size
                clear ht HP HQ hB1 e
                go_upto_region 14 with (first | (go_at_call 10; refine (num_any _ _).mono ?_; rintro e w' ⟨rfl, rfl⟩) | (go_at_call 11; refine HT.out.mono ?_; rintro e w3 ⟨rfl, hp3, o3⟩; have x0' := (World.cell?_of_block (a := ⟨q1, 0, none⟩) (o3.block q1 (by omega) (by rintro (h | h | h) <;> omega))).trans x0; have HP3 := Lib.hid hp3; have hq3 := HQx.out.only o3 ⟨by rintro (h | h | h) <;> omega, by rintro (h | h | h) <;> omega, by rintro (h | h | h) <;> omega, by rintro (h | h | h) <;> omega⟩; have HQ3 := Lib.hid hq3; have H2 : Hid (w3.heap[q2]? = some (acO y)) := (o3.block q2 (by omega) (by rintro (h | h | h) <;> omega)).trans h2.out; have hB3 := two_below hBx o3 hBx.size g1 g2 g3; clear hp3 o3 hq3))
                clear x0 x1 x2 x3 x4 x5 x0' HT HQx
                obtain ⟨y0, y1, y2, y3, y4, y5, _⟩ := Row6 H2.out
                by_cases m0 : 0 ≤ y.d
                · by_cases m1 : y.d ≤ 2
                  · go_wp2_with fail
                    have ht := tell_any y w3 HQ3.out (by have := tolds_len (lasts X n j); rw [lasts_len] at this; omega)
                    rw [normA_in (by omega)] at ht
                    refine ht.mono ?_
                    rintro e w4 ⟨rfl, hq4, o4⟩
                    have hp4 := HP3.out.only o4 ⟨by rintro (h | h | h) <;> omega, by rintro (h | h | h) <;> omega, by rintro (h | h | h) <;> omega, by rintro (h | h | h) <;> omega⟩
                    have hB4 := two_below hB3 o4 hB3.size (by omega) (by omega) (by omega)
                    have HP4 := Lib.hid hp4
                    have HQ4 := Lib.hid hq4
                    have hpl := goodA_norm ⟨m0, m1⟩
                    clear hp4 hq4 o4 HP3 HQ3 y0 y1 y2 y3 y4 y5 hB3
                    have HLY' : tolds (lasts X n (j + 1)) = tellL 5 5 (tolds (lasts X n j)) y := by
                      unfold tellL
                      rw [HY.out, ← hpl]
                      by_cases e : plA y = true
                      · rw [tolds_snoc_hit e, if_pos e]
                      · rw [tolds_snoc_miss (by simpa using e), if_neg e]
                    have HLY := Lib.hid HLY'
                    clear HLY'
                    clear hpl
                    go_wp2_with fail
                    go_roundw
                    case rel => exact ⟨j + 1, by omega, by go_num, by rw [HLX.out, HCN.out] <;> go_num, by rw [HLX.out]; exact HP4, by rw [HLY.out]; exact HQ4, hB4⟩
                    case measure => simp [intOf]; omega
                  · have HLY' : tolds (lasts X n (j + 1)) = tolds (lasts X n j) := by
                      rw [HY.out, tolds_snoc_miss (plA_miss (by omega))]
                    have HLY := Lib.hid HLY'
                    clear HLY'
                    go_wp2_with fail
                    go_roundw
                    case rel => exact ⟨j + 1, by omega, by go_num, by rw [HLX.out, HCN.out] <;> go_num, by rw [HLX.out]; exact HP3, by rw [HLY.out]; exact HQ3, hB3⟩
                    case measure => simp [intOf]; omega
                · have HLY' : tolds (lasts X n (j + 1)) = tolds (lasts X n j) := by
                    rw [HY.out, tolds_snoc_miss (plA_miss (by omega))]
                  have HLY := Lib.hid HLY'
                  clear HLY'
                  go_wp2_with fail
                  go_roundw
                  case rel => exact ⟨j + 1, by omega, by go_num, by rw [HLX.out, HCN.out] <;> go_num, by rw [HLX.out]; exact HP3, by rw [HLY.out]; exact HQ3, hB3⟩
                  case measure => simp [intOf]; omega
              · have ht := tell_any x wc (HP.out.below hB1) (by have := tolds_len (firsts X j); rw [firsts_len] at this; omega)
                rw [normA_in (by omega)] at ht
                unfold codeL tellL at ht
                rw [← goodA_norm ⟨k0, k1⟩, e] at ht
                rw [if_pos rfl, if_pos rfl] at ht
                have HLX' : tolds (firsts X (j + 1)) = tolds (firsts X j) ++ [x] := by
                  rw [HX.out, tolds_snoc_hit e]
                have HLX := Lib.hid HLX'
                clear HLX'
                have HCN' : cntA (tolds (firsts X j) ++ [x]) = cn := by
                  rw [cntA_snoc, HC0.out, if_neg e2, Nat.add_zero]
                have HCN := Lib.hid HCN'
                clear HCN'
                have HT := Lib.hid ht
                have HQx := Lib.hid (HQ.out.below hB1)
                have hBx := below_next hB hs hB1
                have hsx := hB1.size
                clear ht HP HQ hB1 e
                go_upto_region 14 with (first | (go_at_call 10; refine (num_any _ _).mono ?_; rintro e w' ⟨rfl, rfl⟩) | (go_at_call 11; refine HT.out.mono ?_; rintro e w3 ⟨rfl, hp3, o3⟩; have x0' := (World.cell?_of_block (a := ⟨q1, 0, none⟩) (o3.block q1 (by omega) (by rintro (h | h | h) <;> omega))).trans x0; have HP3 := Lib.hid hp3; have hq3 := HQx.out.only o3 ⟨by rintro (h | h | h) <;> omega, by rintro (h | h | h) <;> omega, by rintro (h | h | h) <;> omega, by rintro (h | h | h) <;> omega⟩; have HQ3 := Lib.hid hq3; have H2 : Hid (w3.heap[q2]? = some (acO y)) := (o3.block q2 (by omega) (by rintro (h | h | h) <;> omega)).trans h2.out; have hB3 := two_below hBx o3 hBx.size g1 g2 g3; clear hp3 o3 hq3))
                clear x0 x1 x2 x3 x4 x5 x0' HT HQx
                obtain ⟨y0, y1, y2, y3, y4, y5, _⟩ := Row6 H2.out
                by_cases m0 : 0 ≤ y.d
                · by_cases m1 : y.d ≤ 2
                  · go_wp2_with fail
                    have ht := tell_any y w3 HQ3.out (by have := tolds_len (lasts X n j); rw [lasts_len] at this; omega)
                    rw [normA_in (by omega)] at ht
                    refine ht.mono ?_
                    rintro e w4 ⟨rfl, hq4, o4⟩
                    have hp4 := HP3.out.only o4 ⟨by rintro (h | h | h) <;> omega, by rintro (h | h | h) <;> omega, by rintro (h | h | h) <;> omega, by rintro (h | h | h) <;> omega⟩
                    have hB4 := two_below hB3 o4 hB3.size (by omega) (by omega) (by omega)
                    have HP4 := Lib.hid hp4
                    have HQ4 := Lib.hid hq4
                    have hpl := goodA_norm ⟨m0, m1⟩
                    clear hp4 hq4 o4 HP3 HQ3 y0 y1 y2 y3 y4 y5 hB3
                    have HLY' : tolds (lasts X n (j + 1)) = tellL 5 5 (tolds (lasts X n j)) y := by
                      unfold tellL
                      rw [HY.out, ← hpl]
                      by_cases e : plA y = true
                      · rw [tolds_snoc_hit e, if_pos e]
                      · rw [tolds_snoc_miss (by simpa using e), if_neg e]
                    have HLY := Lib.hid HLY'
                    clear HLY'
                    clear hpl
                    go_wp2_with fail
                    go_roundw
                    case rel => exact ⟨j + 1, by omega, by go_num, by rw [HLX.out, HCN.out] <;> go_num, by rw [HLX.out]; exact HP4, by rw [HLY.out]; exact HQ4, hB4⟩
                    case measure => simp [intOf]; omega
                  · have HLY' : tolds (lasts X n (j + 1)) = tolds (lasts X n j) := by
                      rw [HY.out, tolds_snoc_miss (plA_miss (by omega))]
                    have HLY := Lib.hid HLY'
                    clear HLY'
                    go_wp2_with fail
                    go_roundw
                    case rel => exact ⟨j + 1, by omega, by go_num, by rw [HLX.out, HCN.out] <;> go_num, by rw [HLX.out]; exact HP3, by rw [HLY.out]; exact HQ3, hB3⟩
                    case measure => simp [intOf]; omega
                · have HLY' : tolds (lasts X n (j + 1)) = tolds (lasts X n j) := by
                    rw [HY.out, tolds_snoc_miss (plA_miss (by omega))]
                  have HLY := Lib.hid HLY'
                  clear HLY'
                  go_wp2_with fail
                  go_roundw
                  case rel => exact ⟨j + 1, by omega, by go_num, by rw [HLX.out, HCN.out] <;> go_num, by rw [HLX.out]; exact HP3, by rw [HLY.out]; exact HQ3, hB3⟩
                  case measure => simp [intOf]; omega
            · have e : plA x = false := by simpa using e
              have ht := tell_any x wc (HP.out.below hB1) (by have := tolds_len (firsts X j); rw [firsts_len] at this; omega)
              rw [normA_in (by omega)] at ht
              unfold codeL tellL at ht
              rw [← goodA_norm ⟨k0, k1⟩, e] at ht
              rw [if_neg (by simp), if_neg (by simp)] at ht
              have HLX' : tolds (firsts X (j + 1)) = tolds (firsts X j) := by
                rw [HX.out, tolds_snoc_miss e]
              have HLX := Lib.hid HLX'
              clear HLX'
              have HCN := HC0
              have HT := Lib.hid ht
              have HQx := Lib.hid (HQ.out.below hB1)
              have hBx := below_next hB hs hB1
              have hsx := hB1.size
              clear ht HP HQ hB1 e
              go_upto_region 14 with (first | (go_at_call 10; refine (num_any _ _).mono ?_; rintro e w' ⟨rfl, rfl⟩) | (go_at_call 11; refine HT.out.mono ?_; rintro e w3 ⟨rfl, hp3, o3⟩; have x0' := (World.cell?_of_block (a := ⟨q1, 0, none⟩) (o3.block q1 (by omega) (by rintro (h | h | h) <;> omega))).trans x0; have HP3 := Lib.hid hp3; have hq3 := HQx.out.only o3 ⟨by rintro (h | h | h) <;> omega, by rintro (h | h | h) <;> omega, by rintro (h | h | h) <;> omega, by rintro (h | h | h) <;> omega⟩; have HQ3 := Lib.hid hq3; have H2 : Hid (w3.heap[q2]? = some (acO y)) := (o3.block q2 (by omega) (by rintro (h | h | h) <;> omega)).trans h2.out; have hB3 := two_below hBx o3 hBx.size g1 g2 g3; clear hp3 o3 hq3))
              clear x0 x1 x2 x3 x4 x5 x0' HT HQx
              obtain ⟨y0, y1, y2, y3, y4, y5, _⟩ := Row6 H2.out
              by_cases m0 : 0 ≤ y.d
              · by_cases m1 : y.d ≤ 2
                · go_wp2_with fail
                  have ht := tell_any y w3 HQ3.out (by have := tolds_len (lasts X n j); rw [lasts_len] at this; omega)
                  rw [normA_in (by omega)] at ht
                  refine ht.mono ?_
                  rintro e w4 ⟨rfl, hq4, o4⟩
                  have hp4 := HP3.out.only o4 ⟨by rintro (h | h | h) <;> omega, by rintro (h | h | h) <;> omega, by rintro (h | h | h) <;> omega, by rintro (h | h | h) <;> omega⟩
                  have hB4 := two_below hB3 o4 hB3.size (by omega) (by omega) (by omega)
                  have HP4 := Lib.hid hp4
                  have HQ4 := Lib.hid hq4
                  have hpl := goodA_norm ⟨m0, m1⟩
                  clear hp4 hq4 o4 HP3 HQ3 y0 y1 y2 y3 y4 y5 hB3
                  have HLY' : tolds (lasts X n (j + 1)) = tellL 5 5 (tolds (lasts X n j)) y := by
                    unfold tellL
                    rw [HY.out, ← hpl]
                    by_cases e : plA y = true
                    · rw [tolds_snoc_hit e, if_pos e]
                    · rw [tolds_snoc_miss (by simpa using e), if_neg e]
                  have HLY := Lib.hid HLY'
                  clear HLY'
                  clear hpl
                  go_wp2_with fail
                  go_roundw
                  case rel => exact ⟨j + 1, by omega, by go_num, by rw [HLX.out, HCN.out] <;> go_num, by rw [HLX.out]; exact HP4, by rw [HLY.out]; exact HQ4, hB4⟩
                  case measure => simp [intOf]; omega
                · have HLY' : tolds (lasts X n (j + 1)) = tolds (lasts X n j) := by
                    rw [HY.out, tolds_snoc_miss (plA_miss (by omega))]
                  have HLY := Lib.hid HLY'
                  clear HLY'
                  go_wp2_with fail
                  go_roundw
                  case rel => exact ⟨j + 1, by omega, by go_num, by rw [HLX.out, HCN.out] <;> go_num, by rw [HLX.out]; exact HP3, by rw [HLY.out]; exact HQ3, hB3⟩
                  case measure => simp [intOf]; omega
              · have HLY' : tolds (lasts X n (j + 1)) = tolds (lasts X n j) := by
                  rw [HY.out, tolds_snoc_miss (plA_miss (by omega))]
                have HLY := Lib.hid HLY'
                clear HLY'
                go_wp2_with fail
                go_roundw
                case rel => exact ⟨j + 1, by omega, by go_num, by rw [HLX.out, HCN.out] <;> go_num, by rw [HLX.out]; exact HP3, by rw [HLY.out]; exact HQ3, hB3⟩
                case measure => simp [intOf]; omega
          · have HLX' : tolds (firsts X (j + 1)) = tolds (firsts X j) := by
              rw [HX.out, tolds_snoc_miss (plA_miss (by omega))]
            have HLX := Lib.hid HLX'
            clear HLX'
            have HCN := HC0
            obtain ⟨w3, hw3⟩ : ∃ w3, w3 = wc := ⟨_, rfl⟩
            subst hw3
            have HP3 := Lib.hid (HP.out.below hB1)
            have HQ3 := Lib.hid (HQ.out.below hB1)
            have H2 := h2
            have hB3 := below_next hB hs hB1
            clear HP HQ h1 h2 hB1
            go_upto_region 14 with (fail)
            clear x0 x1 x2 x3 x4 x5
            obtain ⟨y0, y1, y2, y3, y4, y5, _⟩ := Row6 H2.out
            by_cases m0 : 0 ≤ y.d
            · by_cases m1 : y.d ≤ 2
              · go_wp2_with fail
                have ht := tell_any y w3 HQ3.out (by have := tolds_len (lasts X n j); rw [lasts_len] at this; omega)
                rw [normA_in (by omega)] at ht
                refine ht.mono ?_
                rintro e w4 ⟨rfl, hq4, o4⟩
                have hp4 := HP3.out.only o4 ⟨by rintro (h | h | h) <;> omega, by rintro (h | h | h) <;> omega, by rintro (h | h | h) <;> omega, by rintro (h | h | h) <;> omega⟩
                have hB4 := two_below hB3 o4 hB3.size (by omega) (by omega) (by omega)
                have HP4 := Lib.hid hp4
                have HQ4 := Lib.hid hq4
                have hpl := goodA_norm ⟨m0, m1⟩
                clear hp4 hq4 o4 HP3 HQ3 y0 y1 y2 y3 y4 y5 hB3
                have HLY' : tolds (lasts X n (j + 1)) = tellL 5 5 (tolds (lasts X n j)) y := by
                  unfold tellL
                  rw [HY.out, ← hpl]
                  by_cases e : plA y = true
                  · rw [tolds_snoc_hit e, if_pos e]
                  · rw [tolds_snoc_miss (by simpa using e), if_neg e]
                have HLY := Lib.hid HLY'
                clear HLY'
                clear hpl
                go_wp2_with fail
                go_roundw
                case rel => exact ⟨j + 1, by omega, by go_num, by rw [HLX.out, HCN.out] <;> go_num, by rw [HLX.out]; exact HP4, by rw [HLY.out]; exact HQ4, hB4⟩
                case measure => simp [intOf]; omega
              · have HLY' : tolds (lasts X n (j + 1)) = tolds (lasts X n j) := by
                  rw [HY.out, tolds_snoc_miss (plA_miss (by omega))]
                have HLY := Lib.hid HLY'
                clear HLY'
                go_wp2_with fail
                go_roundw
                case rel => exact ⟨j + 1, by omega, by go_num, by rw [HLX.out, HCN.out] <;> go_num, by rw [HLX.out]; exact HP3, by rw [HLY.out]; exact HQ3, hB3⟩
                case measure => simp [intOf]; omega
            · have HLY' : tolds (lasts X n (j + 1)) = tolds (lasts X n j) := by
                rw [HY.out, tolds_snoc_miss (plA_miss (by omega))]
              have HLY := Lib.hid HLY'
              clear HLY'
              go_wp2_with fail
              go_roundw
              case rel => exact ⟨j + 1, by omega, by go_num, by rw [HLX.out, HCN.out] <;> go_num, by rw [HLX.out]; exact HP3, by rw [HLY.out]; exact HQ3, hB3⟩
              case measure => simp [intOf]; omega
        · have HLX' : tolds (firsts X (j + 1)) = tolds (firsts X j) := by
            rw [HX.out, tolds_snoc_miss (plA_miss (by omega))]
          have HLX := Lib.hid HLX'
          clear HLX'
          have HCN := HC0
          obtain ⟨w3, hw3⟩ : ∃ w3, w3 = wc := ⟨_, rfl⟩
          subst hw3
          have HP3 := Lib.hid (HP.out.below hB1)
          have HQ3 := Lib.hid (HQ.out.below hB1)
          have H2 := h2
          have hB3 := below_next hB hs hB1
          clear HP HQ h1 h2 hB1
          go_upto_region 14 with (fail)
          clear x0 x1 x2 x3 x4 x5
          obtain ⟨y0, y1, y2, y3, y4, y5, _⟩ := Row6 H2.out
          by_cases m0 : 0 ≤ y.d
          · by_cases m1 : y.d ≤ 2
            · go_wp2_with fail
              have ht := tell_any y w3 HQ3.out (by have := tolds_len (lasts X n j); rw [lasts_len] at this; omega)
              rw [normA_in (by omega)] at ht
              refine ht.mono ?_
              rintro e w4 ⟨rfl, hq4, o4⟩
              have hp4 := HP3.out.only o4 ⟨by rintro (h | h | h) <;> omega, by rintro (h | h | h) <;> omega, by rintro (h | h | h) <;> omega, by rintro (h | h | h) <;> omega⟩
              have hB4 := two_below hB3 o4 hB3.size (by omega) (by omega) (by omega)
              have HP4 := Lib.hid hp4
              have HQ4 := Lib.hid hq4
              have hpl := goodA_norm ⟨m0, m1⟩
              clear hp4 hq4 o4 HP3 HQ3 y0 y1 y2 y3 y4 y5 hB3
              have HLY' : tolds (lasts X n (j + 1)) = tellL 5 5 (tolds (lasts X n j)) y := by
                unfold tellL
                rw [HY.out, ← hpl]
                by_cases e : plA y = true
                · rw [tolds_snoc_hit e, if_pos e]
                · rw [tolds_snoc_miss (by simpa using e), if_neg e]
              have HLY := Lib.hid HLY'
              clear HLY'
              clear hpl
              go_wp2_with fail
              go_roundw
              case rel => exact ⟨j + 1, by omega, by go_num, by rw [HLX.out, HCN.out] <;> go_num, by rw [HLX.out]; exact HP4, by rw [HLY.out]; exact HQ4, hB4⟩
              case measure => simp [intOf]; omega
            · have HLY' : tolds (lasts X n (j + 1)) = tolds (lasts X n j) := by
                rw [HY.out, tolds_snoc_miss (plA_miss (by omega))]
              have HLY := Lib.hid HLY'
              clear HLY'
              go_wp2_with fail
              go_roundw
              case rel => exact ⟨j + 1, by omega, by go_num, by rw [HLX.out, HCN.out] <;> go_num, by rw [HLX.out]; exact HP3, by rw [HLY.out]; exact HQ3, hB3⟩
              case measure => simp [intOf]; omega
          · have HLY' : tolds (lasts X n (j + 1)) = tolds (lasts X n j) := by
              rw [HY.out, tolds_snoc_miss (plA_miss (by omega))]
            have HLY := Lib.hid HLY'
            clear HLY'
            go_wp2_with fail
            go_roundw
            case rel => exact ⟨j + 1, by omega, by go_num, by rw [HLX.out, HCN.out] <;> go_num, by rw [HLX.out]; exact HP3, by rw [HLY.out]; exact HQ3, hB3⟩
            case measure => simp [intOf]; omega
    · obtain rfl : j = n := by omega
      rw [lasts_all, tolds_rev] at HQ
      obtain ⟨L, hL⟩ : ∃ L, tolds (firsts X j) = L := ⟨_, rfl⟩
      have hlen : L.length ≤ 60 := by
        rw [← hL]
        have := tolds_len (firsts X j)
        rw [firsts_len] at this
        omega
      have hpl : ∀ x ∈ L, plA x = true := fun x hx => by rw [← hL] at hx; exact (List.mem_filter.1 hx).2
      rw [hL] at HP HQ ⊢
      have hsum := sum_all L hpl
      have hcl : cntA L ≤ 60 := Nat.le_trans List.countP_le_length hlen
      have hsb : ∀ g, g ≤ 5 → 0 ≤ sumH L g ∧ sumH L g ≤ 60 * g := by
        intro g
        induction g with
        | zero => intro _; exact ⟨Int.le_refl _, by simp [sumH]⟩
        | succ g ih =>
          intro hg
          have h1 := ih (by omega)
          have h2 := heatL_bd L (g : Int)
          simp only [sumH]
          omega
      have HSB := Lib.hid hsb
      have HPL := Lib.hid hpl
      have HSUM := Lib.hid hsum
      have hA' : Acts wr A j X := hA.below hB (Nat.le_refl _)
      clear hsum hpl hsb hL hA g0 g1 g2 g3 g0' g1' g2' g3' hl hsz hs hlt
      obtain ⟨cn, hcn⟩ : ∃ cn, cntA L = cn := ⟨_, rfl⟩
      rw [hcn] at HSUM hcl ⊢
      clear hcn
      go_wp2_with fail
      go_loop [7, 11] (fun c i => ∃ g : Nat, g ≤ 5 ∧ i = .int .i64 g ∧ c = .int .i64 ((cn : Int) - sumH L g)) (fun _ i => 5 - (intOf i).toNat)
      case atStart => exact ⟨0, by omega, rfl, by simp [sumH]⟩
      case round =>
        obtain ⟨g, hg, rfl, rfl⟩ := hrel
        have hsb := HSB.out g hg
        by_cases hlt : g < 5
        · have hsb2 := HSB.out (g + 1) (by omega)
          have hS : sumH L (g + 1) = sumH L g + heatL L g := rfl
          have hp := heat_L (g : Int) wr HP.out
          have hq := heat_L (g : Int) wr HQ.out
          rw [heatV_in hlt, errV_in (show 0 ≤ (g : Int) ∧ (g : Int) < (5 : Nat) from ⟨by omega, by omega⟩)] at hp hq
          rw [heat_rev L _ HPL.out] at hq
          have hhb := heatL_bd L (g : Int)
          rw [hS] at hsb2
          have HS := Lib.hid hS
          have HHP := Lib.hid hp
          have HHQ := Lib.hid hq
          clear hp hq hS
          generalize heatL L (g : Int) = hx at *
          generalize sumH L g = sg at *
          go_wp2_with fail
          refine HHP.out.mono ?_
          rintro e w' ⟨rfl, rfl⟩
          go_wp2_with fail
          refine HHQ.out.mono ?_
          rintro e w' ⟨rfl, rfl⟩
          clear HHP HHQ
          go_wp2_with fail
          go_loop [16] (fun i => ∃ k : Nat, k ≤ j ∧ i = .int .i64 k) (fun i => j - (intOf i).toNat)
          case atStart => exact ⟨0, by omega, rfl⟩
          case round =>
            obtain ⟨k, hk, rfl⟩ := hrel
            by_cases hlt2 : k < j
            · obtain ⟨ba, o, rfl, hba, hc⟩ := hA' (by omega)
              have c2 := (hc k hlt2).c2
              generalize (X k).t = t at *
              have hp := kinds_L (g : Int) t wr HP.out
              have hq := kinds_L (g : Int) t wr HQ.out
              have hke : kindV 5 L.reverse (g : Int) t = kindV 5 L (g : Int) t := by unfold kindV; rw [kinds_rev]
              rw [hke] at hq
              generalize kindV 5 L (g : Int) t = kv at *
              generalize errV (0 ≤ (g : Int) ∧ (g : Int) < ((5 : Nat) : Int) ∧ 0 ≤ t ∧ t < 65536) = ev at *
              have HKP := Lib.hid hp
              have HKQ := Lib.hid hq
              clear hp hq hke hc
              go_wp2_with fail
              refine HKP.out.mono ?_
              rintro e w' ⟨rfl, rfl⟩
              go_wp2_with fail
              refine HKQ.out.mono ?_
              rintro e w' ⟨rfl, rfl⟩
              go_wp2_with fail
              go_round
              case rel => exact ⟨k + 1, by omega, by go_num⟩
              case measure => simp [intOf]; omega
            · go_wp2_with fail
              go_round
              case rel => exact ⟨g + 1, by omega, by go_num, by rw [HS.out]; go_num⟩
              case measure => simp [intOf]; omega
        · obtain rfl : g = 5 := by omega
          rw [HSUM.out, Int.sub_self]
          clear hsb HSUM HSB
          go_wp2_with fail
          refine (hot_L 0 wr HP.out).mono ?_
          rintro e w3 ⟨v, l, rfl, hl, hown, hB3⟩
          obtain ⟨A1, c1, rfl⟩ := own_slice hown
          have hll := hl.len
          have hR := own_nats hown (by omega)
          have hbase := fun b' o' e => (own_base (b := b') (o := o') hown e).2
          have HQ3 := Lib.hid (HQ.out.below hB3)
          have hB4 := below_next hB hB.size hB3
          clear hown hB3 HP HQ
          go_wp2_with fail
          refine (hot_L 0 w3 HQ3.out).mono ?_
          rintro e w4 ⟨v, l', rfl, hl', hown, hB5⟩
          obtain rfl : l = l' := hl.uniq (hl'.congr (fun f _ => heat_rev L _ HPL.out))
          obtain ⟨A2, c2, rfl⟩ := own_slice hown
          have hR2 := own_nats hown (by omega)
          have hR1 := hR.block (fun b' o' e => hB5.block b' (hbase b' o' e))
          have hs := same_any A1 A2 l.length l.length c1 c2 _ _ w4 hR1 hR2
          rw [sameB_true (fun _ _ => rfl)] at hs
          have HSM := Lib.hid hs
          have HB6 := Lib.hid (below_next hB4 hB4.size hB5)
          clear hs hR1 hR2 hR hbase hown hB5 hB4 hl hl'
          go_wp2_with fail
          refine HSM.out.mono ?_
          rintro e w5 ⟨rfl, q, rfl⟩
          have HB7 := Lib.hid (below_drewN HB6.out q)
          go_wp2_with fail
          refine (live_any _).mono ?_
          rintro e w6 ⟨rfl, hB8⟩
          go_wp2_with fail
          go_ret
          exact ⟨rfl, below_next HB7.out HB7.out.size hB8⟩

set_option maxRecDepth 20000 in
theorem adds_far (A : Option Addr) (n c : Nat) (w : World) (h : 60 < n) (hn : n ≤ 9223372036854775807) :
    Calls Try.prog 3 #[.slice A n c] w fun e w' => e = .returned (.bool true) ∧ Below w.heap.size w w' := by
  go_enter Try.func3, Try.ntmps3
  go_wp2_with fail
  refine (live_any _).mono ?_
  rintro e w5 ⟨rfl, hB5⟩
  go_wp2_with fail
  go_ret
  exact ⟨rfl, hB5⟩
theorem adds_all (A : Option Addr) (n c : Nat) (w : World) (h : IsActs w A n c) :
    Calls Try.prog 3 #[.slice A n c] w fun e w' => e = .returned (.bool true) ∧ Below w.heap.size w w' := by
  obtain ⟨hn, X, hA⟩ := acts_in h
  by_cases h : 60 < n
  · exact adds_far A n c w h hn
  · exact adds_near A n c X w hA (by omega)
end Go.Proofs.Ytmcejkimpjfmmaa
