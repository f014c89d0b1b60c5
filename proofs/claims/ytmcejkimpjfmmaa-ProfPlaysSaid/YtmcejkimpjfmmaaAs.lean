/- The walk of 'asks'. -/
import Derived.Test.YtmcejkimpjfmmaaRo
import Derived.Deep.RegionHeld3
import Derived.Deep.Cut
import Derived.Deep.CutRange
import Derived.Deep.CutBlock
set_option linter.unusedVariables false
set_option linter.unusedSimpArgs false
namespace Go.Proofs.Ytmcejkimpjfmmaa
open Go.RowKit Go.Lib Go.Maps
attribute [local go_sem ↓] Go.wp_at_zero Go.wp_at_succ

theorem errV_b (c : Prop) [Decidable c] (b : Bool) (h : decide c = b) : errV c = if b = true then 0 else 1 := by
  subst h; unfold errV; simp
theorem heatV_b {F : Nat} {L : List Ac} {f : Int} (b : Bool) (h : decide (0 ≤ f ∧ f < F) = b) : heatV F L f = if b = true then heatL L f else 0 := by
  subst h; unfold heatV; simp
theorem kindV_b {F : Nat} {L : List Ac} {f t : Int} (b : Bool) (h : decide (0 ≤ f ∧ f < F ∧ 0 ≤ t ∧ t < 65536) = b) : kindV F L f t = if b = true then (kindsL L f t : Int) else 0 := by
  subst h; unfold kindV; simp
theorem wrV_b {G : Nat} {L : List Ac} {g : Int} (b : Bool) (h : decide (0 ≤ g ∧ g < G) = b) : (wrV G L g).1 = (if b = true then (wrL L g).1 else 0) ∧ (wrV G L g).2 = (if b = true then (wrL L g).2 else 0) := by
  subst h; unfold wrV; by_cases e : 0 ≤ g ∧ g < G <;> simp [e]
theorem two_at0 (w : World) (A B : Obj) : ((w.alloc A).alloc B).heap[w.heap.size]? = some A := (Below.heap_alloc _ B _ (by simp)).trans (heap_alloc_new w A)
theorem two_at1 (w : World) (A B : Obj) : ((w.alloc A).alloc B).heap[w.heap.size + 1]? = some B := by
  have := heap_alloc_new (w.alloc A) B
  rw [World.size_alloc] at this
  exact this

set_option maxRecDepth 100000 in
set_option maxHeartbeats 4000000 in
theorem asks_any (x : Ac) (A : Option Addr) (n c : Nat) (w : World) (B : Nat) {b hb wb m F G L} (p : ProfL w b hb wb m F G L) (h : RA w B A n L) (hn : n ≤ 100) (hF : F ≤ 1024) (hG : G ≤ 1024) (hgl : GoodL F G L) :
    Calls Try.prog 22 #[.pointer (some ⟨b, 0, none⟩), rp F G A n c, acV x] w fun e w' => e = .returned (.bool true) ∧ Below w.heap.size w w' := by
  have hB : Below w.heap.size w ((w.alloc (.cells #[.int .i64 F, .int .i64 G, .slice A n c] 43)).alloc (acO x)) := ((Below.refl _ w).alloc (Nat.le_refl _) _).alloc (by simp) _
  have hq := two_at0 w (.cells #[.int .i64 F, .int .i64 G, .slice A n c] 43) (acO x)
  have ha := two_at1 w (.cells #[.int .i64 F, .int .i64 G, .slice A n c] 43) (acO x)
  have HP := Lib.hid (p.below hB)
  have HL := Lib.hid (h.below hB)
  have HB := Lib.hid hB
  have HQ := Lib.hid hq
  have HA := Lib.hid ha
  have HGL := Lib.hid hgl
  clear p h hB hq ha hgl
  go_enter Try.func22, Try.ntmps22
  go_upto_region 1 with (fail)
  generalize (w.alloc (.cells #[.int .i64 F, .int .i64 G, .slice A n c] 43)).alloc (acO x) = w1 at *
  obtain ⟨cc0, cc1, cc2, fr, ltq⟩ := blk3 HQ.out
  obtain ⟨x0, x1, x2, x3, x4, x5, _⟩ := Row6 HA.out
  have ltA := (Array.getElem?_eq_some_iff.1 HA.out).1
  clear fr
  obtain ⟨fn, hfn⟩ : ∃ fn, decide (0 ≤ x.f ∧ x.f < F) = fn := ⟨_, rfl⟩
  obtain ⟨sp, hsp⟩ : ∃ sp, decide (0 ≤ x.f ∧ x.f < F ∧ 0 ≤ x.t ∧ x.t < 65536) = sp := ⟨_, rfl⟩
  obtain ⟨gl, hgl⟩ : ∃ gl, decide (0 ≤ x.f ∧ x.f < G) = gl := ⟨_, rfl⟩
  have hheat := heat_L x.f w1 HP.out
  rw [heatV_b fn hfn, errV_b _ fn hfn] at hheat
  have hkind := kinds_L x.f x.t w1 HP.out
  rw [kindV_b sp hsp, errV_b _ sp hsp] at hkind
  have hwr := writes_L x.f w1 HP.out
  rw [(wrV_b gl hgl).1, (wrV_b gl hgl).2, errV_b _ gl hgl] at hwr
  obtain ⟨vh, hvh⟩ : ∃ v, (if fn = true then heatL L x.f else 0) = v := ⟨_, rfl⟩
  obtain ⟨eh, heh⟩ : ∃ v : Int, (if fn = true then (0 : Int) else 1) = v := ⟨_, rfl⟩
  obtain ⟨vk, hvk⟩ : ∃ v : Int, (if sp = true then (kindsL L x.f x.t : Int) else 0) = v := ⟨_, rfl⟩
  obtain ⟨ek, hek⟩ : ∃ v : Int, (if sp = true then (0 : Int) else 1) = v := ⟨_, rfl⟩
  obtain ⟨v1, hv1⟩ : ∃ v : Int, (if gl = true then (wrL L x.f).1 else 0) = v := ⟨_, rfl⟩
  obtain ⟨v2, hv2⟩ : ∃ v : Int, (if gl = true then (wrL L x.f).2 else 0) = v := ⟨_, rfl⟩
  obtain ⟨eg, heg⟩ : ∃ v : Int, (if gl = true then (0 : Int) else 1) = v := ⟨_, rfl⟩
  rw [hvh, heh] at hheat
  rw [hvk, hek] at hkind
  rw [hv1, hv2, heg] at hwr
  have HVH := Lib.hid hvh
  have HEH := Lib.hid heh
  have HVK := Lib.hid hvk
  have HEK := Lib.hid hek
  have HV1 := Lib.hid hv1
  have HV2 := Lib.hid hv2
  have HEG := Lib.hid heg
  have HH := Lib.hid hheat
  have HK := Lib.hid hkind
  have HW := Lib.hid hwr
  have HFN := Lib.hid hfn
  have HSP := Lib.hid hsp
  have HGLO := Lib.hid hgl
  clear hheat hkind hwr hfn hsp hgl hvh heh hvk hek hv1 hv2 heg
  go_upto_region 4 with (first | (go_at_call 12; refine HH.out.mono ?_; rintro e w' ⟨rfl, rfl⟩) | (go_at_call 13; refine HK.out.mono ?_; rintro e w' ⟨rfl, rfl⟩) | (go_at_call 23; refine HW.out.mono ?_; rintro e w' ⟨rfl, n1, rfl⟩))
  have HP2 := Lib.hid (HP.out.drewN n1)
  have HL2 := Lib.hid (HL.out.drewN n1)
  have HB2 := Lib.hid (below_drewN HB.out n1)
  have HQ2 : Hid ((w1.drewN n1).heap[w.heap.size]? = some (.cells #[.int .i64 F, .int .i64 G, .slice A n c] 43 (0, 0))) := HQ
  have HA2 : Hid ((w1.drewN n1).heap[w.heap.size + 1]? = some (acO x)) := HA
  clear HP HL HB HQ HA HH HK HW cc0 cc1 cc2 x0 x1 x2 x3 x4 x5 ltq ltA
  generalize w1.drewN n1 = w2 at *
  obtain ⟨cc0, cc1, cc2, fr, ltq⟩ := blk3 HQ2.out
  obtain ⟨x0, x1, x2, x3, x4, x5, _⟩ := Row6 HA2.out
  have ltA := (Array.getElem?_eq_some_iff.1 HA2.out).1
  clear fr
  go_cut [14] from 43 to 52 (fun s wx => s = .bool fn ∧ wx = w2)
  case first =>
    have hfn := HFN.out
    by_cases h0 : 0 ≤ x.f
    · by_cases h1 : x.f < (F : Int)
      · go_wp2_with fail
        go_meet
        exact ⟨by rw [← hfn]; simp [h0, h1], rfl⟩
      · go_wp2_with fail
        go_meet
        exact ⟨by rw [← hfn]; simp [h0, h1], rfl⟩
    · go_wp2_with fail
      go_meet
      exact ⟨by rw [← hfn]; simp; omega, rfl⟩
  case rest =>
    obtain ⟨rfl, hw⟩ := hcut
    have hw := hw.symm
    subst hw
    go_upto_region 5 with (fail)
    go_cut [15] from 53 to 63 (fun s wx => s = .bool sp ∧ wx = w2)
    case first =>
      have hsp := HSP.out
      cases fn with
      | false =>
        have hfn : ¬ (0 ≤ x.f ∧ x.f < (F : Int)) := by simpa using HFN.out
        have hs : sp = false := by rw [← hsp]; simp; omega
        clear hsp hfn
        go_wp2_with fail
        go_meet
        exact ⟨by rw [hs], rfl⟩
      | true =>
        have hfn : 0 ≤ x.f ∧ x.f < (F : Int) := by simpa using HFN.out
        by_cases h0 : 0 ≤ x.t
        · by_cases h1 : x.t < 65536
          · have hs := Lib.hid (show sp = true by rw [← hsp]; simp; omega)
            clear hsp
            go_wp2_with fail
            go_meet
            exact ⟨by first | (rw [hs.out]; done) | (rw [hs.out]; simp; done) | (rw [hs.out]; simp; omega), rfl⟩
          · have hs := Lib.hid (show sp = false by rw [← hsp]; simp; omega)
            clear hsp
            go_wp2_with fail
            go_meet
            exact ⟨by first | (rw [hs.out]; done) | (rw [hs.out]; simp; done) | (rw [hs.out]; simp; omega), rfl⟩
        · have hs := Lib.hid (show sp = false by rw [← hsp]; simp; omega)
          clear hsp
          go_wp2_with fail
          go_meet
          exact ⟨by first | (rw [hs.out]; done) | (rw [hs.out]; simp; done) | (rw [hs.out]; simp; omega), rfl⟩
    case rest =>
      obtain ⟨rfl, hw⟩ := hcut
      have hw := hw.symm
      subst hw
      go_upto_region 6 with (fail)
      go_cut [16] from 64 to 73 (fun s wx => s = .bool gl ∧ wx = w2)
      case first =>
        have hfn := HGLO.out
        by_cases h0 : 0 ≤ x.f
        · by_cases h1 : x.f < (G : Int)
          · go_wp2_with fail
            go_meet
            exact ⟨by rw [← hfn]; simp [h0, h1], rfl⟩
          · go_wp2_with fail
            go_meet
            exact ⟨by rw [← hfn]; simp [h0, h1], rfl⟩
        · go_wp2_with fail
          go_meet
          exact ⟨by rw [← hfn]; simp; omega, rfl⟩
      case rest =>
        obtain ⟨rfl, hw⟩ := hcut
        have hw := hw.symm
        subst hw
        go_upto_region 7 with (fail)
        go_cut [92] from 74 to 92 (fun s wx => s = .bool false ∧ wx = w2)
        case first =>
          have heh := HEH.out
          have hek := HEK.out
          have heg := HEG.out
          cases fn <;> cases sp <;> cases gl <;>
          · simp only [Bool.false_eq_true, if_false, if_true] at heh hek heg
            subst heh
            subst hek
            subst heg
            go_wp2_with (go_at_call 10; refine (num_any _ _).mono ?_; rintro e w' ⟨rfl, rfl⟩)
            go_meet
            exact ⟨rfl, rfl⟩
        case rest =>
          obtain ⟨rfl, hw⟩ := hcut
          have hw := hw.symm
          subst hw
          go_upto_region 9 with (fail)
          go_cut [130] from 93 to 130 (fun s wx => s = .bool false ∧ Hid (Below w2.heap.size w2 wx))
          case first =>
            have hvh := HVH.out
            have hvk := HVK.out
            have b0 := Below.refl w2.heap.size w2
            have RH := Lib.hid (fun (w' : World) (hB' : Below w2.heap.size w2 w') => rheat_any x.f F G A n c L w' B (HL2.out.below hB') (by omega))
            have RK := Lib.hid (fun (w' : World) (hB' : Below w2.heap.size w2 w') => rkinds_any x.f x.t F G A n c L w' B (HL2.out.below hB') (by omega) HGL.out)
            cases fn <;> cases sp
            · simp only [Bool.false_eq_true, if_false, if_true] at hvh hvk
              subst hvh
              subst hvk
              go_wp2_with fail
              go_meet
              exact ⟨rfl, b0⟩
            · exfalso
              have h1 := HFN.out
              have h2 := HSP.out
              simp at h1 h2
              omega
            · simp only [Bool.false_eq_true, if_false, if_true] at hvh hvk
              have HVH' := Lib.hid hvh
              subst hvk
              clear hvh
              go_wp2_with (go_at_call 33; refine (RH.out _ b0).mono ?_; rintro e w3 ⟨rfl, hB3⟩; rw [HVH'.out]; have HB3 := Lib.hid hB3; clear hB3)
              go_meet
              exact ⟨by simp, HB3⟩
            · simp only [Bool.false_eq_true, if_false, if_true] at hvh hvk
              have HVH' := Lib.hid hvh
              have HVK' := Lib.hid hvk
              clear hvh hvk
              go_wp2_with (go_at_call 33; refine (RH.out _ b0).mono ?_; rintro e w3 ⟨rfl, hB3⟩; rw [HVH'.out]; have HB3 := Lib.hid hB3; have cc0' := (hB3.cell (p := ⟨w.heap.size, 0, none⟩) ltq).trans cc0; have cc1' := (hB3.cell (p := ⟨w.heap.size, 1, none⟩) ltq).trans cc1; have cc2' := (hB3.cell (p := ⟨w.heap.size, 2, none⟩) ltq).trans cc2; have x1' := (hB3.cell (p := ⟨w.heap.size + 1, 1, none⟩) ltA).trans x1; have x2' := (hB3.cell (p := ⟨w.heap.size + 1, 2, none⟩) ltA).trans x2; clear hB3)
              refine (RK.out _ HB3.out).mono ?_
              rintro e w4 ⟨rfl, hB4⟩
              rw [HVK'.out]
              have HB4 := Lib.hid (below_next HB3.out HB3.out.size hB4)
              clear hB4
              go_wp2_with fail
              go_meet
              exact ⟨by simp, HB4⟩
          case rest =>
            obtain ⟨rfl, HB3⟩ := hcut
            have HP3 := Lib.hid (HP2.out.below HB3.out)
            have HL3 := Lib.hid (HL2.out.below HB3.out)
            have HBn := Lib.hid (below_next HB2.out HB2.out.size HB3.out)
            have HQ3 := Lib.hid ((HB3.out.block _ ltq).trans HQ2.out)
            have HA3 := Lib.hid ((HB3.out.block _ ltA).trans HA2.out)
            clear cc0 cc1 cc2 x0 x1 x2 x3 x4 x5 ltq ltA HP2 HL2 HB2 HQ2 HA2 HB3
            obtain ⟨cc0, cc1, cc2, fr, ltq⟩ := blk3 HQ3.out
            obtain ⟨x0, x1, x2, x3, x4, x5, _⟩ := Row6 HA3.out
            have ltA := (Array.getElem?_eq_some_iff.1 HA3.out).1
            clear fr
            go_upto_region 12 with (go_at_call 34; refine (rwrites_any x.f F G A n c L _ B HL3.out (by omega)).mono ?_; rintro e w4 ⟨rfl, hB4⟩; have HB4 := Lib.hid hB4; clear hB4)
            have HP4 := Lib.hid (HP3.out.below HB4.out)
            have HL4 := Lib.hid (HL3.out.below HB4.out)
            have HBm := Lib.hid (below_next HBn.out HBn.out.size HB4.out)
            have HQ4 := Lib.hid ((HB4.out.block _ ltq).trans HQ3.out)
            have HA4 := Lib.hid ((HB4.out.block _ ltA).trans HA3.out)
            clear cc0 cc1 cc2 x0 x1 x2 x3 x4 x5 ltq ltA HP3 HL3 HBn HQ3 HA3 HB4
            go_cut [160] from 138 to 160 (fun s wx => s = .bool false ∧ wx = w4)
            case first =>
              have hv1 := HV1.out
              have hv2 := HV2.out
              cases gl
              · simp only [Bool.false_eq_true, if_false, if_true] at hv1 hv2
                subst hv1
                subst hv2
                go_wp2_with fail
                go_meet
                exact ⟨rfl, rfl⟩
              · simp only [Bool.false_eq_true, if_false, if_true] at hv1 hv2
                subst hv1
                subst hv2
                go_wp2_with fail
                go_meet
                exact ⟨by simp, rfl⟩
            case rest =>
              obtain ⟨rfl, hw⟩ := hcut
              have hw := hw.symm
              subst hw
              obtain ⟨cc0, cc1, cc2, fr, ltq⟩ := blk3 HQ4.out
              obtain ⟨_, _, _, x3, _, _, _⟩ := Row6 HA4.out
              have ltA := (Array.getElem?_eq_some_iff.1 HA4.out).1
              clear fr
              go_upto_region 14 with (fail)
              go_region_held3 (fun w' => w'.cell? ⟨w.heap.size, 0, none⟩ = some (.int .i64 F) ∧ w'.cell? ⟨w.heap.size, 1, none⟩ = some (.int .i64 G) ∧ w'.cell? ⟨w.heap.size, 2, none⟩ = some (.slice A n c) ∧ w'.cell? ⟨w.heap.size + 1, 3, none⟩ = some (.int .i64 x.a))
                (first | go_keep | exact ⟨cc0, cc1, cc2, x3⟩ | exact ⟨y0, y1, y2, y3⟩ | exact ⟨z0, z1, z2, z3⟩)
                (first
                  | ((go_at_call 15
                      refine (hot_L x.a _ (by first | exact HP4.out | exact HP4.out.drewN _ | exact HP4.out.drewN 1)).mono ?_
                      rintro e w5 ⟨v, l, rfl, hl, hown, hB5⟩
                      have b5 : Below w4.heap.size w4 w5 := ⟨hB5.os, hB5.tape, hB5.output, hB5.size, hB5.block⟩
                      obtain ⟨A5, c5, rfl⟩ := own_slice hown
                      have hll := hl.len
                      have hR5 := own_nats hown (by omega)
                      have hlt5 := fun b' o' e => (own_base (b := b') (o := o') hown e).2
                      have y0 := (b5.cell (p := ⟨w.heap.size, 0, none⟩) ltq).trans cc0
                      have y1 := (b5.cell (p := ⟨w.heap.size, 1, none⟩) ltq).trans cc1
                      have y2 := (b5.cell (p := ⟨w.heap.size, 2, none⟩) ltq).trans cc2
                      have y3 := (b5.cell (p := ⟨w.heap.size + 1, 3, none⟩) ltA).trans x3
                      have HHl := Lib.hid hl
                      have HR5 := Lib.hid hR5
                      have HLT5 := Lib.hid hlt5
                      have HB5 := Lib.hid b5
                      clear hl hown hB5 b5 hR5 hlt5))
                  | ((go_at_call 19
                      refine (rhot_any x.a F G A n c L _ B (HL4.out.below HB5.out) (by omega) hF).mono ?_
                      rintro e w6 ⟨v, l', rfl, hl', hown, hB6⟩
                      obtain rfl : l = l' := HHl.out.uniq hl'
                      obtain ⟨A6, c6, rfl⟩ := own_slice hown
                      have hR6 := own_nats hown (by omega)
                      have hR56 := HR5.out.block (fun b' o' e => hB6.block b' (HLT5.out b' o' e))
                      have b6 := below_next HB5.out HB5.out.size hB6
                      have hs := same_any A5 A6 l.length l.length c5 c6 _ _ w6 hR56 hR6
                      rw [sameB_true (fun _ _ => rfl)] at hs
                      have z0 := (b6.cell (p := ⟨w.heap.size, 0, none⟩) ltq).trans cc0
                      have z1 := (b6.cell (p := ⟨w.heap.size, 1, none⟩) ltq).trans cc1
                      have z2 := (b6.cell (p := ⟨w.heap.size, 2, none⟩) ltq).trans cc2
                      have z3 := (b6.cell (p := ⟨w.heap.size + 1, 3, none⟩) ltA).trans x3
                      have HSM := Lib.hid hs
                      have HB6 := Lib.hid b6
                      clear hl' hown hB6 b6 hR6 hR56 hs y0 y1 y2 y3))
                  | ((go_at_call 14
                      refine HSM.out.mono ?_
                      rintro e w7 ⟨rfl, q7, rfl⟩))
                  | ((go_at_call 18
                      refine (stable_L _ (HP4.out.below (below_drewN HB6.out q7))).mono ?_
                      rintro e w8 ⟨v, rfl, hown, hB8⟩
                      obtain ⟨A8, c8, rfl⟩ := own_slice hown
                      have b8 := below_next (below_drewN HB6.out q7) HB6.out.size hB8
                      have hR8 := RV.own hown
                      have HR8 := Lib.hid hR8
                      have HB8 := Lib.hid b8
                      have y0 := (b8.cell (p := ⟨w.heap.size, 0, none⟩) ltq).trans cc0
                      have y1 := (b8.cell (p := ⟨w.heap.size, 1, none⟩) ltq).trans cc1
                      have y2 := (b8.cell (p := ⟨w.heap.size, 2, none⟩) ltq).trans cc2
                      have y3 := (b8.cell (p := ⟨w.heap.size + 1, 3, none⟩) ltA).trans x3
                      clear hown hB8 b8 hR8))
                  | ((go_at_call 21
                      refine (rstable_any F G A n c L _ B (HL4.out.below HB8.out) (by omega) hG).mono ?_
                      rintro e w9 ⟨v, rfl, hown, hB9⟩
                      obtain ⟨A9, c9, rfl⟩ := own_slice hown
                      have b9 := below_next HB8.out HB8.out.size hB9
                      have hR9 := RV.own hown
                      have hR89 := HR8.out.below hB9
                      have hsd := samedeps_any A8 A9 _ c8 c9 _ w9 _ _ hR89 hR9 rfl (Nat.le_trans (stabL_len _ _ _) (by omega))
                      have HSD := Lib.hid hsd
                      have HB9 := Lib.hid b9
                      have z0 := (b9.cell (p := ⟨w.heap.size, 0, none⟩) ltq).trans cc0
                      have z1 := (b9.cell (p := ⟨w.heap.size, 1, none⟩) ltq).trans cc1
                      have z2 := (b9.cell (p := ⟨w.heap.size, 2, none⟩) ltq).trans cc2
                      have z3 := (b9.cell (p := ⟨w.heap.size + 1, 3, none⟩) ltA).trans x3
                      clear hown hB9 b9 hR9 hR89 hsd))
                  | ((go_at_call 20
                      refine HSD.out.mono ?_
                      rintro e w10 ⟨rfl, q10, rfl⟩)))
              go_wp2_with fail
              go_ret
              exact ⟨rfl, below_drewN (below_next HBm.out HBm.out.size HB9.out) q10⟩
end Go.Proofs.Ytmcejkimpjfmmaa
