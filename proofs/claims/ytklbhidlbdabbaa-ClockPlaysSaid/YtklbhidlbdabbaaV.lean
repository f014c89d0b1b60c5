/- The reference's Sleepers, walked. -/
import Derived.Test.YtklbhidlbdabbaaU
import Derived.StillTailTactics
set_option linter.unusedVariables false
set_option linter.unusedSimpArgs false
namespace Go.Proofs.Ytklbhidlbdabbaa
open Go.RowKit Go.Lib Go.Maps Go.Sort

/-- The state between two picks. -/
structure SelW (w : World) (q B : Nat) (now : Int) (f : Int → Option Int) (N : Nat) (v : Value) (wr : World) (os : List Int) (A : Option Addr) (n c : Nat) (A' : Option Addr) (c' : Nat) (ps : List (Int × Int)) (f1 : Int → Option Int) : Prop where
  blk : wr.heap[q]? = some (.cells #[.int .i64 now, .slice A n c, .slice A' n c'] 39 (0, 0))
  rc : RC wr B A n c A' c' ps
  rep : Rep f1 ps
  own : wr.ownsRow w.heap.size 3 1 v os.length (os.map (Value.int .i64))
  ne : v.ownBlock ≠ some q
  ap : ∀ b o, (A = some ⟨b, o, none⟩ ∨ A' = some ⟨b, o, none⟩) → v.ownBlock ≠ some b
  bel : Below w.heap.size w wr
  sel : Sel f now os f1
  fit : os.length + n ≤ N

theorem SelW.drewN {w q B now f N v wr os A n c A' c' ps f1} (h : SelW w q B now f N v wr os A n c A' c' ps f1) (m : Nat) : SelW w q B now f N v (wr.drewN m) os A n c A' c' ps f1 :=
  ⟨h.blk, ⟨h.rc.ts, h.rc.us, h.rc.cap, h.rc.cap'⟩, h.rep, h.own, h.ne, h.ap, below_drewN h.bel m, h.sel, h.fit⟩
theorem SelW.keep3 {w q B now f N v wx os A n c A' c' ps f1 w3 o} (h : SelW w q B now f N v wx os A n c A' c' ps f1) (hg1 : (wx.alloc o).grownBy w3 v.ownBlock) (hw : w.heap.size ≤ q) :
    w3.heap[q]? = some (.cells #[.int .i64 now, .slice A n c, .slice A' n c'] 39 (0, 0)) ∧ RC w3 B A n c A' c' ps ∧ Below w.heap.size w w3 := by
  have hlt := (Array.getElem?_eq_some_iff.1 h.blk).1
  refine ⟨(hg1.block q (by simp; omega) (fun e => h.ne e.symm)).trans ((Below.heap_alloc wx _ q hlt).trans h.blk), ⟨?_, ?_, h.rc.cap, h.rc.cap'⟩, ?_⟩
  · exact (h.rc.ts.below (below_alloc o)).grown hg1 fun k b1 o1 hk hA e => h.ap b1 o1 (.inl hA) (by rw [hk, e])
  · exact (h.rc.us.below (below_alloc o)).grown hg1 fun k b1 o1 hk hA e => h.ap b1 o1 (.inr hA) (by rw [hk, e])
  · exact app_below (h.bel.alloc h.bel.size o) (by have := h.bel.size; simp; omega) (h.own.alloc o) hg1
theorem SelW.next {w q B now f N v wx os A n c A' c' ps f1 w3 w4 t v1 A1 n' c1 A1' c1' ps1 o} (h : SelW w q B now f N v wx os A n c A' c' ps f1) (hsel : Sel f now (os ++ [t]) (upd f1 t none))
    (hown1 : w3.ownsRow w.heap.size 3 1 v1 (os.length + 1) ((os ++ [t]).map (Value.int .i64))) (hg1 : (wx.alloc o).grownBy w3 v.ownBlock) (hat1 : v1.ownBlock = v.ownBlock ∨ v1.ownBlock = some (wx.alloc o).heap.size)
    (hrc : RC w4 B A1 n' c1 A1' c1' ps1) (hrep : Rep (upd f1 t none) ps1) (hn' : n' + 1 = n) (hbase : ∀ b o, (A1 = some ⟨b, o, none⟩ ∨ A1' = some ⟨b, o, none⟩) → w3.heap.size ≤ b) (hB4 : Below w3.heap.size w3 w4) (hw : w.heap.size ≤ q) :
    SelW w q B now f N v1 (((w4.setCell ⟨q, 0, none⟩ (.int .i64 now)).setCell ⟨q, 1, none⟩ (.slice A1 n' c1)).setCell ⟨q, 2, none⟩ (.slice A1' n' c1')) (os ++ [t]) A1 n' c1 A1' c1' ps1 (upd f1 t none) := by
  obtain ⟨k1, k2, k3⟩ := h.keep3 hg1 hw
  have hlt3 := (Array.getElem?_eq_some_iff.1 k1).1
  have hq1 : ∀ g, v1.ownBlock = some g → g ≠ q := by
    rintro g hg rfl
    rcases hat1 with e | e
    · exact h.ne (e ▸ hg)
    · rw [hg] at e; injection e with e
      have := (Array.getElem?_eq_some_iff.1 h.blk).1
      simp at e; omega
  refine ⟨blk3_set2 (blk3_set1 (blk3_set0 ((hB4.block q hlt3).trans k1) _) _) _, ⟨?_, ?_, hrc.cap, hrc.cap'⟩, hrep, ?_, fun e => hq1 q e rfl, ?_, ?_, hsel, ?_⟩
  · exact ((hrc.ts.setCell_ne ⟨q, 0, none⟩ _ (fun b o e => by have := hbase b o (.inl e); show b ≠ q; omega)).setCell_ne ⟨q, 1, none⟩ _ (fun b o e => by have := hbase b o (.inl e); show b ≠ q; omega)).setCell_ne ⟨q, 2, none⟩ _ (fun b o e => by have := hbase b o (.inl e); show b ≠ q; omega)
  · exact ((hrc.us.setCell_ne ⟨q, 0, none⟩ _ (fun b o e => by have := hbase b o (.inr e); show b ≠ q; omega)).setCell_ne ⟨q, 1, none⟩ _ (fun b o e => by have := hbase b o (.inr e); show b ≠ q; omega)).setCell_ne ⟨q, 2, none⟩ _ (fun b o e => by have := hbase b o (.inr e); show b ≠ q; omega)
  · have e1 : (os ++ [t]).length = os.length + 1 := by simp
    rw [e1]
    refine own_block hown1 fun g hg => ?_
    have hgq := hq1 g hg
    have hl := (hown1.lt g hg).2
    rw [Below.heap_setCell _ _ _ _ (by simpa using hgq), Below.heap_setCell _ _ _ _ (by simpa using hgq), Below.heap_setCell _ _ _ _ (by simpa using hgq)]
    exact hB4.block g hl
  · intro b o e hb
    have := hbase b o e
    have := (hown1.lt b hb).2
    omega
  · exact (((below_next k3 k3.size hB4).setCell (p := ⟨q, 0, none⟩) hw _).setCell (p := ⟨q, 1, none⟩) hw _).setCell (p := ⟨q, 2, none⟩) hw _
  · have := h.fit; simp; omega
theorem drewN_add (w : World) (a b : Nat) : (w.drewN a).drewN b = w.drewN (a + b) := by simp [World.drewN, Nat.add_assoc]
set_option maxRecDepth 100000 in
set_option maxHeartbeats 2000000 in
theorem rsleepers_any (now : Int) (A : Option Addr) (n c : Nat) (A' : Option Addr) (c' : Nat) (w : World) (B : Nat) (ps : List (Int × Int)) (f) (hBw : B ≤ w.heap.size) (h : RC w B A n c A' c' ps) (hf : Rep f ps) (hn : n ≤ 100) :
    Calls Try.prog 21 #[rc now A n c A' c'] w fun e w' => ∃ v ts, e = .returned (.tuple #[v, .int .i64 (firstOf f ts)]) ∧ SleepList f now ts ∧ w'.ownsRow w.heap.size 3 1 v ts.length (ts.map (Value.int .i64)) ∧ ts.length ≤ n ∧ Below w.heap.size w w' := by
  have hB : Below w.heap.size w (w.alloc (.cells #[.int .i64 now, .slice A n c, .slice A' n c'] 39)) := below_alloc _
  have h0 : SelW w w.heap.size B now f n (.slice none 0 0) (w.alloc (.cells #[.int .i64 now, .slice A n c, .slice A' n c'] 39)) [] A n c A' c' ps f :=
    ⟨heap_alloc_new w _, h.below hB, hf, World.ownsRow_nil _ _ _ _, by simp [Value.ownBlock], by simp [Value.ownBlock], hB, Sel.start f now, by simp⟩
  have H0 := Lib.hid h0
  clear h0 hB h hf
  go_enter Try.func21, Try.ntmps21
  go_wp2_with fail
  generalize w.alloc (.cells #[.int .i64 now, .slice A n c, .slice A' n c'] 39) = w1 at *
  generalize hqq : w.heap.size = q at H0 ⊢
  go_loopw [4, 5, 6, 7] (fun v4 v5 v6 v7 wr => ∃ os A n1 c A' c' ps f1, Hid (SelW w q B now f n v4 wr os A n1 c A' c' ps f1) ∧ v5 = .int .i64 (firstOf f os) ∧ ∃ Ao co, v4 = .slice Ao os.length co) (fun v4 v5 v6 v7 wr => match v4 with | .slice _ k _ => n + 1 - k | _ => 0)
  case atStart => exact ⟨[], A, n, c, A', c', ps, f, H0, rfl, none, 0, rfl⟩
  case round =>
    obtain ⟨os, A, n1, c, A', c', ps, f1, HS, rfl, Ao, co, rfl⟩ := hrel
    clear H0
    obtain ⟨cc0, cc1, cc2, fr, lt⟩ := blk3 HS.out.blk
    have hfit := HS.out.fit
    have hcap := HS.out.rc.cap
    have hcap' := HS.out.rc.cap'
    have hlen := HS.out.rc.len
    have HT := Lib.hid HS.out.rc.ts
    have HU := Lib.hid HS.out.rc.us
    have HF := Lib.hid fr; clear fr
    go_wp2_with fail
    go_loopw [6, 7] (fun v6 v7 wx => ∃ (j : Nat) (bi : Int) (m : Nat), j ≤ n1 ∧ v6 = .int .i64 bi ∧ v7 = .int .i64 j ∧ wx = wr.drewN m ∧ Hid (Best ps now j bi)) (fun v6 v7 _ => n1 - (intOf v7).toNat)
    case atStart => exact ⟨0, -1, 0, by omega, rfl, rfl, rfl, Best.zero ps now⟩
    case round =>
      obtain ⟨j, bi, m, hj, rfl, rfl, rfl, HB⟩ := hrel
      have d0 : (wr.drewN m).cell? ⟨q, 0, none⟩ = some (.int .i64 now) := cc0
      have d1 : (wr.drewN m).cell? ⟨q, 1, none⟩ = some (.slice A n1 c) := cc1
      have d2 : (wr.drewN m).cell? ⟨q, 2, none⟩ = some (.slice A' n1 c') := cc2
      generalize hwx : wr.drewN m = wx at *
      by_cases hlt : j < n1
      · obtain ⟨b, o, rfl, _, _, hct⟩ := HT.out.2 (by omega)
        obtain ⟨b', o', rfl, _, _, hcu⟩ := HU.out.2 (by omega)
        obtain ⟨p, hp⟩ : ∃ p, ps[j]? = some p := ⟨_, List.getElem?_eq_getElem (by omega)⟩
        have e1 : wx.cell? ⟨b, o + j, none⟩ = some (.int .i64 p.1) := by rw [← hwx]; exact hct j p.1 (by simp [hp])
        have e2 : wx.cell? ⟨b', o' + j, none⟩ = some (.int .i64 p.2) := by rw [← hwx]; exact hcu j p.2 (by simp [hp])
        have hj0 : (0 : Int) ≤ (j : Int) := by omega
        have hj1 : (j : Int) < (n1 : Int) := by omega
        by_cases hgt : now < p.2
        · rcases HB.out with ⟨rfl, hno⟩ | ⟨k, pk, rfl, hk, hpk, hnk, hbest⟩
          · clear hct hcu
            have hb := Best.first hno hp hgt
            go_wp2_with fail
            go_quiet (fail)
            go_wp2_with fail
            go_roundw
            case rel => exact ⟨j + 1, _, _, by omega, rfl, by go_num, by rw [← hwx]; exact drewN_add _ _ _, hb⟩
            case measure => simp [intOf]; omega
          · have e3 : wx.cell? ⟨b, o + k, none⟩ = some (.int .i64 pk.1) := by rw [← hwx]; exact hct k pk.1 (by simp [hpk])
            have e4 : wx.cell? ⟨b', o' + k, none⟩ = some (.int .i64 pk.2) := by rw [← hwx]; exact hcu k pk.2 (by simp [hpk])
            have hk0 : (0 : Int) ≤ (k : Int) := by omega
            have hk1 : (k : Int) < (n1 : Int) := by omega
            clear hct hcu
            have hkf : decide ((k : Int) < 0) = false := by simp
            by_cases h1 : p.2 < pk.2
            · have hb := Best.better hbest hp hgt (.inl h1)
              go_wp2_with fail
              go_quiet (fail)
              go_wp2_with fail
              go_roundw
              case rel => exact ⟨j + 1, _, _, by omega, rfl, by go_num, by rw [← hwx]; exact drewN_add _ _ _, hb⟩
              case measure => simp [intOf]; omega
            · have h1f : decide (p.2 < pk.2) = false := by simp; omega
              by_cases h2 : p.2 = pk.2
              · have h2t : (p.2 == pk.2) = true := by simp [h2]
                by_cases h3 : p.1 < pk.1
                · have hb := Best.better hbest hp hgt (.inr ⟨h2, h3⟩)
                  go_wp2_with fail
                  go_quiet (fail)
                  go_wp2_with fail
                  go_roundw
                  case rel => exact ⟨j + 1, _, _, by omega, rfl, by go_num, by rw [← hwx]; exact drewN_add _ _ _, hb⟩
                  case measure => simp [intOf]; omega
                · have h3f : decide (p.1 < pk.1) = false := by simp; omega
                  have hb := Best.keep hk hpk hnk hbest hp (by omega)
                  go_wp2_with fail
                  go_quiet (fail)
                  go_wp2_with fail
                  go_roundw
                  case rel => exact ⟨j + 1, _, _, by omega, rfl, by go_num, by rw [← hwx]; exact drewN_add _ _ _, hb⟩
                  case measure => simp [intOf]; omega
              · have h2f : (p.2 == pk.2) = false := by simp [h2]
                have hb := Best.keep hk hpk hnk hbest hp (by omega)
                go_wp2_with fail
                go_quiet (fail)
                go_wp2_with fail
                go_roundw
                case rel => exact ⟨j + 1, _, _, by omega, rfl, by go_num, by rw [← hwx]; exact drewN_add _ _ _, hb⟩
                case measure => simp [intOf]; omega
        · clear hct hcu
          have hb := HB.out.skip hp (by omega)
          have hdf : decide (now < p.2) = false := by simp; omega
          go_wp2_with fail
          go_quiet (fail)
          go_wp2_with fail
          go_roundw
          case rel => exact ⟨j + 1, _, _, by omega, rfl, by go_num, by rw [← hwx]; exact drewN_add _ _ _, hb⟩
          case measure => simp [intOf]; omega
      · obtain rfl : j = n1 := by omega
        have hS := HS.out.drewN m
        rw [hwx] at hS
        clear HS HF HT HU cc0 cc1 cc2
        have HS := Lib.hid hS; clear hS
        rcases HB.out with ⟨rfl, hno⟩ | ⟨k, pk, rfl, hk, hpk, hnk, hbest⟩
        · go_wp2_with fail
          go_ret2
          refine ⟨_, os, rfl, HS.out.sel.done fun t u e => ?_, HS.out.own, by omega, HS.out.bel⟩
          obtain ⟨i, hi, he⟩ := List.getElem_of_mem ((HS.out.rep.2 t u).1 e)
          exact hno i (t, u) (by omega) (by rw [List.getElem?_eq_getElem hi, he])
        · obtain ⟨t, u⟩ := pk
          simp only at hnk
          have hft := HS.out.rep.at_ hpk
          simp only at hft
          have hfo := HS.out.sel.sub t u hft
          have hst := HS.out.sel.step hft hnk (fun x v e hl => by
            obtain ⟨i, hi, he⟩ := List.getElem_of_mem ((HS.out.rep.2 x v).1 e)
            exact hbest i (x, v) (by omega) (by rw [List.getElem?_eq_getElem hi, he]) hl)
          have HST := Lib.hid hst; clear hst hbest
          obtain ⟨b, o, rfl, _, _, hct⟩ := HS.out.rc.ts.2 (by omega)
          obtain ⟨b', o', rfl, _, _, hcu⟩ := HS.out.rc.us.2 (by omega)
          have e3 := hct k t (by simp [hpk])
          have e4 := hcu k u (by simp [hpk])
          have hk0 : (0 : Int) ≤ (k : Int) := by omega
          have hk1 : (k : Int) < (j : Int) := by omega
          clear hct hcu
          have hkf : decide ((k : Int) < 0) = false := by simp
          have hlt := (Array.getElem?_eq_some_iff.1 HS.out.blk).1
          have y3 := World.new_ne wx _ e3
          have y0 := World.new_ne wx _ d0
          cases os with
          | nil =>
            go_wp2_with (at_builtin; refine wpList_app rfl (.tmp 79) (.tmp 85) rfl w.heap.size _ 0 [] rfl (HS.out.own.alloc _) w.heap.size (some ⟨_, 0, none⟩) 1 1 [t] rfl (RS.lit wx 3 t w.heap.size HS.out.bel.size) (by skip; omega) (by have := HS.out.bel.size; simp; omega) ?_; intro v1 w3 hown1 hg1 hat1; obtain ⟨A9, c9, rfl⟩ := own_slice hown1)
            obtain ⟨k1, k2, k3⟩ := HS.out.keep3 hg1 (by omega)
            have hnx := fun w4 A1 n' c1 A1' c1' ps1 => HS.out.next (w4 := w4) (A1 := A1) (n' := n') (c1 := c1) (A1' := A1') (c1' := c1') (ps1 := ps1) HST.out hown1 hg1 hat1
            have HNX := Lib.hid hnx; clear hnx hown1 hg1 hat1
            have hrd : RC w3.drew B (some ⟨b, o, none⟩) j c (some ⟨b', o', none⟩) c' ps := ⟨k2.ts.drewN 1, k2.us.drewN 1, k2.cap, k2.cap'⟩
            have hW := rwake_any t now _ j c _ c' w3.drew B ps f1 (by have := k3.size; show B ≤ w3.heap.size; omega) hrd HS.out.rep (by omega)
            have HW := Lib.hid hW; clear hW hrd
            obtain ⟨b2, o2, e, _, _, hct⟩ := k2.ts.2 (by omega)
            cases e
            have e3' := hct k t (by simp [hpk])
            obtain ⟨g0, g1, g2, gf, glt⟩ := blk3 k1
            clear hct gf e3 e4 y3 y0 d0 d1 d2 k2 HB
            have K1 := Lib.hid k1; clear k1
            have K3 := Lib.hid k3; clear k3
            refine wp_region_still_tail 6 (by kernel_rfl) (by kernel_rfl) ?_
            simp only [List.take_succ_cons, List.take_zero, List.drop_succ_cons, List.drop_zero]
            change wpStill _ _ w3.drew _ _ _
            repeat still_step
            try refine wpStill_nil ?_
            change wpList _ _ _ _ _ w3.drew
            go_wp2_with fail
            refine HW.out.mono ?_
            rintro e w4 ⟨⟨A1, n', c1, A1', c1', ps1, rfl, hrc, hrep, hle, hn'⟩, hB4⟩
            obtain ⟨hn1, hbase⟩ := hn' (by rw [hft]; rfl)
            have hfin := HNX.out w4 A1 n' c1 A1' c1' ps1 hrc hrep hn1 hbase ⟨hB4.os, hB4.tape, hB4.output, hB4.size, hB4.block⟩ (by omega)
            obtain ⟨g0, g1, g2, gf, _⟩ := blk3 ((hB4.block q glt).trans K1.out)
            have gf0 := gf 0
            have gf1 := gf 1
            have gf2 := gf 2
            have HFIN := Lib.hid hfin
            clear hfin hrc hrep hle hn' hbase hB4 gf HNX HW K1 K3 HS HST
            go_wp2_with fail
            go_roundw
            case rel => exact ⟨_, _, _, _, _, _, _, _, HFIN.out, by simp [firstOf, hfo], _, _, rfl⟩
            case measure => simp <;> omega
          | cons s0 sr =>
            have hl0 : (((sr.length : Int) + 1) == 0) = false := by rw [beq_eq_false_iff_ne]; omega
            have hlc : (List.length (s0 :: sr)) = sr.length + 1 := rfl
            rw [hlc] at HS ⊢ hfit
            go_wp2_with (at_builtin; refine wpList_app rfl (.tmp 79) (.tmp 85) rfl w.heap.size _ (sr.length + 1) (s0 :: sr) rfl (HS.out.own.alloc _) w.heap.size (some ⟨_, 0, none⟩) 1 1 [t] rfl (RS.lit wx 3 t w.heap.size HS.out.bel.size) (by skip; omega) (by have := HS.out.bel.size; simp; omega) ?_; intro v1 w3 hown1 hg1 hat1; obtain ⟨A9, c9, rfl⟩ := own_slice hown1)
            obtain ⟨k1, k2, k3⟩ := HS.out.keep3 hg1 (by omega)
            have hnx := fun w4 A1 n' c1 A1' c1' ps1 => HS.out.next (w4 := w4) (A1 := A1) (n' := n') (c1 := c1) (A1' := A1') (c1' := c1') (ps1 := ps1) HST.out hown1 hg1 hat1
            have HNX := Lib.hid hnx; clear hnx hown1 hg1 hat1
            have hrd : RC w3.drew B (some ⟨b, o, none⟩) j c (some ⟨b', o', none⟩) c' ps := ⟨k2.ts.drewN 1, k2.us.drewN 1, k2.cap, k2.cap'⟩
            have hW := rwake_any t now _ j c _ c' w3.drew B ps f1 (by have := k3.size; show B ≤ w3.heap.size; omega) hrd HS.out.rep (by omega)
            have HW := Lib.hid hW; clear hW hrd
            obtain ⟨b2, o2, e, _, _, hct⟩ := k2.ts.2 (by omega)
            cases e
            have e3' := hct k t (by simp [hpk])
            obtain ⟨g0, g1, g2, gf, glt⟩ := blk3 k1
            clear hct gf e3 e4 y3 y0 d0 d1 d2 k2 HB
            have K1 := Lib.hid k1; clear k1
            have K3 := Lib.hid k3; clear k3
            refine wp_region_still_tail 6 (by kernel_rfl) (by kernel_rfl) ?_
            simp only [List.take_succ_cons, List.take_zero, List.drop_succ_cons, List.drop_zero]
            change wpStill _ _ w3.drew _ _ _
            repeat still_step
            try refine wpStill_nil ?_
            change wpList _ _ _ _ _ w3.drew
            go_wp2_with fail
            refine HW.out.mono ?_
            rintro e w4 ⟨⟨A1, n', c1, A1', c1', ps1, rfl, hrc, hrep, hle, hn'⟩, hB4⟩
            obtain ⟨hn1, hbase⟩ := hn' (by rw [hft]; rfl)
            have hfin := HNX.out w4 A1 n' c1 A1' c1' ps1 hrc hrep hn1 hbase ⟨hB4.os, hB4.tape, hB4.output, hB4.size, hB4.block⟩ (by omega)
            obtain ⟨g0, g1, g2, gf, _⟩ := blk3 ((hB4.block q glt).trans K1.out)
            have gf0 := gf 0
            have gf1 := gf 1
            have gf2 := gf 2
            have HFIN := Lib.hid hfin
            clear hfin hrc hrep hle hn' hbase hB4 gf HNX HW K1 K3 HS HST
            go_wp2_with fail
            go_roundw
            case rel => exact ⟨_, _, _, _, _, _, _, _, HFIN.out, by simp [firstOf], A9, c9, by simp⟩
            case measure => simp <;> omega
end Go.Proofs.Ytklbhidlbdabbaa
