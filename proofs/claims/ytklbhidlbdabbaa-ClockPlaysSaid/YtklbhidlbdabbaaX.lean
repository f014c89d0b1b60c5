/- The walk of the law ClockPlays. -/
import Derived.Test.YtklbhidlbdabbaaV
import Derived.Deep.CutBlock
set_option linter.unusedVariables false
set_option linter.unusedSimpArgs false
namespace Go.Proofs.Ytklbhidlbdabbaa
open Go.RowKit Go.Lib Go.Maps Go.Sort

theorem TickM.uniq {now n e e' a a'} (h : TickM now n e a) (k : TickM now n e' a') : e = e' ∧ a = a' := by
  cases h <;> cases k <;> first | exact ⟨rfl, rfl⟩ | omega
theorem SleepM.uniq {now f t n u e g u' e' g'} (h : SleepM now f t n u e g) (k : SleepM now f t n u' e' g') : u = u' ∧ e = e' ∧ g = g' := by
  cases h <;> cases k <;> first | exact ⟨rfl, rfl, rfl⟩ | (exfalso; omega) | (rename_i a b c d x y z v w q; simp_all)
theorem rsleep_any (t a now : Int) (A : Option Addr) (n c : Nat) (A' : Option Addr) (c' : Nat) (w : World) (B : Nat) (ps : List (Int × Int)) (f) (hBw : B ≤ w.heap.size) (h : RC w B A n c A' c' ps) (hf : Rep f ps) (hn : n ≤ 100) (h0 : 0 ≤ now) (h1 : now ≤ 1099511627776) :
    Calls Try.prog 18 #[rc now A n c A' c', .int .i64 t, .int .i64 a] w fun e w' => RSleep w w' B e now f t a ∧ Below w.heap.size w w' := by
  by_cases k : (t < 0 ∨ 255 < t ∨ a < 0) ∨ (0 ≤ t ∧ t ≤ 255 ∧ 0 ≤ a ∧ 1099511627776 - now < a)
  · exact rsleep_fail t a now A n c A' c' w B ps f h hf hn h0 h1 k
  · exact rsleep_go t a now A n c A' c' w B ps f hBw h hf hn h0 h1 (by omega) (by omega) (by omega) (by omega)

/-- The two clocks side by side: the program's (blocks b, m) and the reference's (block q). -/
structure Duo (w wr : World) (b m q k : Nat) (now : Int) (f : Int → Option Int) (A : Option Addr) (n c : Nat) (A' : Option Addr) (c' : Nat) (ps : List (Int × Int)) : Prop where
  clk : IsClock wr b m k now f
  inv : Inv now f
  blk : wr.heap[q]? = some (.cells #[.int .i64 now, .slice A n c, .slice A' n c'] 39 (0, 0))
  rc : RC wr (q + 1) A n c A' c' ps
  rep : Rep f ps
  bel : Below w.heap.size w wr
  lb : b < q
  lm : m < q
  gb : w.heap.size ≤ b
  gm : w.heap.size ≤ m
  le : n ≤ k

theorem Duo.below {w wr b m q k now f A n c A' c' ps w'} (h : Duo w wr b m q k now f A n c A' c' ps) (hB : Below wr.heap.size wr w') : Duo w w' b m q k now f A n c A' c' ps :=
  ⟨h.clk.below hB, h.inv, (hB.block q (Array.getElem?_eq_some_iff.1 h.blk).1).trans h.blk, h.rc.below hB, h.rep, below_next h.bel h.bel.size hB, h.lb, h.lm, h.gb, h.gm, h.le⟩
theorem Duo.more {w wr b m q k now f A n c A' c' ps} (h : Duo w wr b m q k now f A n c A' c' ps) : Duo w wr b m q (k + 1) now f A n c A' c' ps :=
  ⟨h.clk.mono (Nat.le_succ _), h.inv, h.blk, h.rc, h.rep, h.bel, h.lb, h.lm, h.gb, h.gm, by have := h.le; omega⟩
theorem SleepM.dom {now f t n u e g x v} (h : SleepM now f t n u e g) (hx : g x = some v) : x = t ∨ f x = some v := by
  cases h with
  | ok _ _ _ _ _ =>
    unfold upd at hx
    split at hx
    · rename_i e; exact .inl e
    · exact .inr hx
  | _ => exact .inr hx
theorem RC.drewN {w : World} {B A n c A' c' ps} (h : RC w B A n c A' c' ps) (q : Nat) : RC (w.drewN q) B A n c A' c' ps := ⟨h.ts.drewN q, h.us.drewN q, h.cap, h.cap'⟩
theorem Duo.drewN {w wr b m q k now f A n c A' c' ps} (h : Duo w wr b m q k now f A n c A' c' ps) (i : Nat) : Duo w (wr.drewN i) b m q k now f A n c A' c' ps :=
  ⟨h.clk.drewN i, h.inv, h.blk, h.rc.drewN i, h.rep, below_drewN h.bel i, h.lb, h.lm, h.gb, h.gm, h.le⟩
theorem Duo.ltq {w wr b m q k now f A n c A' c' ps} (h : Duo w wr b m q k now f A n c A' c' ps) : q < wr.heap.size := (Array.getElem?_eq_some_iff.1 h.blk).1

theorem Duo.set3 {w w4 b m q k now f A n c A' c' ps x0 x1 x2} (clk : IsClock w4 b m k now f) (inv : Inv now f) (blk : w4.heap[q]? = some (.cells #[x0, x1, x2] 39 (0, 0))) (rc : RC w4 (q + 1) A n c A' c' ps) (rep : Rep f ps)
    (bel : Below w.heap.size w w4) (lb : b < q) (lm : m < q) (gb : w.heap.size ≤ b) (gm : w.heap.size ≤ m) (le : n ≤ k) :
    Duo w (((w4.setCell ⟨q, 0, none⟩ (.int .i64 now)).setCell ⟨q, 1, none⟩ (.slice A n c)).setCell ⟨q, 2, none⟩ (.slice A' n c')) b m q k now f A n c A' c' ps :=
  ⟨clk.block (by rw [Below.heap_setCell _ _ _ _ (by simp; omega), Below.heap_setCell _ _ _ _ (by simp; omega), Below.heap_setCell _ _ _ _ (by simp; omega)]) (by rw [Below.heap_setCell _ _ _ _ (by simp; omega), Below.heap_setCell _ _ _ _ (by simp; omega), Below.heap_setCell _ _ _ _ (by simp; omega)]), inv,
   blk3_set2 (blk3_set1 (blk3_set0 blk _) _) _,
   ⟨((rc.ts.setCell ⟨q, 0, none⟩ _ (by simp)).setCell ⟨q, 1, none⟩ _ (by simp)).setCell ⟨q, 2, none⟩ _ (by simp), ((rc.us.setCell ⟨q, 0, none⟩ _ (by simp)).setCell ⟨q, 1, none⟩ _ (by simp)).setCell ⟨q, 2, none⟩ _ (by simp), rc.cap, rc.cap'⟩, rep,
   ((bel.setCell (p := ⟨q, 0, none⟩) (by simp; omega) _).setCell (p := ⟨q, 1, none⟩) (by simp; omega) _).setCell (p := ⟨q, 2, none⟩) (by simp; omega) _, lb, lm, gb, gm, le⟩
theorem ActAt.set3 {w4 q2 q d t a} (h : ActAt w4 q2 q2 d t a) (hq : q < q2) (x0 x1 x2 : Value) : ActAt (((w4.setCell ⟨q, 0, none⟩ x0).setCell ⟨q, 1, none⟩ x1).setCell ⟨q, 2, none⟩ x2) q2 q2 d t a :=
  ⟨by rw [Below.heap_setCell _ _ _ _ (by simp; omega), Below.heap_setCell _ _ _ _ (by simp; omega), Below.heap_setCell _ _ _ _ (by simp; omega)]; exact h.mk_, h.low⟩
theorem ActAt.belowW {W W' B q d t a} (h : ActAt W B q d t a) (hB : Below W.heap.size W W') : ActAt W' B q d t a := h.below hB

set_option maxRecDepth 100000 in
set_option maxHeartbeats 4000000 in
theorem plays_near (A : Option Addr) (n c : Nat) (D T N : Nat → Int) (w : World) (h : n ≤ 100) (hA : Acts w A n D T N) (hI : ∀ j, j < n → I64 (T j) ∧ I64 (N j)) :
    Calls Try.prog 5 #[.slice A n c] w fun e w' => e = .returned (.bool true) ∧ Below w.heap.size w w' := by
  have HA := Lib.hid hA; clear hA
  have HI := Lib.hid hI; clear hI
  go_enter Try.func5, Try.ntmps5
  go_wp2_with fail
  refine (new_any w).mono ?_
  rintro e w1 ⟨b, m, rfl, hb, hm, h1, hB1⟩
  have hB2 := below_next hB1 hB1.size (below_alloc (w := w1) (.cells #[.int .i64 0, .slice none 0 0, .slice none 0 0] 39))
  have h0 : Duo w (w1.alloc (.cells #[.int .i64 0, .slice none 0 0, .slice none 0 0] 39)) b m w1.heap.size 0 0 (fun _ => none) none 0 0 none 0 [] :=
    ⟨h1.below (below_alloc _), ⟨by omega, by omega, by simp⟩, heap_alloc_new w1 _, ⟨RS.nil _ _, RS.nil _ _, Nat.le_refl _, Nat.le_refl _⟩, Rep.nil, hB2, h1.lt, h1.2.lt, hb, hm, Nat.le_refl _⟩
  have H0 := Lib.hid h0
  clear h0 hB2 h1 hB1
  go_wp2_with fail
  generalize w1.alloc (.cells #[.int .i64 0, .slice none 0 0, .slice none 0 0] 39) = w2 at *
  generalize w1.heap.size = q at *
  go_loopw [5] (fun v wr => ∃ (j : Nat) (now : Int) (f : Int → Option Int) (A1 : Option Addr) (n1 c1 : Nat) (A1' : Option Addr) (c1' : Nat) (ps : List (Int × Int)), j ≤ n ∧ v = .int .i64 j ∧ Hid (Duo w wr b m q j now f A1 n1 c1 A1' c1' ps)) (fun v _ => n - (intOf v).toNat)
  case atStart => exact ⟨0, 0, _, none, 0, 0, none, 0, [], by omega, rfl, H0⟩
  case round =>
    obtain ⟨j, now, f, A1, n1, c1, A1', c1', ps, hj, rfl, HS⟩ := hrel
    clear H0
    by_cases hlt : j < n
    · obtain ⟨bl, o, rfl, hbl, hcs⟩ := HA.out (by omega)
      obtain ⟨e0, e1, e2⟩ := hcs j hlt
      have d0 : wr.cell? ⟨bl, o + j * 3, none⟩ = some (.int .i64 (D j)) := (HS.out.bel.cell (p := ⟨bl, o + j * 3, none⟩) hbl).trans e0
      have d1 : wr.cell? ⟨bl, o + j * 3 + 1, none⟩ = some (.int .i64 (T j)) := (HS.out.bel.cell (p := ⟨bl, o + j * 3 + 1, none⟩) hbl).trans e1
      have d2 : wr.cell? ⟨bl, o + j * 3 + 2, none⟩ = some (.int .i64 (N j)) := (HS.out.bel.cell (p := ⟨bl, o + j * 3 + 2, none⟩) hbl).trans e2
      obtain ⟨hT, hN⟩ := HI.out j hlt
      clear e0 e1 e2 hcs
      generalize D j = d at *
      generalize T j = t at *
      generalize N j = a at *
      have hq2 := ActAt.new wr d t a
      have hBa := below_alloc (w := wr) (.cells #[.int .i64 d, .int .i64 t, .int .i64 a] 41)
      have HSa := Lib.hid (HS.out.below hBa)
      have HQ := Lib.hid hq2
      have hlq := HS.out.ltq
      clear hBa hq2 HS
      go_upto_block 2 with fail
      clear d0 d1 d2
      generalize wr.alloc (.cells #[.int .i64 d, .int .i64 t, .int .i64 a] 41) = wa at *
      generalize wr.heap.size = q2 at *
      go_cut [7, 8, 9, 10, 11, 12, 13, 14] from 27 to 142 (fun s7 s8 s9 s10 s11 s12 s13 s14 wx => ∃ now f A1 n1 c1 A1' c1' ps, Hid (Duo w wx b m q (j + 1) now f A1 n1 c1 A1' c1' ps) ∧ Hid (ActAt wx q2 q2 d t a))
      case first =>
        obtain ⟨cc0, cc1, cc2, fr, ltq⟩ := blk3 HSa.out.blk
        have q1 := HQ.out.c1
        have q2' := HQ.out.c2
        have hn1 := HSa.out.le
        have hlb := HSa.out.lb
        have hlm := HSa.out.lm
        by_cases hd0 : d = 0
        · subst hd0
          go_wp2_with fail
          refine (tick_all a now wa b m j f HSa.out.clk HSa.out.inv).mono ?_
          rintro e w3 ⟨e0, now1, rfl, ht, h3, ho⟩
          have hb3 := (ho.block q ltq (fun e => by rcases e with e | e <;> omega)).trans HSa.out.blk
          have hr3 := HSa.out.rc.only ho (by omega) (by omega)
          have hq3 := HQ.out.only ho (by omega) (by omega)
          have hB3 := two_below HSa.out.bel ho HSa.out.bel.size HSa.out.gb HSa.out.gm
          have hinv := ht.inv HSa.out.inv
          have hlo := HSa.out.inv.lo
          have hhi := HSa.out.inv.hi
          clear cc0 cc1 cc2 fr q1 q2' ho
          obtain ⟨cc0, cc1, cc2, fr, ltq⟩ := blk3 hb3
          have q2' := hq3.c2
          have HK := Lib.hid h3; clear h3
          have HR := Lib.hid hr3; clear hr3
          have HQ3 := Lib.hid hq3; clear hq3
          have HB3 := Lib.hid hB3; clear hB3
          have Hb3 := Lib.hid hb3; clear hb3
          go_wp2_with fail
          refine (rtick_any now a A1 n1 c1 A1' c1' w3 hlo hhi).mono ?_
          rintro e w4 ⟨e0', now2, rfl, ht', hB4⟩
          obtain ⟨rfl, rfl⟩ := ht.uniq ht'
          have hb5 := (hB4.block q ltq).trans Hb3.out
          have hfin := (Duo.set3 ((HK.out.below hB4).mono (Nat.le_succ _)) hinv hb5 (HR.out.below hB4) HSa.out.rep (below_next HB3.out HB3.out.size hB4) hlb hlm HSa.out.gb HSa.out.gm (show n1 ≤ j.succ by omega)).below (below_alloc (.cells #[.int .i64 now1, .slice A1 n1 c1, .slice A1' n1 c1'] 39))
          have hqf := ((HQ3.out.below hB4).set3 hlq (.int .i64 now1) (.slice A1 n1 c1) (.slice A1' n1 c1')).belowW (below_alloc (.cells #[.int .i64 now1, .slice A1 n1 c1, .slice A1' n1 c1'] 39))
          obtain ⟨z0, z1, z2, zf, ltz⟩ := blk3 ((hB4.block q ltq).trans Hb3.out)
          have zf0 := zf 0
          have zf1 := zf 1
          have zf2 := zf 2
          have y0 := World.new_ne w4 _ z0
          have HFIN := Lib.hid hfin
          have HQF := Lib.hid hqf
          clear hfin hqf zf hb5 hB4 HK HR HQ3 HB3 Hb3 HSa HQ cc0 cc1 cc2 fr q2'
          go_wp2_with fail
          refine (num_any _ _).mono ?_
          rintro e w5 ⟨rfl, rfl⟩
          go_wp2_with fail
          go_meet
          exact ⟨_, _, _, _, _, _, _, _, HFIN, HQF⟩
        · have hd0f : (d == 0) = false := by simpa using hd0
          by_cases hd1 : d = 1
          · subst hd1
            go_wp2_with fail
            refine (sleep_all t a now wa b m j f HSa.out.clk HSa.out.inv (by unfold maxLen; omega)).mono ?_
            rintro e w3 ⟨u, e0, f', rfl, hs, h3, ho⟩
            have hb3 := (ho.block q ltq (fun e => by rcases e with e | e <;> omega)).trans HSa.out.blk
            have hr3 := HSa.out.rc.only ho (by omega) (by omega)
            have hq3 := HQ.out.only ho (by omega) (by omega)
            have hB3 := two_below HSa.out.bel ho HSa.out.bel.size HSa.out.gb HSa.out.gm
            have hinv := hs.inv HSa.out.inv
            have hlo := HSa.out.inv.lo
            have hhi := HSa.out.inv.hi
            clear cc0 cc1 cc2 fr q1 q2' ho
            obtain ⟨cc0, cc1, cc2, fr, ltq⟩ := blk3 hb3
            have q1 := hq3.c1
            have q2' := hq3.c2
            have HK := Lib.hid h3; clear h3
            have HR := Lib.hid hr3; clear hr3
            have HQ3 := Lib.hid hq3; clear hq3
            have HB3 := Lib.hid hB3; clear hB3
            have Hb3 := Lib.hid hb3; clear hb3
            go_wp2_with fail
            refine (rsleep_any t a now A1 n1 c1 A1' c1' w3 (q + 1) ps f (by omega) HR.out HSa.out.rep (by omega) hlo hhi).mono ?_
            rintro e w4 ⟨⟨A2, n2, c2, A2', c2', ps2, u', e0', f2, rfl, hs', hr4, hrep⟩, hB4⟩
            obtain ⟨rfl, rfl, rfl⟩ := hs.uniq hs'
            have hn2 : n2 ≤ n1 + 1 := by
              have h1 := sub_len (ps2.map Prod.fst) (t :: ps.map Prod.fst) hrep.1 (fun x hx => by
                obtain ⟨p, hp, rfl⟩ := List.mem_map.1 hx
                have h2 := (hrep.2 p.1 p.2).2 hp
                rcases hs.dom h2 with e | e
                · simp [e]
                · exact List.mem_cons_of_mem _ (List.mem_map.2 ⟨_, (HSa.out.rep.2 _ _).1 e, rfl⟩))
              simp only [List.length_map, List.length_cons, hr4.len, HSa.out.rc.len] at h1
              exact h1
            have hb5 := (hB4.block q ltq).trans Hb3.out
            have hfin := (Duo.set3 (HK.out.below hB4) hinv hb5 hr4 hrep (below_next HB3.out HB3.out.size hB4) hlb hlm HSa.out.gb HSa.out.gm (show n2 ≤ j + 1 by omega)).below (below_alloc (.cells #[.int .i64 now, .slice A2 n2 c2, .slice A2' n2 c2'] 39))
            have hqf := ((HQ3.out.below hB4).set3 hlq (.int .i64 now) (.slice A2 n2 c2) (.slice A2' n2 c2')).belowW (below_alloc (.cells #[.int .i64 now, .slice A2 n2 c2, .slice A2' n2 c2'] 39))
            obtain ⟨z0, z1, z2, zf, ltz⟩ := blk3 ((hB4.block q ltq).trans Hb3.out)
            have zf0 := zf 0
            have zf1 := zf 1
            have zf2 := zf 2
            have y0 := World.new_ne w4 _ z0
            have HFIN := Lib.hid hfin
            have HQF := Lib.hid hqf
            clear hfin hqf zf hb5 hB4 HK HR HQ3 HB3 Hb3 HSa HQ cc0 cc1 cc2 fr q2' q1 hr4 hrep hs hs'
            go_wp2_with fail
            refine (num_any _ _).mono ?_
            rintro e w5 ⟨rfl, rfl⟩
            go_wp2_with fail
            go_meet
            exact ⟨_, _, _, _, _, _, _, _, HFIN, HQF⟩
          · have hd1f : (d == 1) = false := by simpa using hd1
            by_cases hd2 : d = 2
            · subst hd2
              go_wp2_with fail
              refine (wake_any t now wa b m j f HSa.out.clk hT).mono ?_
              rintro e w3 ⟨rfl, h3, ho⟩
              have hb3 := (ho.block q ltq (fun e => by rcases e with e | e <;> omega)).trans HSa.out.blk
              have hr3 := HSa.out.rc.only ho (by omega) (by omega)
              have hq3 := HQ.out.only ho (by omega) (by omega)
              have hB3 := two_below HSa.out.bel ho HSa.out.bel.size HSa.out.gb HSa.out.gm
              have hinv := HSa.out.inv.upd t none (by simp)
              clear cc0 cc1 cc2 fr q1 q2' ho
              obtain ⟨cc0, cc1, cc2, fr, ltq⟩ := blk3 hb3
              have q1 := hq3.c1
              have HK := Lib.hid h3; clear h3
              have HR := Lib.hid hr3; clear hr3
              have HQ3 := Lib.hid hq3; clear hq3
              have HB3 := Lib.hid hB3; clear hB3
              have Hb3 := Lib.hid hb3; clear hb3
              go_wp2_with fail
              refine (rwake_any t now A1 n1 c1 A1' c1' w3 (q + 1) ps f (by omega) HR.out HSa.out.rep (by omega)).mono ?_
              rintro e w4 ⟨⟨A2, n2, c2, A2', c2', ps2, rfl, hr4, hrep, hn2, _⟩, hB4⟩
              have hb5 := (hB4.block q ltq).trans Hb3.out
              have hfin := Duo.set3 ((HK.out.below hB4).mono (Nat.le_succ _)) hinv hb5 hr4 hrep (below_next HB3.out HB3.out.size hB4) hlb hlm HSa.out.gb HSa.out.gm (show n2 ≤ j.succ by omega)
              have hqf := (HQ3.out.below hB4).set3 hlq (.int .i64 now) (.slice A2 n2 c2) (.slice A2' n2 c2')
              obtain ⟨z0, z1, z2, zf, ltz⟩ := blk3 ((hB4.block q ltq).trans Hb3.out)
              have zf0 := zf 0
              have zf1 := zf 1
              have zf2 := zf 2
              have HFIN := Lib.hid hfin
              have HQF := Lib.hid hqf
              clear hfin hqf zf hb5 hB4 HK HR HQ3 HB3 Hb3 HSa HQ cc0 cc1 cc2 fr q1 hr4 hrep
              go_wp2_with fail
              go_meet
              exact ⟨_, _, _, _, _, _, _, _, HFIN, HQF⟩
            · have hd2f : (d == 2) = false := by simpa using hd2
              have hfin := HSa.out.more
              have HFIN := Lib.hid hfin
              clear hfin cc0 cc1 cc2 fr q1 q2' HSa
              go_wp2_with fail
              go_meet
              exact ⟨_, _, _, _, _, _, _, _, HFIN, HQ⟩
      case rest =>
        obtain ⟨now, f, A1, n1, c1, A1', c1', ps, HS, HQ⟩ := hcut
        have hj100 : j + 1 ≤ 100 := by omega
        obtain ⟨cc0, cc1, cc2, fr, ltq⟩ := blk3 HS.out.blk
        have hn1 := HS.out.le
        clear fr
        go_wp2_with fail
        refine (rsleepers_any now A1 n1 c1 A1' c1' _ (q + 1) ps f (by omega) HS.out.rc HS.out.rep (by omega)).mono ?_
        rintro e w3 ⟨v, ts, rfl, hts, hown, hlen, hB3⟩
        obtain ⟨A9, c9, rfl⟩ := own_slice hown
        have hd3 := HS.out.below hB3
        have hq3 := HQ.out.below hB3
        have hR3 := own_RI hown (by omega)
        have hb3 : ∀ b' o', A9 = some ⟨b', o', none⟩ → b' < w3.heap.size := fun b' o' e => (own_base hown e).2
        clear HS HQ cc0 cc1 cc2 hown hB3 ltq
        have HS := Lib.hid hd3; clear hd3
        have HQ := Lib.hid hq3; clear hq3
        have HR := Lib.hid hR3; clear hR3
        have HTS := Lib.hid hts; clear hts
        go_wp2_with fail
        refine (next_any w3 b m (j + 1) now f HS.out.clk HS.out.inv (by omega)).mono ?_
        rintro e w4 ⟨ts', rfl, hts', hB4⟩
        obtain rfl := HTS.out.uniq hts'
        have hd4 := HS.out.below hB4
        have hq4 := HQ.out.below hB4
        have hR4 := HR.out.below hB4 hb3
        have hb4 : ∀ b' o', A9 = some ⟨b', o', none⟩ → b' < w4.heap.size := fun b' o' e => Nat.lt_of_lt_of_le (hb3 b' o' e) hB4.size
        obtain ⟨cc0, cc1, cc2, fr, ltq⟩ := blk3 hd4.blk
        have q1 := hq4.c1
        have hlq2 := hq4.lt
        have hcb := hd4.clk.cell0
        clear fr HS HQ hB4 hb3 hts'
        have HS := Lib.hid hd4; clear hd4
        have HQ := Lib.hid hq4; clear hq4
        have HR := Lib.hid hR4; clear hR4
        have hb0 : HS.out.clk.lt = HS.out.clk.lt := rfl
        have hltb := HS.out.clk.lt
        obtain ⟨aw, haw⟩ : ∃ aw, (!(f t).isSome || decide ((f t).getD 0 ≤ now)) = aw := ⟨_, rfl⟩
        have HAW := Lib.hid haw; clear haw
        obtain ⟨ok, hok⟩ : ∃ ok, (!ts.isEmpty) = ok := ⟨_, rfl⟩
        obtain ⟨fi, hfi⟩ : ∃ fi, firstOf f ts = fi := ⟨_, rfl⟩
        have hk : decide (0 < ts.length) = ok := by
          rw [← hok]; cases ts <;> simp
        rw [hok, hfi]
        obtain ⟨kk, hkk⟩ : ∃ kk, ts.length = kk := ⟨_, rfl⟩
        have HKK := Lib.hid hkk
        rw [hkk] at hk hlen ⊢
        clear hok hfi hkk
        have h5f : (!ok == decide (0 < kk)) = false := by rw [hk]; cases ok <;> rfl
        have h1f : (aw != aw) = false := by simp
        have h2f : (ok != ok) = false := by simp
        have h3f : (fi != fi) = false := by simp
        have h4f : (now != now) = false := by simp
        clear hb0
        go_wp2_with fail
        go_region_held3 (fun w' => w'.cell? ⟨q, 0, none⟩ = some (.int .i64 now) ∧ w'.cell? ⟨q, 1, none⟩ = some (.slice A1 n1 c1) ∧ w'.cell? ⟨q, 2, none⟩ = some (.slice A1' n1 c1') ∧ w'.cell? ⟨q2, 1, none⟩ = some (.int .i64 t))
          (first | go_keep | exact ⟨cc0, cc1, cc2, q1⟩ | exact ⟨x0, x1, x2, x3⟩ | exact ⟨z0, z1, z2, z3⟩)
          (first
            | ((go_at_call 23
                refine (now_any now _ b (by first | exact hcb | simpa using hcb)).mono ?_
                rintro e w5 ⟨rfl, rfl⟩))
            | ((go_at_call 24
                refine (awake_any t now _ b m (j + 1) f (by first | exact HS.out.clk.drewN _ | exact HS.out.clk.drewN 1) hT).mono ?_
                rintro e w5 ⟨rfl, n5, rfl⟩
                rw [HAW.out]))
            | ((go_at_call 25
                refine (rawake_any t now A1 n1 c1 A1' c1' _ (q + 1) ps f (by first | exact HS.out.rc.drewN _ | exact HS.out.rc.drewN 1) HS.out.rep (by omega)).mono ?_
                rintro e w5 ⟨rfl, hB5⟩
                have b5 : Below w4.heap.size w4 w5 := ⟨hB5.os, hB5.tape, hB5.output, hB5.size, hB5.block⟩
                have x0 := (b5.cell (p := ⟨q, 0, none⟩) ltq).trans cc0
                have x1 := (b5.cell (p := ⟨q, 1, none⟩) ltq).trans cc1
                have x2 := (b5.cell (p := ⟨q, 2, none⟩) ltq).trans cc2
                have x3 := (b5.cell (p := ⟨q2, 1, none⟩) hlq2).trans q1
                rw [HAW.out]))
            | ((go_at_call 27
                refine (sleepers_any w5 b m (j + 1) now f (HS.out.clk.below b5) HS.out.inv.i64 (by omega)).mono ?_
                rintro e w6 ⟨v, ts', rfl, hts', hown6, hB6⟩
                obtain rfl := HTS.out.uniq hts'
                obtain ⟨A6, c6, rfl⟩ := own_slice hown6
                have b6 := below_next b5 b5.size hB6
                have z0 := (b6.cell (p := ⟨q, 0, none⟩) ltq).trans cc0
                have z1 := (b6.cell (p := ⟨q, 1, none⟩) ltq).trans cc1
                have z2 := (b6.cell (p := ⟨q, 2, none⟩) ltq).trans cc2
                have z3 := (b6.cell (p := ⟨q2, 1, none⟩) hlq2).trans q1
                have hkk := HKK.out
                have hr9 := HR.out.below b6 hb4
                rw [hkk] at hown6 hr9 ⊢
                have hsame := same_any A6 A9 _ _ c6 c9 _ _ w6 (own_RI hown6 (by omega)) hr9
                rw [sameB_true (fun _ _ => rfl)] at hsame
                have HSM := Lib.hid hsame
                clear hsame hown6 hts' hkk hr9))
            | ((go_at_call 26
                refine HSM.out.mono ?_
                rintro e w7 ⟨rfl, n7, rfl⟩)))
        go_wp2_with fail
        go_roundw
        case rel => exact ⟨j + 1, now, f, A1, n1, c1, A1', c1', ps, by omega, by go_num, (HS.out.below b6).drewN _⟩
        case measure => simp [intOf]; omega
    · go_wp2_with fail
      refine (live_any _).mono ?_
      rintro e w5 ⟨rfl, hB5⟩
      go_wp2_with fail
      go_ret
      exact ⟨rfl, below_next HS.out.bel HS.out.bel.size hB5⟩

set_option maxRecDepth 100000 in
theorem plays_far (A : Option Addr) (n c : Nat) (w : World) (h : 100 < n) (hn : n ≤ 9223372036854775807) :
    Calls Try.prog 5 #[.slice A n c] w fun e w' => e = .returned (.bool true) ∧ Below w.heap.size w w' := by
  go_enter Try.func5, Try.ntmps5
  go_wp2_with fail
  refine (live_any _).mono ?_
  rintro e w5 ⟨rfl, hB5⟩
  go_wp2_with fail
  go_ret
  exact ⟨rfl, hB5⟩

theorem plays_all (a : Option Addr) (len cap : Nat) (w : World)
    (h : (a = none ∧ len = 0 ∧ cap = 0) ∨ ∃ x, a = some x ∧ len ≤ cap ∧ cap ≤ maxLen ∧ ∀ i, i < len → ∃ (y0 : Int) (y1 : Int) (y2 : Int), w.cell? (x.add (i * 3 + 0)) = some (.int .i64 y0) ∧ w.cell? (x.add (i * 3 + 1)) = some (.int .i64 y1) ∧ w.cell? (x.add (i * 3 + 2)) = some (.int .i64 y2) ∧ (Lit.int .i64 y0).wf = true ∧ (Lit.int .i64 y1).wf = true ∧ (Lit.int .i64 y2).wf = true) :
    Calls Try.prog 5 #[.slice a len cap] w fun e w' => e = .returned (.bool true) ∧ Below w.heap.size w w' := by
  rcases h with ⟨rfl, rfl, rfl⟩ | ⟨x, rfl, hl, hc, hy⟩
  · exact plays_near none 0 0 (fun _ => 0) (fun _ => 0) (fun _ => 0) w (by omega) (fun h => by omega) (fun j h => by omega)
  · by_cases h : 100 < len
    · exact plays_far _ _ _ _ h (by unfold maxLen at hc; omega)
    · obtain ⟨D, T, N, hA, hI⟩ := acts_of hy
      exact plays_near _ _ _ D T N w (by omega) hA hI
end Go.Proofs.Ytklbhidlbdabbaa
