/- The reference's Hot. -/
import Derived.Test.YtmcejkimpjfmmaaRd
import Derived.Test.YtmcejkimpjfmmaaPh
set_option linter.unusedVariables false
set_option linter.unusedSimpArgs false
namespace Go.Proofs.Ytmcejkimpjfmmaa
open Go.RowKit Go.Lib Go.Maps

/-- Block g is a row of whole numbers. -/
structure IntRow (w : World) (g n : Nat) (h : Nat → Int) : Prop where
  blk : ∃ cs : Array Value, w.heap[g]? = some (.cells cs 3 (0, 0)) ∧ ∀ i, i < n → cs[i]? = some (.int .i64 (h i))
theorem IntRow.cell {w g n h} (r : IntRow w g n h) {i : Nat} (hi : i < n) : w.cell? ⟨g, i, none⟩ = some (.int .i64 (h i)) := by
  obtain ⟨cs, hb, hc⟩ := r.blk
  simp [World.cell?, hb, hc i hi]
theorem IntRow.free {w g n h} (r : IntRow w g n h) (j : Nat) : w.frozen? ⟨g, j, none⟩ = false := by
  obtain ⟨cs, hb, hc⟩ := r.blk
  simp [World.frozen?, hb]
theorem IntRow.lt {w g n h} (r : IntRow w g n h) : g < w.heap.size := by
  obtain ⟨cs, hb, _⟩ := r.blk
  exact (Array.getElem?_eq_some_iff.1 hb).1
theorem IntRow.block {w w' : World} {g n h} (r : IntRow w g n h) (e : w'.heap[g]? = w.heap[g]?) : IntRow w' g n h := by
  obtain ⟨cs, hb, hc⟩ := r.blk
  exact ⟨cs, e.trans hb, hc⟩
theorem IntRow.congr {w g n h h'} (r : IntRow w g n h) (e : ∀ i, i < n → h i = h' i) : IntRow w g n h' := by
  obtain ⟨cs, hb, hc⟩ := r.blk
  exact ⟨cs, hb, fun i hi => by rw [← e i hi]; exact hc i hi⟩
theorem IntRow.set_ {w : World} {g n h} (r : IntRow w g n h) {i : Nat} (hi : i < n) (u : Int) : IntRow (w.setCell ⟨g, i, none⟩ (.int .i64 u)) g n (fun j => if j = i then u else h j) := by
  obtain ⟨cs, hb, hc⟩ := r.blk
  refine ⟨cs.setIfInBounds i (.int .i64 u), ?_, fun j hj => ?_⟩
  · simp [World.setCell, Array.getElem?_modify, hb]
  · have l1 := (Array.getElem?_eq_some_iff.1 (hc i hi)).1
    by_cases e : j = i
    · subst e
      rw [Array.getElem?_setIfInBounds_self_of_lt l1]; simp
    · rw [Array.getElem?_setIfInBounds_ne (by omega)]; simp [e, hc j hj]
theorem IntRow.made {w : World} (n : Nat) : IntRow (w.alloc (.cells (madeCells #[.int .i64 0] n) 3)) w.heap.size n (fun _ => 0) := by
  refine ⟨_, heap_alloc_new w _, fun i hi => ?_⟩
  simp [madeCells, hi, Nat.mod_one]
theorem make38 (n : Nat) (hn : n ≤ 1024) (w : World) : (Instr.makeSlice 38 (.int .i64 (n : Int)) (.int .i64 (n : Int))).run Try.prog w = .ok (.slice (some ⟨w.heap.size, 0, none⟩) n n) (w.alloc (.cells (madeCells #[.int .i64 0] n) 3)) := by
  obtain ⟨i0, hi, hz0, hz1, hz2⟩ := info_parts info3
  have := run_make_rowN 38 3 i0 _ Try.underlying38 hi hz0 .i64 .i64 n n (Nat.le_refl _) (by rw [hz2]; omega) (by omega) w
  rw [hz1, Nat.mul_one] at this
  exact this
def sliceLen : Value → Nat
  | .slice _ n _ => n
  | _ => 0
/-- Row v, of blocks from base on, is as it was where a block below is written. -/
theorem own_set {w : World} {base n : Nat} {E : TypeId} {size : Nat} {v : Value} {xs : List Value} (h : w.ownsRow base E size v n xs) (p : Addr) (u : Value) (hp : p.block < base) : (w.setCell p u).ownsRow base E size v n xs := by
  refine h.kept (row := some p.block) ⟨rfl, rfl, rfl, by simp, fun i hi hne => Below.heap_setCell w p u i (fun e => hne (by rw [e]))⟩ ?_
  right
  intro e
  have := (h.lt _ e).1
  omega

set_option maxRecDepth 100000 in
set_option maxHeartbeats 4000000 in
theorem rhot_any (least : Int) (F G : Nat) (A : Option Addr) (n c : Nat) (L : List Ac) (w : World) (B : Nat) (h : RA w B A n L) (hn : n ≤ 1000) (hF : F ≤ 1024) :
    Calls Try.prog 19 #[rp F G A n c, .int .i64 least] w fun e w' => ∃ v l, e = .returned v ∧ Hots (fun f => heatL L f) F least l ∧ w'.ownsRow w.heap.size 3 1 v l.length (l.map fun (f : Nat) => Value.int .i64 f) ∧ Below w.heap.size w w' := by
  obtain ⟨i3, hi3, hz03, hz13, hz23⟩ := info_parts info3
  have hm := make38 F hF
  have hq : ((w.alloc (.cells #[.int .i64 F, .int .i64 G, .slice A n c] 43)).alloc (.cells (madeCells #[.int .i64 0] F) 3)).heap[w.heap.size]? = some (.cells #[.int .i64 F, .int .i64 G, .slice A n c] 43 (0, 0)) := (Below.heap_alloc _ _ _ (by simp)).trans (heap_alloc_new w _)
  have hr : IntRow ((w.alloc (.cells #[.int .i64 F, .int .i64 G, .slice A n c] 43)).alloc (.cells (madeCells #[.int .i64 0] F) 3)) (w.heap.size + 1) F (fun _ => 0) := by
    have := IntRow.made (w := w.alloc (.cells #[.int .i64 F, .int .i64 G, .slice A n c] 43)) F
    rw [World.size_alloc] at this
    exact this
  have hB : Below w.heap.size w ((w.alloc (.cells #[.int .i64 F, .int .i64 G, .slice A n c] 43)).alloc (.cells (madeCells #[.int .i64 0] F) 3)) := ((Below.refl _ w).alloc (Nat.le_refl _) _).alloc (by simp) _
  have HQ := Lib.hid hq
  have HR := Lib.hid hr
  have HB := Lib.hid hB
  have HL := Lib.hid h
  clear hq hr hB h
  go_enter Try.func19, Try.ntmps19
  go_wp2_with fail
  generalize (w.alloc (.cells #[.int .i64 F, .int .i64 G, .slice A n c] 43)).alloc (.cells (madeCells #[.int .i64 0] F) 3) = w1 at *
  clear hm
  go_loopw [6] (fun i wr => ∃ j : Nat, j ≤ F ∧ i = .int .i64 j ∧ Hid (wr.heap[w.heap.size]? = some (.cells #[.int .i64 F, .int .i64 G, .slice A n c] 43 (0, 0))) ∧ Hid (IntRow wr (w.heap.size + 1) F (fun i => if i < j then heatL L i else 0)) ∧ Hid (Below w.heap.size w wr)) (fun i _ => F - (intOf i).toNat)
  case atStart => exact ⟨0, by omega, rfl, HQ, by simpa using HR, HB⟩
  case round =>
    clear HQ HR HB
    obtain ⟨j, hj, rfl, HQ, HR, HB⟩ := hrel
    obtain ⟨cc0, cc1, cc2, fr, ltq⟩ := blk3 HQ.out
    have ltr := HR.out.lt
    clear fr
    by_cases hlt : j < F
    · have hw := rheat_any (j : Int) F G A n c L wr B (HL.out.below HB.out) hn
      have HW := Lib.hid hw
      clear hw
      go_wp2_with fail
      refine HW.out.mono ?_
      rintro e w2 ⟨rfl, hB2⟩
      have hQ2 := (hB2.block _ ltq).trans HQ.out
      have hR2 := HR.out.block (hB2.block _ ltr)
      have hB3 := below_next HB.out HB.out.size hB2
      have c3 := hR2.cell hlt
      have f3 := hR2.free j
      have hs := hR2.set_ hlt (heatL L j)
      have hs2 := hs.congr (h' := fun i => if i < j + 1 then heatL L i else 0) (fun i hi => by
        by_cases e : i = j
        · subst e; simp
        · by_cases e2 : i < j
          · rw [if_neg e, if_pos e2, if_pos (by omega)]
          · rw [if_neg e, if_neg e2, if_neg (by omega)])
      have hQ3 := (Below.heap_setCell w2 ⟨w.heap.size + 1, j, none⟩ (.int .i64 (heatL L j)) w.heap.size (by simp)).trans hQ2
      have hB4 := hB3.setCell (p := ⟨w.heap.size + 1, j, none⟩) (by simp) (.int .i64 (heatL L j))
      have H1 := Lib.hid hQ3
      have H2 := Lib.hid hs2
      have H3 := Lib.hid hB4
      rw [if_neg (by omega)] at c3
      clear hQ2 hR2 hB3 hs hs2 hQ3 hB4 hB2 cc0 cc1 cc2 HQ HR HB HW
      go_wp2_with fail
      go_roundw
      case rel => exact ⟨j + 1, by omega, by go_num, H1, H2, H3⟩
      case measure => simp [intOf]; omega
    · have hR0 := HR.out.congr (h' := left (fun f => heatL L f) []) (fun i hi => by rw [if_pos (by omega)]; rfl)
      have HR0 := Lib.hid hR0
      clear hR0 HR
      go_wp2_with fail
      have hbase : w.heap.size + 2 ≤ wr.heap.size := by omega
      clear cc0 cc1 cc2 ltq ltr
      go_loopw [7] (fun v wr => ∃ l : List Nat, Taken (fun f => heatL L f) F least l ∧ wr.ownsRow (w.heap.size + 2) 3 1 v l.length (l.map fun (f : Nat) => Value.int .i64 f) ∧ sliceLen v = l.length ∧ w.heap.size + 2 ≤ wr.heap.size ∧ Hid (wr.heap[w.heap.size]? = some (.cells #[.int .i64 F, .int .i64 G, .slice A n c] 43 (0, 0))) ∧ Hid (IntRow wr (w.heap.size + 1) F (left (fun f => heatL L f) l)) ∧ Hid (Below w.heap.size w wr)) (fun v _ => F - sliceLen v)
      case atStart => exact ⟨[], Taken.nil _ _ _, World.ownsRow_nil _ _ _ _, rfl, hbase, HQ, HR0, HB⟩
      case round =>
        clear HQ HR0 HB hbase
        obtain ⟨l, hT, hown, hsl, hbase, HQ, HR, HB⟩ := hrel
        have HT := Lib.hid hT
        have HO := Lib.hid hown
        have HSL := Lib.hid hsl
        have hlen := hT.len
        clear hT hown hsl
        obtain ⟨w0, hw0⟩ : ∃ w0, w0 = wr := ⟨_, rfl⟩
        subst hw0
        obtain ⟨cc0, cc1, cc2, fr, ltq⟩ := blk3 HQ.out
        clear fr
        go_wp2_with fail
        generalize hlf : left (fun f => heatL L f) l = lf at *
        have HLF := Lib.hid hlf
        clear hlf
        go_loopw [8, 9] (fun bst i wx => ∃ j q : Nat, j ≤ F ∧ i = .int .i64 j ∧ wx = w0.drewN q ∧ ((bst = .int .i64 (-1) ∧ Hid (NoBest lf least j)) ∨ ∃ b : Nat, bst = .int .i64 b ∧ Hid (IsBest lf least j b))) (fun _ i _ => F - (intOf i).toNat)
        case atStart => exact ⟨0, 0, by omega, rfl, rfl, .inl ⟨rfl, NoBest.zero _ _⟩⟩
        case round =>
          obtain ⟨j, q, hj, rfl, rfl, hbest⟩ := hrel
          by_cases hlt : j < F
          · have c3 := HR.out.cell hlt
            rcases hbest with ⟨rfl, HN⟩ | ⟨b, rfl, HN⟩
            · by_cases h1 : 0 < lf j
              · by_cases h2 : least ≤ lf j
                · have HN2 := Lib.hid (HN.out.take ⟨h1, h2⟩)
                  generalize lf j = m at *
                  have k1 : decide (0 < m) = true := by simpa using h1
                  have k2 : decide (least ≤ m) = true := by simpa using h2
                  go_wp2_with fail
                  go_quiet (fail)
                  go_wp2_with fail
                  go_roundw
                  case rel => exact ⟨j + 1, q + nq, by omega, by go_num, rfl, .inr ⟨j, rfl, HN2⟩⟩
                  case measure => simp [intOf]; omega
                · have HN2 := Lib.hid (HN.out.skip (fun k => h2 k.2))
                  generalize lf j = m at *
                  have k1 : decide (0 < m) = true := by simpa using h1
                  have k2 : decide (least ≤ m) = false := by simpa using h2
                  go_wp2_with fail
                  go_quiet (fail)
                  go_wp2_with fail
                  go_roundw
                  case rel => exact ⟨j + 1, q + nq, by omega, by go_num, rfl, .inl ⟨rfl, HN2⟩⟩
                  case measure => simp [intOf]; omega
              · have HN2 := Lib.hid (HN.out.skip (fun k => h1 k.1))
                generalize lf j = m at *
                have k1 : decide (0 < m) = false := by simpa using h1
                go_wp2_with fail
                go_quiet (fail)
                go_wp2_with fail
                go_roundw
                case rel => exact ⟨j + 1, q + nq, by omega, by go_num, rfl, .inl ⟨rfl, HN2⟩⟩
                case measure => simp [intOf]; omega
            · have hbj := HN.out.1
              have c4 := HR.out.cell (show b < F by omega)
              have q1 : (0 : Int) ≤ (b : Int) := by omega
              have q2 : (b : Int) < (F : Int) := by omega
              by_cases h1 : 0 < lf j
              · by_cases h2 : least ≤ lf j
                · by_cases h3 : lf b < lf j
                  · have HN2 := Lib.hid (HN.out.take ⟨h1, h2⟩ h3)
                    generalize lf j = m at *
                    generalize lf b = mb at *
                    have k1 : decide (0 < m) = true := by simpa using h1
                    have k2 : decide (least ≤ m) = true := by simpa using h2
                    have k3 : decide (mb < m) = true := by simpa using h3
                    go_wp2_with fail
                    go_quiet (fail)
                    go_wp2_with fail
                    go_roundw
                    case rel => exact ⟨j + 1, q + nq, by omega, by go_num, rfl, .inr ⟨j, rfl, HN2⟩⟩
                    case measure => simp [intOf]; omega
                  · have HN2 := Lib.hid (HN.out.skip (fun k => h3 k.2))
                    generalize lf j = m at *
                    generalize lf b = mb at *
                    have k1 : decide (0 < m) = true := by simpa using h1
                    have k2 : decide (least ≤ m) = true := by simpa using h2
                    have k3 : decide (mb < m) = false := by simpa using h3
                    go_wp2_with fail
                    go_quiet (fail)
                    go_wp2_with fail
                    go_roundw
                    case rel => exact ⟨j + 1, q + nq, by omega, by go_num, rfl, .inr ⟨b, rfl, HN2⟩⟩
                    case measure => simp [intOf]; omega
                · have HN2 := Lib.hid (HN.out.skip (fun k => h2 k.1.2))
                  clear c4
                  generalize lf j = m at *
                  have k1 : decide (0 < m) = true := by simpa using h1
                  have k2 : decide (least ≤ m) = false := by simpa using h2
                  go_wp2_with fail
                  go_quiet (fail)
                  go_wp2_with fail
                  go_roundw
                  case rel => exact ⟨j + 1, q + nq, by omega, by go_num, rfl, .inr ⟨b, rfl, HN2⟩⟩
                  case measure => simp [intOf]; omega
              · have HN2 := Lib.hid (HN.out.skip (fun k => h1 k.1.1))
                clear c4
                generalize lf j = m at *
                have k1 : decide (0 < m) = false := by simpa using h1
                go_wp2_with fail
                go_quiet (fail)
                go_wp2_with fail
                go_roundw
                case rel => exact ⟨j + 1, q + nq, by omega, by go_num, rfl, .inr ⟨b, rfl, HN2⟩⟩
                case measure => simp [intOf]; omega
          · obtain rfl : j = F := by omega
            have hB5 : Below w.heap.size w (w0.drewN q) := below_drewN HB.out q
            rcases hbest with ⟨rfl, HN⟩ | ⟨b, rfl, HN⟩
            · go_wp2_with fail
              go_ret
              refine ⟨_, l, rfl, ?_, ?_, hB5⟩
              · have hn := HN.out
                rw [← HLF.out] at hn
                exact HT.out.done hn
              · exact HO.out.mono (by omega)
            · have hst := HT.out.step (b := b) (by rw [HLF.out]; exact HN.out)
              have hbF := HN.out.1
              obtain ⟨_, hT2, hlf2⟩ := hst
              rw [HLF.out] at hlf2
              have hO2 := HO.out
              have hcap : l.length ≤ 1024 := by omega
              have hcell := cell_one_new (w0.drewN q) (.int .i64 b) 3
              have hB6 := hB5.alloc hB5.size (.cells #[.int .i64 b] 3)
              have HC := Lib.hid hcell
              have HB6 := Lib.hid hB6
              have HT2 := Lib.hid hT2
              have HLF2 := Lib.hid hlf2
              have hO3 : (w0.drewN q).ownsRow (w.heap.size + 2) 3 1 _ l.length (l.map fun (f : Nat) => Value.int .i64 f) := hO2
              have q1 : (0 : Int) ≤ (b : Int) := by omega
              have q2 : (b : Int) < (j : Int) := by omega
              have hcc3 := HR.out.cell hbF
              have hff3 := HR.out.free b
              have hQd : (w0.drewN q).heap[w.heap.size]? = some (.cells #[.int .i64 j, .int .i64 G, .slice A n c] 43 (0, 0)) := HQ.out
              have hRd : IntRow (w0.drewN q) (w.heap.size + 1) j lf := HR.out.block rfl
              have hbase' : w.heap.size + 2 ≤ (w0.drewN q).heap.size := hbase
              have ltr := hRd.lt
              have HQd := Lib.hid hQd
              have HRd := Lib.hid hRd
              generalize w0.drewN q = w5 at *
              clear hcell hB6 hT2 hlf2 hO2 hB5 hcc3 hff3 HQ HR HB HO HT HLF hQd hRd cc0 cc1 cc2
              obtain ⟨cc0', _, _, _, _⟩ := blk3 HQd.out
              go_wp2_with (
                at_builtin
                refine wpList_append_own _ rfl _ _ 38 rfl (w.heap.size + 2) 3 i3 _ 1 8 Try.underlying38 hi3 hz03 hz13 hz23 rfl (by decide) _ _ _ rfl (hO3.alloc _) ⟨w5.heap.size, 0, none⟩ 1 1 [.int .i64 b] rfl rfl HC.out (by simp [Value.oneCell']) (by unfold maxLen; omega) (by omega) (by simp; omega) ?_
                intro v' w6 hown6 hg6 _
                have hO4 := hO3.alloc (.cells #[.int .i64 b] 3)
                have hltO := hO4.lt
                have hR6 := HRd.out.block ((hg6.block (w.heap.size + 1) (by simp; omega) (fun e => by have := (hltO _ e.symm).1; omega)).trans (Below.heap_alloc w5 _ _ ltr))
                have hQ6 := (hg6.block w.heap.size (by simp; omega) (fun e => by have := (hltO _ e.symm).1; omega)).trans ((Below.heap_alloc w5 _ _ (by omega)).trans HQd.out)
                have hB7 := HB6.out.grown hg6 (by simp; omega) (fun g e => by have := (hltO g e).1; omega)
                have c6 := hR6.cell hbF
                have f6 := hR6.free b
                have hs6 := hg6.size
                have H6 := Lib.hid hR6
                have HQ6 := Lib.hid hQ6
                have HB7 := Lib.hid hB7
                have HO6 := Lib.hid hown6
                clear hO4 hltO hR6 hQ6 hB7 hown6 hg6)
              have hR6 := H6.out
              have hQ6 := HQ6.out
              have hB7 := HB7.out
              have hown6 := HO6.out
              have hR7 := (hR6.set_ hbF 0).congr (h' := left (fun f => heatL L f) (l ++ [b])) (fun i hi => by rw [HLF2.out])
              have hQ7 := (Below.heap_setCell w6 ⟨w.heap.size + 1, b, none⟩ (.int .i64 0) w.heap.size (by simp)).trans hQ6
              have hB8 := hB7.setCell (p := ⟨w.heap.size + 1, b, none⟩) (by simp) (.int .i64 0)
              have hO7 := own_set hown6 ⟨w.heap.size + 1, b, none⟩ (.int .i64 0) (by simp)
              obtain ⟨A7, c7, hv7⟩ := own_slice hown6
              have hlT := HT2.out.len
              simp only [List.length_append, List.length_cons, List.length_nil] at hlT
              have hsl := HSL.out
              have hv8 : sliceLen v' = l.length + 1 := by rw [hv7]; rfl
              clear hv7
              go_wp2_with fail
              go_roundw
              case rel => exact ⟨l ++ [b], HT2.out, by rw [List.length_append, List.map_append]; exact hO7, by rw [hv8]; simp, by simp at hs6 ⊢; omega, hQ7, hR7, hB8⟩
              case measure => omega
end Go.Proofs.Ytmcejkimpjfmmaa
