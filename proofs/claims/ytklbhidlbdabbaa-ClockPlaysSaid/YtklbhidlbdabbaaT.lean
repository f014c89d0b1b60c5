/- The reference's Wake. -/
import Derived.Test.YtklbhidlbdabbaaS
set_option linter.unusedVariables false
set_option linter.unusedSimpArgs false
namespace Go.Proofs.Ytklbhidlbdabbaa
open Go.RowKit Go.Lib Go.Maps Go.Sort
attribute [local go_sem ↓] Go.wp_at_zero Go.wp_at_succ

theorem map_erase {α β : Type} (g : α → β) (l : List α) (j : Nat) : (l.eraseIdx j).map g = (l.map g).eraseIdx j := by
  rw [List.eraseIdx_eq_take_drop_succ, List.eraseIdx_eq_take_drop_succ, List.map_append, List.map_take, List.map_drop]
def RWake (W : Nat) (w' : World) (B : Nat) (e : Ending) (now : Int) (f : Int → Option Int) (t : Int) (n : Nat) : Prop :=
  ∃ A n' c A' c' ps, e = .returned (rc now A n' c A' c') ∧ RC w' B A n' c A' c' ps ∧ Rep (upd f t none) ps ∧ n' ≤ n ∧ ((f t).isSome = true → n' + 1 = n ∧ ∀ b o, (A = some ⟨b, o, none⟩ ∨ A' = some ⟨b, o, none⟩) → W ≤ b)

set_option maxRecDepth 100000 in
set_option maxHeartbeats 2000000 in
theorem rwake_any (t now : Int) (A : Option Addr) (n c : Nat) (A' : Option Addr) (c' : Nat) (w : World) (B : Nat) (ps : List (Int × Int)) (f) (hBw : B ≤ w.heap.size) (h : RC w B A n c A' c' ps) (hf : Rep f ps) (hn : n ≤ 100) :
    Calls Try.prog 20 #[rc now A n c A' c', .int .i64 t] w fun e w' => RWake w.heap.size w' B e now f t n ∧ Below w.heap.size w w' := by
  have hB : Below w.heap.size w ((w.alloc (.cells #[.int .i64 now, .slice A n c, .slice A' n c'] 39)).alloc (.cells #[.int .i64 0, .slice none 0 0, .slice none 0 0] 39)) := ((Below.refl _ w).alloc (Nat.le_refl _) _).alloc (by simp) _
  have hq : ((w.alloc (.cells #[.int .i64 now, .slice A n c, .slice A' n c'] 39)).alloc (.cells #[.int .i64 0, .slice none 0 0, .slice none 0 0] 39)).heap[w.heap.size]? = some (.cells #[.int .i64 now, .slice A n c, .slice A' n c'] 39 (0, 0)) :=
    (Below.heap_alloc (w.alloc _) _ w.heap.size (by simp)).trans (heap_alloc_new w _)
  have hr : ((w.alloc (.cells #[.int .i64 now, .slice A n c, .slice A' n c'] 39)).alloc (.cells #[.int .i64 0, .slice none 0 0, .slice none 0 0] 39)).heap[w.heap.size + 1]? = some (.cells #[.int .i64 0, .slice none 0 0, .slice none 0 0] 39 (0, 0)) := by
    have := heap_alloc_new (w.alloc (.cells #[.int .i64 now, .slice A n c, .slice A' n c'] 39)) (.cells #[.int .i64 0, .slice none 0 0, .slice none 0 0] 39)
    simpa using this
  have hs : w.heap.size + 1 < ((w.alloc (.cells #[.int .i64 now, .slice A n c, .slice A' n c'] 39)).alloc (.cells #[.int .i64 0, .slice none 0 0, .slice none 0 0] 39)).heap.size := by simp
  have hp := place_any now A n c A' n c' (ps.map Prod.fst) t _ B (h.ts.below hB) (by omega)
  have HP := Lib.hid hp
  have HB := Lib.hid hB
  have HQ := Lib.hid hq
  have HQr := Lib.hid hr
  clear hB hp hq hr
  go_enter Try.func20, Try.ntmps20
  go_wp2_with fail
  generalize (w.alloc (.cells #[.int .i64 now, .slice A n c, .slice A' n c'] 39)).alloc (.cells #[.int .i64 0, .slice none 0 0, .slice none 0 0] 39) = w1 at *
  refine HP.out.mono ?_
  rintro e w2 ⟨hB2, hor⟩
  have HB2 := Lib.hid (below_next HB.out HB.out.size hB2)
  have HQ2 := Lib.hid ((hB2.block _ (by omega)).trans HQ.out)
  have HQr2 := Lib.hid ((hB2.block _ hs).trans HQr.out)
  clear HP HB HQ HQr hB2 hs
  generalize hqq : w.heap.size = q at HQ2 HQr2 ⊢
  obtain ⟨cc0, cc1, cc2, fr, lt⟩ := blk3 HQ2.out
  obtain ⟨rr0, rr1, rr2, frr, ltr⟩ := blk3 HQr2.out
  have fr1 := fr 1
  have frr0 := frr 0
  have frr1 := frr 1
  have frr2 := frr 2
  have n0 := World.new_ne w2 _ cc0
  have hcap := h.cap
  have hcap' := h.cap'
  rcases hor with ⟨rfl, ht⟩ | ⟨j, rfl, ht⟩
  · go_wp2_with fail
    refine bodyPost_ret (v := rc now A n c A' c') (by simp [results, Try.results20, go_sem, World.cell?_setCell_far, rr0, rr1, rr2]) rfl ⟨⟨_, _, _, _, _, ps, rfl, ?_, ?_, Nat.le_refl _, fun e => by rw [hf.none_ ht] at e; cases e⟩, ?_⟩
    · exact h.below (((HB2.out.setCell (p := ⟨q + 1, 0, none⟩) (by simp; omega) _).setCell (p := ⟨q + 1, 1, none⟩) (by simp; omega) _).setCell (p := ⟨q + 1, 2, none⟩) (by simp; omega) _)
    · exact hf.gone (hf.none_ ht)
    · exact ((HB2.out.setCell (p := ⟨q + 1, 0, none⟩) (by simp; omega) _).setCell (p := ⟨q + 1, 1, none⟩) (by simp; omega) _).setCell (p := ⟨q + 1, 2, none⟩) (by simp; omega) _
  · rw [List.getElem?_map, Option.map_eq_some_iff] at ht
    obtain ⟨p, hp, rfl⟩ := ht
    have hj : j < n := by rw [← h.len]; exact (List.getElem?_eq_some_iff.1 hp).1
    have hj0 : (0 : Int) ≤ (j : Int) := by omega
    have hj1 : (j : Int) ≤ (c : Int) := by omega
    have hj2 : (j : Int) + 1 ≤ (n : Int) := by omega
    have hj6 : (0 : Int) ≤ (j : Int) + 1 := by omega
    have hj3 : (j : Int) + 1 ≤ (c : Int) := by omega
    have hj4 : (j : Int) ≤ (c' : Int) := by omega
    have hj5 : (j : Int) + 1 ≤ (c' : Int) := by omega

    have hw : IntKind.i64.wrap ((j : Int) + 1) = (j : Int) + 1 := IntWalk.i64_in _ (by omega)
    have hT : RS w2 B A n (ps.map Prod.fst) := h.ts.below HB2.out
    obtain ⟨b, o, rfl, _, _, _⟩ := h.ts.2 (by omega)
    obtain ⟨b', o', rfl, _, _, _⟩ := h.us.2 (by omega)
    have HF := Lib.hid fr
    have HFr := Lib.hid frr
    clear fr frr
    go_wp2_with fail
    go_cut [] from 11 to 37 (fun wx => ∃ w7 A4 c4, wx = w7.setCell ⟨q, 1, none⟩ (.slice A4 (n - 1) c4) ∧ Below w2.heap.size w2 w7 ∧ w7.ownsRow w2.heap.size 3 1 (.slice A4 (n - 1) c4) (n - 1) (((ps.map Prod.fst).eraseIdx j).map (Value.int .i64)))
    case first =>
      go_region_law (first
        | ((
            refine step_app rfl (.tmp 11) (.tmp 15) (by rfl) w2.heap.size (.slice (some ⟨_, 0, none⟩) 0 0) 0 [] (by rfl) ?_ B (some ⟨b, o, none⟩) j _ ((ps.map Prod.fst).take j) (by rfl) ?_ (by omega) (by simp <;> omega) ?_
            · first | exact (own_empty _ _ (by simp)).drew
            · first | exact (hT.below (below_alloc (w := w2) (.cells #[] 3)).drew).take j (by omega)
            intro v3 w6 hown3 hg3 hat3
            (
              have b6 : Below w2.heap.size w2 w6 := by
                refine app_fresh ?_ ?_ hg3 ?_
                · first | exact ((Below.refl _ w2).alloc (Nat.le_refl _) _).drew
                · simp <;> omega
                · simp)
            (
              obtain ⟨x0, x1, x2, xf, _⟩ := blk3 ((b6.block q lt).trans HQ2.out)
              have y0 := World.new_ne w6 _ x0)
            simp only [Nat.zero_add, List.nil_append] at hown3))
        | ((
            (
              first | refine step_app rfl (.tmp 16) (.tmp 21) (by rfl) w2.heap.size v3 j ((ps.map Prod.fst).take j) (by rfl) hown3 B _ (n - (j + 1)) (c - (j + 1)) ((ps.map Prod.fst).drop (j + 1)) (by rfl) ?_ (by omega) b6.size ?_
              · (first | exact ((hT.kept b6.size (fun b1 _ hl => b6.block b1 hl))).drop (j + 1) (by omega) (fun b1 o1 hl e => by injection e with e; injection e with e1 e2; subst e1; subst e2; rw [if_neg (by omega)])))
            intro v4 w7 hown4 hg4 hat4
            have b7 := app_below b6 b6.size hown3 hg4
            clear x0 x1 x2 xf y0
            obtain ⟨x0, x1, x2, xf, _⟩ := blk3 ((b7.block q lt).trans HQ2.out)
            have xf1 := xf 1
            have hjn : j + (n - (j + 1)) = n - 1 := by omega
            rw [← List.eraseIdx_eq_take_drop_succ, hjn] at hown4
            obtain ⟨A4, c4, rfl⟩ := own_slice hown4)))
      all_goals (generalize (if c = j + 1 then some (⟨b, o, none⟩ : Addr) else some ⟨b, o + (j + 1), none⟩) = X; go_wp2_with fail; go_meet; exact ⟨_, _, _, rfl, b7, hown4⟩)
    case rest =>
      obtain ⟨w7, A2, c2, rfl, b7, hown4⟩ := hcut
      have hcap2 := own_cap hown4
      have hbA2 : ∀ b1 o1, A2 = some ⟨b1, o1, none⟩ → w.heap.size ≤ b1 := fun b1 o1 e => by have := (own_base hown4 e).1; omega
      have h5q : (w7.setCell ⟨q, 1, none⟩ (.slice A2 (n - 1) c2)).heap[q]? = some (.cells #[.int .i64 now, .slice A2 (n - 1) c2, .slice (some ⟨b', o', none⟩) n c'] 39 (0, 0)) := blk3_set1 ((b7.block q lt).trans HQ2.out) _
      have h5r : (w7.setCell ⟨q, 1, none⟩ (.slice A2 (n - 1) c2)).heap[q + 1]? = some (.cells #[.int .i64 0, .slice none 0 0, .slice none 0 0] 39 (0, 0)) := (Below.heap_setCell _ _ _ _ (by simp)).trans ((b7.block _ ltr).trans HQr2.out)
      have h5b := (below_next HB2.out HB2.out.size b7).setCell (p := ⟨q, 1, none⟩) (by simp; omega) (.slice A2 (n - 1) c2)
      have h5s := (RS.own hown4).setCell ⟨q, 1, none⟩ (.slice A2 (n - 1) c2) (by simpa using lt)
      have hBs5 : w2.heap.size ≤ (w7.setCell ⟨q, 1, none⟩ (.slice A2 (n - 1) c2)).heap.size := by simpa using b7.size
      have hBs : B ≤ w2.heap.size := by omega
      clear hT b7 hown4 HQ2 HQr2 HB2 cc0 cc1 cc2 rr0 rr1 rr2 frr0 frr1 frr2 fr1 n0 HF HFr
      generalize w7.setCell ⟨q, 1, none⟩ (.slice A2 (n - 1) c2) = w5 at *
      obtain ⟨cc0, cc1, cc2, fr, lt5q⟩ := blk3 h5q
      obtain ⟨rr0, rr1, rr2, frr, lt5r⟩ := blk3 h5r
      have fr2 := fr 2
      have n0 := World.new_ne w5 _ cc0
      have hU : RS w5 B (some ⟨b', o', none⟩) n (ps.map Prod.snd) := h.us.below h5b
      have HS := Lib.hid h5s
      have HB := Lib.hid h5b
      have H5q := Lib.hid h5q
      have H5r := Lib.hid h5r
      clear h5s h5b h5q h5r fr frr
      go_wp2_with fail
      go_cut [] from 24 to 37 (fun wx => ∃ w7 A4 c4, wx = w7.setCell ⟨q, 2, none⟩ (.slice A4 (n - 1) c4) ∧ Below w5.heap.size w5 w7 ∧ w7.ownsRow w5.heap.size 3 1 (.slice A4 (n - 1) c4) (n - 1) (((ps.map Prod.snd).eraseIdx j).map (Value.int .i64)))
      case first =>
        go_region_law (first
          | ((
              refine step_app rfl (.tmp 24) (.tmp 28) (by rfl) w5.heap.size (.slice (some ⟨_, 0, none⟩) 0 0) 0 [] (by rfl) ?_ B (some ⟨b', o', none⟩) j _ ((ps.map Prod.snd).take j) (by rfl) ?_ (by omega) (by simp <;> omega) ?_
              · first | exact (own_empty _ _ (by simp)).drew
              · first | exact (hU.below (below_alloc (w := w5) (.cells #[] 3)).drew).take j (by omega)
              intro v3 w6 hown3 hg3 hat3
              (
                have b6 : Below w5.heap.size w5 w6 := by
                  refine app_fresh ?_ ?_ hg3 ?_
                  · first | exact ((Below.refl _ w5).alloc (Nat.le_refl _) _).drew
                  · simp <;> omega
                  · simp)
              (
                obtain ⟨x0, x1, x2, xf, _⟩ := blk3 ((b6.block q lt5q).trans H5q.out)
                have y0 := World.new_ne w6 _ x0)
              simp only [Nat.zero_add, List.nil_append] at hown3))
          | ((
              (
                first | refine step_app rfl (.tmp 29) (.tmp 34) (by rfl) w5.heap.size v3 j ((ps.map Prod.snd).take j) (by rfl) hown3 B _ (n - (j + 1)) (c' - (j + 1)) ((ps.map Prod.snd).drop (j + 1)) (by rfl) ?_ (by omega) b6.size ?_
                · (first | exact ((hU.kept b6.size (fun b1 _ hl => b6.block b1 hl))).drop (j + 1) (by omega) (fun b1 o1 hl e => by injection e with e; injection e with e1 e2; subst e1; subst e2; rw [if_neg (by omega)])))
              intro v4 w7 hown4 hg4 hat4
              have b7 := app_below b6 b6.size hown3 hg4
              clear x0 x1 x2 xf y0
              obtain ⟨x0, x1, x2, xf, _⟩ := blk3 ((b7.block q lt5q).trans H5q.out)
              have xf2 := xf 2
              have hjn : j + (n - (j + 1)) = n - 1 := by omega
              rw [← List.eraseIdx_eq_take_drop_succ, hjn] at hown4
              obtain ⟨A4, c4, rfl⟩ := own_slice hown4)))
        all_goals (generalize (if c' = j + 1 then some (⟨b', o', none⟩ : Addr) else some ⟨b', o' + (j + 1), none⟩) = X; go_wp2_with fail; go_meet; exact ⟨_, _, _, rfl, b7, hown4⟩)
      case rest =>
        obtain ⟨w7, A4, c4, rfl, b7, hown4⟩ := hcut
        have hcap4 := own_cap hown4
        have hbA4 : ∀ b1 o1, A4 = some ⟨b1, o1, none⟩ → w.heap.size ≤ b1 := fun b1 o1 e => by have := (own_base hown4 e).1; omega
        have g7q := blk3_set2 ((b7.block q lt5q).trans H5q.out) (.slice A4 (n - 1) c4)
        have g7r : (w7.setCell ⟨q, 2, none⟩ (.slice A4 (n - 1) c4)).heap[q + 1]? = some (.cells #[.int .i64 0, .slice none 0 0, .slice none 0 0] 39 (0, 0)) := (Below.heap_setCell _ _ _ _ (by simp)).trans ((b7.block _ lt5r).trans H5r.out)
        have g7b := (below_next HB.out HB.out.size b7).setCell (p := ⟨q, 2, none⟩) (by simp; omega) (.slice A4 (n - 1) c4)
        have hS2 : RS (w7.setCell ⟨q, 2, none⟩ (.slice A4 (n - 1) c4)) w2.heap.size A2 (n - 1) ((ps.map Prod.fst).eraseIdx j) := (HS.out.below b7).setCell ⟨q, 2, none⟩ _ lt
        have hS4 : RS (w7.setCell ⟨q, 2, none⟩ (.slice A4 (n - 1) c4)) w2.heap.size A4 (n - 1) ((ps.map Prod.snd).eraseIdx j) := ((RS.own hown4).setCell ⟨q, 2, none⟩ _ lt5q).mono hBs5
        clear cc0 cc1 cc2 rr0 rr1 rr2 n0 hU HS HB H5q H5r b7 hown4 fr2
        have HS2 := Lib.hid hS2
        have HS4 := Lib.hid hS4
        have HB := Lib.hid g7b
        clear hS2 hS4 g7b
        generalize w7.setCell ⟨q, 2, none⟩ (.slice A4 (n - 1) c4) = w8 at *
        obtain ⟨cc0, cc1, cc2, fr, _⟩ := blk3 g7q
        obtain ⟨rr0, rr1, rr2, frr, _⟩ := blk3 g7r
        have frr0 := frr 0
        have frr1 := frr 1
        have frr2 := frr 2
        clear g7q fr frr g7r
        go_wp2_with fail
        refine bodyPost_ret (v := rc now A2 (n - 1) c2 A4 c4) (by simp [results, Try.results20, go_sem, World.cell?_setCell_far, rr0, rr1, rr2]) rfl ⟨⟨_, _, _, _, _, ps.eraseIdx j, rfl, ⟨?_, ?_, hcap2, hcap4⟩, hf.erase hp, by omega, fun _ => ⟨by omega, fun b1 o1 he => by rcases he with he | he; exact hbA2 b1 o1 he; exact hbA4 b1 o1 he⟩⟩, ?_⟩
        · rw [map_erase]
          exact (((HS2.out.setCell ⟨q + 1, 0, none⟩ _ ltr).setCell ⟨q + 1, 1, none⟩ _ ltr).setCell ⟨q + 1, 2, none⟩ _ ltr).mono (by omega)
        · rw [map_erase]
          exact (((HS4.out.setCell ⟨q + 1, 0, none⟩ _ ltr).setCell ⟨q + 1, 1, none⟩ _ ltr).setCell ⟨q + 1, 2, none⟩ _ ltr).mono (by omega)
        · exact ((HB.out.setCell (p := ⟨q + 1, 0, none⟩) (by simp; omega) _).setCell (p := ⟨q + 1, 1, none⟩) (by simp; omega) _).setCell (p := ⟨q + 1, 2, none⟩) (by simp; omega) _
end Go.Proofs.Ytklbhidlbdabbaa
