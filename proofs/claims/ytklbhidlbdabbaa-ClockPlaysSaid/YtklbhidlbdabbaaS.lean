/- The reference's Sleep, Wake. -/
import Derived.Test.YtklbhidlbdabbaaR
import Derived.Deep.Cut
import Derived.Deep.CutRange
import Derived.Deep.RegionLaw
set_option linter.unusedVariables false
set_option linter.unusedSimpArgs false
namespace Go.Proofs.Ytklbhidlbdabbaa
open Go.RowKit Go.Lib Go.Maps Go.Sort
attribute [local go_sem ↓] Go.wp_at_zero Go.wp_at_succ

theorem blk3 {w : World} {b : Nat} {v0 v1 v2 : Value} {t : TypeId} (h : w.heap[b]? = some (.cells #[v0, v1, v2] t (0, 0))) :
    w.cell? ⟨b, 0, none⟩ = some v0 ∧ w.cell? ⟨b, 1, none⟩ = some v1 ∧ w.cell? ⟨b, 2, none⟩ = some v2 ∧ (∀ i, w.frozen? ⟨b, i, none⟩ = false) ∧ b < w.heap.size :=
  ⟨by simp [World.cell?, h], by simp [World.cell?, h], by simp [World.cell?, h], fun i => by simp [World.frozen?, h], (Array.getElem?_eq_some_iff.1 h).1⟩

theorem blk3_set1 {w : World} {b : Nat} {v0 v1 v2 : Value} {t : TypeId} (h : w.heap[b]? = some (.cells #[v0, v1, v2] t (0, 0))) (u : Value) :
    (w.setCell ⟨b, 1, none⟩ u).heap[b]? = some (.cells #[v0, u, v2] t (0, 0)) := by simp [World.setCell, Array.getElem?_modify, h]
theorem blk3_set2 {w : World} {b : Nat} {v0 v1 v2 : Value} {t : TypeId} (h : w.heap[b]? = some (.cells #[v0, v1, v2] t (0, 0))) (u : Value) :
    (w.setCell ⟨b, 2, none⟩ u).heap[b]? = some (.cells #[v0, v1, u] t (0, 0)) := by simp [World.setCell, Array.getElem?_modify, h]

/-- What the reference's Sleep hands back: the pairs behind it. -/
def RSleep (w w' : World) (B : Nat) (e : Ending) (now : Int) (f : Int → Option Int) (t a : Int) : Prop :=
  ∃ A n c A' c' ps u e0 f', e = .returned (.tuple #[rc now A n c A' c', .int .i64 u, .int .i64 e0]) ∧ SleepM now f t a u e0 f' ∧ RC w' B A n c A' c' ps ∧ Rep f' ps

theorem app_below {base n : Nat} {w w1 w2 : World} {v : Value} {xs : List Value} (h : Below base w w1) (hB : base ≤ w1.heap.size) (ho : w1.ownsRow base 3 1 v n xs) (hg : w1.grownBy w2 v.ownBlock) : Below base w w2 := h.grown hg hB (fun k hk => (ho.lt k hk).1)
theorem own_cap {w : World} {base n c : Nat} {e : TypeId} {size : Nat} {A : Option Addr} {xs : List Value} (h : w.ownsRow base e size (.slice A n c) n xs) : n ≤ c := by
  rcases h.2 with ⟨h1, h2⟩ | ⟨g, cap, cur, h1, hb, hh, hc, _⟩
  · omega
  · cases h1; exact hc
theorem app_fresh {base g n c : Nat} {w w1 w2 : World} (h : Below base w w1) (hB : base ≤ w1.heap.size) (hg : w1.grownBy w2 (Value.slice (some ⟨g, 0, none⟩) n c).ownBlock) (hb : base ≤ g) : Below base w w2 :=
  h.grown hg hB (fun k hk => by simp [Value.ownBlock] at hk; omega)
theorem RS.lit_grown {W w' : World} {g L base : Nat} {x : Int} (h : RS W base (some ⟨L, 0, none⟩) 1 [x]) (hg : W.grownBy w' (Value.slice (some ⟨g, 0, none⟩) 0 0).ownBlock) (hne : g ≠ L) : RS w' base (some ⟨L, 0, none⟩) 1 [x] :=
  h.grown hg fun k b o hk hA => by
    simp [Value.ownBlock] at hk
    injection hA with hA; injection hA with hA
    omega
theorem RS.lit2 (w : World) (x : Int) : RS ((w.alloc (.cells #[] 3)).alloc (.cells #[.int .i64 x] 3)).drew w.heap.size (some ⟨w.heap.size + 1, 0, none⟩) 1 [x] := by
  have h := RS.lit (w.alloc (.cells #[] 3)) 3 x w.heap.size (by simp)
  have e : (w.alloc (.cells #[] 3)).heap.size = w.heap.size + 1 := by simp
  rw [e] at h
  exact RS.drewN h 1
theorem RS.lit3 (w : World) (x : Int) : RS ((w.alloc (.cells #[.int .i64 x] 3)).alloc (.cells #[] 3)).drew w.heap.size (some ⟨w.heap.size, 0, none⟩) 1 [x] :=
  RS.drewN ((RS.lit w 3 x w.heap.size (Nat.le_refl _)).below (below_alloc (.cells #[] 3))) 1
theorem own_empty2 (w : World) (x : Value) : ((w.alloc (.cells #[x] 3)).alloc (.cells #[] 3)).drew.ownsRow w.heap.size 3 1 (.slice (some ⟨w.heap.size + 1, 0, none⟩) 0 0) 0 (([] : List Int).map (Value.int .i64)) := by
  have h := own_empty (w.alloc (.cells #[x] 3)) w.heap.size (by simp)
  have e : (w.alloc (.cells #[x] 3)).heap.size = w.heap.size + 1 := by simp
  rw [e] at h
  exact h.drew
theorem grown_below {B : Nat} {w w1 w2 : World} {row : Option Nat} (h : Below B w w1) (hB : B ≤ w1.heap.size) (hg : w1.grownBy w2 row) (hr : ∀ k, row = some k → B ≤ k) : Below B w w2 := h.grown hg hB hr
set_option maxHeartbeats 1000000 in
theorem rsleep_fail (t a now : Int) (A : Option Addr) (n c : Nat) (A' : Option Addr) (c' : Nat) (w : World) (B : Nat) (ps : List (Int × Int)) (f) (h : RC w B A n c A' c' ps) (hf : Rep f ps) (hn : n ≤ 100) (h0 : 0 ≤ now) (h1 : now ≤ 1099511627776)
    (hno : (t < 0 ∨ 255 < t ∨ a < 0) ∨ (0 ≤ t ∧ t ≤ 255 ∧ 0 ≤ a ∧ 1099511627776 - now < a)) :
    Calls Try.prog 18 #[rc now A n c A' c', .int .i64 t, .int .i64 a] w fun e w' => RSleep w w' B e now f t a ∧ Below w.heap.size w w' := by
  have hno : t < 0 ∨ (0 ≤ t ∧ 255 < t) ∨ (0 ≤ t ∧ t ≤ 255 ∧ a < 0) ∨ (0 ≤ t ∧ t ≤ 255 ∧ 0 ≤ a ∧ 1099511627776 - now < a) := by omega
  have hB : Below w.heap.size w ((w.alloc (.cells #[.int .i64 now, .slice A n c, .slice A' n c'] 39)).alloc (.cells #[.int .i64 now, .slice A n c, .slice A' n c'] 39)) := ((Below.refl _ w).alloc (Nat.le_refl _) _).alloc (by simp) _
  have h' := h.below hB
  rcases hno with k | k | k | k <;>
  · go_enter Try.func18, Try.ntmps18
    go_wp2
    first
    | refine bodyPost_ret (v := .tuple #[rc now A n c A' c', .int .i64 0, .int .i64 1]) (by simp [results, Try.results18, go_sem]) rfl ⟨⟨_, _, _, _, _, _, _, _, _, rfl, .arg (by omega), h', hf⟩, hB⟩
    | refine bodyPost_ret (v := .tuple #[rc now A n c A' c', .int .i64 0, .int .i64 2]) (by simp [results, Try.results18, go_sem]) rfl ⟨⟨_, _, _, _, _, _, _, _, _, rfl, .long (by omega) (by omega) (by omega) (by omega), h', hf⟩, hB⟩

set_option maxRecDepth 100000 in
set_option maxHeartbeats 1000000 in
theorem rsleep_go (t a now : Int) (A : Option Addr) (n c : Nat) (A' : Option Addr) (c' : Nat) (w : World) (B : Nat) (ps : List (Int × Int)) (f) (hBw : B ≤ w.heap.size) (h : RC w B A n c A' c' ps) (hf : Rep f ps) (hn : n ≤ 100) (h0 : 0 ≤ now) (h1 : now ≤ 1099511627776)
    (k1 : 0 ≤ t) (k2 : t ≤ 255) (k3 : 0 ≤ a) (k4 : a ≤ 1099511627776 - now) :
    Calls Try.prog 18 #[rc now A n c A' c', .int .i64 t, .int .i64 a] w fun e w' => RSleep w w' B e now f t a ∧ Below w.heap.size w w' := by
  have hB : Below w.heap.size w ((w.alloc (.cells #[.int .i64 now, .slice A n c, .slice A' n c'] 39)).alloc (.cells #[.int .i64 0, .slice none 0 0, .slice none 0 0] 39)) := ((Below.refl _ w).alloc (Nat.le_refl _) _).alloc (by simp) _
  have hq : ((w.alloc (.cells #[.int .i64 now, .slice A n c, .slice A' n c'] 39)).alloc (.cells #[.int .i64 0, .slice none 0 0, .slice none 0 0] 39)).heap[w.heap.size]? = some (.cells #[.int .i64 now, .slice A n c, .slice A' n c'] 39 (0, 0)) :=
    (Below.heap_alloc (w.alloc _) _ w.heap.size (by simp)).trans (heap_alloc_new w _)
  have hr : ((w.alloc (.cells #[.int .i64 now, .slice A n c, .slice A' n c'] 39)).alloc (.cells #[.int .i64 0, .slice none 0 0, .slice none 0 0] 39)).heap[w.heap.size + 1]? = some (.cells #[.int .i64 0, .slice none 0 0, .slice none 0 0] 39 (0, 0)) := by
    have := heap_alloc_new (w.alloc (.cells #[.int .i64 now, .slice A n c, .slice A' n c'] 39)) (.cells #[.int .i64 0, .slice none 0 0, .slice none 0 0] 39)
    simpa using this
  have hs : w.heap.size + 1 < ((w.alloc (.cells #[.int .i64 now, .slice A n c, .slice A' n c'] 39)).alloc (.cells #[.int .i64 0, .slice none 0 0, .slice none 0 0] 39)).heap.size := by simp
  have hp := place_any now A n c A' n c' (ps.map Prod.fst) t _ B (h.ts.below hB) (by omega)
  have HP := Lib.hid hp
  have HR := Lib.hid (h.below hB)
  have HB := Lib.hid hB
  have HQ := Lib.hid hq
  have HQr := Lib.hid hr
  clear hB hp hq hr
  go_enter Try.func18, Try.ntmps18
  go_wp2_with fail
  generalize (w.alloc (.cells #[.int .i64 now, .slice A n c, .slice A' n c'] 39)).alloc (.cells #[.int .i64 0, .slice none 0 0, .slice none 0 0] 39) = w1 at *
  refine HP.out.mono ?_
  rintro e w2 ⟨hB2, hor⟩
  have HR2 := Lib.hid (HR.out.below hB2)
  have HB2 := Lib.hid (below_next HB.out HB.out.size hB2)
  have HQ2 := Lib.hid ((hB2.block _ (by omega)).trans HQ.out)
  have HQr2 := Lib.hid ((hB2.block _ hs).trans HQr.out)
  clear HP HR HB HQ HQr hB2 hs
  generalize hqq : w.heap.size = q at HQ2 HQr2 ⊢
  obtain ⟨cc0, cc1, cc2, fr, lt⟩ := blk3 HQ2.out
  obtain ⟨rr0, rr1, rr2, frr, ltr⟩ := blk3 HQr2.out
  have fr1 := fr 1
  have fr2 := fr 2
  have frr0 := frr 0
  have frr1 := frr 1
  have frr2 := frr 2
  have n0 := World.new_ne w2 _ cc0
  have n1 := World.new_ne w2 _ cc1
  have n2 := World.new_ne w2 _ cc2
  rcases hor with ⟨rfl, ht⟩ | ⟨j, rfl, ht⟩
  · have e0 := own_empty w2 w2.heap.size (Nat.le_refl _)
    have b0 := below_alloc (w := w2) (.cells #[] 3)
    have r0 := HR2.out.ts.below b0
    go_wp2_with (first
      | (at_builtin
         refine wpList_app rfl (.tmp 31) (.tmp 33) rfl w2.heap.size _ 0 [] rfl e0 B A n c _ rfl r0 (by omega) (by simp) ?_
         intro v1 w3 hown1 hg1 hat1
         have b1 := app_below b0 (by simp) e0 hg1
         clear e0 b0 r0 hg1 hat1
         obtain ⟨k0, k1, k2, kf, _⟩ := blk3 ((b1.block q lt).trans HQ2.out)
         have m0 := World.new_ne w3 _ k0
         have e1 := hown1.alloc (.cells #[.int .i64 t] 3)
         have b2 := below_next b1 b1.size (below_alloc (w := w3) (.cells #[.int .i64 t] 3))
         have l1 := RS.lit w3 3 t w2.heap.size b1.size
         simp only [Nat.zero_add, List.nil_append] at e1
         clear hown1)
      | (at_builtin
         refine wpList_app rfl (.tmp 34) (.tmp 36) rfl w2.heap.size v1 n _ rfl e1 _ _ 1 1 _ rfl l1 (by omega) b2.size ?_
         intro v2 w4 hown2 hg2 hat2
         have b3 := app_below b2 b2.size e1 hg2
         have hs4 : w2.heap.size ≤ (w4.setCell ⟨q, 1, none⟩ v2).heap.size := by simpa using b3.size
         clear e1 l1 b2 b1 k0 k1 k2 m0 kf hg2 hat2
         obtain ⟨A2, c2, rfl⟩ := own_slice hown2
         have hcap2 := own_cap hown2
         obtain ⟨k0, k1, k2, kf, _⟩ := blk3 ((b3.block q lt).trans HQ2.out)
         have kf1 := kf 1))
    have h5q : (w4.setCell ⟨q, 1, none⟩ (.slice A2 (n + 1) c2)).heap[q]? = some (.cells #[.int .i64 now, .slice A2 (n + 1) c2, .slice A' n c'] 39 (0, 0)) := blk3_set1 ((b3.block q lt).trans HQ2.out) _
    have h5r : (w4.setCell ⟨q, 1, none⟩ (.slice A2 (n + 1) c2)).heap[q + 1]? = some (.cells #[.int .i64 0, .slice none 0 0, .slice none 0 0] 39 (0, 0)) := (Below.heap_setCell _ _ _ _ (by simp)).trans ((b3.block _ ltr).trans HQr2.out)
    have h5b := (below_next HB2.out HB2.out.size b3).setCell (p := ⟨q, 1, none⟩) (by simp; omega) (.slice A2 (n + 1) c2)
    have h5s := (RS.own hown2).setCell ⟨q, 1, none⟩ (.slice A2 (n + 1) c2) (by simpa using lt)
    clear k0 k1 k2 kf kf1 b3 hown2 HQ2 HQr2 HB2 HR2 cc0 cc1 cc2 rr0 rr1 rr2 frr0 frr1 frr2 fr1 fr2 fr frr n0 n1 n2
    have lt2q : q < w2.heap.size := lt
    have lt5r : q + 1 < (w4.setCell ⟨q, 1, none⟩ (.slice A2 (n + 1) c2)).heap.size := (Array.getElem?_eq_some_iff.1 h5r).1
    have hBs : B ≤ w2.heap.size := by omega
    have hBs5 : w2.heap.size ≤ (w4.setCell ⟨q, 1, none⟩ (.slice A2 (n + 1) c2)).heap.size := hs4
    have lt5q : q < (w4.setCell ⟨q, 1, none⟩ (.slice A2 (n + 1) c2)).heap.size := (Array.getElem?_eq_some_iff.1 h5q).1
    generalize w4.setCell ⟨q, 1, none⟩ (.slice A2 (n + 1) c2) = w5 at *
    obtain ⟨cc0, cc1, cc2, fr, _⟩ := blk3 h5q
    obtain ⟨rr0, rr1, rr2, frr, _⟩ := blk3 h5r
    have n0 := World.new_ne w5 _ cc0
    have n2 := World.new_ne w5 _ cc2
    have hw : IntKind.i64.wrap (now + a) = now + a := IntWalk.i64_in _ (by omega)
    have hU : RS w5 B A' n (ps.map Prod.snd) := h.us.below h5b
    have HS := Lib.hid h5s
    have HB := Lib.hid h5b
    have H5q := Lib.hid h5q
    have H5r := Lib.hid h5r
    clear h5s h5b h5q h5r
    go_cut [] from 39 to 54 (fun wx => ∃ w7 A4 c4, wx = w7.setCell ⟨q, 2, none⟩ (.slice A4 (n + 1) c4) ∧ Below w5.heap.size w5 w7 ∧ w7.ownsRow w5.heap.size 3 1 (.slice A4 (n + 1) c4) (n + 1) ((ps.map Prod.snd ++ [now + a]).map (Value.int .i64)))
    case first =>
      go_region_law (first
          | ((
              (
                refine step_app rfl (.tmp 39) (.tmp 41) (by rfl) w5.heap.size (.slice (some ⟨_, 0, none⟩) 0 0) 0 [] (by rfl) ?_ B A' n c' (ps.map Prod.snd) (by rfl) ?_ (by omega) (by simp <;> omega) ?_
                · first | exact (own_empty _ _ (by simp)).drew | exact ((own_empty _ _ (by simp)).alloc _).drew | exact own_empty2 _ _
                · first | exact hU.below (below_alloc _).drew | exact hU.below ((below_alloc _).alloc (by simp) _).drew)
              intro v3 w6 hown3 hg3 hat3
              (
                have b6 : Below w5.heap.size w5 w6 := by
                  refine app_fresh ?_ ?_ hg3 ?_
                  · first | exact ((Below.refl _ w5).alloc (Nat.le_refl _) _).drew | exact (((Below.refl _ w5).alloc (Nat.le_refl _) _).alloc (by simp) _).drew
                  · simp <;> omega
                  · simp)
              (
                obtain ⟨x0, x1, x2, xf, _⟩ := blk3 ((b6.block q lt5q).trans H5q.out)
                have y0 := World.new_ne w6 _ x0)
              simp only [Nat.zero_add, List.nil_append] at hown3))
          | ((
              (
                refine step_app rfl (.tmp 42) (.tmp 47) (by rfl) w5.heap.size v3 n (ps.map Prod.snd) (by rfl) ?_ w5.heap.size (some ⟨_, 0, none⟩) 1 1 [now + a] (by rfl) ?_ (by omega) ?_ ?_
                · first | exact hown3 | exact hown3.alloc _
                · first
                  | exact RS.lit w6 3 (now + a) w5.heap.size b6.size
                  | exact RS.lit_grown (RS.lit2 w5 (now + a)) hg3 (by omega)
                  | exact RS.lit_grown (RS.lit3 w5 (now + a)) hg3 (by omega)
                · first | exact b6.size | (simp; have := b6.size; omega))
              intro v4 w7 hown4 hg4 hat4
              have b7 : Below w5.heap.size w5 w7 := by
                first
                  | exact app_below (b6.alloc b6.size _) (by simp; have := b6.size; omega) (hown3.alloc _) hg4
                  | exact app_below b6 b6.size hown3 hg4
              clear x0 x1 x2 xf y0
              obtain ⟨x0, x1, x2, xf, _⟩ := blk3 ((b7.block q lt5q).trans H5q.out)
              have xf2 := xf 2
              obtain ⟨A4, c4, rfl⟩ := own_slice hown4)))
      all_goals (go_wp2_with fail; go_meet; exact ⟨_, _, _, rfl, b7, hown4⟩)
    case rest =>
      obtain ⟨w7, A4, c4, rfl, b7, hown4⟩ := hcut
      have hcap4 := own_cap hown4
      have g7q := blk3_set2 ((b7.block q lt5q).trans H5q.out) (.slice A4 (n + 1) c4)
      have g7r : (w7.setCell ⟨q, 2, none⟩ (.slice A4 (n + 1) c4)).heap[q + 1]? = some (.cells #[.int .i64 0, .slice none 0 0, .slice none 0 0] 39 (0, 0)) := (Below.heap_setCell _ _ _ _ (by simp)).trans ((b7.block _ lt5r).trans H5r.out)
      have g7b := (below_next HB.out HB.out.size b7).setCell (p := ⟨q, 2, none⟩) (by simp; omega) (.slice A4 (n + 1) c4)
      have hS2 : RS (w7.setCell ⟨q, 2, none⟩ (.slice A4 (n + 1) c4)) w2.heap.size A2 (n + 1) (ps.map Prod.fst ++ [t]) := (HS.out.below b7).setCell ⟨q, 2, none⟩ _ lt2q
      have hS4 : RS (w7.setCell ⟨q, 2, none⟩ (.slice A4 (n + 1) c4)) w2.heap.size A4 (n + 1) (ps.map Prod.snd ++ [now + a]) := ((RS.own hown4).setCell ⟨q, 2, none⟩ _ lt5q).mono hBs5
      clear cc0 cc1 cc2 fr rr0 rr1 rr2 frr n0 n2 hU HS HB H5q H5r b7 hown4
      have HS2 := Lib.hid hS2
      have HS4 := Lib.hid hS4
      have HB := Lib.hid g7b
      clear hS2 hS4 g7b
      generalize w7.setCell ⟨q, 2, none⟩ (.slice A4 (n + 1) c4) = w8 at *
      obtain ⟨cc0, cc1, cc2, fr, _⟩ := blk3 g7q
      obtain ⟨rr0, rr1, rr2, frr, _⟩ := blk3 g7r
      have frr0 := frr 0
      have frr1 := frr 1
      have frr2 := frr 2
      clear g7q
      have G7r := Lib.hid g7r
      clear g7r
      go_wp2_with fail
      go_region
      all_goals
        go_wp2_with fail
        refine bodyPost_ret (v := .tuple #[rc now A2 (n + 1) c2 A4 c4, .int .i64 (now + a), .int .i64 0]) (by simp [results, Try.results18, go_sem, World.cell?_setCell_far, rr0, rr1, rr2]) rfl ⟨⟨_, _, _, _, _, ps ++ [(t, now + a)], _, _, _, rfl, .ok (by omega) (by omega) (by omega) (by omega) (hf.none_ ht), ⟨?_, ?_, hcap2, hcap4⟩, hf.add t _ ht⟩, ?_⟩
        · rw [List.map_append]
          exact RS.drewN ((((HS2.out.setCell ⟨q + 1, 0, none⟩ _ ltr).setCell ⟨q + 1, 1, none⟩ _ ltr).setCell ⟨q + 1, 2, none⟩ _ ltr).mono (by omega)) 1
        · rw [List.map_append]
          exact RS.drewN ((((HS4.out.setCell ⟨q + 1, 0, none⟩ _ ltr).setCell ⟨q + 1, 1, none⟩ _ ltr).setCell ⟨q + 1, 2, none⟩ _ ltr).mono (by omega)) 1
        · exact (((HB.out.setCell (p := ⟨q + 1, 0, none⟩) (by simp; omega) _).setCell (p := ⟨q + 1, 1, none⟩) (by simp; omega) _).setCell (p := ⟨q + 1, 2, none⟩) (by simp; omega) _).drew
  · rw [List.getElem?_map, Option.map_eq_some_iff] at ht
    obtain ⟨p, hp, rfl⟩ := ht
    go_wp2_with fail
    refine bodyPost_ret (v := .tuple #[rc now A n c A' c', .int .i64 0, .int .i64 7]) (by simp [results, Try.results18, go_sem, World.cell?_setCell_far, rr0, rr1, rr2]) rfl ⟨⟨_, _, _, _, _, ps, _, _, _, rfl, .time (by omega) (by omega) (by omega) (by omega) (by rw [hf.at_ hp]; rfl), ?_, hf⟩, ?_⟩
    · exact h.below (((HB2.out.setCell (p := ⟨q + 1, 0, none⟩) (by simp; omega) _).setCell (p := ⟨q + 1, 1, none⟩) (by simp; omega) _).setCell (p := ⟨q + 1, 2, none⟩) (by simp; omega) _)
    · exact ((HB2.out.setCell (p := ⟨q + 1, 0, none⟩) (by simp; omega) _).setCell (p := ⟨q + 1, 1, none⟩) (by simp; omega) _).setCell (p := ⟨q + 1, 2, none⟩) (by simp; omega) _
end Go.Proofs.Ytklbhidlbdabbaa
