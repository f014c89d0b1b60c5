/- The walk of the law ProfPlays. -/
import Derived.Test.YtmcejkimpjfmmaaAs
import Derived.Test.YtmcejkimpjfmmaaAd
set_option linter.unusedVariables false
set_option linter.unusedSimpArgs false
namespace Go.Proofs.Ytmcejkimpjfmmaa
open Go.RowKit Go.Lib Go.Maps

theorem blk3_set3 {w : World} {b : Nat} {v0 v1 v2 : Value} {t : TypeId} (h : w.heap[b]? = some (.cells #[v0, v1, v2] t (0, 0))) (u0 u1 u2 : Value) :
    (((w.setCell ⟨b, 0, none⟩ u0).setCell ⟨b, 1, none⟩ u1).setCell ⟨b, 2, none⟩ u2).heap[b]? = some (.cells #[u0, u1, u2] t (0, 0)) := by
  simp [World.setCell, Array.getElem?_modify, h]
theorem only_setCell (w : World) (p : Addr) (u : Value) : Only (fun i => i = p.block) w (w.setCell p u) := ⟨rfl, rfl, rfl, by simp, fun i _ hn => Below.heap_setCell w p u i hn⟩
theorem ProfL.set_ {w : World} {b hb wb m F G L} (p : ProfL w b hb wb m F G L) (a : Addr) (u : Value) (h : b ≠ a.block ∧ hb ≠ a.block ∧ wb ≠ a.block ∧ m ≠ a.block) : ProfL (w.setCell a u) b hb wb m F G L := p.only (only_setCell w a u) h
theorem RA.only {w w' : World} {B A n L hb wb m} (h : RA w B A n L) (ho : Only (Mine hb wb m) w w') (e : hb < B ∧ wb < B ∧ m < B) : RA w' B A n L :=
  ⟨h.len, h.rv.kept ho.size fun i hi hl => ho.block i hl (by rintro (k | k | k) <;> omega)⟩
theorem RA.set_ {w : World} {B A n L} (h : RA w B A n L) (p : Addr) (u : Value) (hp : p.block < B) : RA (w.setCell p u) B A n L := ⟨h.len, h.rv.setCell p u hp⟩

/-- The profile and the reference's, side by side. -/
structure Both (w0 w : World) (b hb wb m F G : Nat) (rb N : Nat) (L : List Ac) (A : Option Addr) (n c : Nat) : Prop where
  prof : ProfL w b hb wb m F G L
  ref : RA w N A n L
  box : w.heap[rb]? = some (.cells #[.int .i64 F, .int .i64 G, .slice A n c] 43 (0, 0))
  bel : Below w0.heap.size w0 w
  good : GoodL F G L
  lo : w0.heap.size ≤ b ∧ w0.heap.size ≤ hb ∧ w0.heap.size ≤ wb ∧ w0.heap.size ≤ m ∧ w0.heap.size ≤ rb
  hi : b < N ∧ hb < N ∧ wb < N ∧ m < N ∧ rb < N
  ne : b ≠ rb ∧ hb ≠ rb ∧ wb ≠ rb ∧ m ≠ rb
  nw : N ≤ w.heap.size
theorem Both.below {w0 w w' : World} {b hb wb m F G rb N L A n c} (h : Both w0 w b hb wb m F G rb N L A n c) (hB : Below w.heap.size w w') : Both w0 w' b hb wb m F G rb N L A n c :=
  ⟨h.prof.below hB, h.ref.below hB, (hB.block rb (Nat.lt_of_lt_of_le h.hi.2.2.2.2 h.nw)).trans h.box, below_next h.bel h.bel.size hB, h.good, h.lo, h.hi, h.ne, Nat.le_trans h.nw hB.size⟩
/-- Both are told. -/
theorem Both.tell {w0 w w4 w5 : World} {b hb wb m F G rb N L A n c} (h : Both w0 w b hb wb m F G rb N L A n c) (x : Ac) (hp : ProfL w4 b hb wb m F G (tellL F G L x)) (ho : Only (Mine hb wb m) w w4) {A' n' c'} (hr : RA w5 N A' n' (tellL F G L x)) (hB : Below w4.heap.size w4 w5) :
    Both w0 (((w5.setCell ⟨rb, 0, none⟩ (.int .i64 F)).setCell ⟨rb, 1, none⟩ (.int .i64 G)).setCell ⟨rb, 2, none⟩ (.slice A' n' c')) b hb wb m F G rb N (tellL F G L x) A' n' c' := by
  have hrbw : rb < w.heap.size := Nat.lt_of_lt_of_le h.hi.2.2.2.2 h.nw
  have hrb4 : rb < w4.heap.size := Nat.lt_of_lt_of_le hrbw ho.size
  have hbx : w5.heap[rb]? = some (.cells #[.int .i64 F, .int .i64 G, .slice A n c] 43 (0, 0)) := by
    refine (hB.block rb hrb4).trans ((ho.block rb hrbw ?_).trans h.box)
    rintro (k | k | k)
    · exact h.ne.2.1 k.symm
    · exact h.ne.2.2.1 k.symm
    · exact h.ne.2.2.2 k.symm
  have hb4 := two_below h.bel ho h.bel.size h.lo.2.1 h.lo.2.2.1 h.lo.2.2.2.1
  have hb5 := below_next hb4 hb4.size hB
  have hlo := h.lo.2.2.2.2
  refine ⟨?_, ?_, blk3_set3 hbx _ _ _, ((hb5.setCell (p := ⟨rb, 0, none⟩) hlo _).setCell (p := ⟨rb, 1, none⟩) hlo _).setCell (p := ⟨rb, 2, none⟩) hlo _, h.good.tell x, h.lo, h.hi, h.ne, ?_⟩
  · exact (((hp.below hB).set_ ⟨rb, 0, none⟩ _ h.ne).set_ ⟨rb, 1, none⟩ _ h.ne).set_ ⟨rb, 2, none⟩ _ h.ne
  · exact ((hr.set_ ⟨rb, 0, none⟩ _ h.hi.2.2.2.2).set_ ⟨rb, 1, none⟩ _ h.hi.2.2.2.2).set_ ⟨rb, 2, none⟩ _ h.hi.2.2.2.2
  · have h1 := h.nw
    have h2 := ho.size
    have h3 := hB.size
    simp
    omega

set_option maxRecDepth 100000 in
set_option maxHeartbeats 4000000 in
theorem plays_near (F G : Nat) (A0 : Option Addr) (n0 c0 : Nat) (X : Nat → Ac) (w : World) (hA : Acts w A0 n0 X) (hn : n0 ≤ 60) (hF : 1 ≤ F ∧ F ≤ 40) (hG : G ≤ 40) :
    Calls Try.prog 6 #[.int .i64 F, .int .i64 G, .slice A0 n0 c0] w fun e w' => e = .returned (.bool true) ∧ Below w.heap.size w w' := by
  go_enter Try.func6, Try.ntmps6
  go_wp2_with fail
  refine (new_ok F G w (by omega)).mono ?_
  rintro e w1 ⟨b, hb, wb, m, rfl, P, hB1, g0, g1, g2, g3⟩
  have HP := Lib.hid (ProfL.start P)
  have hl := (ProfL.start P).lts
  clear P
  go_wp2_with fail
  refine (rnew_ok F G w1 (by omega)).mono ?_
  rintro e w2 ⟨rfl, hB2⟩
  have hsz := hB2.size
  have hB3 := below_alloc (w := w2) (.cells #[.int .i64 F, .int .i64 G, .slice none 0 0] 43)
  have hbo : Both w (w2.alloc (.cells #[.int .i64 F, .int .i64 G, .slice none 0 0] 43)) b hb wb m F G w2.heap.size (w2.heap.size + 1) [] none 0 0 :=
    ⟨(HP.out.below hB2).below hB3, ⟨rfl, RV.nil _ _ _⟩, heap_alloc_new w2 _, below_next (below_next hB1 hB1.size hB2) (by omega) hB3, GoodL.nil _ _, ⟨g0, g1, g2, g3, by omega⟩, by omega, by omega, by simp⟩
  have HBO := Lib.hid hbo
  clear hbo hB3 hB2 HP hB1 g0 g1 g2 g3 hl
  go_wp2_with (go_at_call 10; refine (num_any _ _).mono ?_; rintro e w' ⟨rfl, rfl⟩)
  generalize w2.heap.size = rb at *
  go_loopw [11] (fun i wr => ∃ (j : Nat) (L : List Ac) (A : Option Addr) (n c : Nat), j ≤ n0 ∧ i = .int .i64 j ∧ L.length ≤ j ∧ Hid (Both w wr b hb wb m F G rb (rb + 1) L A n c)) (fun i _ => n0 - (intOf i).toNat)
  case atStart => exact ⟨0, [], none, 0, 0, by omega, rfl, by simp, HBO⟩
  case round =>
    clear HBO
    obtain ⟨j, L, A, n, c, hj, rfl, hL, HBO⟩ := hrel
    have hnl := HBO.out.ref.len
    by_cases hlt : j < n0
    · obtain ⟨ba, o, rfl, hba, hc⟩ := hA (by omega)
      have hx := (hc j hlt).block (HBO.out.bel.block ba hba)
      generalize X j = x at *
      obtain ⟨x0, x1, x2, x3, x4, x5⟩ := hx
      have hB1 := below_alloc (w := wr) (acO x)
      have hq := heap_alloc_new wr (acO x)
      have HB2 := Lib.hid (HBO.out.below hB1)
      have HQ := Lib.hid hq
      have hqlt : wr.heap.size < (wr.alloc (acO x)).heap.size := by simp
      have hNq := HBO.out.nw
      clear hc hB1 hq HBO
      by_cases hd : 0 ≤ x.d ∧ x.d ≤ 4
      · obtain ⟨d0, d1⟩ := hd
        go_upto_region 16 with (fail)
        generalize wr.alloc (acO x) = w3 at *
        generalize wr.heap.size = q at *
        clear x0 x1 x2 x3 x4 x5
        obtain ⟨x0, x1, x2, x3, x4, x5, _⟩ := Row6 HQ.out
        have ht := tell_any x w3 HB2.out.prof (by omega)
        rw [normA_in ⟨d0, d1⟩] at ht
        go_wp2_with fail
        refine ht.mono ?_
        rintro e w4 ⟨rfl, hp4, o4⟩
        have hi := HB2.out.hi
        have hq4 := (o4.block q hqlt (by rintro (k | k | k) <;> omega)).trans HQ.out
        have HQ4 := Lib.hid hq4
        have hne := HB2.out.ne
        have hbx4 := (o4.block rb (by have := HB2.out.nw; omega) (by rintro (k | k | k) <;> omega)).trans HB2.out.box
        have HX4 := Lib.hid hbx4
        have hr4 := HB2.out.ref.only o4 (by omega)
        have HR4 := Lib.hid hr4
        have HP4 := Lib.hid hp4
        have HO4 := Lib.hid o4
        have hq4lt : q < w4.heap.size := Nat.lt_of_lt_of_le hqlt o4.size
        have hrb4 : rb + 1 ≤ w4.heap.size := Nat.le_trans HB2.out.nw o4.size
        clear ht hp4 o4 hq4 hbx4 hr4 x0 x1 x2 x3 x4 x5
        obtain ⟨x0, x1, x2, x3, x4, x5, _⟩ := Row6 HQ4.out
        obtain ⟨cc0, cc1, cc2, fr, ltb⟩ := blk3 HX4.out
        clear fr
        go_wp2_with fail
        refine (rtell_any x F G A n c L w4 (rb + 1) hrb4 HR4.out (by omega)).mono ?_
        rintro e w5 ⟨⟨A', n', c', rfl, hr5⟩, hB5⟩
        have hq5 := (hB5.block q hq4lt).trans HQ4.out
        have hbx5 := (hB5.block rb ltb).trans HX4.out
        have HBB := Lib.hid ((HB2.out.tell x HP4.out HO4.out (c' := c') hr5 hB5).below (below_alloc (.cells #[.int .i64 F, .int .i64 G, .slice A' n' c'] 43)))
        clear cc0 cc1 cc2 x0 x1 x2 x3 x4 x5
        obtain ⟨x0, x1, x2, x3, x4, x5, _⟩ := Row6 hq5
        obtain ⟨cc0, cc1, cc2, fr, ltb5⟩ := blk3 hbx5
        have f0 := fr 0
        have f1 := fr 1
        have f2 := fr 2
        have y0 := World.new_ne w5 _ cc0
        have y1 := World.new_ne w5 _ cc1
        have y2 := World.new_ne w5 _ cc2
        have z0 := World.new_ne w5 _ x0
        have hqrb : q ≠ rb := by omega
        have hq6 : ((((w5.setCell ⟨rb, 0, none⟩ (.int .i64 F)).setCell ⟨rb, 1, none⟩ (.int .i64 G)).setCell ⟨rb, 2, none⟩ (.slice A' n' c')).alloc (.cells #[.int .i64 F, .int .i64 G, .slice A' n' c'] 43)).heap[q]? = some (acO x) := by
          rw [Below.heap_alloc _ _ q (by simpa using Nat.lt_of_lt_of_le hq4lt hB5.size), Below.heap_setCell _ _ _ _ (by simpa using hqrb), Below.heap_setCell _ _ _ _ (by simpa using hqrb), Below.heap_setCell _ _ _ _ (by simpa using hqrb)]
          exact hq5
        have HQ6 := Lib.hid hq6
        have hll := tellL_len F G L x
        clear hq5 hbx5 fr hq6 hB5 hr5 HX4 HR4 HP4 HO4 HQ4 HQ HB2
        go_upto_region 19 with (fail)
        generalize (((w5.setCell ⟨rb, 0, none⟩ (.int .i64 F)).setCell ⟨rb, 1, none⟩ (.int .i64 G)).setCell ⟨rb, 2, none⟩ (.slice A' n' c')).alloc (.cells #[.int .i64 F, .int .i64 G, .slice A' n' c'] 43) = w6 at *
        clear cc0 cc1 cc2 x0 x1 x2 x3 x4 x5 f0 f1 f2 y0 y1 y2 z0
        obtain ⟨x0, x1, x2, x3, x4, x5, _⟩ := Row6 HQ6.out
        obtain ⟨cc0, cc1, cc2, fr, ltb6⟩ := blk3 HBB.out.box
        clear fr
        go_upto_region 21 with (go_at_call 10; refine (num_any _ _).mono ?_; rintro e w' ⟨rfl, rfl⟩)
        go_wp2_with fail
        refine (asks_any x A' n' c' _ (rb + 1) HBB.out.prof HBB.out.ref (by have := HBB.out.ref.len; omega) (by omega) (by omega) HBB.out.good).mono ?_
        rintro e w7 ⟨rfl, hB7⟩
        have HB8 := Lib.hid (HBB.out.below hB7)
        clear hB7
        go_wp2_with fail
        go_roundw
        case rel => exact ⟨j + 1, tellL F G L x, _, _, _, by omega, by go_num, by omega, HB8⟩
        case measure => simp [intOf]; omega
      · have hd' : x.d < 0 ∨ (0 ≤ x.d ∧ 4 < x.d) := by omega
        clear hd
        go_upto_region 15 with (fail)
        generalize wr.alloc (acO x) = w3 at *
        generalize wr.heap.size = q at *
        clear x0 x1 x2 x3 x4 x5
        obtain ⟨x0, x1, x2, x3, x4, x5, _⟩ := Row6 HQ.out
        obtain ⟨cc0, cc1, cc2, fr, ltb6⟩ := blk3 HB2.out.box
        clear fr
        rcases hd' with hd | ⟨hd0, hd⟩
        · go_wp2_with fail
          refine (asks_any x A n c _ (rb + 1) HB2.out.prof HB2.out.ref (by have := HB2.out.ref.len; omega) (by omega) (by omega) HB2.out.good).mono ?_
          rintro e w7 ⟨rfl, hB7⟩
          have HB8 := Lib.hid (HB2.out.below hB7)
          clear hB7
          go_wp2_with fail
          go_roundw
          case rel => exact ⟨j + 1, L, _, _, _, by omega, by go_num, by omega, HB8⟩
          case measure => simp [intOf]; omega
        · go_wp2_with fail
          refine (asks_any x A n c _ (rb + 1) HB2.out.prof HB2.out.ref (by have := HB2.out.ref.len; omega) (by omega) (by omega) HB2.out.good).mono ?_
          rintro e w7 ⟨rfl, hB7⟩
          have HB8 := Lib.hid (HB2.out.below hB7)
          clear hB7
          go_wp2_with fail
          go_roundw
          case rel => exact ⟨j + 1, L, _, _, _, by omega, by go_num, by omega, HB8⟩
          case measure => simp [intOf]; omega
    · go_wp2_with fail
      refine (live_any _).mono ?_
      rintro e w5 ⟨rfl, hB5⟩
      go_wp2_with fail
      go_ret
      exact ⟨rfl, below_next HBO.out.bel HBO.out.bel.size hB5⟩
set_option maxRecDepth 20000 in
set_option maxHeartbeats 1000000 in
theorem plays_far (f g : Int) (A : Option Addr) (n c : Nat) (w : World) (hn : n ≤ 9223372036854775807) (h : 60 < n ∨ (n ≤ 60 ∧ 40 < f ∧ f ≤ 1024) ∨ (n ≤ 60 ∧ f ≤ 40 ∧ 40 < g ∧ g ≤ 1024) ∨ (n ≤ 60 ∧ 40 < f ∧ 1024 < f ∧ 40 < g ∧ g ≤ 1024)) :
    Calls Try.prog 6 #[.int .i64 f, .int .i64 g, .slice A n c] w fun e w' => e = .returned (.bool true) ∧ Below w.heap.size w w' := by
  rcases h with h | h | h | h <;>
  · go_enter Try.func6, Try.ntmps6
    go_wp2_with fail
    refine (live_any _).mono ?_
    rintro e w5 ⟨rfl, hB5⟩
    go_wp2_with fail
    go_ret
    exact ⟨rfl, hB5⟩
set_option maxRecDepth 20000 in
set_option maxHeartbeats 1000000 in
theorem plays_bad (f g : Int) (A : Option Addr) (n c : Nat) (w : World) (hn : n ≤ 60) (h : (f < 1 ∧ g ≤ 40) ∨ (f < 1 ∧ 40 < g ∧ 1024 < g) ∨ (40 < f ∧ 1024 < f ∧ g ≤ 40) ∨ (40 < f ∧ 1024 < f ∧ 40 < g ∧ 1024 < g) ∨ (1 ≤ f ∧ f ≤ 40 ∧ g < 0) ∨ (1 ≤ f ∧ f ≤ 40 ∧ 40 < g ∧ 1024 < g)) :
    Calls Try.prog 6 #[.int .i64 f, .int .i64 g, .slice A n c] w fun e w' => e = .returned (.bool true) ∧ Below w.heap.size w w' := by
  have hbad : f < 1 ∨ 1024 < f ∨ g < 0 ∨ 1024 < g := by omega
  have HB := Lib.hid hbad
  clear hbad
  rcases h with h | h | h | h | h | h <;>
  · go_enter Try.func6, Try.ntmps6
    go_wp2_with fail
    refine (new_bad f g w HB.out).mono ?_
    rintro e w1 ⟨rfl, rfl⟩
    go_wp2_with fail
    refine (rnew_bad f g w HB.out).mono ?_
    rintro e w2 ⟨rfl, hB2⟩
    have hB3 := below_next hB2 hB2.size (below_alloc (.cells #[.int .i64 0, .int .i64 0, .slice none 0 0] 43))
    have HB3 := Lib.hid hB3
    clear hB3 hB2
    go_wp2_with (first | (go_at_call 10; refine (num_any _ _).mono ?_; rintro e w' ⟨rfl, rfl⟩) | (go_at_call 8; refine (live_any _).mono ?_; rintro e w5 ⟨rfl, hB5⟩))
    go_ret
    exact ⟨rfl, below_next HB3.out HB3.out.size hB5⟩
theorem plays_all (f g : Int) (A : Option Addr) (n c : Nat) (w : World) (h : IsActs w A n c) :
    Calls Try.prog 6 #[.int .i64 f, .int .i64 g, .slice A n c] w fun e w' => e = .returned (.bool true) ∧ Below w.heap.size w w' := by
  obtain ⟨hn, X, hA⟩ := acts_in h
  by_cases h1 : 60 < n ∨ (n ≤ 60 ∧ 40 < f ∧ f ≤ 1024) ∨ (n ≤ 60 ∧ f ≤ 40 ∧ 40 < g ∧ g ≤ 1024) ∨ (n ≤ 60 ∧ 40 < f ∧ 1024 < f ∧ 40 < g ∧ g ≤ 1024)
  · exact plays_far f g A n c w hn h1
  · by_cases h2 : (f < 1 ∧ g ≤ 40) ∨ (f < 1 ∧ 40 < g ∧ 1024 < g) ∨ (40 < f ∧ 1024 < f ∧ g ≤ 40) ∨ (40 < f ∧ 1024 < f ∧ 40 < g ∧ 1024 < g) ∨ (1 ≤ f ∧ f ≤ 40 ∧ g < 0) ∨ (1 ≤ f ∧ f ≤ 40 ∧ 40 < g ∧ 1024 < g)
    · exact plays_bad f g A n c w (by omega) h2
    · obtain ⟨F, rfl⟩ := Int.eq_ofNat_of_zero_le (show 0 ≤ f by omega)
      obtain ⟨G, rfl⟩ := Int.eq_ofNat_of_zero_le (show 0 ≤ g by omega)
      exact plays_near F G A n c X w hA (by omega) (by omega) (by omega)
end Go.Proofs.Ytmcejkimpjfmmaa
