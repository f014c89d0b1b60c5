/- The reference's profile: New, Tell. -/
import Derived.Test.YtmcejkimpjfmmaaWd
import Derived.Test.YtmcejkimpjfmmaaSa
import Derived.Deep.Cut
import Derived.Deep.CutRange
import Derived.Deep.CutBlock
import Derived.Deep.RegionLaw
import Derived.Deep.RegionHeld
import Derived.Deep.DrawnRows
set_option linter.unusedVariables false
set_option linter.unusedSimpArgs false
namespace Go.Proofs.Ytmcejkimpjfmmaa
open Go.RowKit Go.Lib Go.Maps
attribute [local go_sem ↓] Go.wp_at_zero Go.wp_at_succ

def acC (x : Ac) : List Value := [.int .i64 x.d, .int .i64 x.f, .int .i64 x.t, .int .i64 x.a, .int .i64 x.b, .int .u64 x.v]
def acsV (L : List Ac) : List Value := L.flatMap acC
theorem acsV_snoc (L x) : acsV (L ++ [x]) = acsV L ++ acC x := by simp [acsV]
theorem acsV_len (L) : (acsV L).length = L.length * 6 := by
  induction L with
  | nil => rfl
  | cons x L ih => simp [acsV, acC] at ih ⊢; omega
theorem acsV_one (L) : ∀ u ∈ acsV L, u.oneCell' = true := by
  intro u hu
  obtain ⟨x, _, hx⟩ := List.mem_flatMap.1 hu
  simp only [acC, List.mem_cons, List.not_mem_nil, or_false] at hx
  rcases hx with rfl | rfl | rfl | rfl | rfl | rfl <;> rfl
theorem acsV_get (L : List Ac) (j k : Nat) (x : Ac) (hx : L[j]? = some x) (hk : k < 6) : (acsV L)[j * 6 + k]? = (acC x)[k]? := by
  induction L generalizing j with
  | nil => simp at hx
  | cons y L ih =>
    have e : acsV (y :: L) = acC y ++ acsV L := by simp [acsV]
    rw [e]
    cases j with
    | zero =>
      simp at hx
      subst hx
      rw [List.getElem?_append_left (by simp [acC]; omega)]
      simp
    | succ j =>
      rw [List.getElem?_append_right (by simp [acC]; omega)]
      have e2 : (j + 1) * 6 + k - (acC y).length = j * 6 + k := by simp [acC]; omega
      rw [e2]
      exact ih j (by simpa using hx)
/-- The reference's list of what was told. -/
structure RA (w : World) (B : Nat) (A : Option Addr) (n : Nat) (L : List Ac) : Prop where
  len : L.length = n
  rv : RV w B A (acsV L)
theorem RA.below {w w' B A n L} (h : RA w B A n L) (hB : Below w.heap.size w w') : RA w' B A n L := ⟨h.len, h.rv.below hB⟩
theorem RA.drewN {w B A n L} (h : RA w B A n L) (q : Nat) : RA (w.drewN q) B A n L := ⟨h.len, h.rv.drewN q⟩
theorem RA.mono {w B B' A n L} (h : RA w B A n L) (e : B' ≤ B) : RA w B' A n L := ⟨h.len, h.rv.mono e⟩
theorem RA.at_ {w B A n L} (h : RA w B A n L) (hn : 0 < n) : ∃ b o, A = some ⟨b, o, none⟩ ∧ B ≤ b ∧ b < w.heap.size ∧ ∀ j x, L[j]? = some x → At6 w b (o + j * 6) x := by
  obtain ⟨b, o, e, h1, h2, h3⟩ := h.rv (by rw [acsV_len, h.len]; omega)
  refine ⟨b, o, e, h1, h2, fun j x hx => ?_⟩
  have hc : ∀ k u, k < 6 → (acC x)[k]? = some u → w.cell? ⟨b, o + j * 6 + k, none⟩ = some u := fun k u hk hu => by
    rw [Nat.add_assoc]
    exact h3 _ u (by rw [acsV_get L j k x hx hk]; exact hu)
  exact ⟨hc 0 _ (by omega) rfl, hc 1 _ (by omega) rfl, hc 2 _ (by omega) rfl, hc 3 _ (by omega) rfl, hc 4 _ (by omega) rfl, hc 5 _ (by omega) rfl⟩
abbrev rp (F G : Int) (A : Option Addr) (n c : Nat) : Value := .agg #[.int .i64 F, .int .i64 G, .slice A n c]

set_option maxHeartbeats 1000000 in
theorem rnew_bad (f g : Int) (w : World) (h : f < 1 ∨ 1024 < f ∨ g < 0 ∨ 1024 < g) : Calls Try.prog 16 #[.int .i64 f, .int .i64 g] w fun e w' => e = .returned (.tuple #[rp 0 0 none 0 0, .int .i64 1]) ∧ Below w.heap.size w w' := by
  have h : f < 1 ∨ (1 ≤ f ∧ 1024 < f) ∨ (1 ≤ f ∧ f ≤ 1024 ∧ g < 0) ∨ (1 ≤ f ∧ f ≤ 1024 ∧ 0 ≤ g ∧ 1024 < g) := by omega
  rcases h with h | h | h | h <;>
  · go_enter Try.func16, Try.ntmps16
    go_wp2_with fail
    exact bodyPost_ret (v := .tuple #[rp 0 0 none 0 0, .int .i64 1]) (by simp [results, Try.results16, go_sem]) rfl ⟨rfl, (Below.refl _ _).alloc (Nat.le_refl _) _⟩
set_option maxHeartbeats 1000000 in
theorem rnew_ok (f g : Int) (w : World) (h : 1 ≤ f ∧ f ≤ 1024 ∧ 0 ≤ g ∧ g ≤ 1024) : Calls Try.prog 16 #[.int .i64 f, .int .i64 g] w fun e w' => e = .returned (.tuple #[rp f g none 0 0, .int .i64 0]) ∧ Below w.heap.size w w' := by
  go_enter Try.func16, Try.ntmps16
  go_wp2_with fail
  exact bodyPost_ret (v := .tuple #[rp f g none 0 0, .int .i64 0]) (by simp [results, Try.results16, go_sem]) rfl ⟨rfl, (Below.refl _ _).alloc (Nat.le_refl _) _⟩

theorem blk3 {w : World} {b : Nat} {v0 v1 v2 : Value} {t : TypeId} (h : w.heap[b]? = some (.cells #[v0, v1, v2] t (0, 0))) :
    w.cell? ⟨b, 0, none⟩ = some v0 ∧ w.cell? ⟨b, 1, none⟩ = some v1 ∧ w.cell? ⟨b, 2, none⟩ = some v2 ∧ (∀ i, w.frozen? ⟨b, i, none⟩ = false) ∧ b < w.heap.size :=
  ⟨by simp [World.cell?, h], by simp [World.cell?, h], by simp [World.cell?, h], fun i => by simp [World.frozen?, h], (Array.getElem?_eq_some_iff.1 h).1⟩
theorem blk3_set2 {w : World} {b : Nat} {v0 v1 v2 : Value} {t : TypeId} (h : w.heap[b]? = some (.cells #[v0, v1, v2] t (0, 0))) (u : Value) :
    (w.setCell ⟨b, 2, none⟩ u).heap[b]? = some (.cells #[v0, v1, u] t (0, 0)) := by simp [World.setCell, Array.getElem?_modify, h]
theorem acC_one (x) : ∀ u ∈ acC x, u.oneCell' = true := by
  intro u hu
  simp only [acC, List.mem_cons, List.not_mem_nil, or_false] at hu
  rcases hu with rfl | rfl | rfl | rfl | rfl | rfl <;> rfl
theorem info32 : (Try.prog.info? 32).map (fun i => (i.zero, i.size, i.bytes)) = some (some (.agg #[.int .i64 0, .int .i64 0, .int .i64 0, .int .i64 0, .int .i64 0, .int .u64 0]), 6, 48) := by kernel_rfl
theorem el22 : ElemT Try.prog 22 32 6 48 := ⟨Try.underlying22, by
  obtain ⟨i0, hi, hz0, hz1, hz2⟩ := info_parts info32
  exact ⟨i0, _, hi, hz0, hz1, hz2, rfl⟩, by omega⟩
theorem app_freshV {base g n c : Nat} {w w1 w2 : World} (h : Below base w w1) (hB : base ≤ w1.heap.size) (hg : w1.grownBy w2 (Value.slice (some ⟨g, 0, none⟩) n c).ownBlock) (hb : base ≤ g) : Below base w w2 :=
  h.grown hg hB (fun k hk => by simp [Value.ownBlock] at hk; omega)
theorem RV.lit_grown {W w' : World} {g L base : Nat} {vs : List Value} (h : RV W base (some ⟨L, 0, none⟩) vs) (hg : W.grownBy w' (Value.slice (some ⟨g, 0, none⟩) 0 0).ownBlock) (hne : g ≠ L) : RV w' base (some ⟨L, 0, none⟩) vs :=
  h.grown hg fun k hk b o hA => by
    simp [Value.ownBlock] at hk
    injection hA with hA; injection hA with hA
    omega
theorem RV.lit2 (w : World) (cs : Array Value) (t : TypeId) : RV ((w.alloc (.cells #[] t)).alloc (.cells cs t)).drew w.heap.size (some ⟨w.heap.size + 1, 0, none⟩) cs.toList := by
  have h := RV.lit (w.alloc (.cells #[] t)) cs t w.heap.size (by simp)
  have e : (w.alloc (.cells #[] t)).heap.size = w.heap.size + 1 := by simp
  rw [e] at h
  exact RV.drewN h 1
theorem RV.lit3 (w : World) (cs : Array Value) (t : TypeId) : RV ((w.alloc (.cells cs t)).alloc (.cells #[] t)).drew w.heap.size (some ⟨w.heap.size, 0, none⟩) cs.toList :=
  RV.drewN ((RV.lit w cs t w.heap.size (Nat.le_refl _)).below (below_alloc (.cells #[] t))) 1
theorem own_emptyV2 {E : TypeId} {size : Nat} (w : World) (o : Obj) : ((w.alloc o).alloc (.cells #[] E)).drew.ownsRow w.heap.size E size (.slice (some ⟨w.heap.size + 1, 0, none⟩) 0 0) 0 [] := by
  have h := own_emptyV (E := E) (size := size) (w.alloc o) w.heap.size (by simp)
  have e : (w.alloc o).heap.size = w.heap.size + 1 := by simp
  rw [e] at h
  exact h.drew
/-- What the reference's Tell hands back. -/
def RTells (B F G : Nat) (L : List Ac) (x : Ac) (w : World) (e : Ending) (w' : World) : Prop :=
  (∃ A' n' c', e = .returned (.tuple #[rp F G A' n' c', .int .i64 (codeL F G x)]) ∧ RA w' B A' n' (tellL F G L x)) ∧ Below w.heap.size w w'
set_option maxRecDepth 100000 in
set_option maxHeartbeats 4000000 in
theorem rtell_any (x : Ac) (F G : Nat) (A : Option Addr) (n c : Nat) (L : List Ac) (w : World) (B : Nat) (hBw : B ≤ w.heap.size) (h : RA w B A n L) (hn : n ≤ 1000) :
    Calls Try.prog 17 #[rp F G A n c, acV x] w (RTells B F G L x w) := by
  have hq : (((w.alloc (.cells #[.int .i64 F, .int .i64 G, .slice A n c] 43)).alloc (acO x)).alloc (.cells #[.int .i64 0, .int .i64 0, .slice none 0 0] 43)).heap[w.heap.size]? = some (.cells #[.int .i64 F, .int .i64 G, .slice A n c] 43 (0, 0)) := at0 _ _ _ _
  have ha : (((w.alloc (.cells #[.int .i64 F, .int .i64 G, .slice A n c] 43)).alloc (acO x)).alloc (.cells #[.int .i64 0, .int .i64 0, .slice none 0 0] 43)).heap[w.heap.size + 1]? = some (acO x) := at1 _ _ _ _
  have hr : (((w.alloc (.cells #[.int .i64 F, .int .i64 G, .slice A n c] 43)).alloc (acO x)).alloc (.cells #[.int .i64 0, .int .i64 0, .slice none 0 0] 43)).heap[w.heap.size + 1 + 1]? = some (.cells #[.int .i64 0, .int .i64 0, .slice none 0 0] 43 (0, 0)) := at2 _ _ _ _
  have hB : Below w.heap.size w (((w.alloc (.cells #[.int .i64 F, .int .i64 G, .slice A n c] 43)).alloc (acO x)).alloc (.cells #[.int .i64 0, .int .i64 0, .slice none 0 0] 43)) := (((Below.refl _ w).alloc (Nat.le_refl _) _).alloc (by simp) _).alloc (by simp; omega) _
  have HQ := Lib.hid hq
  have HA := Lib.hid ha
  have HR := Lib.hid hr
  have HB := Lib.hid hB
  have HL := Lib.hid h
  clear hq ha hr hB h
  go_enter Try.func17, Try.ntmps17
  go_upto_region 1 with (fail)
  generalize ((w.alloc (.cells #[.int .i64 F, .int .i64 G, .slice A n c] 43)).alloc (acO x)).alloc (.cells #[.int .i64 0, .int .i64 0, .slice none 0 0] 43) = w1 at *
  obtain ⟨cc0, cc1, cc2, fr, ltq⟩ := blk3 HQ.out
  obtain ⟨x0, x1, x2, x3, x4, x5, _⟩ := Row6 HA.out
  have ltA := (Array.getElem?_eq_some_iff.1 HA.out).1
  clear fr
  go_cut [6] from 6 to 16 (fun s6 wx => s6 = .bool (decide (x.f < 0 ∨ (F : Int) ≤ x.f)) ∧ wx = w1)
  case first =>
    by_cases h0 : x.f < 0
    · go_wp2_with fail
      go_meet
      exact ⟨by simp [h0], rfl⟩
    · by_cases h1 : (F : Int) ≤ x.f
      · go_wp2_with fail
        go_meet
        exact ⟨by simp [h1], rfl⟩
      · go_wp2_with fail
        go_meet
        exact ⟨by simp; omega, rfl⟩
  case rest =>
    obtain ⟨rfl, hw⟩ := hcut
    have hw := hw.symm
    subst hw
    obtain ⟨bf, hbf⟩ : ∃ bf, decide (x.f < 0 ∨ (F : Int) ≤ x.f) = bf := ⟨_, rfl⟩
    have HBF := Lib.hid hbf
    rw [hbf]
    clear hbf
    go_upto_block 0 with (fail)
    go_cut [6] from 19 to 63 (fun s6 wx => s6 = .bool (!goodA F G x) ∧ wx = w1)
    case first =>
      by_cases h2 : x.d = 2
      · have hg : goodA F G x = decide (0 ≤ x.f ∧ x.f < F ∧ 0 ≤ x.t ∧ x.t < 65536 ∧ 0 ≤ x.a ∧ x.a ≤ 3 ∧ 0 ≤ x.b ∧ x.b ≤ 3) := by unfold goodA; rw [if_pos h2]
        have HG := Lib.hid hg
        have e2 : (x.d == 2) = true := by simpa using h2
        clear hg h2
        cases bf with
        | true =>
          have hbf := HBF.out
          go_wp2_with fail
          go_meet
          refine ⟨?_, rfl⟩
          rw [HG.out]; simp at hbf ⊢; omega
        | false =>
          have hbf : ¬ (x.f < 0 ∨ (F : Int) ≤ x.f) := by simpa using HBF.out
          clear HBF
          have hf : 0 ≤ x.f ∧ x.f < (F : Int) := by omega
          have HF := Lib.hid hf
          clear hbf hf
          have hc : x.t < 0 ∨ (0 ≤ x.t ∧ 65536 ≤ x.t) ∨ (0 ≤ x.t ∧ x.t < 65536 ∧ x.a < 0) ∨ (0 ≤ x.t ∧ x.t < 65536 ∧ 0 ≤ x.a ∧ 3 < x.a) ∨ (0 ≤ x.t ∧ x.t < 65536 ∧ 0 ≤ x.a ∧ x.a ≤ 3 ∧ x.b < 0) ∨ (0 ≤ x.t ∧ x.t < 65536 ∧ 0 ≤ x.a ∧ x.a ≤ 3 ∧ 0 ≤ x.b ∧ 3 < x.b) ∨ (0 ≤ x.t ∧ x.t < 65536 ∧ 0 ≤ x.a ∧ x.a ≤ 3 ∧ 0 ≤ x.b ∧ x.b ≤ 3) := by omega
          rcases hc with hc | hc | hc | hc | hc | hc | hc <;>
          · go_wp2_with fail
            go_meet
            refine ⟨?_, rfl⟩
            have hf := HF.out
            first | (rw [HG.out, decide_eq_true (by omega)]; simp; done) | (rw [HG.out, decide_eq_true (by omega)]; simp; omega) | (rw [HG.out]; simp; first | omega | (rw [Bool.eq_iff_iff]; simp; done) | (rw [Bool.eq_iff_iff]; simp; omega))
      · by_cases h3 : x.d = 3
        · have hg : goodA F G x = decide (0 ≤ x.f ∧ x.f < G) := by unfold goodA; rw [if_neg h2, if_pos h3]
          have HG := Lib.hid hg
          have e2 : (x.d == 2) = false := by simpa using h2
          have e3 : (x.d == 3) = true := by simpa using h3
          clear hg h2 h3
          have hc : x.f < 0 ∨ (0 ≤ x.f ∧ (G : Int) ≤ x.f) ∨ (0 ≤ x.f ∧ x.f < (G : Int)) := by omega
          rcases hc with hc | hc | hc <;>
          · go_wp2_with fail
            go_meet
            refine ⟨?_, rfl⟩
            first | (rw [HG.out, decide_eq_true (by omega)]; simp; done) | (rw [HG.out, decide_eq_true (by omega)]; simp; omega) | (rw [HG.out]; simp; first | omega | (rw [Bool.eq_iff_iff]; simp; done) | (rw [Bool.eq_iff_iff]; simp; omega))
        · have hg : goodA F G x = decide (0 ≤ x.f ∧ x.f < F) := by unfold goodA; rw [if_neg h2, if_neg h3]
          have HG := Lib.hid hg
          have e2 : (x.d == 2) = false := by simpa using h2
          have e3 : (x.d == 3) = false := by simpa using h3
          clear hg h2 h3
          go_wp2_with fail
          go_meet
          refine ⟨?_, rfl⟩
          rw [HG.out, ← HBF.out]
          congr 1
          rw [Bool.eq_iff_iff]; simp
    case rest =>
      obtain ⟨rfl, hw⟩ := hcut
      have hw := hw.symm
      subst hw
      obtain ⟨rr0, rr1, rr2, frr, ltr⟩ := blk3 HR.out
      have frr0 := frr 0
      have frr1 := frr 1
      have frr2 := frr 2
      clear frr HBF
      cases hg : goodA F G x with
      | false =>
        rw [Bool.not_false]
        have hcode : codeL F G x = 1 := by unfold codeL; rw [hg]; rfl
        have htell : tellL F G L x = L := by unfold tellL; rw [hg]; rfl
        have HC := Lib.hid hcode
        have HT := Lib.hid htell
        clear hg hcode htell
        go_wp2_with fail
        have hE := ((HB.out.setCell (p := ⟨w.heap.size + 1 + 1, 0, none⟩) (by simp; omega) (.int .i64 F)).setCell (p := ⟨w.heap.size + 1 + 1, 1, none⟩) (by simp; omega) (.int .i64 G)).setCell (p := ⟨w.heap.size + 1 + 1, 2, none⟩) (by simp; omega) (.slice A n c)
        refine bodyPost_ret (v := .tuple #[rp F G A n c, .int .i64 1]) (by simp [results, Try.results17, go_sem, World.cell?_setCell_far, rr0, rr1, rr2]) rfl ⟨⟨A, n, c, by rw [HC.out], ?_⟩, hE⟩
        rw [HT.out]
        exact HL.out.below hE
      | true =>
        rw [Bool.not_true]
        have hcode : codeL F G x = 0 := by unfold codeL; rw [hg]; rfl
        have htell : tellL F G L x = L ++ [x] := by unfold tellL; rw [hg]; rfl
        have HC := Lib.hid hcode
        have HT := Lib.hid htell
        clear hg hcode htell
        go_upto_region 9 with (fail)
        have hlen := HL.out.len
        have hL1 : RV w1 B A (acsV L) := (HL.out.below HB.out).rv
        go_cut [] from 66 to 73 (fun wx => ∃ w7 A4 c4, wx = w7.setCell ⟨w.heap.size, 2, none⟩ (.slice A4 (n + 1) c4) ∧ Below w1.heap.size w1 w7 ∧ w7.ownsRow w1.heap.size 32 6 (.slice A4 (n + 1) c4) (n + 1) (acsV L ++ acC x))
        case first =>
          clear rr0 rr1 rr2 frr0 frr1 frr2
          go_region_law (first
            | ((
                (
                  refine step_appV el22 rfl (.tmp 66) (.tmp 68) (by rfl) w1.heap.size (.slice (some ⟨_, 0, none⟩) 0 0) 0 [] (by rfl) ?_ B A n c (acsV L) (by rfl) ?_ (by rw [acsV_len, hlen]) (acsV_one L) (by unfold maxLen; omega) (by omega) (by simp <;> omega) ?_
                  · first | exact (own_emptyV _ _ (by simp)).drew | exact ((own_emptyV _ _ (by simp)).alloc _).drew | exact own_emptyV2 _ _
                  · first | exact hL1.below (below_alloc _).drew | exact hL1.below ((below_alloc _).alloc (by simp) _).drew)
                intro v3 w6 hown3 hg3 hat3
                (
                  have b6 : Below w1.heap.size w1 w6 := by
                    refine app_freshV ?_ ?_ hg3 ?_
                    · first | exact ((Below.refl _ w1).alloc (Nat.le_refl _) _).drew | exact (((Below.refl _ w1).alloc (Nat.le_refl _) _).alloc (by simp) _).drew
                    · simp <;> omega
                    · simp)
                (
                  obtain ⟨z0, z1, z2, zf, _⟩ := blk3 ((b6.block _ ltq).trans HQ.out)
                  obtain ⟨a0, a1, a2, a3, a4, a5, _⟩ := Row6 ((b6.block _ ltA).trans HA.out))
                simp only [Nat.zero_add, List.nil_append] at hown3))
            | ((
                (
                  refine step_appV el22 rfl (.tmp 69) (.tmp 71) (by rfl) w1.heap.size v3 n (acsV L) (by rfl) ?_ w1.heap.size (some ⟨_, 0, none⟩) 1 1 (acC x) (by rfl) ?_ (by simp [acC]) (acC_one x) (by unfold maxLen; omega) (by omega) ?_ ?_
                  · first | exact hown3 | exact hown3.alloc _
                  · first
                    | exact RV.lit w6 (acC x).toArray 32 w1.heap.size b6.size
                    | exact RV.lit_grown (RV.lit2 w1 (acC x).toArray 32) hg3 (by omega)
                    | exact RV.lit_grown (RV.lit3 w1 (acC x).toArray 32) hg3 (by omega)
                  · first | exact b6.size | (simp; have := b6.size; omega))
                intro v4 w7 hown4 hg4 hat4
                have b7 : Below w1.heap.size w1 w7 := by
                  first
                    | exact app_below (b6.alloc b6.size _) (by simp; have := b6.size; omega) (hown3.alloc _) hg4
                    | exact app_below b6 b6.size hown3 hg4
                clear z0 z1 z2 zf a0 a1 a2 a3 a4 a5
                obtain ⟨z0, z1, z2, zf, _⟩ := blk3 ((b7.block _ ltq).trans HQ.out)
                have zf2 := zf 2
                obtain ⟨A4, c4, rfl⟩ := own_slice hown4)))
          all_goals (go_wp2_with fail; go_meet; exact ⟨_, _, _, rfl, b7, hown4⟩)
        case rest =>
          obtain ⟨w7, A4, c4, rfl, b7, hown4⟩ := hcut
          have hcap4 := own_cap hown4
          have g7q := blk3_set2 ((b7.block _ ltq).trans HQ.out) (.slice A4 (n + 1) c4)
          have g7r : (w7.setCell ⟨w.heap.size, 2, none⟩ (.slice A4 (n + 1) c4)).heap[w.heap.size + 1 + 1]? = some (.cells #[.int .i64 0, .int .i64 0, .slice none 0 0] 43 (0, 0)) := (Below.heap_setCell _ _ _ _ (by simp; omega)).trans ((b7.block _ ltr).trans HR.out)
          have g7b := (below_next HB.out HB.out.size b7).setCell (p := ⟨w.heap.size, 2, none⟩) (by simp) (.slice A4 (n + 1) c4)
          have hS := (RV.own hown4).setCell ⟨w.heap.size, 2, none⟩ (.slice A4 (n + 1) c4) (by simpa using ltq)
          clear cc0 cc1 cc2 HB HQ HR HA b7 hown4 rr0 rr1 rr2 frr0 frr1 frr2 x0 x1 x2 x3 x4 x5
          have HS := Lib.hid hS
          have HB := Lib.hid g7b
          clear hS g7b
          generalize w7.setCell ⟨w.heap.size, 2, none⟩ (.slice A4 (n + 1) c4) = w8 at *
          obtain ⟨cc0, cc1, cc2, fr, lt8⟩ := blk3 g7q
          obtain ⟨rr0, rr1, rr2, frr, lt9⟩ := blk3 g7r
          have frr0 := frr 0
          have frr1 := frr 1
          have frr2 := frr 2
          clear fr frr g7q g7r
          go_wp2_with fail
          have hE := ((HB.out.setCell (p := ⟨w.heap.size + 1 + 1, 0, none⟩) (by simp; omega) (.int .i64 F)).setCell (p := ⟨w.heap.size + 1 + 1, 1, none⟩) (by simp; omega) (.int .i64 G)).setCell (p := ⟨w.heap.size + 1 + 1, 2, none⟩) (by simp; omega) (.slice A4 (n + 1) c4)
          refine bodyPost_ret (v := .tuple #[rp F G A4 (n + 1) c4, .int .i64 0]) (by simp [results, Try.results17, go_sem, World.cell?_setCell_far, rr0, rr1, rr2]) rfl ⟨⟨A4, n + 1, c4, by rw [HC.out], ?_⟩, hE⟩
          rw [HT.out]
          refine ⟨by simp [hlen], ?_⟩
          rw [acsV_snoc]
          exact (((HS.out.setCell ⟨w.heap.size + 1 + 1, 0, none⟩ _ (by simpa using ltr)).setCell ⟨w.heap.size + 1 + 1, 1, none⟩ _ (by simpa using ltr)).setCell ⟨w.heap.size + 1 + 1, 2, none⟩ _ (by simpa using ltr)).mono (by omega)
end Go.Proofs.Ytmcejkimpjfmmaa
