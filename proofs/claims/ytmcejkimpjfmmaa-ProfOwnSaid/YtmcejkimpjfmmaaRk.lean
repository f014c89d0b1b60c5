/- The reference's Kinds. -/
import Derived.Test.YtmcejkimpjfmmaaRh
set_option linter.unusedVariables false
set_option linter.unusedSimpArgs false
namespace Go.Proofs.Ytmcejkimpjfmmaa
open Go.RowKit Go.Lib Go.Maps

def GoodL (F G : Nat) (L : List Ac) : Prop := ∀ x ∈ L, goodA F G x = true
theorem GoodL.nil (F G) : GoodL F G [] := fun x h => by cases h
theorem GoodL.tell {F G L} (h : GoodL F G L) (x : Ac) : GoodL F G (tellL F G L x) := by
  unfold tellL
  by_cases e : goodA F G x = true
  · rw [if_pos e]
    intro y hy
    rcases List.mem_append.1 hy with hy | hy
    · exact h y hy
    · simp at hy; subst hy; exact e
  · rw [if_neg e]; exact h
theorem GoodL.pair {F G L} (h : GoodL F G L) {x : Ac} (hx : x ∈ L) (hd : x.d = 2) : 0 ≤ x.a ∧ x.a ≤ 3 ∧ 0 ≤ x.b ∧ x.b ≤ 3 := by
  have := h x hx
  unfold goodA at this
  rw [if_pos hd] at this
  simp at this
  omega
abbrev four (p : Nat → Bool) : Array Value := #[.bool (p 0), .bool (p 1), .bool (p 2), .bool (p 3)]
theorem lt4 {a : Nat} (h : a < 4) : a = 0 ∨ a = 1 ∨ a = 2 ∨ a = 3 := by omega
theorem four_cell {w : World} {q : Nat} {p : Nat → Bool} {t : TypeId} (h : w.heap[q]? = some (.cells (four p) t (0, 0))) {a : Nat} (ha : a < 4) : w.cell? ⟨q, a, none⟩ = some (.bool (p a)) ∧ w.frozen? ⟨q, a, none⟩ = false := by
  rcases lt4 ha with rfl | rfl | rfl | rfl <;> simp [World.cell?, World.frozen?, h]
theorem four_set {w : World} {q : Nat} {p : Nat → Bool} {t : TypeId} (h : w.heap[q]? = some (.cells (four p) t (0, 0))) {a : Nat} (ha : a < 4) :
    (w.setCell ⟨q, a, none⟩ (.bool true)).heap[q]? = some (.cells (four fun i => p i || decide (a = i)) t (0, 0)) := by
  rcases lt4 ha with rfl | rfl | rfl | rfl <;> simp [World.setCell, Array.getElem?_modify, h]
def partM (l r : Nat → Bool) : Nat → Nat
  | 0 => 0
  | j + 1 => partM l r j + bit (l j) (2 ^ j) + bit (r j) (16 * 2 ^ j)
theorem partM_all (l r) : partM l r 4 = mask l r := by
  unfold mask
  simp only [partM, Nat.reducePow, Nat.reduceMul]
  omega
theorem partM_bd (l r) (j : Nat) : partM l r j + 17 ≤ 17 * 2 ^ j := by
  induction j with
  | zero => simp [partM]
  | succ j ih =>
    have h1 := bit_le (l j) (2 ^ j)
    have h2 := bit_le (r j) (16 * 2 ^ j)
    simp only [partM, Nat.pow_succ]
    omega
theorem lefts_miss (L : List Ac) (x : Ac) (f t : Int) (h : hitP f t x = false) : lefts (L ++ [x]) f t = lefts L f t ∧ rights (L ++ [x]) f t = rights L f t := by
  constructor <;> funext i <;> simp [lefts, rights, h]
theorem lefts_hit (L : List Ac) (x : Ac) (f t : Int) (a b : Nat) (h : hitP f t x = true) (ea : x.a = (a : Int)) (eb : x.b = (b : Int)) :
    lefts (L ++ [x]) f t = (fun i => lefts L f t i || decide (a = i)) ∧ rights (L ++ [x]) f t = (fun i => rights L f t i || decide (b = i)) := by
  constructor
  · funext i; simp only [lefts, List.any_append, List.any_cons, List.any_nil, h, ea, Bool.true_and, Bool.or_false]
    congr 1; simp; omega
  · funext i; simp only [rights, List.any_append, List.any_cons, List.any_nil, h, eb, Bool.true_and, Bool.or_false]
    congr 1; simp; omega

set_option maxRecDepth 20000 in
set_option maxHeartbeats 2000000 in
theorem rkinds_any (f t : Int) (F G : Nat) (A : Option Addr) (n c : Nat) (L : List Ac) (w : World) (B : Nat) (h : RA w B A n L) (hn : n ≤ 1000) (hG : GoodL F G L) :
    Calls Try.prog 35 #[rp F G A n c, .int .i64 f, .int .i64 t] w fun e w' => e = .returned (.int .i64 (kindsL L f t)) ∧ Below w.heap.size w w' := by
  have HL0 := Lib.hid h
  have hlen := h.len
  clear h
  have HG := Lib.hid hG
  clear hG
  go_enter Try.func35, Try.ntmps35
  go_wp2_with fail
  have hq : (((w.alloc (.cells #[.int .i64 F, .int .i64 G, .slice A n c] 43)).alloc (.cells #[.bool false, .bool false, .bool false, .bool false] 91)).alloc (.cells #[.bool false, .bool false, .bool false, .bool false] 91)).heap[w.heap.size]? = some (.cells #[.int .i64 F, .int .i64 G, .slice A n c] 43 (0, 0)) := at0 _ _ _ _
  have hl : (((w.alloc (.cells #[.int .i64 F, .int .i64 G, .slice A n c] 43)).alloc (.cells #[.bool false, .bool false, .bool false, .bool false] 91)).alloc (.cells #[.bool false, .bool false, .bool false, .bool false] 91)).heap[w.heap.size + 1]? = some (.cells (four (lefts [] f t)) 91 (0, 0)) := at1 _ _ _ _
  have hr : (((w.alloc (.cells #[.int .i64 F, .int .i64 G, .slice A n c] 43)).alloc (.cells #[.bool false, .bool false, .bool false, .bool false] 91)).alloc (.cells #[.bool false, .bool false, .bool false, .bool false] 91)).heap[w.heap.size + 1 + 1]? = some (.cells (four (rights [] f t)) 91 (0, 0)) := at2 _ _ _ _
  have hB : Below w.heap.size w (((w.alloc (.cells #[.int .i64 F, .int .i64 G, .slice A n c] 43)).alloc (.cells #[.bool false, .bool false, .bool false, .bool false] 91)).alloc (.cells #[.bool false, .bool false, .bool false, .bool false] 91)) := (((Below.refl _ w).alloc (Nat.le_refl _) _).alloc (by simp) _).alloc (by simp; omega) _
  have HQ := Lib.hid hq
  have HLf := Lib.hid hl
  have HRt := Lib.hid hr
  have HB := Lib.hid hB
  clear hq hl hr hB
  generalize ((w.alloc (.cells #[.int .i64 F, .int .i64 G, .slice A n c] 43)).alloc (.cells #[.bool false, .bool false, .bool false, .bool false] 91)).alloc (.cells #[.bool false, .bool false, .bool false, .bool false] 91) = w1 at *
  go_loopw [9] (fun i wr => ∃ j : Nat, j ≤ n ∧ i = .int .i64 j ∧ Hid (wr.heap[w.heap.size]? = some (.cells #[.int .i64 F, .int .i64 G, .slice A n c] 43 (0, 0))) ∧ Hid (wr.heap[w.heap.size + 1]? = some (.cells (four (lefts (L.take j) f t)) 91 (0, 0))) ∧ Hid (wr.heap[w.heap.size + 1 + 1]? = some (.cells (four (rights (L.take j) f t)) 91 (0, 0))) ∧ Hid (Below w.heap.size w wr)) (fun i _ => n - (intOf i).toNat)
  case atStart => exact ⟨0, by omega, rfl, HQ, HLf, HRt, HB⟩
  case round =>
    clear HQ HLf HRt HB
    obtain ⟨j, hj, rfl, HQ, HLf, HRt, HB⟩ := hrel
    obtain ⟨cc0, cc1, cc2, fr, ltq⟩ := blk3 HQ.out
    have ltr := (Array.getElem?_eq_some_iff.1 HRt.out).1
    clear fr
    by_cases hlt : j < n
    · obtain ⟨b, o, rfl, _, hbl, hc⟩ := (HL0.out.below HB.out).at_ (by omega)
      obtain ⟨b', o', e', _, hbl0, _⟩ := HL0.out.at_ (by omega)
      obtain rfl : b = b' := by injection e' with e'; injection e'
      have hx : L[j]? = some (L[j]'(by omega)) := List.getElem?_eq_getElem _
      have h6 := hc j _ hx
      have ht := take_snoc hx
      have hmem := List.mem_of_getElem? hx
      generalize L[j]'(by omega) = x at *
      have hpr := HG.out.pair hmem
      obtain ⟨x0, x1, x2, x3, x4, x5⟩ := h6
      have hs1 := lefts_miss (L.take j) x f t
      have hs2 := lefts_hit (L.take j) x f t
      rw [← ht] at hs1 hs2
      have HBa := HB.out.alloc HB.out.size (acO x)
      have hQa := (Below.heap_alloc wr (acO x) _ ltq).trans HQ.out
      have hLa := (Below.heap_alloc wr (acO x) _ (by omega)).trans HLf.out
      have hRa := (Below.heap_alloc wr (acO x) _ ltr).trans HRt.out
      clear hc ht hx hmem e'
      by_cases hh : hitP f t x = true
      · have hd : x.d = 2 ∧ x.f = f ∧ x.t = t := by simpa [hitP] using hh
        have hab := hpr hd.1
        obtain ⟨a, ea⟩ := Int.eq_ofNat_of_zero_le hab.1
        obtain ⟨d, ed⟩ := Int.eq_ofNat_of_zero_le hab.2.2.1
        have ha4 : a < 4 := by omega
        have hd4 : d < 4 := by omega
        obtain ⟨xd, xf, xt, xa, xb, xv⟩ := x
        dsimp only at x0 x1 x2 x3 x4 x5 ea ed hd
        subst ea
        subst ed
        have m4 : ((wr.alloc (acO ⟨xd, xf, xt, a, d, xv⟩)).setCell ⟨w.heap.size + 1, a, none⟩ (.bool true)).cell? ⟨wr.heap.size, 4, none⟩ = some (.int .i64 d) := by
          rw [World.cell?_setCell_far _ _ _ _ (by simp; omega)]
          exact World.cell?_alloc_at2 wr _ 4
        obtain ⟨hd0, hd1, hd2⟩ := hd
        obtain ⟨hs3, hs4⟩ := hs2 a d hh rfl rfl
        have hL2 := four_set hLa ha4
        have hR1 := (Below.heap_setCell (wr.alloc (acO ⟨xd, xf, xt, a, d, xv⟩)) ⟨w.heap.size + 1, a, none⟩ (.bool true) (w.heap.size + 1 + 1) (by simp)).trans hRa
        have hR2 := four_set hR1 hd4
        have hL3 := (Below.heap_setCell ((wr.alloc (acO ⟨xd, xf, xt, a, d, xv⟩)).setCell ⟨w.heap.size + 1, a, none⟩ (.bool true)) ⟨w.heap.size + 1 + 1, d, none⟩ (.bool true) (w.heap.size + 1) (by simp)).trans hL2
        have hQ3 := (Below.heap_setCell ((wr.alloc (acO ⟨xd, xf, xt, a, d, xv⟩)).setCell ⟨w.heap.size + 1, a, none⟩ (.bool true)) ⟨w.heap.size + 1 + 1, d, none⟩ (.bool true) (w.heap.size) (by simp; omega)).trans ((Below.heap_setCell (wr.alloc (acO ⟨xd, xf, xt, a, d, xv⟩)) ⟨w.heap.size + 1, a, none⟩ (.bool true) (w.heap.size) (by simp)).trans hQa)
        have hB3 := (HBa.setCell (p := ⟨w.heap.size + 1, a, none⟩) (by simp) (.bool true)).setCell (p := ⟨w.heap.size + 1 + 1, d, none⟩) (by simp; omega) (.bool true)
        obtain ⟨la, fa⟩ := four_cell hLa ha4
        obtain ⟨ra, fra⟩ := four_cell hR1 hd4
        rw [← hs3] at hL3
        rw [← hs4] at hR2
        have H1 := Lib.hid hL3
        have H2 := Lib.hid hR2
        have H3 := Lib.hid hQ3
        have H4 := Lib.hid hB3
        have k0 : (xd == 2) = true := by simp; omega
        have k1 : (xf == f) = true := by simp; omega
        have k2 : (xt == t) = true := by simp; omega
        have p1 : (0 : Int) ≤ (a : Int) := by omega
        have p2 : (a : Int) < 4 := by omega
        have p3 : (0 : Int) ≤ (d : Int) := by omega
        have p4 : (d : Int) < 4 := by omega
        clear hs1 hs2 hs3 hs4 hL2 hR1 hR2 hL3 hQ3 hB3 hQa hLa hRa HBa hpr hd0 hd1 hd2 hab hh HQ HLf HRt HB ha4 hd4
        go_wp2_with fail
        go_roundw
        case rel => exact ⟨j + 1, by omega, by go_num, H3, H1, H2, H4⟩
        case measure => simp [intOf]; omega
      · have hh : hitP f t x = false := by simpa using hh
        obtain ⟨hs3, hs4⟩ := hs1 hh
        rw [← hs3] at hLa
        rw [← hs4] at hRa
        have H1 := Lib.hid hLa
        have H2 := Lib.hid hRa
        have H3 := Lib.hid hQa
        have H4 := Lib.hid HBa
        clear hs1 hs2 hs3 hs4 hQa hLa hRa HBa hpr HQ HLf HRt HB
        by_cases e0 : x.d = 2
        · by_cases e1 : x.f = f
          · have e2 : ¬ x.t = t := fun e2 => by simp [hitP, e0, e1, e2] at hh
            have k0 : (x.d == 2) = true := by simpa using e0
            have k1 : (x.f == f) = true := by simpa using e1
            have k2 : (x.t == t) = false := by simpa using e2
            clear e0 e1 e2 hh
            go_wp2_with fail
            go_roundw
            case rel => exact ⟨j + 1, by omega, by go_num, H3, H1, H2, H4⟩
            case measure => simp [intOf]; omega
          · have k0 : (x.d == 2) = true := by simpa using e0
            have k1 : (x.f == f) = false := by simpa using e1
            clear e0 e1 hh
            go_wp2_with fail
            go_roundw
            case rel => exact ⟨j + 1, by omega, by go_num, H3, H1, H2, H4⟩
            case measure => simp [intOf]; omega
        · have k0 : (x.d == 2) = false := by simpa using e0
          clear e0 hh
          go_wp2_with fail
          go_roundw
          case rel => exact ⟨j + 1, by omega, by go_num, H3, H1, H2, H4⟩
          case measure => simp [intOf]; omega
    · have e : L.take j = L := List.take_of_length_le (by omega)
      rw [e] at HLf HRt
      clear e
      go_wp2_with fail
      have hk : kindsL L f t = mask (lefts L f t) (rights L f t) := rfl
      obtain ⟨p, hp⟩ : ∃ p, lefts L f t = p := ⟨_, rfl⟩
      obtain ⟨r, hr⟩ : ∃ r, rights L f t = r := ⟨_, rfl⟩
      rw [hp] at HLf hk
      rw [hr] at HRt hk
      have HK := Lib.hid hk
      clear hk hp hr cc0 cc1 cc2 HQ HG HL0
      go_loop [11, 12, 13] (fun v bt i => ∃ j : Nat, j ≤ 4 ∧ i = .int .i64 j ∧ v = .int .i64 (partM p r j) ∧ bt = .int .i64 ((2 ^ j : Nat) : Int)) (fun _ _ i => 4 - (intOf i).toNat)
      case atStart => exact ⟨0, by omega, rfl, rfl, rfl⟩
      case round =>
        obtain ⟨j, hj, rfl, rfl, rfl⟩ := hrel
        have hpb := partM_bd p r j
        have h16 : 2 ^ j ≤ 2 ^ 4 := Nat.pow_le_pow_right (by omega) hj
        by_cases hlt : j < 4
        · obtain ⟨la, _⟩ := four_cell HLf.out hlt
          obtain ⟨ra, _⟩ := four_cell HRt.out hlt
          have hS : partM p r (j + 1) = partM p r j + bit (p j) (2 ^ j) + bit (r j) (16 * 2 ^ j) := rfl
          have hP : 2 ^ (j + 1) = 2 ^ j * 2 := Nat.pow_succ ..
          have HS := Lib.hid hS
          have HP := Lib.hid hP
          clear hS hP
          generalize 2 ^ j = k at *
          generalize partM p r j = m at *
          generalize p j = pj at *
          generalize r j = rj at *
          cases pj <;> cases rj
          · go_wp2_with fail
            go_round
            case rel => exact ⟨j + 1, by omega, by go_num, by rw [HS.out]; simp [bit], by rw [HP.out]; go_num⟩
            case measure => simp [intOf]; omega
          · go_wp2_with fail
            go_round
            case rel => exact ⟨j + 1, by omega, by go_num, by rw [HS.out]; simp [bit], by rw [HP.out]; go_num⟩
            case measure => simp [intOf]; omega
          · go_wp2_with fail
            go_round
            case rel => exact ⟨j + 1, by omega, by go_num, by rw [HS.out]; simp [bit], by rw [HP.out]; go_num⟩
            case measure => simp [intOf]; omega
          · go_wp2_with fail
            go_round
            case rel => exact ⟨j + 1, by omega, by go_num, by rw [HS.out]; simp [bit], by rw [HP.out]; go_num⟩
            case measure => simp [intOf]; omega
        · obtain rfl : j = 4 := by omega
          go_wp2_with fail
          go_ret
          exact ⟨by rw [HK.out, partM_all]; rfl, HB.out⟩
end Go.Proofs.Ytmcejkimpjfmmaa
