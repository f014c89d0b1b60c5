/- The walk of the law ProfSorted. -/
import Derived.Test.YtmcejkimpjfmmaaZ
import Derived.Test.YtmcejkimpjfmmaaFlat
set_option linter.unusedVariables false
set_option linter.unusedSimpArgs false
namespace Go.Proofs.Ytmcejkimpjfmmaa
open Go.RowKit Go.Lib Go.Maps

/-- The act whose cells begin at o in block b. -/
structure At6 (w : World) (b o : Nat) (x : Ac) : Prop where
  c0 : w.cell? ⟨b, o, none⟩ = some (.int .i64 x.d)
  c1 : w.cell? ⟨b, o + 1, none⟩ = some (.int .i64 x.f)
  c2 : w.cell? ⟨b, o + 2, none⟩ = some (.int .i64 x.t)
  c3 : w.cell? ⟨b, o + 3, none⟩ = some (.int .i64 x.a)
  c4 : w.cell? ⟨b, o + 4, none⟩ = some (.int .i64 x.b)
  c5 : w.cell? ⟨b, o + 5, none⟩ = some (.int .u64 x.v)
theorem At6.cell {w w' : World} {b o x} (h : At6 w b o x) (e : ∀ j, w'.cell? ⟨b, j, none⟩ = w.cell? ⟨b, j, none⟩) : At6 w' b o x :=
  ⟨(e _).trans h.c0, (e _).trans h.c1, (e _).trans h.c2, (e _).trans h.c3, (e _).trans h.c4, (e _).trans h.c5⟩
theorem At6.block {w w' : World} {b o x} (h : At6 w b o x) (e : w'.heap[b]? = w.heap[b]?) : At6 w' b o x := h.cell fun _ => World.cell?_of_block e
theorem At6.of {w : World} {s : Nat} {x : Ac} (h : w.heap[s]? = some (acO x)) : At6 w s 0 x := by
  obtain ⟨c0, c1, c2, c3, c4, c5, _⟩ := Row6 h
  exact ⟨c0, c1, c2, c3, c4, c5⟩
/-- The first n acts behind A are X 0, X 1, .. -/
def Acts (w : World) (A : Option Addr) (n : Nat) (X : Nat → Ac) : Prop := 0 < n → ∃ b o, A = some ⟨b, o, none⟩ ∧ b < w.heap.size ∧ ∀ j, j < n → At6 w b (o + j * 6) (X j)
theorem Acts.below {w w' : World} {A n X} (h : Acts w A n X) {B : Nat} (hB : Below B w w') (hw : w.heap.size ≤ B) : Acts w' A n X := fun h0 =>
  let ⟨b, o, e, hlt, hc⟩ := h h0
  ⟨b, o, e, Nat.lt_of_lt_of_le hlt hB.size, fun j hj => (hc j hj).block (hB.block b (Nat.lt_of_lt_of_le hlt hw))⟩
theorem cell_lt {w : World} {a : Addr} {v : Value} (h : w.cell? a = some v) : a.block < w.heap.size := World.block_lt_of_cell? w _ h
theorem acts_of {w : World} {x : Addr} {len : Nat} (h : ∀ i, i < len → ∃ (y0 y1 y2 y3 y4 y5 : Int), w.cell? (x.add (i * 6 + 0)) = some (.int .i64 y0) ∧ w.cell? (x.add (i * 6 + 1)) = some (.int .i64 y1) ∧ w.cell? (x.add (i * 6 + 2)) = some (.int .i64 y2) ∧ w.cell? (x.add (i * 6 + 3)) = some (.int .i64 y3) ∧ w.cell? (x.add (i * 6 + 4)) = some (.int .i64 y4) ∧ w.cell? (x.add (i * 6 + 5)) = some (.int .u64 y5) ∧
      (Lit.int .i64 y0).wf = true ∧ (Lit.int .i64 y1).wf = true ∧ (Lit.int .i64 y2).wf = true ∧ (Lit.int .i64 y3).wf = true ∧ (Lit.int .i64 y4).wf = true ∧ (Lit.int .u64 y5).wf = true) : ∃ X, Acts w (some x) len X := by
  have h' : ∀ i, ∃ a : Ac, i < len → w.cell? (x.add (i * 6 + 0)) = some (.int .i64 a.d) ∧ w.cell? (x.add (i * 6 + 1)) = some (.int .i64 a.f) ∧ w.cell? (x.add (i * 6 + 2)) = some (.int .i64 a.t) ∧ w.cell? (x.add (i * 6 + 3)) = some (.int .i64 a.a) ∧ w.cell? (x.add (i * 6 + 4)) = some (.int .i64 a.b) ∧ w.cell? (x.add (i * 6 + 5)) = some (.int .u64 a.v) := fun i => by
    by_cases hi : i < len
    · obtain ⟨y0, y1, y2, y3, y4, y5, k0, k1, k2, k3, k4, k5, _⟩ := h i hi; exact ⟨⟨y0, y1, y2, y3, y4, y5⟩, fun _ => ⟨k0, k1, k2, k3, k4, k5⟩⟩
    · exact ⟨⟨0, 0, 0, 0, 0, 0⟩, fun k => absurd k hi⟩
  obtain ⟨X, hX⟩ := Classical.axiomOfChoice h'
  refine ⟨X, fun h0 => ?_⟩
  obtain ⟨b, off, spot⟩ := x
  have hspot : spot = none := by simpa [Addr.add] using World.cell?_spot (hX 0 h0).1
  subst hspot
  have hlt : b < w.heap.size := cell_lt (a := ⟨b, off + (0 * 6 + 0), none⟩) (by have := (hX 0 h0).1; rw [Go.WideShapes.add_plain] at this; exact this)
  refine ⟨b, off, rfl, hlt, fun j hj => ?_⟩
  obtain ⟨a0, a1, a2, a3, a4, a5⟩ := hX j hj
  rw [Go.WideShapes.add_plain] at a0 a1 a2 a3 a4 a5
  exact ⟨a0, by rw [Nat.add_assoc]; exact a1, by rw [Nat.add_assoc]; exact a2, by rw [Nat.add_assoc]; exact a3, by rw [Nat.add_assoc]; exact a4, by rw [Nat.add_assoc]; exact a5⟩

theorem natX_at {l : List Nat} {i : Nat} (hi : i < l.length) : ∃ f : Nat, natX l i = (f : Int) ∧ l[i]? = some f := ⟨l[i], by simp [natX, hi], List.getElem?_eq_getElem hi⟩
theorem hots_at {L : List Ac} {F : Nat} {least : Int} {l : List Nat} (h : Hots (fun f => heatL L f) F least l) {i : Nat} (hi : i < l.length) :
    ∃ f : Nat, natX l i = (f : Int) ∧ l[i]? = some f ∧ f < F ∧ 0 < heatL L f ∧ least ≤ heatL L f := by
  obtain ⟨f, e, e2⟩ := natX_at hi
  exact ⟨f, e, e2, (h.mem f).1 (List.mem_of_getElem? e2)⟩
theorem hots_two {L : List Ac} {F : Nat} {least : Int} {l : List Nat} (h : Hots (fun f => heatL L f) F least l) {i f g : Nat} (hf : l[i]? = some f) (hg : l[i + 1]? = some g) :
    heatL L g < heatL L f ∨ (heatL L f = heatL L g ∧ f < g) := by
  have hs := List.pairwise_iff_getElem.1 h.sorted
  obtain ⟨h1, e1⟩ := List.getElem?_eq_some_iff.1 hf
  obtain ⟨h2, e2⟩ := List.getElem?_eq_some_iff.1 hg
  have := hs i (i + 1) h1 h2 (by omega)
  rw [e1, e2] at this
  exact this
theorem hots_count {h : Nat → Int} {F : Nat} {least : Int} {l : List Nat} (a : Hots h F least l) : (warmL h F least).length = l.length := by
  have hp : l.Perm ((List.range F).filter fun f => decide (0 < h f ∧ least ≤ h f)) := by
    rw [List.perm_ext_iff_of_nodup a.nodup (List.nodup_range.filter _)]
    intro f; rw [a.mem]; simp
  rw [hp.length_eq, warmL, List.length_map]
theorem new55 (w : World) : Calls Try.prog 9 #[.int .i64 5, .int .i64 5] w (NewP 5 5 w) := new_ok 5 5 w (by omega)
theorem heatV_in {F : Nat} {L : List Ac} {f : Nat} (h : f < F) : heatV F L f = heatL L f := if_pos ⟨by omega, by omega⟩
theorem errV_in {c : Prop} [Decidable c] (h : c) : errV c = 0 := if_pos h

set_option maxRecDepth 100000 in
set_option maxHeartbeats 1000000 in
theorem sorted_near (A : Option Addr) (n c : Nat) (least : Int) (X : Nat → Ac) (w : World) (hA : Acts w A n X) (hn : n ≤ 60) :
    Calls Try.prog 4 #[.slice A n c, .int .i64 least] w fun e w' => e = .returned (.bool true) ∧ Below w.heap.size w w' := by
  go_enter Try.func4, Try.ntmps4
  go_wp2_with fail
  refine (new55 w).mono ?_
  rintro e w1 ⟨b, hb, wb, m, rfl, P, hB1, g0, g1, g2, g3⟩
  have HP := Lib.hid (ProfL.start P)
  clear P
  go_wp2_with (go_at_call 10; refine (num_any _ _).mono ?_; rintro e w' ⟨rfl, rfl⟩)
  go_loopw [7] (fun i wr => ∃ (j : Nat) (L : List Ac), j ≤ n ∧ i = .int .i64 j ∧ L.length ≤ j ∧ Hid (ProfL wr b hb wb m 5 5 L) ∧ Below w.heap.size w wr) (fun i _ => n - (intOf i).toNat)
  case atStart => exact ⟨0, [], by omega, rfl, by simp, HP, hB1⟩
  case round =>
    clear HP hB1
    obtain ⟨j, L, hj, rfl, hL, HP, hB⟩ := hrel
    by_cases hlt : j < n
    · obtain ⟨ba, o, rfl, hba, hc⟩ := hA (by omega)
      have hx := (hc j hlt).block (hB.block ba hba)
      obtain ⟨c0, c1, c2, c3, c4, c5⟩ := hx
      generalize X j = x at *
      clear hc
      go_wp2_with fail
      refine (tell_any x wr HP.out (by omega)).mono ?_
      rintro e w2 ⟨rfl, h2, o2⟩
      have hB2 := two_below hB o2 hB.size g1 g2 g3
      have HP2 := Lib.hid h2
      clear h2 o2 hB HP
      go_wp2_with fail
      go_roundw
      case rel => exact ⟨j + 1, _, by omega, by go_num, Nat.le_trans (tellL_len _ _ _ _) (by omega), HP2, hB2⟩
      case measure => simp [intOf]; omega
    · clear hA
      go_wp2_with fail
      refine (hot_L least wr HP.out).mono ?_
      rintro e w2 ⟨v, l, rfl, hl, hown, hB2⟩
      obtain ⟨A', c', rfl⟩ := own_slice hown
      have hlen : l.length ≤ 5 := hl.len
      have hR := own_nats hown (by omega)
      have hP2 := HP.out.below hB2
      have hB3 := below_next hB hB.size hB2
      have HP2 := Lib.hid hP2
      have HR := Lib.hid hR
      have HL := Lib.hid hl
      have HC := Lib.hid (hots_count hl)
      clear HP hB hown hR hP2 hB2 hl
      go_wp2_with fail
      go_loop [9, 10] (fun c i => ∃ j : Nat, j ≤ 5 ∧ i = .int .i64 j ∧ c = .int .i64 (warmL (fun f => heatL L f) j least).length) (fun _ i => 5 - (intOf i).toNat)
      case atStart => exact ⟨0, by omega, rfl, rfl⟩
      case round =>
        obtain ⟨f, hf, rfl, rfl⟩ := hrel
        have hwl := warmL_len (fun f => heatL L f) f least
        by_cases hlt : f < 5
        · have hh := heatV_in (L := L) hlt
          have hh' := Lib.hid (heat_L (f : Int) w2 HP2.out)
          have he : errV (0 ≤ (f : Int) ∧ (f : Int) < (5 : Nat)) = 0 := errV_in ⟨by omega, by omega⟩
          rw [hh, he] at hh'
          clear hh he
          by_cases h1 : 0 < heatL L f
          · by_cases h2 : least ≤ heatL L f
            · have HE := Lib.hid (congrArg List.length (warmL_hit (h := fun f => heatL L f) (F := f) (least := least) ⟨h1, h2⟩))
              generalize heatL L (f : Int) = n at *
              go_wp2_with (go_at_call 12; refine hh'.out.mono ?_; rintro e w' ⟨rfl, rfl⟩)
              go_round
              case rel => exact ⟨f + 1, by omega, by go_num, by rw [HE.out, List.length_append]; go_num⟩
              case measure => simp [intOf]; omega
            · have HE := Lib.hid (congrArg List.length (warmL_miss (h := fun f => heatL L f) (F := f) (least := least) (by omega)))
              generalize heatL L (f : Int) = n at *
              go_wp2_with (go_at_call 12; refine hh'.out.mono ?_; rintro e w' ⟨rfl, rfl⟩)
              go_round
              case rel => exact ⟨f + 1, by omega, by go_num, by rw [HE.out]⟩
              case measure => simp [intOf]; omega
          · have HE := Lib.hid (congrArg List.length (warmL_miss (h := fun f => heatL L f) (F := f) (least := least) (by omega)))
            generalize heatL L (f : Int) = n at *
            go_wp2_with (go_at_call 12; refine hh'.out.mono ?_; rintro e w' ⟨rfl, rfl⟩)
            go_round
            case rel => exact ⟨f + 1, by omega, by go_num, by rw [HE.out]⟩
            case measure => simp [intOf]; omega
        · obtain rfl : f = 5 := by omega
          go_wp2_with fail
          rw [HC.out]
          go_loopw [13] (fun i wr => ∃ j q : Nat, j ≤ l.length ∧ i = .int .i64 j ∧ wr = w2.drewN q) (fun i _ => l.length - (intOf i).toNat)
          case atStart => exact ⟨0, 0, by omega, rfl, rfl⟩
          case round =>
            obtain ⟨i, q, hi, rfl, rfl⟩ := hrel
            by_cases hlt : i < l.length
            · obtain ⟨f, e, e2, hf, h0, h1⟩ := hots_at HL.out hlt
              obtain ⟨b', o', rfl, hcells⟩ := HR.out.2 (by omega)
              have c1 := hcells i hlt
              rw [e] at c1
              have hh := Lib.hid (heat_L (f : Int) (w2.drewN q) (HP2.out.drewN q))
              rw [heatV_in hf, errV_in (show 0 ≤ (f : Int) ∧ (f : Int) < (5 : Nat) from ⟨by omega, by omega⟩)] at hh
              rcases i with _ | i
              · clear hcells e e2
                rw [Nat.add_zero] at c1
                generalize heatL L (f : Int) = n at *
                go_wp2_with (first | (go_at_call 12; refine hh.out.mono ?_; rintro e w' ⟨rfl, rfl⟩) | (go_at_call 10; refine (num_any _ _).mono ?_; rintro e w' ⟨rfl, rfl⟩))
                go_roundw
                case rel => exact ⟨1, q, by omega, by go_num, rfl⟩
                case measure => simp [intOf]; omega
              · obtain ⟨g, e', e2', hg, h0', h1'⟩ := hots_at HL.out (show i < l.length by omega)
                have c2 := hcells i (by omega)
                rw [e'] at c2
                have h2 := hots_two HL.out e2' e2
                have hh2 := Lib.hid (heat_L (g : Int) (w2.drewN q) (HP2.out.drewN q))
                rw [heatV_in hg, errV_in (show 0 ≤ (g : Int) ∧ (g : Int) < (5 : Nat) from ⟨by omega, by omega⟩)] at hh2
                clear hcells e e2 e' e2'
                generalize heatL L (f : Int) = n at *
                generalize heatL L (g : Int) = n' at *
                rcases h2 with h2 | ⟨h2, h3⟩
                · have e1 : decide (n' < n) = false := by simp; omega
                  have e2 : (n' == n) = false := by simp; omega
                  go_wp2_with fail
                  refine hh.out.mono ?_
                  rintro e w' ⟨rfl, rfl⟩
                  go_wp2_with (go_at_call 10; refine (num_any _ _).mono ?_; rintro e w' ⟨rfl, rfl⟩)
                  refine hh2.out.mono ?_
                  rintro e w' ⟨rfl, rfl⟩
                  go_wp2_with fail
                  go_quiet (fail)
                  go_wp2_with fail
                  go_roundw
                  case rel => exact ⟨i + 2, q + nq, by omega, by go_num, rfl⟩
                  case measure => simp [intOf]; omega
                · have e1 : decide (n' < n) = false := by simp; omega
                  have e2 : (n' == n) = true := by simp; omega
                  have e3 : decide ((f : Int) ≤ (g : Int)) = false := by simp; omega
                  go_wp2_with fail
                  refine hh.out.mono ?_
                  rintro e w' ⟨rfl, rfl⟩
                  go_wp2_with (go_at_call 10; refine (num_any _ _).mono ?_; rintro e w' ⟨rfl, rfl⟩)
                  refine hh2.out.mono ?_
                  rintro e w' ⟨rfl, rfl⟩
                  go_wp2_with fail
                  go_quiet (fail)
                  go_wp2_with fail
                  go_roundw
                  case rel => exact ⟨i + 2, q + nq, by omega, by go_num, rfl⟩
                  case measure => simp [intOf]; omega
            · have HB3 := Lib.hid (below_drewN hB3 q)
              clear hB3 HP2 HR HL HC
              obtain rfl : i = l.length := by omega
              go_wp2_with fail
              refine (live_any _).mono ?_
              rintro e w5 ⟨rfl, hB5⟩
              go_wp2_with fail
              go_ret
              exact ⟨rfl, below_next HB3.out HB3.out.size hB5⟩
set_option maxRecDepth 20000 in
theorem sorted_far (A : Option Addr) (n c : Nat) (least : Int) (w : World) (h : 60 < n) (hn : n ≤ 9223372036854775807) :
    Calls Try.prog 4 #[.slice A n c, .int .i64 least] w fun e w' => e = .returned (.bool true) ∧ Below w.heap.size w w' := by
  go_enter Try.func4, Try.ntmps4
  go_wp2_with fail
  refine (live_any _).mono ?_
  rintro e w5 ⟨rfl, hB5⟩
  go_wp2_with fail
  go_ret
  exact ⟨rfl, hB5⟩
def IsActs (w : World) (a : Option Addr) (len cap : Nat) : Prop :=
  (a = none ∧ len = 0 ∧ cap = 0) ∨ ∃ x, a = some x ∧ len ≤ cap ∧ cap ≤ maxLen ∧ ∀ i, i < len → ∃ (y0 : Int) (y1 : Int) (y2 : Int) (y3 : Int) (y4 : Int) (y5 : Int), w.cell? (x.add (i * 6 + 0)) = some (.int .i64 y0) ∧ w.cell? (x.add (i * 6 + 1)) = some (.int .i64 y1) ∧ w.cell? (x.add (i * 6 + 2)) = some (.int .i64 y2) ∧ w.cell? (x.add (i * 6 + 3)) = some (.int .i64 y3) ∧ w.cell? (x.add (i * 6 + 4)) = some (.int .i64 y4) ∧ w.cell? (x.add (i * 6 + 5)) = some (.int .u64 y5) ∧
      (Lit.int .i64 y0).wf = true ∧ (Lit.int .i64 y1).wf = true ∧ (Lit.int .i64 y2).wf = true ∧ (Lit.int .i64 y3).wf = true ∧ (Lit.int .i64 y4).wf = true ∧ (Lit.int .u64 y5).wf = true
theorem acts_in {w : World} {a : Option Addr} {len cap : Nat} (h : IsActs w a len cap) : len ≤ 9223372036854775807 ∧ ∃ X, Acts w a len X := by
  rcases h with ⟨rfl, rfl, rfl⟩ | ⟨x, rfl, hl, hc, hy⟩
  · exact ⟨by omega, fun _ => ⟨0, 0, 0, 0, 0, 0⟩, fun h => by omega⟩
  · exact ⟨by unfold maxLen at hc; omega, acts_of hy⟩
theorem sorted_all (A : Option Addr) (n c : Nat) (least : Int) (w : World) (h : IsActs w A n c) :
    Calls Try.prog 4 #[.slice A n c, .int .i64 least] w fun e w' => e = .returned (.bool true) ∧ Below w.heap.size w w' := by
  obtain ⟨hn, X, hA⟩ := acts_in h
  by_cases h : 60 < n
  · exact sorted_far A n c least w h hn
  · exact sorted_near A n c least X w hA (by omega)
end Go.Proofs.Ytmcejkimpjfmmaa
