/- The reference's Heat, Writes, Kinds. -/
import Derived.Test.YtmcejkimpjfmmaaRt
set_option linter.unusedVariables false
set_option linter.unusedSimpArgs false
namespace Go.Proofs.Ytmcejkimpjfmmaa
open Go.RowKit Go.Lib Go.Maps

theorem take_snoc {α : Type} {L : List α} {j : Nat} {x : α} (h : L[j]? = some x) : L.take (j + 1) = L.take j ++ [x] := by rw [List.take_add_one, h]; rfl

set_option maxRecDepth 20000 in
set_option maxHeartbeats 2000000 in
theorem rheat_any (f : Int) (F G : Nat) (A : Option Addr) (n c : Nat) (L : List Ac) (w : World) (B : Nat) (h : RA w B A n L) (hn : n ≤ 1000) :
    Calls Try.prog 33 #[rp F G A n c, .int .i64 f] w fun e w' => e = .returned (.int .i64 (heatL L f)) ∧ Below w.heap.size w w' := by
  have hB : Below w.heap.size w (w.alloc (.cells #[.int .i64 F, .int .i64 G, .slice A n c] 43)) := below_alloc _
  have c2 : (w.alloc (.cells #[.int .i64 F, .int .i64 G, .slice A n c] 43)).cell? ⟨w.heap.size, 2, none⟩ = some (.slice A n c) := World.cell?_alloc_at2 w _ 2
  have HL := Lib.hid (h.below hB)
  have HB := Lib.hid hB
  have hlen := h.len
  clear h hB
  go_enter Try.func33, Try.ntmps33
  go_wp2_with fail
  generalize w.alloc (.cells #[.int .i64 F, .int .i64 G, .slice A n c] 43) = w1 at *
  go_loop [5, 6] (fun v i => ∃ j : Nat, j ≤ n ∧ i = .int .i64 j ∧ v = .int .i64 (heatL (L.take j) f)) (fun _ i => n - (intOf i).toNat)
  case atStart => exact ⟨0, by omega, rfl, rfl⟩
  case round =>
    obtain ⟨j, hj, rfl, rfl⟩ := hrel
    by_cases hlt : j < n
    · obtain ⟨b, o, rfl, _, _, hc⟩ := HL.out.at_ (by omega)
      have hx : L[j]? = some (L[j]'(by omega)) := List.getElem?_eq_getElem _
      have h6 := hc j _ hx
      have ht := take_snoc hx
      generalize L[j]'(by omega) = x at *
      have x0 := h6.c0
      have x1 := h6.c1
      have hbd := heatL_bd (L.take j) f
      have hl2 : (L.take j).length ≤ 1000 := by rw [List.length_take]; omega
      have hs := heatL_snoc (L.take j) x f
      rw [← ht] at hs
      have HS := Lib.hid hs
      clear hs ht hx hc h6
      generalize heatL (L.take j) f = v at *
      by_cases e1 : x.f = f
      · have k1 : (x.f != f) = false := by simpa using e1
        by_cases e4 : x.d = 4
        · have k4 : (x.d == 4) = true := by simpa using e4
          have k0 : (x.d == 0) = false := by simp; omega
          have k2 : (x.d == 1) = false := by simp; omega
          have hv : heat1 f v x = 0 := by unfold heat1; rw [if_neg (by simpa using e1), if_pos e4]
          have HV := Lib.hid hv
          clear hv e1 e4
          go_wp2_with fail
          go_round
          case rel => exact ⟨j + 1, by omega, by go_num, by rw [HS.out, HV.out]⟩
          case measure => simp [intOf]; omega
        · have k4 : (x.d == 4) = false := by simpa using e4
          by_cases e0 : x.d = 0
          · have k0 : (x.d == 0) = true := by simpa using e0
            have hv : heat1 f v x = v + 1 := by unfold heat1; rw [if_neg (by simpa using e1), if_neg e4, if_pos (.inl e0)]
            have HV := Lib.hid hv
            clear hv e1 e4 e0
            go_wp2_with fail
            go_round
            case rel => exact ⟨j + 1, by omega, by go_num, by rw [HS.out, HV.out]⟩
            case measure => simp [intOf]; omega
          · have k0 : (x.d == 0) = false := by simpa using e0
            by_cases e3 : x.d = 1
            · have k3 : (x.d == 1) = true := by simpa using e3
              have hv : heat1 f v x = v + 1 := by unfold heat1; rw [if_neg (by simpa using e1), if_neg e4, if_pos (.inr e3)]
              have HV := Lib.hid hv
              clear hv e1 e4 e0 e3
              go_wp2_with fail
              go_round
              case rel => exact ⟨j + 1, by omega, by go_num, by rw [HS.out, HV.out]⟩
              case measure => simp [intOf]; omega
            · have k3 : (x.d == 1) = false := by simpa using e3
              have hv : heat1 f v x = v := by unfold heat1; rw [if_neg (by simpa using e1), if_neg e4, if_neg (by omega)]
              have HV := Lib.hid hv
              clear hv e1 e4 e0 e3
              go_wp2_with fail
              go_round
              case rel => exact ⟨j + 1, by omega, by go_num, by rw [HS.out, HV.out]⟩
              case measure => simp [intOf]; omega
      · have k1 : (x.f != f) = true := by simpa using e1
        have hv : heat1 f v x = v := by unfold heat1; rw [if_pos e1]
        have HV := Lib.hid hv
        clear hv e1
        go_wp2_with fail
        go_round
        case rel => exact ⟨j + 1, by omega, by go_num, by rw [HS.out, HV.out]⟩
        case measure => simp [intOf]; omega
    · go_wp2_with fail
      go_ret
      exact ⟨by rw [List.take_of_length_le (by omega)]; rfl, HB.out⟩

set_option maxRecDepth 20000 in
set_option maxHeartbeats 2000000 in
theorem rwrites_any (g : Int) (F G : Nat) (A : Option Addr) (n c : Nat) (L : List Ac) (w : World) (B : Nat) (h : RA w B A n L) (hn : n ≤ 1000) :
    Calls Try.prog 34 #[rp F G A n c, .int .i64 g] w fun e w' => e = .returned (.tuple #[.int .i64 (wrL L g).1, .int .u64 (wrL L g).2]) ∧ Below w.heap.size w w' := by
  have hB : Below w.heap.size w (w.alloc (.cells #[.int .i64 F, .int .i64 G, .slice A n c] 43)) := below_alloc _
  have c2 : (w.alloc (.cells #[.int .i64 F, .int .i64 G, .slice A n c] 43)).cell? ⟨w.heap.size, 2, none⟩ = some (.slice A n c) := World.cell?_alloc_at2 w _ 2
  have HL := Lib.hid (h.below hB)
  have HB := Lib.hid hB
  have hlen := h.len
  clear h hB
  go_enter Try.func34, Try.ntmps34
  go_wp2_with fail
  generalize w.alloc (.cells #[.int .i64 F, .int .i64 G, .slice A n c] 43) = w1 at *
  go_loop [6, 7, 8] (fun v u i => ∃ j : Nat, j ≤ n ∧ i = .int .i64 j ∧ v = .int .i64 (wrL (L.take j) g).1 ∧ u = .int .u64 (wrL (L.take j) g).2) (fun _ _ i => n - (intOf i).toNat)
  case atStart => exact ⟨0, by omega, rfl, rfl, rfl⟩
  case round =>
    obtain ⟨j, hj, rfl, rfl, rfl⟩ := hrel
    by_cases hlt : j < n
    · obtain ⟨b, o, rfl, _, _, hc⟩ := HL.out.at_ (by omega)
      have hx : L[j]? = some (L[j]'(by omega)) := List.getElem?_eq_getElem _
      have h6 := hc j _ hx
      have ht := take_snoc hx
      generalize L[j]'(by omega) = x at *
      have x0 := h6.c0
      have x1 := h6.c1
      have x5 := h6.c5
      have hbd := wrL_bd (L.take j) g
      have hl2 : (L.take j).length ≤ 1000 := by rw [List.length_take]; omega
      have hs := wrL_snoc (L.take j) x g
      rw [← ht] at hs
      have HS := Lib.hid hs
      clear hs ht hx hc h6
      generalize wrL (L.take j) g = v at *
      obtain ⟨v1, v2⟩ := v
      simp only at hbd ⊢
      by_cases e0 : x.d = 3
      · have k0 : (x.d == 3) = true := by simpa using e0
        by_cases e1 : x.f = g
        · have k1 : (x.f == g) = true := by simpa using e1
          have hv : wr1 g (v1, v2) x = (v1 + 1, x.v) := by unfold wr1; rw [if_pos ⟨e0, e1⟩]
          have HV := Lib.hid hv
          clear hv e1 e0
          go_wp2_with fail
          go_round
          case rel => exact ⟨j + 1, by omega, by go_num, by rw [HS.out, HV.out], by rw [HS.out, HV.out]⟩
          case measure => simp [intOf]; omega
        · have k1 : (x.f == g) = false := by simpa using e1
          have hv : wr1 g (v1, v2) x = (v1, v2) := by unfold wr1; rw [if_neg (by omega)]
          have HV := Lib.hid hv
          clear hv e1 e0
          go_wp2_with fail
          go_round
          case rel => exact ⟨j + 1, by omega, by go_num, by rw [HS.out, HV.out], by rw [HS.out, HV.out]⟩
          case measure => simp [intOf]; omega
      · have k0 : (x.d == 3) = false := by simpa using e0
        have hv : wr1 g (v1, v2) x = (v1, v2) := by unfold wr1; rw [if_neg (by omega)]
        have HV := Lib.hid hv
        clear hv e0
        go_wp2_with fail
        go_round
        case rel => exact ⟨j + 1, by omega, by go_num, by rw [HS.out, HV.out], by rw [HS.out, HV.out]⟩
        case measure => simp [intOf]; omega
    · go_wp2_with fail
      go_ret2
      exact ⟨by rw [List.take_of_length_le (by omega)]; rfl, HB.out⟩
end Go.Proofs.Ytmcejkimpjfmmaa
