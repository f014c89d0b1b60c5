/- SameDeps, of equal lists. -/
import Derived.Test.YtmcejkimpjfmmaaRs
set_option linter.unusedVariables false
set_option linter.unusedSimpArgs false
namespace Go.Proofs.Ytmcejkimpjfmmaa
open Go.RowKit Go.Lib Go.Maps

theorem RV.two {w : World} {B : Nat} {A : Option Addr} {q : IntKind} {l : List (Int × Int)} (h : RV w B A (cells2 q l)) (hn : 0 < l.length) :
    ∃ b o, A = some ⟨b, o, none⟩ ∧ ∀ j x, l[j]? = some x → w.cell? ⟨b, o + j * 2, none⟩ = some (.int .i64 x.1) ∧ w.cell? ⟨b, o + j * 2 + 1, none⟩ = some (.int q x.2) := by
  obtain ⟨b, o, e, _, _, h3⟩ := h (by rw [cells2_len]; omega)
  refine ⟨b, o, e, fun j x hx => ?_⟩
  have hl : j < l.length := (List.getElem?_eq_some_iff.1 hx).1
  have hxe : l[j]! = x := by rw [getElem!_pos l j hl]; rw [List.getElem?_eq_getElem hl] at hx; injection hx
  have e0 := cells2_get q l (j * 2) (by omega)
  have e1 := cells2_get q l (j * 2 + 1) (by omega)
  have d0 : j * 2 / 2 = j := by omega
  have d1 : (j * 2 + 1) / 2 = j := by omega
  have m0 : j * 2 % 2 = 0 := by omega
  have m1 : (j * 2 + 1) % 2 = 1 := by omega
  rw [d0, m0, hxe] at e0
  rw [d1, m1, hxe] at e1
  exact ⟨h3 _ _ e0, by rw [Nat.add_assoc]; exact h3 _ _ e1⟩

set_option maxRecDepth 20000 in
set_option maxHeartbeats 2000000 in
theorem samedeps_any (A A' : Option Addr) (n c c' : Nat) (l : List (Int × Int)) (w : World) (B B' : Nat) (h : RV w B A (cells2 .u64 l)) (h' : RV w B' A' (cells2 .u64 l)) (hl : l.length = n) (hn : n ≤ 2000) :
    Calls Try.prog 20 #[.slice A n c, .slice A' n c'] w fun e w' => e = .returned (.bool true) ∧ ∃ q, w' = w.drewN q := by
  have H := Lib.hid h
  have H' := Lib.hid h'
  clear h h'
  go_enter Try.func20, Try.ntmps20
  go_wp2_with fail
  go_loopw [5] (fun i wr => ∃ j q : Nat, j ≤ n ∧ i = .int .i64 j ∧ wr = w.drewN q) (fun i _ => n - (intOf i).toNat)
  case atStart => exact ⟨0, 0, by omega, rfl, rfl⟩
  case round =>
    obtain ⟨j, q, hj, rfl, rfl⟩ := hrel
    by_cases hlt : j < n
    · obtain ⟨b, o, rfl, hc⟩ := H.out.two (by omega)
      obtain ⟨b', o', rfl, hc'⟩ := H'.out.two (by omega)
      have hx : l[j]? = some (l[j]'(by omega)) := List.getElem?_eq_getElem _
      obtain ⟨x0, x1⟩ := hc j _ hx
      obtain ⟨y0, y1⟩ := hc' j _ hx
      generalize l[j]'(by omega) = x at *
      obtain ⟨x, y⟩ := x
      dsimp only at x0 x1 y0 y1
      clear hc hc' hx
      go_wp2_with fail
      go_quiet (fail)
      go_wp2_with fail
      go_roundw
      case rel => exact ⟨j + 1, q + nq, by omega, by go_num, rfl⟩
      case measure => simp [intOf]; omega
    · go_wp2_with fail
      go_ret
      exact ⟨rfl, q, rfl⟩
end Go.Proofs.Ytmcejkimpjfmmaa
