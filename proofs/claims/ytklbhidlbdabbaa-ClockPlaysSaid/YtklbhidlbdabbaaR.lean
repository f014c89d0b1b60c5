/- The reference's Tick, Awake, Sleep. -/
import Derived.Test.YtklbhidlbdabbaaQ
set_option linter.unusedVariables false
set_option linter.unusedSimpArgs false
namespace Go.Proofs.Ytklbhidlbdabbaa
open Go.RowKit Go.Lib Go.Maps Go.Sort
attribute [local go_sem ↓] Go.wp_at_zero Go.wp_at_succ

/-- The pairs are what f holds. -/
def Rep (f : Int → Option Int) (ps : List (Int × Int)) : Prop := (ps.map Prod.fst).Nodup ∧ ∀ t u, f t = some u ↔ (t, u) ∈ ps
theorem Rep.nil : Rep (fun _ => none) [] := ⟨by simp, fun t u => by simp⟩
theorem Rep.at_ {f ps} (h : Rep f ps) {j : Nat} {p : Int × Int} (hj : ps[j]? = some p) : f p.1 = some p.2 := (h.2 _ _).2 (List.mem_of_getElem? hj)
theorem Rep.none_ {f ps} (h : Rep f ps) {t : Int} (ht : t ∉ ps.map Prod.fst) : f t = none := by
  cases e : f t with
  | none => rfl
  | some u => exact absurd (List.mem_map.2 ⟨(t, u), (h.2 t u).1 e, rfl⟩) ht
theorem Rep.add {f ps} (h : Rep f ps) (t u : Int) (ht : t ∉ ps.map Prod.fst) : Rep (upd f t (some u)) (ps ++ [(t, u)]) := by
  refine ⟨?_, fun x v => ?_⟩
  · rw [List.map_append, List.nodup_append]
    refine ⟨h.1, by simp, ?_⟩
    rintro a ha b hb rfl
    simp at hb; subst hb; exact ht ha
  · unfold upd
    rw [List.mem_append]
    split
    · rename_i e; subst e
      constructor
      · rintro ⟨⟩; right; simp
      · rintro (k | k)
        · exact absurd (List.mem_map.2 ⟨_, k, rfl⟩) ht
        · simp at k; rw [k]
    · rename_i e
      rw [h.2]
      constructor
      · exact .inl
      · rintro (k | k)
        · exact k
        · simp at k; exact absurd k.1 e
theorem upd_none {f : Int → Option Int} {t : Int} (h : f t = none) : upd f t none = f := by
  funext x; unfold upd; split
  · rename_i e; rw [e, h]
  · rfl
theorem Rep.gone {f ps} (h : Rep f ps) {t : Int} (ht : f t = none) : Rep (upd f t none) ps := by rw [upd_none ht]; exact h
theorem Rep.erase {f ps} (h : Rep f ps) {t u : Int} {j : Nat} (hj : ps[j]? = some (t, u)) : Rep (upd f t none) (ps.eraseIdx j) := by
  obtain ⟨hl, he⟩ := List.getElem?_eq_some_iff.1 hj
  have hnd := h.1
  have e1 : ps = ps.take j ++ (t, u) :: ps.drop (j + 1) := by
    rw [← he]; simp
  have e2 : ps.eraseIdx j = ps.take j ++ ps.drop (j + 1) := List.eraseIdx_eq_take_drop_succ ps j
  rw [e2]
  generalize ps.take j = l at *
  generalize ps.drop (j + 1) = r at *
  subst e1
  simp only [List.map_append, List.map_cons, List.nodup_append, List.nodup_cons] at hnd
  obtain ⟨n1, ⟨n2, n3⟩, n4⟩ := hnd
  refine ⟨?_, fun x v => ?_⟩
  · simp only [List.map_append, List.nodup_append]
    exact ⟨n1, n3, fun a ha b hb => n4 a ha b (by simp [hb])⟩
  · unfold upd
    split
    · rename_i e; subst e
      constructor
      · intro k; cases k
      · intro k
        rcases List.mem_append.1 k with k | k
        · exact absurd rfl (n4 x (List.mem_map.2 ⟨_, k, rfl⟩) x (by simp))
        · exact absurd (List.mem_map.2 ⟨_, k, rfl⟩) n2
    · rename_i e
      rw [h.2]
      simp only [List.mem_append, List.mem_cons, Prod.mk.injEq]
      constructor
      · rintro (k | ⟨k, _⟩ | k)
        · exact .inl k
        · exact absurd k e
        · exact .inr k
      · rintro (k | k)
        · exact .inl k
        · exact .inr (.inr k)

/-- The reference's clock as a value. -/
abbrev rc (now : Int) (A : Option Addr) (n c : Nat) (A' : Option Addr) (c' : Nat) : Value := .agg #[.int .i64 now, .slice A n c, .slice A' n c']
structure RC (w : World) (B : Nat) (A : Option Addr) (n c : Nat) (A' : Option Addr) (c' : Nat) (ps : List (Int × Int)) : Prop where
  ts : RS w B A n (ps.map Prod.fst)
  us : RS w B A' n (ps.map Prod.snd)
  cap : n ≤ c
  cap' : n ≤ c'
theorem RC.len {w B A n c A' c' ps} (h : RC w B A n c A' c' ps) : ps.length = n := by have := h.ts.1; simpa using this

set_option maxHeartbeats 400000 in
theorem rtick_any (now a : Int) (A : Option Addr) (n c : Nat) (A' : Option Addr) (c' : Nat) (w : World) (h0 : 0 ≤ now) (h1 : now ≤ 1099511627776) :
    Calls Try.prog 16 #[rc now A n c A' c', .int .i64 a] w fun e w' => ∃ e0 now', e = .returned (.tuple #[rc now' A n c A' c', .int .i64 e0]) ∧ TickM now a e0 now' ∧ Below w.heap.size w w' := by
  by_cases ha : a < 0
  · go_enter Try.func16, Try.ntmps16
    go_wp2
    refine bodyPost_ret (v := .tuple #[rc now A n c A' c', .int .i64 1]) (by simp [results, Try.results16, go_sem]) rfl ⟨_, _, rfl, .arg (by omega), ?_⟩
    exact ((Below.refl _ w).alloc (Nat.le_refl _) _).alloc (by simp) _
  · by_cases ha1 : 1048576 < a
    · go_enter Try.func16, Try.ntmps16
      go_wp2
      refine bodyPost_ret (v := .tuple #[rc now A n c A' c', .int .i64 1]) (by simp [results, Try.results16, go_sem]) rfl ⟨_, _, rfl, .arg (by omega), ?_⟩
      exact ((Below.refl _ w).alloc (Nat.le_refl _) _).alloc (by simp) _
    · have hm : TickM now a 0 (min (now + a) 1099511627776) := .ok (by omega) (by omega)
      by_cases hx : 1099511627776 < now + a
      · rw [show min (now + a) 1099511627776 = 1099511627776 by omega] at hm
        go_enter Try.func16, Try.ntmps16
        go_wp2
        refine bodyPost_ret (v := .tuple #[rc 1099511627776 A n c A' c', .int .i64 0]) (by simp [results, Try.results16, go_sem]) rfl ⟨_, _, rfl, hm, ?_⟩
        first | exact ((Below.refl _ w).alloc (Nat.le_refl _) _).alloc (by simp) _ | (simp; exact ((Below.refl _ w).alloc (Nat.le_refl _) _).alloc (by simp) _) | trace_state
      · rw [show min (now + a) 1099511627776 = now + a by omega] at hm
        go_enter Try.func16, Try.ntmps16
        go_wp2
        refine bodyPost_ret (v := .tuple #[rc (now + a) A n c A' c', .int .i64 0]) (by simp [results, Try.results16, go_sem]) rfl ⟨_, _, rfl, hm, ?_⟩
        first | exact ((Below.refl _ w).alloc (Nat.le_refl _) _).alloc (by simp) _ | (simp; exact ((Below.refl _ w).alloc (Nat.le_refl _) _).alloc (by simp) _) | trace_state

theorem RC.below {w w' : World} {B A n c A' c' ps} (h : RC w B A n c A' c' ps) (hB : Below w.heap.size w w') : RC w' B A n c A' c' ps := ⟨h.ts.below hB, h.us.below hB, h.cap, h.cap'⟩
theorem RC.only {w w' : World} {B A n c A' c' ps b m} (h : RC w B A n c A' c' ps) (ho : Only (Two b m) w w') (hb : b < B) (hm : m < B) : RC w' B A n c A' c' ps := ⟨h.ts.only ho hb hm, h.us.only ho hb hm, h.cap, h.cap'⟩

set_option maxHeartbeats 400000 in
theorem rawake_any (t now : Int) (A : Option Addr) (n c : Nat) (A' : Option Addr) (c' : Nat) (w : World) (B : Nat) (ps : List (Int × Int)) (f) (h : RC w B A n c A' c' ps) (hf : Rep f ps) (hn : n ≤ 1000) :
    Calls Try.prog 25 #[rc now A n c A' c', .int .i64 t] w fun e w' => e = .returned (.bool (!(f t).isSome || decide ((f t).getD 0 ≤ now))) ∧ Below w.heap.size w w' := by
  have hB := below_alloc (w := w) (.cells #[.int .i64 now, .slice A n c, .slice A' n c'] 39)
  have HB := Lib.hid hB
  have hp := place_any now A n c A' n c' (ps.map Prod.fst) t _ B (h.ts.below hB) hn
  have HP := Lib.hid hp
  have HR := Lib.hid (h.below hB)
  have c2 : (w.alloc (.cells #[.int .i64 now, .slice A n c, .slice A' n c'] 39)).cell? ⟨w.heap.size, 2, none⟩ = some (.slice A' n c') := World.cell?_alloc_at2 w _ 2
  have c0 : (w.alloc (.cells #[.int .i64 now, .slice A n c, .slice A' n c'] 39)).cell? ⟨w.heap.size, 0, none⟩ = some (.int .i64 now) := World.cell?_alloc_at2 w _ 0
  have hs : w.heap.size < (w.alloc (.cells #[.int .i64 now, .slice A n c, .slice A' n c'] 39)).heap.size := by simp
  clear hB hp
  go_enter Try.func25, Try.ntmps25
  go_wp2_with fail
  generalize w.alloc (.cells #[.int .i64 now, .slice A n c, .slice A' n c'] 39) = w1 at *
  refine HP.out.mono ?_
  rintro e w2 ⟨hB2, hor⟩
  have d2 := (hB2.cell (p := ⟨w.heap.size, 2, none⟩) hs).trans c2
  have d0 := (hB2.cell (p := ⟨w.heap.size, 0, none⟩) hs).trans c0
  have HR2 := Lib.hid (HR.out.below hB2)
  have HB2 := Lib.hid (below_next HB.out HB.out.size hB2)
  clear c2 c0 HP HR HB hB2
  rcases hor with ⟨rfl, ht⟩ | ⟨j, rfl, ht⟩
  · go_wp2_with fail
    go_quiet (fail)
    go_wp2_with fail
    go_ret
    exact ⟨by rw [hf.none_ ht]; rfl, below_drewN HB2.out _⟩
  · rw [List.getElem?_map, Option.map_eq_some_iff] at ht
    obtain ⟨p, hp, rfl⟩ := ht
    have hj : j < n := by rw [← HR2.out.len]; exact (List.getElem?_eq_some_iff.1 hp).1
    obtain ⟨b, o, rfl, _, _, hc⟩ := HR2.out.us.2 (by omega)
    have c3 := hc j p.2 (by simp [hp])
    clear hc
    have hcap := HR2.out.cap'
    go_wp2_with fail
    go_quiet (fail)
    go_wp2_with fail
    go_ret
    exact ⟨by rw [hf.at_ hp]; simp; omega, below_drewN HB2.out _⟩
end Go.Proofs.Ytklbhidlbdabbaa
