/- Who sleeps, in order: the walk of 'Sleepers'. -/
import Derived.Test.YtklbhidlbdabbaaG
set_option linter.unusedVariables false
set_option linter.unusedSimpArgs false
namespace Go.Proofs.Ytklbhidlbdabbaa
open Go.RowKit Go.Lib Go.Maps Go.Sort Go.Shelf
attribute [local go_sem] Oper.semAt_some

theorem asleep_any (v : Value) (w : World) (hv : v.oneCell' = true) (b : Option Addr) (e : v = .pointer b) :
    Calls Try.prog 31 #[v] w fun e w' => e = .returned (.func (.func 36) #[] #[.pointer (some ⟨w.heap.size, 0, none⟩)]) ∧ w' = w.alloc (.cells #[v] 36) := by
  subst e
  go_enter Try.func31, Try.ntmps31
  go_wp2
  go_ret
  exact ⟨rfl, rfl⟩

theorem asleep_stops (F : Fence) (n : Nat) (h36 : F.fn 36) (hro : F.round = none) (hn : 1 ≤ n) (Bc b m k : Nat) (now : Int) (f : Int → Option Int) (D0 : DataW Unit) (w : World) (hBc : Bc < w.heap.size) (hb : b < w.heap.size)
    (hcap : w.cell? ⟨Bc, 0, none⟩ = some (.pointer (some ⟨b, 0, none⟩))) (hc0 : w.cell? ⟨b, 0, none⟩ = some (.int .i64 now)) (hc1 : w.cell? ⟨b, 1, none⟩ = some (.map (some m)))
    (hown : w.ownsMap Try.prog 3 (plainElem Try.prog 3) m k D0) (hrd : Rd D0 f) :
    SeqStopsK F n Try.prog 36 #[.pointer (some ⟨Bc, 0, none⟩)] encs2 (Kp2 Bc b) (fun ps => AllLate f now ps ∧ ps.length ≤ Maps.size D0) (fun _ => True) (Maps.size D0) w := fun l J Jx W hW hJ _ hY h0 =>
  (asleep1_in F n h36 hro hn l Bc b m k now f D0 J Jx hY W hJ (Nat.lt_of_lt_of_le hBc hW.size) (Nat.lt_of_lt_of_le hb hW.size) ((hW.cell (p := ⟨Bc, 0, none⟩) hBc).trans hcap) ((hW.cell (p := ⟨b, 0, none⟩) hb).trans hc0) ((hW.cell (p := ⟨b, 1, none⟩) hb).trans hc1)
    (hown.kept (row := none) ⟨hW.os, hW.tape, hW.output, hW.size, fun i hi _ => hW.block i hi⟩ (by simp)) hrd h0).mono fun _ _ ⟨he, hr⟩ => ⟨he, hr.imp id fun ⟨pre, h⟩ => ⟨pre, trivial, h⟩⟩

structure SleepList (f : Int → Option Int) (now : Int) (ts : List Int) : Prop where
  nodup : ts.Nodup
  mem : ∀ t, t ∈ ts ↔ ∃ u, f t = some u ∧ now < u
  sorted : ts.Pairwise (lexLe f)

theorem Try.info3 : (Try.prog.info? 3).map (fun i => (i.zero, i.size, i.bytes)) = some (some (.int .i64 0), 1, 8) := by kernel_rfl

set_option maxRecDepth 100000 in
set_option maxHeartbeats 2000000 in
theorem sleepers_any (w : World) (b m k : Nat) (now : Int) (f : Int → Option Int) (h : IsClock w b m k now f) (hdom : ∀ t u, f t = some u → I64 t) (hk : k ≤ 1000000) :
    Calls Try.prog 27 #[.pointer (some ⟨b, 0, none⟩)] w fun e w' => ∃ v ts, e = .returned v ∧ SleepList f now ts ∧ w'.ownsRow w.heap.size 3 1 v ts.length (ts.map (Value.int .i64)) ∧ Below w.heap.size w w' := by
  obtain ⟨i0, hi, hz0, hz1, hz2⟩ := info_parts Try.info3
  have hbl := h.lt
  have hml := h.2.lt
  obtain ⟨D0, hown, hrd⟩ := h.2
  have hsz : Maps.size D0 ≤ k := hown.size_le
  refine (callsIn_wide (n := 5)).1 ?_
  refine callsIn_of_wp_marks Try.func27 rfl trivial ?_ rfl
  simp only [Try.ntmps27, List.size_toArray, List.length_cons, List.length_nil, Nat.reduceAdd, Nat.reduceSub, Array.replicate_succ, Array.replicate_zero, List.push_toArray, List.append_toArray, List.nil_append, List.cons_append]
  gi_wp2_with (refine ⟨trivial, ?_⟩; gi_at_call 31; refine (callsIn_wide.2 (asleep_any _ _ rfl _ rfl)).mono ?_; rintro e w' ⟨rfl, rfl⟩)
  have hB0 : Below w.heap.size w (((w.alloc (.cells #[.pointer (some ⟨b, 0, none⟩)] 36)).alloc (.cells #[.slice none 0 0] 22)).alloc (.cells #[.pointer (some ⟨b, 0, none⟩)] 36)) := (((Below.refl _ w).alloc (Nat.le_refl _) _).alloc (by simp) _).alloc (by simp; omega) _
  have bC : Boxed (((w.alloc (.cells #[.pointer (some ⟨b, 0, none⟩)] 36)).alloc (.cells #[.slice none 0 0] 22)).alloc (.cells #[.pointer (some ⟨b, 0, none⟩)] 36)) w.heap.size 36 (.pointer (some ⟨b, 0, none⟩)) := ((Boxed.new w 36 _).alloc _).alloc _
  have bO0 := (Boxed.new (w.alloc (.cells #[.pointer (some ⟨b, 0, none⟩)] 36)) 22 (.slice none 0 0)).alloc (.cells #[.pointer (some ⟨b, 0, none⟩)] 36)
  have bN0 := Boxed.new ((w.alloc (.cells #[.pointer (some ⟨b, 0, none⟩)] 36)).alloc (.cells #[.slice none 0 0] 22)) 36 (.pointer (some ⟨b, 0, none⟩))
  simp only [World.size_alloc] at bO0 bN0
  have hs3 : (((w.alloc (.cells #[.pointer (some ⟨b, 0, none⟩)] 36)).alloc (.cells #[.slice none 0 0] 22)).alloc (.cells #[.pointer (some ⟨b, 0, none⟩)] 36)).heap.size = w.heap.size + 3 := by simp
  have c0 := (hB0.cell (p := ⟨b, 0, none⟩) hbl).trans h.cell0
  have c1 := (hB0.cell (p := ⟨b, 1, none⟩) hbl).trans h.cell1
  have hown0 := hown.kept (row := none) ⟨hB0.os, hB0.tape, hB0.output, hB0.size, fun i hi _ => hB0.block i hi⟩ (by simp)
  generalize hW0 : (((w.alloc (.cells #[.pointer (some ⟨b, 0, none⟩)] 36)).alloc (.cells #[.slice none 0 0] 22)).alloc (.cells #[.pointer (some ⟨b, 0, none⟩)] 36)) = W0 at *
  clear hW0
  refine wpIn_rangeFunc_ownG rfl (by omega) (gf := 36) (lb := #[.pointer (some ⟨w.heap.size + 1 + 1, 0, none⟩)]) rfl trivial (enters_of Try.func36 (by kernel_rfl) rfl)
    (asleep_stops Fence.wide (5 - 1) trivial rfl (by omega) (w.heap.size + 1 + 1) b m k now f D0 W0 (by omega) (by omega) bN0.cell c0 c1 hown0 hrd) kp_t (kp_b (by omega) (by omega)) (Below.refl _ _) (fun _ => rfl)
    (fun pre W => (∃ v, Boxed W (w.heap.size + 1) 22 v ∧ W.ownsRow w.heap.size 3 1 v (pre.map (·.1)).length ((pre.map (·.1)).map (Value.int .i64)) ∧ (v = .slice none 0 0 ↔ pre = [])) ∧ Below w.heap.size w W ∧ Boxed W w.heap.size 36 (.pointer (some ⟨b, 0, none⟩)) ∧ Boxed W (w.heap.size + 1 + 1) 36 (.pointer (some ⟨b, 0, none⟩)))
    (fun _ _ _ => False)
    (OwnFrom.and (Own.from (holdsRow_own w.heap.size (w.heap.size + 1) 22 3 1 (fun pre : List (Int × Int) => (pre.map (·.1)).length) (fun pre => (pre.map (·.1)).map (Value.int .i64)) (fun pre v => v = .slice none 0 0 ↔ pre = [])) _)
      (OwnFrom.and (ownFrom_below (Nat.le_refl _) (by omega)) (OwnFrom.and (Own.from (boxed_own _ _ _) _) (Own.from (boxed_own _ _ _) _))))
    (fun _ _ _ _ _ hs _ _ => hs)
    ⟨⟨_, bO0, World.ownsRow_nil _ _ _ _, by simp⟩, hB0, bC, bN0⟩
    (fun x => { tmps := #[.pointer (some ⟨b, 0, none⟩), .pointer (some ⟨w.heap.size, 0, none⟩), .slice none 0 0, .pointer (some ⟨w.heap.size + 1, 0, none⟩), .int .i64 x.1, .pointer (some ⟨b, 0, none⟩), .bool false, .pointer (some ⟨b, 0, none⟩), .func (.func 36) #[] #[.pointer (some ⟨w.heap.size + 1 + 1, 0, none⟩)], .int .i64 x.1, .int .i64 x.2, undef, undef, undef, undef, undef, undef, undef, undef], defers := [] }) ?assign ?body ?done ?stop
  case assign =>
    intro l x W K hK
    gi_wp2
    exact hK
  case body =>
    rintro l pre x W ⟨⟨v, hv, hrow, hnil⟩, hB, hC, hN⟩ hlt
    have hc := hv.cell
    have hpl : (pre.map (·.1)).length = pre.length := by simp
    have hne1 : w.heap.size + 1 + 1 ≠ w.heap.size + 1 := by omega
    have n1 := hC.not_row (by decide) hrow
    have n2 := hN.not_row (by decide) hrow
    have N1 := Lib.hid n1; clear n1
    have N2 := Lib.hid n2; clear n2
    gi_wp2_with (gi_at_builtin; refine wpListIn_append_own _ rfl _ _ 22 rfl w.heap.size 3 i0 (.int .i64 0) 1 8 Try.underlying22 hi hz0 hz1 hz2 rfl (by decide) _ _ _ rfl (hrow.alloc _) ⟨W.heap.size, 0, none⟩ 1 1 [.int .i64 x.1] rfl rfl (cell_one_new _ _ _) (by simp [Value.oneCell']) (by unfold maxLen; omega) (by omega) (by have := hB.size; simp; omega) ?_; intro v' w1 hown' hgrow _; obtain ⟨g', cap', rfl⟩ := ownsRow_succ hown'; obtain ⟨hv1, hv2, hr2, hk2, hb2⟩ := hv.appended (by decide) hrow hB.size (by omega) hown' hgrow; have hc1 := hv1.cell; have hf1 := hv1.frozen)
    rw [hpl] at hv2 hr2 hk2 hb2
    have C2 := (((hC.alloc _).kept hgrow N1.out).other (show w.heap.size ≠ w.heap.size + 1 by omega) (.slice (some ⟨g', 0, none⟩) (pre.length + 1) cap'))
    have C3 := (((hN.alloc _).kept hgrow N2.out).other hne1 (.slice (some ⟨g', 0, none⟩) (pre.length + 1) cap'))
    refine ⟨hk2.from _, ⟨⟨hk2.size, fun i o ho hw => hk2.same i o ho (by cases o <;> simp_all [Obj.isWalk, Obj.isCells])⟩, C3.trans hN.symm, hb2.block b hbl⟩, ⟨_, hv2, ?_, by simp⟩, hB.trans hb2, C2, C3⟩
    simpa using hr2
  case done =>
    rintro D ys W hD ⟨hall, hle⟩ ⟨⟨v, hv, hrow, hnil⟩, hB, hC, _⟩ hK
    have hc := hv.cell
    clear hnil
    have hL : LessAt W b m k w.heap.size f := ⟨hC.cell, (hB.cell (p := ⟨b, 1, none⟩) hbl).trans h.cell1, h.2.block (hB.block m hml)⟩
    have hmem : Hid (∀ t, t ∈ ys.map (·.1) ↔ ∃ u, f t = some u ∧ now < u) := hall.mem
    rcases hrow.2 with ⟨hv0, hlen0⟩ | ⟨g, cap, cur, hvg, hgb, hgc, hn, hcap, hsz1, _⟩
    · subst hv0
      gi_wp2_with (refine ⟨trivial, ?_⟩; gi_at_call 32; refine (callsIn_wide.2 (sort_none _ _ _ _)).mono ?_; rintro e w' ⟨rfl, rfl⟩)
      refine ⟨by simp, .inl ⟨_, _, rfl, run_takeDeferred hK, ?_⟩⟩
      obtain rfl : ys = [] := List.eq_nil_of_length_eq_zero (by simpa using hlen0)
      exact ⟨_, results_tmp rfl _ _ _, _, [], rfl, ⟨by simp, hmem.out, by simp⟩, ownsRow_putObj hrow _ hK rfl, hB.trans (belowK_b (w := w) (Nat.le_refl _) _ D _ _ (by omega) hK rfl rfl)⟩
    · have hlt := (Array.getElem?_eq_some_iff.1 hgc).1
      have hlen : ys.length < 4611686018427387904 := by omega
      have hgC : w.heap.size ≠ g := by
        intro e; rw [← e, hC] at hgc; simp at hgc
      have hgO : w.heap.size + 1 ≠ g := by
        intro e; rw [← e, hv] at hgc; simp at hgc
      have hgm : m ≠ g := by omega
      have hgb' : b ≠ g := by omega
      have hdI : ∀ x ∈ ys.map (·.1), I64 x := fun x hx => let ⟨u, hu, _⟩ := (hmem.out x).1 hx; hdom x u hu
      subst hvg
      have hrow' : W.ownsRow w.heap.size 3 1 (.slice (some ⟨g, 0, none⟩) ys.length cap) ys.length ((ys.map (·.1)).map (Value.int .i64)) := by simpa using hrow
      have hs := sort_any W w.heap.size g cap b m k w.heap.size ys.length f (ys.map (·.1)) (by simp) hdI hrow' hL hgC hgb' hgm hlen
      have HS := Lib.hid hs; clear hs
      gi_wp2_with (refine ⟨trivial, ?_⟩; gi_at_call 32; refine (callsIn_wide.2 HS.out).mono ?_; rintro e w' ⟨rfl, ts, hp, hsort, hown2, hg2⟩; have hc2 := (hv.kept hg2 (by simp; exact hgO)).cell)
      have hDg : D ≠ g := by
        intro e; rw [e, hgc] at hK; cases hK
      have hK' : w'.heap[D]? = some (.deferred (some [])) := (hg2.block D (Array.getElem?_eq_some_iff.1 hK).1 (by simpa using hDg)).trans hK
      have hlen2 : ts.length = ys.length := by simpa using hp.length_eq
      have hB2 : Below w.heap.size w w' := hB.grown hg2 hB.size (fun k e => by cases e; exact hgb)
      refine ⟨by simp, .inl ⟨_, _, rfl, run_takeDeferred hK', ?_⟩⟩
      refine ⟨_, results_tmp rfl _ _ _, _, ts, rfl, ⟨hp.nodup_iff.2 hall.nodup, fun t => (hp.mem_iff).trans (hmem.out t), hsort⟩, ?_, hB2.trans (belowK_b (w := w) (Nat.le_refl _) w' D _ _ (by omega) hK' rfl rfl)⟩
      rw [hlen2]
      exact ownsRow_putObj hown2 _ hK' rfl
  case stop =>
    rintro D c pre W _ _ h _
    exact h.elim
end Go.Proofs.Ytklbhidlbdabbaa
