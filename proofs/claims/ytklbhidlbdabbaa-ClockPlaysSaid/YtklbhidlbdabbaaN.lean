/- The walk of the law ClockTrue. -/
import Derived.Test.YtklbhidlbdabbaaL
set_option linter.unusedVariables false
set_option linter.unusedSimpArgs false
namespace Go.Proofs.Ytklbhidlbdabbaa
open Go.RowKit Go.Lib Go.Maps Go.Sort

theorem sub_len : ∀ (l r : List Int), l.Nodup → (∀ x ∈ l, x ∈ r) → l.length ≤ r.length
  | [], _, _, _ => by simp
  | a :: l, r, hn, h => by
    have hn' := List.nodup_cons.1 hn
    have ha : a ∈ r := h a (by simp)
    have := sub_len l (r.erase a) hn'.2 (fun x hx => (List.mem_erase_of_ne (fun e => hn'.1 (by rw [← e]; exact hx))).2 (h x (by simp [hx])))
    rw [List.length_erase_of_mem ha] at this
    have := List.length_pos_of_mem ha
    simp; omega
theorem lexLe_anti {f x y} (h1 : lexLe f x y) (h2 : lexLe f y x) : x = y := by unfold lexLe at *; omega
theorem SleepList.same {f f' now now' ts ts'} (h : SleepList f now ts) (h' : SleepList f' now' ts') (hm : ∀ t, t ∈ ts ↔ t ∈ ts') (hf : ∀ x, (f x).getD 0 = (f' x).getD 0) : ts = ts' :=
  List.Perm.eq_of_pairwise (le := lexLe f) (fun a b _ _ h1 h2 => lexLe_anti h1 h2) h.sorted (h'.sorted.imp fun {a b} k => by unfold lexLe at *; rw [hf, hf]; exact k) ((List.perm_ext_iff_of_nodup h.nodup h'.nodup).2 hm)
theorem SleepList.uniq {f now ts ts'} (h : SleepList f now ts) (h' : SleepList f now ts') : ts = ts' := h.same h' (fun t => by rw [h.mem, h'.mem]) (fun _ => rfl)
/-- The first one's time is the least. -/
theorem SleepList.first_le {f now t r} (h : SleepList f now (t :: r)) {x u : Int} (hx : f x = some u) (hu : now < u) : firstOf f (t :: r) ≤ u := by
  have hm : x ∈ t :: r := (h.mem x).2 ⟨u, hx, hu⟩
  rcases List.mem_cons.1 hm with rfl | hr
  · simp [firstOf, hx]
  · have := (List.pairwise_cons.1 h.sorted).1 x hr
    unfold lexLe at this
    rw [hx] at this
    simp only [firstOf]
    simp at this
    omega
theorem SleepList.first_gt {f now t r} (h : SleepList f now (t :: r)) : now < firstOf f (t :: r) ∧ f t = some (firstOf f (t :: r)) := by
  obtain ⟨u, hu, hl⟩ := (h.mem t).1 (by simp)
  simp [firstOf, hu, hl]
/-- Ahead of the first one's time nobody awakes. -/
theorem SleepList.still {f now now' t r ts'} (h : SleepList f now (t :: r)) (h' : SleepList f now' ts') (h1 : now ≤ now') (h2 : now' < firstOf f (t :: r)) : ts' = t :: r :=
  h'.same h (fun x => by
    rw [h.mem, h'.mem]
    constructor
    · rintro ⟨u, hu, hl⟩; exact ⟨u, hu, by omega⟩
    · rintro ⟨u, hu, hl⟩; exact ⟨u, hu, by have := h.first_le hu hl; omega⟩) (fun _ => rfl)
/-- At the first one's time it awakes. -/
theorem SleepList.fewer {f now t r ts'} (h : SleepList f now (t :: r)) (h' : SleepList f (firstOf f (t :: r)) ts') : ts'.length < (t :: r).length := by
  have hsub : ∀ x ∈ ts', x ∈ r := fun x hx => by
    obtain ⟨u, hu, hl⟩ := (h'.mem x).1 hx
    have hm : x ∈ t :: r := (h.mem x).2 ⟨u, hu, by have := h.first_gt.1; omega⟩
    rcases List.mem_cons.1 hm with rfl | hr
    · have := h.first_gt.2; rw [hu] at this; injection this with this; omega
    · exact hr
  have := sub_len ts' r h'.nodup hsub
  simp; omega

theorem num_q (x : Int) (w : World) : Calls Try.prog 13 #[.int .i64 x] w fun e w' => e = .returned (.int .i64 x) ∧ w' = w := (num_any x w).mono fun e w' ⟨a, b⟩ => ⟨a, b.symm⟩
theorem awake_slept (t a now : Int) (w : World) (b m k : Nat) (f) (v : Bool) (h : IsClock w b m k now (upd f t (some (now + a)))) (ht : I64 t) (ha : 0 ≤ a) (hv : decide (a = 0) = v) (q : Nat) :
    Calls Try.prog 24 #[.pointer (some ⟨b, 0, none⟩), .int .i64 t] (w.drewN q) fun e w' => e = .returned (.bool v) ∧ ∃ n, w' = (w.drewN q).drewN n :=
  (awake_any t now _ b m k _ (h.drewN q) ht).mono fun e w' ⟨he, hw⟩ => ⟨by rw [he, ← hv]; simp [upd]; omega, hw⟩

/-- A slice of Acts that came in: its first n elements. -/
def Acts (w : World) (A : Option Addr) (n : Nat) (D T N : Nat → Int) : Prop :=
  0 < n → ∃ b o, A = some ⟨b, o, none⟩ ∧ b < w.heap.size ∧ ∀ j, j < n → w.cell? ⟨b, o + j * 3, none⟩ = some (.int .i64 (D j)) ∧ w.cell? ⟨b, o + j * 3 + 1, none⟩ = some (.int .i64 (T j)) ∧ w.cell? ⟨b, o + j * 3 + 2, none⟩ = some (.int .i64 (N j))

/-- The round's own copy of its Act. -/
structure ActAt (W : World) (B q : Nat) (d t a : Int) : Prop where
  mk_ : W.heap[q]? = some (.cells #[.int .i64 d, .int .i64 t, .int .i64 a] 41 (0, 0))
  low : B ≤ q
theorem ActAt.c0 {W B q d t a} (h : ActAt W B q d t a) : W.cell? ⟨q, 0, none⟩ = some (.int .i64 d) := by simp [World.cell?, h.mk_]
theorem ActAt.c1 {W B q d t a} (h : ActAt W B q d t a) : W.cell? ⟨q, 1, none⟩ = some (.int .i64 t) := by simp [World.cell?, h.mk_]
theorem ActAt.c2 {W B q d t a} (h : ActAt W B q d t a) : W.cell? ⟨q, 2, none⟩ = some (.int .i64 a) := by simp [World.cell?, h.mk_]
theorem ActAt.lt {W B q d t a} (h : ActAt W B q d t a) : q < W.heap.size := (Array.getElem?_eq_some_iff.1 h.mk_).1
theorem ActAt.below {W W' B q d t a} (h : ActAt W B q d t a) (hB : Below W.heap.size W W') : ActAt W' B q d t a := ⟨(hB.block q h.lt).trans h.mk_, h.low⟩
theorem ActAt.only {W W' B q d t a b m} (h : ActAt W B q d t a) (ho : Only (Two b m) W W') (hb : b < q) (hm : m < q) : ActAt W' B q d t a :=
  ⟨(ho.block q h.lt (fun e => by rcases e with e | e <;> omega)).trans h.mk_, h.low⟩
theorem ActAt.new (w : World) (d t a : Int) : ActAt (w.alloc (.cells #[.int .i64 d, .int .i64 t, .int .i64 a] 41)) w.heap.size w.heap.size d t a := ⟨heap_alloc_new w _, Nat.le_refl _⟩

theorem RI.only {w w' : World} {A n X b m} (h : RI w A n X) (ho : Only (Two b m) w w') (hb : ∀ b' o', A = some ⟨b', o', none⟩ → b' < w.heap.size ∧ b' ≠ b ∧ b' ≠ m) : RI w' A n X :=
  h.block fun b' o' e => ho.block b' (hb b' o' e).1 (fun e' => by have := hb b' o' e; rcases e' with e' | e' <;> omega)
theorem RI.below {w w' : World} {A n X} (h : RI w A n X) (hB : Below w.heap.size w w') (hb : ∀ b' o', A = some ⟨b', o', none⟩ → b' < w.heap.size) : RI w' A n X :=
  h.block fun b' o' e => hB.block b' (hb b' o' e)

/-- The draw at the end. -/
theorem draw_end (A : Option Addr) (c : Nat) (X : Nat → Int) (m : Int) (w : World) (hA : RI w A 3 X) (hm : I64 m) : ∃ (t e0 : Int) (v : Bool),
    (Calls Try.prog 11 #[.slice A 3 c, .int .i64 1, .int .i64 m] w fun e w' => e = .returned (.tuple #[.int .i64 t, .int .i64 e0]) ∧ w = w') ∧
    decide (m < 1) = v ∧ (e0 != 0) = v ∧ decide (0 ≤ t) = true ∧ (v = false → decide (t < m) = true) := by
  by_cases h : m < 1
  · exact ⟨_, _, true, draw_arg A 3 c 1 m w (.inr h), by simp [h], rfl, rfl, by simp⟩
  · have hb := emod_bd (X ((1 : Int) % (3 : Nat)).toNat) m (by omega)
    refine ⟨_, _, false, draw_some A 3 c X 1 m w hA (by omega) (by omega) (by omega) (by unfold I64 at hm; omega), by simp [h], rfl, by simpa using hb.1, fun _ => by simpa using hb.2⟩

set_option maxRecDepth 100000 in
set_option maxHeartbeats 2000000 in
theorem true_near (A : Option Addr) (n c : Nat) (D T N : Nat → Int) (i m : Int) (w : World) (h : n ≤ 60) (hA : Acts w A n D T N) (hI : ∀ j, j < n → I64 (T j) ∧ I64 (N j)) (hi : I64 i) (hm : I64 m) :
    Calls Try.prog 7 #[.slice A n c, .int .i64 i, .int .i64 m] w fun e w' => e = .returned (.bool true) ∧ Below w.heap.size w w' := by
  have HA := Lib.hid hA; clear hA
  have HI := Lib.hid hI; clear hI
  go_enter Try.func7, Try.ntmps7
  go_wp2_with fail
  refine (new_any w).mono ?_
  rintro e w1 ⟨b, mm, rfl, hb, hm, h1, hB1⟩
  have HC1 := Lib.hid h1; clear h1
  have HB1 := Lib.hid hB1; clear hB1
  go_wp2_with fail
  go_loopw [8] (fun v wr => ∃ (j kk : Nat) (now : Int) (f : Int → Option Int), j ≤ n ∧ v = .int .i64 j ∧ kk ≤ j ∧ Hid (IsClock wr b mm kk now f) ∧ Hid (Inv now f) ∧ Hid (Below w.heap.size w wr)) (fun v _ => n - (intOf v).toNat)
  case atStart => exact ⟨0, 0, 0, _, by omega, rfl, by omega, HC1.out, ⟨by omega, by omega, by simp⟩, HB1.out⟩
  case round =>
    obtain ⟨j, kk, now, f, hj, rfl, hkk, HC, HV, HB⟩ := hrel
    clear HC1 HB1
    by_cases hlt : j < n
    · obtain ⟨bl, o, rfl, hbl, hcs⟩ := HA.out (by omega)
      obtain ⟨c0, c1, c2⟩ := hcs j hlt
      have d0 : wr.cell? ⟨bl, o + j * 3, none⟩ = some (.int .i64 (D j)) := (HB.out.cell (p := ⟨bl, o + j * 3, none⟩) hbl).trans c0
      have d1 : wr.cell? ⟨bl, o + j * 3 + 1, none⟩ = some (.int .i64 (T j)) := (HB.out.cell (p := ⟨bl, o + j * 3 + 1, none⟩) hbl).trans c1
      have d2 : wr.cell? ⟨bl, o + j * 3 + 2, none⟩ = some (.int .i64 (N j)) := (HB.out.cell (p := ⟨bl, o + j * 3 + 2, none⟩) hbl).trans c2
      obtain ⟨hT, hN⟩ := HI.out j hlt
      clear c0 c1 c2 hcs
      generalize D j = d at *
      generalize T j = t at *
      generalize N j = a at *
      go_wp2_with fail
      have hq := ActAt.new wr d t a
      have hBa := below_next HB.out HB.out.size (below_alloc (w := wr) (.cells #[.int .i64 d, .int .i64 t, .int .i64 a] 41))
      have hca := HC.out.below (below_alloc (w := wr) (.cells #[.int .i64 d, .int .i64 t, .int .i64 a] 41))
      have hbq := HC.out.lt
      have hmq := HC.out.2.lt
      clear d0 d1 d2 HB HC
      generalize wr.alloc (.cells #[.int .i64 d, .int .i64 t, .int .i64 a] 41) = wa at *
      generalize wr.heap.size = q at *
      refine (now_any now wa b hca.cell0).mono ?_
      rintro e w2 ⟨rfl, rfl⟩
      have q0 := hq.c0
      have q1 := hq.c1
      have q2 := hq.c2
      have HQ := Lib.hid hq; clear hq
      have HB := Lib.hid hBa; clear hBa
      have HC := Lib.hid hca; clear hca
      by_cases hd : d = 1
      · subst hd
        go_wp2_with fail
        refine (sleep_all t a now wa b mm kk f HC.out HV.out (by unfold maxLen; omega)).mono ?_
        rintro e w2 ⟨u, e0, f', rfl, hs, h2, ho⟩
        have hq2 := HQ.out.only ho hbq hmq
        have hB2 := two_below HB.out ho HB.out.size hb hm
        have hV2 := hs.inv HV.out
        have q3 := hq2.c1
        have q4 := hq2.c2
        clear q0 q1 q2 HQ HB HC ho
        have HC := Lib.hid h2; clear h2
        have HB := Lib.hid hB2; clear hB2
        cases hs with
        | ok h1 h2 h3 h4 h5 =>
          have hlo := HV.out.lo
          have hhi := HV.out.hi
          have hw : IntKind.i64.wrap (now + a) = now + a := IntWalk.i64_in _ (by omega)
          obtain ⟨v, hv⟩ : ∃ v, decide (a = 0) = v := ⟨_, rfl⟩
          have hz : (a == 0) = v := by rw [← hv]; rfl
          have haw := awake_slept t a now w2 b mm _ f v HC.out hT h3 hv
          have HW := Lib.hid haw; clear haw hv
          go_wp2_with fail
          go_quiet (first | (go_at_call 13; exact Calls.quiet_of_same (num_q _ _)) | (go_at_call 24; exact Calls.quiet_of (HW.out _)))
          go_wp2_with fail
          go_roundw
          case rel => exact ⟨j + 1, kk + 1, now, _, by omega, by go_num, by omega, HC.out.drewN _, hV2, below_drewN HB.out _⟩
          case measure => simp [intOf]; omega
        | _ =>
          go_wp2_with fail
          go_quiet (first | (go_at_call 13; exact Calls.quiet_of_same (num_q _ _)))
          go_wp2_with fail
          go_roundw
          case rel => exact ⟨j + 1, kk + 1, now, _, by omega, by go_num, by omega, HC.out.drewN _, hV2, below_drewN HB.out _⟩
          case measure => simp [intOf]; omega
      · have hd' : (d == 1) = false := by simpa using hd
        clear hd
        go_wp2_with fail
        refine (next_any wa b mm kk now f HC.out HV.out (by omega)).mono ?_
        rintro e w2 ⟨ts, rfl, hts, hB2⟩
        have hq2 := HQ.out.below hB2
        have hc2 := HC.out.below hB2
        have hB3 := below_next HB.out HB.out.size hB2
        clear q0 q1 q2 HQ HC HB hB2
        have HQ := Lib.hid hq2; clear hq2
        have HC := Lib.hid hc2; clear hc2
        have HB := Lib.hid hB3; clear hB3
        have HTS := Lib.hid hts; clear hts
        go_wp2_with fail
        refine (sleepers_any w2 b mm kk now f HC.out HV.out.i64 (by omega)).mono ?_
        rintro e w3 ⟨v, ts', rfl, hts', hown, hB2⟩
        obtain rfl := HTS.out.uniq hts'
        obtain ⟨A, cc, rfl⟩ := own_slice hown
        have hlen := HTS.out.len HV.out
        have hR := own_RI hown (by omega)
        have hbase : ∀ b' o', A = some ⟨b', o', none⟩ → w2.heap.size ≤ b' ∧ b' < w3.heap.size := fun b' o' e => own_base hown e
        have hbs := HC.out.lt
        have hms := HC.out.2.lt
        have hq2 := HQ.out.below hB2
        have hc2 := HC.out.below hB2
        have hB3 := below_next HB.out HB.out.size hB2
        have q2 := hq2.c2
        clear HQ HC HB hB2 hown hts'
        have HQ := Lib.hid hq2; clear hq2
        have HC := Lib.hid hc2; clear hc2
        have HB := Lib.hid hB3; clear hB3
        cases ts with
        | nil =>
          go_wp2_with fail
          go_roundw
          case rel => exact ⟨j + 1, kk, now, f, by omega, by go_num, by omega, HC.out, HV.out, HB.out⟩
          case measure => simp [intOf]; omega
        | cons t0 r =>
          have hfg := HTS.out.first_gt
          have hdom := HV.out.dom t0 _ hfg.2
          have hlo := HV.out.lo
          generalize hnx : firstOf f (t0 :: r) = nx at *
          have hw : IntKind.i64.wrap (nx - now) = nx - now := IntWalk.i64_in _ (by omega)
          by_cases ha0 : 0 ≤ a
          · by_cases ha1 : a < nx - now
            · go_wp2_with fail
              refine (tick_all a now w3 b mm kk f HC.out HV.out).mono ?_
              rintro e w4 ⟨e0, now', rfl, ht, h4, ho⟩
              have hV4 := ht.inv HV.out
              have hR4 := hR.only ho (fun b' o' e => ⟨(hbase b' o' e).2, by have := (hbase b' o' e).1; omega, by have := (hbase b' o' e).1; omega⟩)
              have hbase4 : ∀ b' o', A = some ⟨b', o', none⟩ → b' < w4.heap.size := fun b' o' e => Nat.lt_of_lt_of_le (hbase b' o' e).2 ho.size
              have hB4 := two_below HB.out ho HB.out.size hb hm
              clear HC HB HQ ho hR hbase q2
              have HC := Lib.hid h4; clear h4
              have HB := Lib.hid hB4; clear hB4
              cases ht with
              | arg h1 =>
                go_wp2_with fail
                refine (num_any _ _).mono ?_
                rintro e w5 ⟨rfl, rfl⟩
                go_wp2_with fail
                go_roundw
                case rel => exact ⟨j + 1, kk, now, f, by omega, by go_num, by omega, HC.out, hV4, HB.out⟩
                case measure => simp [intOf]; omega
              | ok h1 h2 =>
                go_wp2_with fail
                refine (num_any _ _).mono ?_
                rintro e w5 ⟨rfl, rfl⟩
                go_wp2_with fail
                refine (sleepers_any w4 b mm kk _ f HC.out hV4.i64 (by omega)).mono ?_
                rintro e w5 ⟨v, ts', rfl, hts', hown, hB2⟩
                obtain rfl := HTS.out.still hts' (by omega) (by omega)
                obtain ⟨A5, c5, rfl⟩ := own_slice hown
                have hR5 := own_RI hown (by omega)
                have hR6 := hR4.below hB2 hbase4
                have hc5 := HC.out.below hB2
                have hB5 := below_next HB.out HB.out.size hB2
                clear HC HB hB2 hown hts' hR4
                have HC := Lib.hid hc5; clear hc5
                have HB := Lib.hid hB5; clear hB5
                have hsame := (same_any A5 A _ _ c5 cc _ _ w5 hR5 hR6)
                rw [sameB_true (fun _ _ => rfl)] at hsame
                clear hR5 hR6
                go_wp2_with fail
                refine hsame.mono ?_
                rintro e w6 ⟨rfl, q6, rfl⟩
                go_wp2_with fail
                go_roundw
                case rel => exact ⟨j + 1, kk, _, f, by omega, by go_num, by omega, HC.out.drewN _, hV4, below_drewN HB.out _⟩
                case measure => simp [intOf]; omega
            · by_cases hx : nx - now ≤ 1048576
              · go_wp2_with fail
                refine (tick_all (nx - now) now w3 b mm kk f HC.out HV.out).mono ?_
                rintro e w4 ⟨e0, now', rfl, ht, h4, ho⟩
                have hV4 := ht.inv HV.out
                have hR4 := hR.only ho (fun b' o' e => ⟨(hbase b' o' e).2, by have := (hbase b' o' e).1; omega, by have := (hbase b' o' e).1; omega⟩)
                have hbase4 : ∀ b' o', A = some ⟨b', o', none⟩ → b' < w4.heap.size := fun b' o' e => Nat.lt_of_lt_of_le (hbase b' o' e).2 ho.size
                have hB4 := two_below HB.out ho HB.out.size hb hm
                clear HC HB HQ ho hR hbase q2
                have HC := Lib.hid h4; clear h4
                have HB := Lib.hid hB4; clear hB4
                cases ht with
                | arg h1 => omega
                | ok h1 h2 =>
                  have hmin : min (now + (nx - now)) 1099511627776 = nx := by omega
                  rw [hmin] at HC hV4
                  go_wp2_with fail
                  refine (num_any _ _).mono ?_
                  rintro e w5 ⟨rfl, rfl⟩
                  go_wp2_with fail
                  refine (sleepers_any w4 b mm kk _ f HC.out hV4.i64 (by omega)).mono ?_
                  rintro e w5 ⟨v, ts', rfl, hts', hown, hB2⟩
                  obtain ⟨A5, c5, rfl⟩ := own_slice hown
                  rw [← hnx] at hts'
                  have hfew := HTS.out.fewer hts'
                  rw [hnx] at hts'
                  have hR6 := hR4.below hB2 hbase4
                  have hc5 := HC.out.below hB2
                  have hB5 := below_next HB.out HB.out.size hB2
                  have haw := awake_any t0 nx w5 b mm kk f hc5 (by unfold I64; omega)
                  have hv : (!(f t0).isSome || decide ((f t0).getD 0 ≤ nx)) = true := by rw [hfg.2]; simp
                  rw [hv] at haw
                  obtain ⟨br, or, rfl, hcr⟩ := hR6.2 (by simp)
                  have cr := hcr 0 (by simp)
                  simp only [List.getD_cons_zero, Nat.add_zero] at cr
                  simp only [List.length_cons] at hfew
                  generalize hl' : ts'.length = l' at *
                  clear HC HB hB2 hown hts' hR4 hR6 hcr hv hl'
                  have HC := Lib.hid hc5; clear hc5
                  have HB := Lib.hid hB5; clear hB5
                  have HW := Lib.hid haw; clear haw
                  go_wp2_with fail
                  refine HW.out.mono ?_
                  rintro e w6 ⟨rfl, q6, rfl⟩
                  go_wp2_with fail
                  go_roundw
                  case rel => exact ⟨j + 1, kk, _, f, by omega, by go_num, by omega, HC.out.drewN _, hV4, below_drewN HB.out _⟩
                  case measure => simp [intOf]; omega
              · go_wp2_with fail
                go_roundw
                case rel => exact ⟨j + 1, kk, now, f, by omega, by go_num, by omega, HC.out, HV.out, HB.out⟩
                case measure => simp [intOf]; omega
          · by_cases hx : nx - now ≤ 1048576
            · go_wp2_with fail
              refine (tick_all (nx - now) now w3 b mm kk f HC.out HV.out).mono ?_
              rintro e w4 ⟨e0, now', rfl, ht, h4, ho⟩
              have hV4 := ht.inv HV.out
              have hR4 := hR.only ho (fun b' o' e => ⟨(hbase b' o' e).2, by have := (hbase b' o' e).1; omega, by have := (hbase b' o' e).1; omega⟩)
              have hbase4 : ∀ b' o', A = some ⟨b', o', none⟩ → b' < w4.heap.size := fun b' o' e => Nat.lt_of_lt_of_le (hbase b' o' e).2 ho.size
              have hB4 := two_below HB.out ho HB.out.size hb hm
              clear HC HB HQ ho hR hbase q2
              have HC := Lib.hid h4; clear h4
              have HB := Lib.hid hB4; clear hB4
              cases ht with
              | arg h1 => omega
              | ok h1 h2 =>
                have hmin : min (now + (nx - now)) 1099511627776 = nx := by omega
                rw [hmin] at HC hV4
                go_wp2_with fail
                refine (num_any _ _).mono ?_
                rintro e w5 ⟨rfl, rfl⟩
                go_wp2_with fail
                refine (sleepers_any w4 b mm kk _ f HC.out hV4.i64 (by omega)).mono ?_
                rintro e w5 ⟨v, ts', rfl, hts', hown, hB2⟩
                obtain ⟨A5, c5, rfl⟩ := own_slice hown
                rw [← hnx] at hts'
                have hfew := HTS.out.fewer hts'
                rw [hnx] at hts'
                have hR6 := hR4.below hB2 hbase4
                have hc5 := HC.out.below hB2
                have hB5 := below_next HB.out HB.out.size hB2
                have haw := awake_any t0 nx w5 b mm kk f hc5 (by unfold I64; omega)
                have hv : (!(f t0).isSome || decide ((f t0).getD 0 ≤ nx)) = true := by rw [hfg.2]; simp
                rw [hv] at haw
                obtain ⟨br, or, rfl, hcr⟩ := hR6.2 (by simp)
                have cr := hcr 0 (by simp)
                simp only [List.getD_cons_zero, Nat.add_zero] at cr
                simp only [List.length_cons] at hfew
                generalize hl' : ts'.length = l' at *
                clear HC HB hB2 hown hts' hR4 hR6 hcr hv hl'
                have HC := Lib.hid hc5; clear hc5
                have HB := Lib.hid hB5; clear hB5
                have HW := Lib.hid haw; clear haw
                go_wp2_with fail
                refine HW.out.mono ?_
                rintro e w6 ⟨rfl, q6, rfl⟩
                go_wp2_with fail
                go_roundw
                case rel => exact ⟨j + 1, kk, _, f, by omega, by go_num, by omega, HC.out.drewN _, hV4, below_drewN HB.out _⟩
                case measure => simp [intOf]; omega
            · go_wp2_with fail
              go_roundw
              case rel => exact ⟨j + 1, kk, now, f, by omega, by go_num, by omega, HC.out, HV.out, HB.out⟩
              case measure => simp [intOf]; omega
    · clear HA HI HV
      have hR := RI_new wr #[.int .i64 i, .int .i64 m, .int .i64 (wrap64 (-i))] 3 3 [i, m, wrap64 (-i)] rfl (by decide) rfl
      have hBa := below_next HB.out HB.out.size (below_alloc (w := wr) (.cells #[.int .i64 i, .int .i64 m, .int .i64 (wrap64 (-i))] 3))
      clear HC HB
      obtain ⟨d, e0, v, hdr, hv, he0, hd0, hdm⟩ := draw_end _ 3 _ m _ hR ‹I64 m›
      have HB := Lib.hid hBa; clear hBa hR
      go_wp2_with fail
      refine hdr.mono ?_
      rintro e w4 ⟨rfl, rfl⟩
      go_wp2_with fail
      generalize wr.alloc (.cells #[.int .i64 i, .int .i64 m, .int .i64 (wrap64 (-i))] 3) = w4 at *
      refine (num_any _ _).mono ?_
      rintro e w5 ⟨rfl, rfl⟩
      clear hdr
      cases v with
      | true =>
        go_wp2_with fail
        refine (live_any _).mono ?_
        rintro e w5 ⟨rfl, hB5⟩
        go_wp2_with fail
        go_ret
        exact ⟨rfl, below_next HB.out HB.out.size hB5⟩
      | false =>
        have hdm := hdm rfl
        go_wp2_with fail
        refine (live_any _).mono ?_
        rintro e w5 ⟨rfl, hB5⟩
        go_wp2_with fail
        go_ret
        exact ⟨rfl, below_next HB.out HB.out.size hB5⟩

set_option maxRecDepth 100000 in
theorem true_far (A : Option Addr) (n c : Nat) (i m : Int) (w : World) (h : 60 < n) (hn : n ≤ 9223372036854775807) :
    Calls Try.prog 7 #[.slice A n c, .int .i64 i, .int .i64 m] w fun e w' => e = .returned (.bool true) ∧ Below w.heap.size w w' := by
  go_enter Try.func7, Try.ntmps7
  go_wp2_with fail
  refine (live_any _).mono ?_
  rintro e w5 ⟨rfl, hB5⟩
  go_wp2_with fail
  go_ret
  exact ⟨rfl, hB5⟩
end Go.Proofs.Ytklbhidlbdabbaa
