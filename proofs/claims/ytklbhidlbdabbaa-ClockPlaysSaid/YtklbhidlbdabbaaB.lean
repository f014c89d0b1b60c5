/- The walks of the clock's methods that range over nothing. -/
import Derived.Test.YtklbhidlbdabbaaM
set_option linter.unusedVariables false
set_option linter.unusedSimpArgs false
namespace Go.Proofs.Ytklbhidlbdabbaa
open Go.RowKit Go.Lib Go.Maps

/-- w' is w but for blocks in S and new ones. -/
structure Only (S : Nat → Prop) (w w' : World) : Prop where
  os : w'.os = w.os
  tape : w'.tape = w.tape
  output : w'.output = w.output
  size : w.heap.size ≤ w'.heap.size
  block : ∀ i, i < w.heap.size → ¬ S i → w'.heap[i]? = w.heap[i]?
theorem Only.refl (S) (w : World) : Only S w w := ⟨rfl, rfl, rfl, Nat.le_refl _, fun _ _ _ => rfl⟩
theorem Only.trans {S} {a b c : World} (h : Only S a b) (k : Only S b c) : Only S a c :=
  ⟨k.os.trans h.os, k.tape.trans h.tape, k.output.trans h.output, Nat.le_trans h.size k.size, fun i hi hn => (k.block i (Nat.lt_of_lt_of_le hi h.size) hn).trans (h.block i hi hn)⟩
theorem Only.drewN {S} {w w' : World} (h : Only S w w') (n : Nat) : Only S w (w'.drewN n) := ⟨h.os, h.tape, h.output, h.size, h.block⟩
theorem Only.drew {S} {w w' : World} (h : Only S w w') : Only S w w'.drew := ⟨h.os, h.tape, h.output, h.size, h.block⟩
theorem Only.setCell {S} {w w' : World} (h : Only S w w') {a : Addr} (ha : S a.block) (u : Value) : Only S w (w'.setCell a u) :=
  ⟨h.os, h.tape, h.output, by simpa using h.size, fun i hi hn => by
    rw [Below.heap_setCell w' a u i (fun e => hn (by rw [e]; exact ha))]; exact h.block i hi hn⟩
theorem Only.alloc {S} {w w' : World} (h : Only S w w') (o : Obj) : Only S w (w'.alloc o) :=
  ⟨h.os, h.tape, h.output, by simp; have := h.size; omega, fun i hi hn => by
    rw [Below.heap_alloc _ _ _ (Nat.lt_of_lt_of_le hi h.size)]; exact h.block i hi hn⟩
theorem Only.grown {S} {w w1 w2 : World} {row : Option Nat} (h : Only S w w1) (hg : w1.grownBy w2 row) (hr : ∀ r, row = some r → S r) : Only S w w2 :=
  ⟨hg.os.trans h.os, hg.tape.trans h.tape, hg.output.trans h.output, Nat.le_trans h.size hg.size, fun i hi hn =>
    (hg.block i (Nat.lt_of_lt_of_le hi h.size) (fun e => hn (hr i e.symm))).trans (h.block i hi hn)⟩
theorem Only.below {w w' : World} (h : Below w.heap.size w w') (S) : Only S w w' := ⟨h.os, h.tape, h.output, h.size, fun i hi _ => h.block i hi⟩
theorem Only.mono {S S' : Nat → Prop} {w w' : World} (h : Only S w w') (hs : ∀ i, i < w.heap.size → S i → S' i) : Only S' w w' :=
  ⟨h.os, h.tape, h.output, h.size, fun i hi hn => h.block i hi (fun e => hn (hs i hi e))⟩
theorem Only.toBelow {B : Nat} {w w' : World} (h : Only (fun i => B ≤ i) w w') (hB : B ≤ w.heap.size) : Below B w w' :=
  ⟨h.os, h.tape, h.output, h.size, fun i hi => h.block i (by omega) (by omega)⟩
abbrev Two (b m : Nat) : Nat → Prop := fun i => i = b ∨ i = m

theorem two_setCell {w : World} {b : Nat} {u v y : Value} {t : TypeId} (h : w.heap[b]? = some (.cells #[u, v] t (0, 0))) :
    (w.setCell ⟨b, 0, none⟩ y).heap[b]? = some (.cells #[y, v] t (0, 0)) := by
  have hlt := (Array.getElem?_eq_some_iff.1 h).1
  have h' : w.heap[b] = .cells #[u, v] t (0, 0) := by simpa [Array.getElem?_eq_getElem hlt] using h
  show (w.heap.modify b _)[b]? = _
  rw [Array.getElem?_eq_getElem (by simpa using hlt), Array.getElem_modify_self, h']
  rfl

theorem IsClock.setNow {w b m k now f} (h : IsClock w b m k now f) (x : Int) : IsClock (w.setCell ⟨b, 0, none⟩ (.int .i64 x)) b m k x f :=
  ⟨two_setCell h.1, h.2.block (by rw [Below.heap_setCell _ _ _ _ (fun e => h.ne e.symm)])⟩
theorem IsClock.turned {w w' : World} {b m k k' now f f'} (h : IsClock w b m k now f) (h2 : MapF w' m k' f') (h1 : w.mapTurned w' m) : IsClock w' b m k' now f' :=
  ⟨(h1.grown.block b h.lt (fun e => h.ne (by injection e))).trans h.1, h2⟩
theorem only_turned {w w' : World} {b m} (h1 : w.mapTurned w' m) : Only (Two b m) w w' := (Only.refl _ w).grown h1.grown (fun r e => by injection e with e; exact .inr e.symm)

set_option maxHeartbeats 400000 in
theorem tick_ok (n now : Int) (w : World) (b m k : Nat) (f) (h : IsClock w b m k now f) (h0 : 0 ≤ now) (h1 : now ≤ 1099511627776) (hn : 0 ≤ n) (hn1 : n ≤ 1048576) :
    Calls Try.prog 15 #[.pointer (some ⟨b, 0, none⟩), .int .i64 n] w fun e w' => e = .returned (.int .i64 0) ∧ IsClock w' b m k (min (now + n) 1099511627776) f ∧ Only (Two b m) w w' := by
  have hc := h.cell0
  have hf := h.free 0
  have H := Lib.hid h; clear h
  go_enter Try.func15, Try.ntmps15
  go_wp2
  · go_ret
    refine ⟨rfl, ?_, (Only.refl _ w).setCell (.inl rfl) _⟩
    rw [show min (now + n) 1099511627776 = 1099511627776 by omega]
    exact H.out.setNow _
  · go_ret
    refine ⟨rfl, ?_, (Only.refl _ w).setCell (.inl rfl) _⟩
    rw [show min (now + n) 1099511627776 = now + n by omega]
    exact H.out.setNow _

set_option maxHeartbeats 400000 in
theorem tick_bad (n : Int) (w : World) (b : Nat) (hn : n < 0 ∨ 1048576 < n) :
    Calls Try.prog 15 #[.pointer (some ⟨b, 0, none⟩), .int .i64 n] w fun e w' => e = .returned (.int .i64 1) ∧ w = w' := by
  rcases hn with hn | hn <;>
  · go_enter Try.func15, Try.ntmps15
    go_wp2
    go_ret
    exact ⟨rfl, rfl⟩

set_option maxHeartbeats 400000 in
theorem tick_nil (n : Int) (w : World) :
    Calls Try.prog 15 #[.pointer none, .int .i64 n] w fun e w' => e = .returned (.int .i64 5) ∧ w = w' := by
  go_enter Try.func15, Try.ntmps15
  go_wp2
  go_ret
  exact ⟨rfl, rfl⟩

set_option maxHeartbeats 400000 in
theorem now_any (now : Int) (w : World) (b : Nat) (hc : w.cell? ⟨b, 0, none⟩ = some (.int .i64 now)) :
    Calls Try.prog 23 #[.pointer (some ⟨b, 0, none⟩)] w fun e w' => e = .returned (.int .i64 now) ∧ w = w' := by
  go_enter Try.func23, Try.ntmps23
  go_wp2
  go_ret
  exact ⟨rfl, rfl⟩
set_option maxHeartbeats 400000 in
theorem now_nil (w : World) :
    Calls Try.prog 23 #[.pointer none] w fun e w' => e = .returned (.int .i64 0) ∧ w = w' := by
  go_enter Try.func23, Try.ntmps23
  go_wp2
  go_ret
  exact ⟨rfl, rfl⟩

set_option maxHeartbeats 400000 in
theorem awake_any (t now : Int) (w : World) (b m k : Nat) (f) (h : IsClock w b m k now f) (ht : I64 t) :
    Calls Try.prog 24 #[.pointer (some ⟨b, 0, none⟩), .int .i64 t] w fun e w' => e = .returned (.bool (!(f t).isSome || decide ((f t).getD 0 ≤ now))) ∧ ∃ n, w' = w.drewN n := by
  have hc := h.cell0
  have hc1 := h.cell1
  have hl := h.2.look_ok t ht
  clear h
  generalize (f t).isSome = bb at *
  generalize (f t).getD 0 = u at *
  go_enter Try.func24, Try.ntmps24
  go_wp2
  · have hb : bb = true := by assumption
    subst hb
    go_ret
    exact ⟨by simp, 0, rfl⟩
  · have hb : ¬ bb = true := by assumption
    obtain rfl : bb = false := by simpa using hb
    go_ret
    exact ⟨by simp, 0, rfl⟩

set_option maxHeartbeats 400000 in
theorem sleep_ok (t n now : Int) (w : World) (b m k : Nat) (f) (h : IsClock w b m k now f) (h0 : 0 ≤ now) (h1 : now ≤ 1099511627776) (ht : 0 ≤ t) (ht1 : t ≤ 255) (hn : 0 ≤ n) (hn1 : n ≤ 1099511627776 - now) (hft : f t = none) (hk : k < maxLen) :
    Calls Try.prog 17 #[.pointer (some ⟨b, 0, none⟩), .int .i64 t, .int .i64 n] w fun e w' => e = .returned (.tuple #[.int .i64 (now + n), .int .i64 0]) ∧ IsClock w' b m (k + 1) now (upd f t (some (now + n))) ∧ Only (Two b m) w w' := by
  have hc := h.cell0
  have hc1 := h.cell1
  have hl := h.2.look_ok t (by unfold I64; omega)
  rw [hft] at hl
  obtain ⟨w1, hst, hM, hT⟩ := MapF.store (w := w.drew) h.2 t (now + n) (by unfold I64; omega) (by unfold I64; omega) hk
  have H := Lib.hid h; clear h
  have HM := Lib.hid hM; clear hM
  have HT := Lib.hid hT; clear hT
  have hsz : w1.heap[b]? = w.heap[b]? := HT.out.grown.block b H.out.lt (fun e => H.out.ne (by injection e))
  have hc' : w1.cell? ⟨b, 0, none⟩ = some (.int .i64 now) := (World.cell?_of_block hsz).trans hc
  clear hsz
  go_enter Try.func17, Try.ntmps17
  go_wp2
  go_region
  go_wp2
  go_ret2
  exact ⟨rfl, IsClock.turned (w := w.drew) H.out HM.out HT.out, (Only.refl _ w).drew.trans (only_turned HT.out)⟩

set_option maxHeartbeats 400000 in
theorem sleep_nil (t n : Int) (w : World) :
    Calls Try.prog 17 #[.pointer none, .int .i64 t, .int .i64 n] w fun e w' => e = .returned (.tuple #[.int .i64 0, .int .i64 5]) ∧ w = w' := by
  go_enter Try.func17, Try.ntmps17
  go_wp2
  go_ret2
  exact ⟨rfl, rfl⟩

set_option maxHeartbeats 400000 in
theorem sleep_arg (t n : Int) (w : World) (b : Nat) (hn : t < 0 ∨ 255 < t ∨ n < 0) :
    Calls Try.prog 17 #[.pointer (some ⟨b, 0, none⟩), .int .i64 t, .int .i64 n] w fun e w' => e = .returned (.tuple #[.int .i64 0, .int .i64 1]) ∧ w = w' := by
  have hn' : t < 0 ∨ (0 ≤ t ∧ 256 ≤ t) ∨ (0 ≤ t ∧ t < 256 ∧ n < 0) := by omega
  clear hn
  rcases hn' with hn | ⟨h1, h2⟩ | ⟨h1, h2, h3⟩ <;>
  · go_enter Try.func17, Try.ntmps17
    go_wp2
    go_ret2
    exact ⟨rfl, rfl⟩

set_option maxHeartbeats 400000 in
theorem sleep_long (t n now : Int) (w : World) (b : Nat) (hc : w.cell? ⟨b, 0, none⟩ = some (.int .i64 now)) (h0 : 0 ≤ now) (h1 : now ≤ 1099511627776) (ht : 0 ≤ t) (ht1 : t ≤ 255) (hn : 0 ≤ n) (hn1 : 1099511627776 - now < n) :
    Calls Try.prog 17 #[.pointer (some ⟨b, 0, none⟩), .int .i64 t, .int .i64 n] w fun e w' => e = .returned (.tuple #[.int .i64 0, .int .i64 2]) ∧ w = w' := by
  go_enter Try.func17, Try.ntmps17
  go_wp2
  go_ret2
  exact ⟨rfl, rfl⟩

set_option maxHeartbeats 400000 in
theorem sleep_time (t n now : Int) (w : World) (b m k : Nat) (f) (h : IsClock w b m k now f) (h0 : 0 ≤ now) (h1 : now ≤ 1099511627776) (ht : 0 ≤ t) (ht1 : t ≤ 255) (hn : 0 ≤ n) (hn1 : n ≤ 1099511627776 - now) (hft : (f t).isSome = true) :
    Calls Try.prog 17 #[.pointer (some ⟨b, 0, none⟩), .int .i64 t, .int .i64 n] w fun e w' => e = .returned (.tuple #[.int .i64 0, .int .i64 7]) ∧ w = w' := by
  have hc := h.cell0
  have hc1 := h.cell1
  have hl := h.2.look_ok t (by unfold I64; omega)
  rw [hft] at hl
  clear h hft
  generalize (f t).getD 0 = u at *
  go_enter Try.func17, Try.ntmps17
  go_wp2
  go_ret2
  exact ⟨rfl, rfl⟩

set_option maxHeartbeats 400000 in
theorem wake_any (t now : Int) (w : World) (b m k : Nat) (f) (h : IsClock w b m k now f) (ht : I64 t) :
    Calls Try.prog 19 #[.pointer (some ⟨b, 0, none⟩), .int .i64 t] w fun e w' => e = .returned (.tuple #[]) ∧ IsClock w' b m k now (upd f t none) ∧ Only (Two b m) w w' := by
  have hc1 := h.cell1
  obtain ⟨w1, hdel, hM, hT⟩ := h.2.drop t ht 0
  have H := Lib.hid h; clear h
  have HM := Lib.hid hM; clear hM
  have HT := Lib.hid hT; clear hT
  go_enter Try.func19, Try.ntmps19
  go_wp2
  go_end0
  exact ⟨rfl, H.out.turned HM.out HT.out, only_turned HT.out⟩
set_option maxHeartbeats 400000 in
theorem wake_nil (t : Int) (w : World) :
    Calls Try.prog 19 #[.pointer none, .int .i64 t] w fun e w' => e = .returned (.tuple #[]) ∧ w = w' := by
  go_enter Try.func19, Try.ntmps19
  go_wp2
  go_end0
  exact ⟨rfl, rfl⟩
set_option maxHeartbeats 400000 in
theorem awake_nil (t : Int) (w : World) :
    Calls Try.prog 24 #[.pointer none, .int .i64 t] w fun e w' => e = .returned (.bool true) ∧ w = w' := by
  go_enter Try.func24, Try.ntmps24
  go_wp2
  go_ret
  exact ⟨rfl, rfl⟩
end Go.Proofs.Ytklbhidlbdabbaa
