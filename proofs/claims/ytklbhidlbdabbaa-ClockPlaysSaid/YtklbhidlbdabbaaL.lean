/- The clock's methods, for every argument, over a state that is kept small. -/
import Derived.Test.YtklbhidlbdabbaaK
set_option linter.unusedVariables false
set_option linter.unusedSimpArgs false
namespace Go.Proofs.Ytklbhidlbdabbaa
open Go.RowKit Go.Lib Go.Maps Go.Sort

/-- Times and threads are in their bounds. -/
structure Inv (now : Int) (f : Int → Option Int) : Prop where
  lo : 0 ≤ now
  hi : now ≤ 1099511627776
  dom : ∀ t u, f t = some u → 0 ≤ t ∧ t ≤ 255 ∧ 0 ≤ u ∧ u ≤ 1099511627776
theorem Inv.i64 {now f} (h : Inv now f) : ∀ t u, f t = some u → I64 t := fun t u e => by have := h.dom t u e; unfold I64; omega
theorem Inv.upd {now f} (h : Inv now f) (t : Int) (v : Option Int) (hv : ∀ u, v = some u → 0 ≤ t ∧ t ≤ 255 ∧ 0 ≤ u ∧ u ≤ 1099511627776) : Inv now (upd f t v) :=
  ⟨h.lo, h.hi, fun x u e => by
    unfold Ytklbhidlbdabbaa.upd at e
    split at e
    · rename_i hx; subst hx; exact hv u e
    · exact h.dom x u e⟩

/-- What Sleep answers, and what it leaves. -/
inductive SleepM (now : Int) (f : Int → Option Int) (t n : Int) : Int → Int → (Int → Option Int) → Prop
  | arg : (t < 0 ∨ 255 < t ∨ n < 0) → SleepM now f t n 0 1 f
  | long : 0 ≤ t → t ≤ 255 → 0 ≤ n → 1099511627776 - now < n → SleepM now f t n 0 2 f
  | time : 0 ≤ t → t ≤ 255 → 0 ≤ n → n ≤ 1099511627776 - now → (f t).isSome = true → SleepM now f t n 0 7 f
  | ok : 0 ≤ t → t ≤ 255 → 0 ≤ n → n ≤ 1099511627776 - now → f t = none → SleepM now f t n (now + n) 0 (upd f t (some (now + n)))
theorem SleepM.inv {now f t n u e f'} (h : SleepM now f t n u e f') (hi : Inv now f) : Inv now f' := by
  cases h with
  | ok h1 h2 h3 h4 h5 => exact hi.upd t _ (fun u hu => by injection hu with hu; have := hi.lo; omega)
  | _ => exact hi
theorem IsClock.mono {w b m k k' now f} (h : IsClock w b m k now f) (hk : k ≤ k') : IsClock w b m k' now f :=
  ⟨h.1, let ⟨D, ho, hr⟩ := h.2; ⟨D, ho.mono hk, hr⟩⟩

theorem sleep_all (t n now : Int) (w : World) (b m k : Nat) (f) (h : IsClock w b m k now f) (hi : Inv now f) (hk : k < maxLen) :
    Calls Try.prog 17 #[.pointer (some ⟨b, 0, none⟩), .int .i64 t, .int .i64 n] w fun e w' => ∃ u e0 f', e = .returned (.tuple #[.int .i64 u, .int .i64 e0]) ∧ SleepM now f t n u e0 f' ∧ IsClock w' b m (k + 1) now f' ∧ Only (Two b m) w w' := by
  by_cases h1 : t < 0 ∨ 255 < t ∨ n < 0
  · exact (sleep_arg t n w b h1).mono fun e w' ⟨he, hw⟩ => ⟨_, _, _, he, .arg h1, by subst hw; exact h.mono (by omega), by subst hw; exact Only.refl _ _⟩
  · by_cases h2 : 1099511627776 - now < n
    · exact (sleep_long t n now w b h.cell0 hi.lo hi.hi (by omega) (by omega) (by omega) h2).mono fun e w' ⟨he, hw⟩ => ⟨_, _, _, he, .long (by omega) (by omega) (by omega) h2, by subst hw; exact h.mono (by omega), by subst hw; exact Only.refl _ _⟩
    · cases hf : f t with
      | some u => exact (sleep_time t n now w b m k f h hi.lo hi.hi (by omega) (by omega) (by omega) (by omega) (by rw [hf]; rfl)).mono fun e w' ⟨he, hw⟩ => ⟨_, _, _, he, .time (by omega) (by omega) (by omega) (by omega) (by rw [hf]; rfl), by subst hw; exact h.mono (by omega), by subst hw; exact Only.refl _ _⟩
      | none => exact (sleep_ok t n now w b m k f h hi.lo hi.hi (by omega) (by omega) (by omega) (by omega) hf hk).mono fun e w' ⟨he, hc, ho⟩ => ⟨_, _, _, he, .ok (by omega) (by omega) (by omega) (by omega) hf, hc, ho⟩

/-- What Tick answers, and what the time is then. -/
inductive TickM (now n : Int) : Int → Int → Prop
  | arg : (n < 0 ∨ 1048576 < n) → TickM now n 1 now
  | ok : 0 ≤ n → n ≤ 1048576 → TickM now n 0 (min (now + n) 1099511627776)
theorem TickM.inv {now n e now' f} (h : TickM now n e now') (hi : Inv now f) : Inv now' f := by
  have h1 := hi.lo
  have h2 := hi.hi
  cases h with
  | arg _ => exact hi
  | ok h3 h4 => exact ⟨by omega, by omega, hi.dom⟩
theorem tick_all (n now : Int) (w : World) (b m k : Nat) (f) (h : IsClock w b m k now f) (hi : Inv now f) :
    Calls Try.prog 15 #[.pointer (some ⟨b, 0, none⟩), .int .i64 n] w fun e w' => ∃ e0 now', e = .returned (.int .i64 e0) ∧ TickM now n e0 now' ∧ IsClock w' b m k now' f ∧ Only (Two b m) w w' := by
  by_cases h1 : n < 0 ∨ 1048576 < n
  · exact (tick_bad n w b h1).mono fun e w' ⟨he, hw⟩ => ⟨_, _, he, .arg h1, by subst hw; exact h, by subst hw; exact Only.refl _ _⟩
  · exact (tick_ok n now w b m k f h hi.lo hi.hi (by omega) (by omega)).mono fun e w' ⟨he, hc, ho⟩ => ⟨_, _, he, .ok (by omega) (by omega), hc, ho⟩

theorem len_le_of (n : Nat) : ∀ l : List Int, l.Nodup → (∀ x ∈ l, 0 ≤ x ∧ x < n) → l.length ≤ n := by
  induction n with
  | zero =>
    intro l _ h
    cases l with
    | nil => simp
    | cons a r => have := h a (by simp); omega
  | succ n ih =>
    intro l hn h
    have h1 := ih (l.erase (n : Int)) (hn.erase _) (fun x hx => by
      have h2 := (hn.mem_erase_iff).1 hx
      have := h x h2.2
      have := h2.1
      omega)
    have h3 : l.length ≤ (l.erase (n : Int)).length + 1 := by rw [List.length_erase]; split <;> omega
    omega
theorem SleepList.len {f now ts} (h : SleepList f now ts) (hi : Inv now f) : ts.length ≤ 256 :=
  len_le_of 256 ts h.nodup (fun x hx => by
    obtain ⟨u, hu, _⟩ := (h.mem x).1 hx
    have := hi.dom x u hu
    omega)

/-- The first one's time. -/
def firstOf (f : Int → Option Int) : List Int → Int
  | [] => 0
  | t :: _ => (f t).getD 0

set_option maxHeartbeats 1000000 in
theorem next_any (w : World) (b m k : Nat) (now : Int) (f : Int → Option Int) (h : IsClock w b m k now f) (hi : Inv now f) (hk : k ≤ 1000000) :
    Calls Try.prog 22 #[.pointer (some ⟨b, 0, none⟩)] w fun e w' => ∃ ts, e = .returned (.tuple #[.int .i64 (firstOf f ts), .bool (!ts.isEmpty)]) ∧ SleepList f now ts ∧ Below w.heap.size w w' := by
  have hs := sleepers_any w b m k now f h hi.i64 hk
  have HS := Lib.hid hs; clear hs
  have HC := Lib.hid h; clear h
  have HI := Lib.hid hi; clear hi
  go_enter Try.func22, Try.ntmps22
  go_wp2_with fail
  refine HS.out.mono ?_
  rintro e w1 ⟨v, ts, rfl, hl, hown, hB⟩
  obtain ⟨A, c, rfl⟩ := own_slice hown
  have h1 := HC.out.below hB
  cases ts with
  | nil =>
    go_wp2_with fail
    go_ret2
    exact ⟨[], rfl, hl, hB⟩
  | cons t r =>
    have hn : (t :: r).length ≤ 140737488351232 := Nat.le_trans (hl.len HI.out) (by decide)
    have hR := own_RI hown hn
    obtain ⟨g, o, rfl, hc⟩ := hR.2 (by simp)
    have c0 := hc 0 (by simp)
    simp only [List.getD_cons_zero, Nat.add_zero] at c0
    have hm1 := h1.cell1
    have htI : I64 t := by
      obtain ⟨u, hu, _⟩ := (hl.mem t).1 (by simp)
      exact HI.out.i64 t u hu
    have hlk := fun n => (h1.2.drewN n).look t htI
    have hd : (Instr.lookup 62 (.map (some m)) (.int .i64 t) false).run Try.prog w1.drew = .ok (.int .i64 ((f t).getD 0)) w1.drew := hlk 1
    have hlen : (List.length (t :: r)) = r.length + 1 := rfl
    have hz : (((r.length : Int) + 1) == 0) = false := by rw [beq_eq_false_iff_ne]; omega
    have HL := Lib.hid hl; clear hl
    have HB := Lib.hid hB; clear hB
    rw [hlen]
    clear hown hR hc h1 hlk hlen htI
    have hfo : firstOf f (t :: r) = (f t).getD 0 := rfl
    generalize (f t).getD 0 = u at hd hfo
    have HF := Lib.hid hfo; clear hfo
    go_wp2_with fail
    go_region
    go_wp2
    go_ret2
    exact ⟨t :: r, by rw [HF.out]; rfl, HL.out, HB.out.drew⟩
end Go.Proofs.Ytklbhidlbdabbaa
