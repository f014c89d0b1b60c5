/- 'm[k] |= v': the entry, then the store. -/
import Derived.Test.YtmcejkimpjfmmaaC
set_option linter.unusedVariables false
set_option linter.unusedSimpArgs false
namespace Go.Proofs.Ytmcejkimpjfmmaa
open Go.RowKit Go.Lib Go.Maps Go.WideElems Go.ChangeMaps

set_option maxRecDepth 100000 in
theorem MapP.entry {w : World} {m k : Nat} {f} (h : MapP w m k f) (t s : Int) (ht : I64 t) (hs : I64 s) (hk : k < maxLen) :
    ∃ v0 st w1, (Instr.mapEntry 63 (.map (some m)) (pk t s)).run Try.prog w = .ok (.tuple #[v0, .int .i64 st]) w1 ∧
      (Instr.lookup 63 (.map (some m)) (pk t s) false).run Try.prog w1 = .ok (.int .i64 ((f t s).getD 0)) w1 ∧ w.mapTurned w1 m ∧
      ∀ u, I64 u → ∃ w2, (Instr.entryStore 63 (.map (some m)) (.int .i64 st) (.int .i64 u)).run Try.prog w1 = .ok () w2 ∧ MapP w2 m (k + 1) (updP f t s (some u)) ∧ w.mapTurned w2 m := by
  have h' := h
  obtain ⟨D, ⟨es, clock, hb, F⟩, hr⟩ := h'
  have hkey := keyOf_place ht hs
  obtain ⟨v0, st, es1, clock1, hrun, _, hst⟩ := entry_then_store law71 Try.underlying63 zero3 hb F.1 hkey
  refine ⟨v0, st, _, hrun, ?_, ?_, fun u hu => ?_⟩
  · rcases law71.find w hkey es.toList F.1.keys with ⟨h1, h2⟩ | ⟨j, e0, h1, h2, h3⟩
    · have hE : (Instr.mapEntry 63 (.map (some m)) (pk t s)).run Try.prog w = .ok (.tuple #[.int .i64 0, goInt clock]) (setBlock w m (.map (es.push ⟨pk t s, .int .i64 0, clock⟩) (clock + 1))) := by
        simp [Instr.mapEntry, run_underlying Try.underlying63, MapKept.run_getObj_map hb, law71.check w false hkey, h1, zero3, MapKept.run_setObj_map _ hb, Result.andThen, setBlock]
      have hU : (Instr.mapUpdate 63 (.map (some m)) (pk t s) (.int .i64 0)).run Try.prog w = .ok () (setBlock w m (.map (es.push ⟨pk t s, .int .i64 0, clock⟩) (clock + 1))) := by
        simp [Instr.mapUpdate, run_underlying Try.underlying63, MapKept.run_getObj_map hb, law71.check w false hkey, h1, MapKept.run_setObj_map _ hb, Result.andThen, setBlock]
      have hL : (Instr.lookup 63 (.map (some m)) (pk t s) false).run Try.prog w = .ok (.int .i64 0) w := by
        simp [Instr.lookup, run_underlying Try.underlying63, MapKept.run_getObj_map hb, law71.check w es.isEmpty hkey, h1, zero3, Result.andThen]
      have hw := (Result.ok.inj (hE.symm.trans hrun)).2
      rw [← hw]
      obtain ⟨w', hr', hM, _⟩ := h.store t s 0 ht hs (by unfold I64; omega) hk
      have hw' := (Result.ok.inj (hU.symm.trans hr')).2
      rw [hw']
      have h0 := h.look t s ht hs
      have h0 := (Result.ok.inj (hL.symm.trans h0)).1
      have hl := hM.look t s ht hs
      rw [hl]
      simp [updP] at h0 ⊢
      exact h0
    · have hj : es[j]? = some e0 := by simpa using h2
      have hsame : es.modify j (fun e => { e with key := pk t s }) = es := by
        apply Array.ext'
        rw [Array.toList_modify, modify_eq_set _ _ _ _ h2]
        have : ({ e0 with key := pk t s } : MapEntry) = e0 := by rw [← h3]
        rw [this]
        exact set_self _ _ _ h2
      have hE : (Instr.mapEntry 63 (.map (some m)) (pk t s)).run Try.prog w = .ok (.tuple #[e0.val, goInt e0.born]) (setBlock w m (.map es clock)) := by
        simp [Instr.mapEntry, run_underlying Try.underlying63, MapKept.run_getObj_map hb, law71.check w false hkey, h1, hj, h3, law71.stays w hkey, hsame, MapKept.run_setObj_map _ hb, Result.andThen, setBlock]
      have hw := (Result.ok.inj (hE.symm.trans hrun)).2
      rw [← hw]
      exact (h.block ((heap_setBlock_same hb _).trans hb.symm)).look t s ht hs
  · exact ⟨es, clock, es1, clock1, hb, rfl⟩
  · obtain ⟨es', clock', hs1, hs2⟩ := hst (setBlock w m (.map es1 clock1)) (.int .i64 u) (heap_setBlock_same hb _)
    obtain ⟨w', hr', hM, hT⟩ := h.store t s u ht hs hu hk
    have hw' := (Result.ok.inj (hs2.symm.trans hr')).2
    have e : setBlock (setBlock w m (.map es1 clock1)) m (.map es' clock') = w' := by
      rw [← hw']; simp [setBlock]
    rw [e] at hs1
    exact ⟨w', hs1, hM, hT⟩
end Go.Proofs.Ytmcejkimpjfmmaa
