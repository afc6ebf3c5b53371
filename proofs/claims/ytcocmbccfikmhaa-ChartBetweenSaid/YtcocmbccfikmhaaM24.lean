/- What came in at this seat: lists of uint32 (own texts put together: C42) -/
import Derived.Test.YtcocmbccfikmhaaM20
import Derived.Test.YtcocmbccfikmhaaM21
import Derived.Test.YtcocmbccfikmhaaM4
set_option linter.unusedSimpArgs false
set_option linter.unusedVariables false
namespace Go.Proofs.Ytcocmbccfikmhaa
open Go.Sym
set_option maxRecDepth 100000
open Go.ChangeShapes Go.WideShapes Go.Deep
theorem un70 : Try.prog.underlying 70 = some (.int .u32) := by kernel_rfl
theorem co70 : Try.prog.cellsOf 70 = 1 := by kernel_rfl
theorem sees32_in {H : Type} {enc : TypeId × Value → H} {W : World} {r : Reach} {bs : Nat} {v : Value} {d : DataW H} {p : List MemPlace} (h : DataW.Trod enc Try.prog W 0 (fun _ => true) true 44 v d p) (hok : Value.okWide Try.prog W r bs 44 v) :
    ∃ (av : Value) (n : Nat) (x : Nat → Int), (∀ h, SeesW (inI W) h av n x) ∧ (∀ N, closedV (okN N) av = true) ∧ conc (inE W) av = some v := by
  have hok' : Cell.okWide Try.prog W r bs 44 v := by
    unfold Value.okWide at hok; rw [un44] at hok; exact hok
  obtain ⟨a0, len0, cap0, rfl⟩ := okWide_slice un44 hok
  obtain ⟨fuel, hf⟩ := h
  rcases open_slice1 un44 co70 hf with ⟨hcs, _⟩ | ⟨a, len, cap, m, k, V, Dd, Pl, hcs, _, hl, hm, hmm, _, hx⟩
  · simp [Value.cells] at hcs
    obtain ⟨rfl, rfl, rfl⟩ := hcs
    exact ⟨.slice none 0 0, 0, fun _ => 0, fun h => ⟨none, 0, rfl, by omega, fun h => by omega⟩, fun N => rfl, rfl⟩
  · simp [Value.cells] at hcs
    obtain ⟨rfl, rfl, rfl⟩ := hcs
    obtain ⟨hs, o, hb⟩ := slice_has un44 hok'
    have hcap := maxUnk hm
    obtain ⟨b, off, s⟩ := a
    simp only at hs hb
    subst hs
    simp only [if_true] at hmm
    have hnum : ∀ i, i < len0 → ∃ t : Int, W.cell? ⟨b, off + i, none⟩ = some (.int .u32 t) ∧ 0 ≤ t ∧ t ≤ 4294967295 := by
      intro i hi
      obtain ⟨h1, h2⟩ := hx i (by omega)
      obtain ⟨t, e, _, wf⟩ := DataW.trod_int un70 h2
      simp only [List.cons.injEq, and_true] at e
      rw [add_off, e] at h1
      exact ⟨t, h1, u32_rng wf⟩
    obtain ⟨T, hT⟩ := choose_lt hnum
    refine ⟨.slice (some ⟨2 * b + 1, off, none⟩) len0 cap0, len0, T, fun hh => ⟨_, _, rfl, by unfold maxLen at hm; omega, fun _ => ⟨_, _, rfl, fun i hi => ⟨?_, (hT i hi).2⟩⟩⟩, fun N => ?_, conc_slice_in (a := ⟨b, off, none⟩) rfl hb hcap⟩
    · refine rdl_in (base := 0) (by omega) (cs := [.int .u32 (T i)]) ?_ (fun v hv => by
        simp only [List.mem_cons, List.not_mem_nil, or_false] at hv
        subst hv; exact ⟨_, _, rfl⟩)
      unfold World.cells?
      rw [if_pos (Nat.zero_le _)]
      simp [List.range_succ, add_off, (hT i hi).1]
    · simp [closedV, okN]
end Go.Proofs.Ytcocmbccfikmhaa
