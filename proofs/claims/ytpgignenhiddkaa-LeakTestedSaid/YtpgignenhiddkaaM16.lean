/- LeakTested: what came in, and the whole. (own texts put together: D19) -/
import Derived.Test.YtpgignenhiddkaaM13
import Derived.Test.YtpgignenhiddkaaM15
set_option linter.unusedSimpArgs false
set_option linter.unusedVariables false
set_option maxRecDepth 100000
namespace Go.Proofs.Ytpgignenhiddkaa
open Go.Sym Go.ChangeShapes Go.WideShapes Go.Deep
theorem u8_rng {a : Int} (h : (Lit.int .u8 a).wf = true) : 0 ≤ a ∧ a ≤ 255 := by
  simp only [Lit.wf, IntKind.min, IntKind.max, IntKind.bits, IntKind.signed, Bool.and_eq_true, decide_eq_true_eq] at h
  simp at h
  omega
theorem u16_rng {a : Int} (h : (Lit.int .u16 a).wf = true) : 0 ≤ a ∧ a ≤ 65535 := by
  simp only [Lit.wf, IntKind.min, IntKind.max, IntKind.bits, IntKind.signed, Bool.and_eq_true, decide_eq_true_eq] at h
  simp at h
  omega
theorem co39 : Try.prog.cellsOf 39 = 1 := by kernel_rfl
theorem u16s_in {H : Type} {enc : TypeId × Value → H} {W : World} {r : Reach} {bs : Nat} {v : Value} {d : DataW H} {p : List MemPlace} (h : DataW.Trod enc Try.prog W 0 (fun _ => true) true 86 v d p) (hok : Value.okWide Try.prog W r bs 86 v) :
    ∃ (av : Value) (n : Nat) (x : Nat → Int), (∀ h, SeesK .u16 (inI W) h av n x) ∧ conc (inE W) av = some v := by
  obtain ⟨a0, len0, cap0, rfl⟩ := okWide_slice un86 hok
  obtain ⟨fuel, hf⟩ := h
  rcases open_slice1 un86 co39 hf with ⟨hcs, _⟩ | ⟨a, len, cap, m, k, V, Dd, Pl, hcs, _, hl, hm, hmm, _, hx⟩
  · simp [Value.cells] at hcs
    obtain ⟨rfl, rfl, rfl⟩ := hcs
    exact ⟨.slice none 0 0, 0, fun _ => 0, fun h => ⟨none, 0, rfl, by omega, fun h => by omega⟩, rfl⟩
  · simp [Value.cells] at hcs
    obtain ⟨rfl, rfl, rfl⟩ := hcs
    simp only [if_true] at hmm
    obtain ⟨b, off, s⟩ := a
    cases s with
    | some s =>
      have h0 : m = 0 := by
        cases m with
        | zero => rfl
        | succ m => exact (cell_spot (hx 0 (by omega)).1).elim
      exact ⟨_, _, fun _ => 0, fun h => ⟨_, _, rfl, by unfold maxLen at hm; omega, fun hh => by omega⟩, conc_inV (R_in W) inV_spot⟩
    | none =>
      have hnum : ∀ i, i < len0 → ∃ t : Int, W.cell? ⟨b, off + i, none⟩ = some (.int .u16 t) := by
        intro i hi
        obtain ⟨h1, h2⟩ := hx i (by omega)
        obtain ⟨t, e, _, _⟩ := DataW.trod_int un39 h2
        simp only [List.cons.injEq, and_true] at e
        rw [add_off, e] at h1
        exact ⟨t, h1⟩
      obtain ⟨T, hT⟩ := choose_lt hnum
      refine ⟨_, len0, T, fun hh => ⟨_, _, rfl, by unfold maxLen at hm; omega, fun _ => ⟨_, _, rfl, fun i hi => ?_⟩⟩, conc_inV (R_in W) (inV_at (maxUnk hm))⟩
      refine rdl_in (base := 0) (by omega) (cs := [.int .u16 (T i)]) ?_ (fun v hv => by
        simp only [List.mem_cons, List.not_mem_nil, or_false] at hv
        subst hv; exact ⟨_, _, rfl⟩)
      unfold World.cells?
      rw [if_pos (Nat.zero_le _)]
      simp [List.range_succ, add_off, hT i hi]
theorem leakTested (I : Nat → Option Obj) {h : Go.Sym.H} {sv : Value} {m : Nat} {sx : Nat → Int} {a0 a1 a2 a4 a5 : Int}
    (hs : SeesK .u16 I h sv m sx) (w15 : ∀ h, Snd Try.prog I (.func 15) [] h (.bool true) h)
    (h0 : 0 ≤ a0 ∧ a0 ≤ 255) (h1 : 0 ≤ a1 ∧ a1 ≤ 255) (h2 : 0 ≤ a2 ∧ a2 ≤ 65535) (h4 : 0 ≤ a4 ∧ a4 ≤ 255) (h5 : 0 ≤ a5 ∧ a5 ≤ 255) :
    Snd Try.prog I (.func 13) [.int .u8 a0, .int .u8 a1, .int .u16 a2, sv, .int .u8 a4, .int .u8 a5] h (.bool true) h := by
  have w0 : IntKind.i64.wrap a0 = a0 := wrap_i64 (by omega) (by omega)
  have w1 : IntKind.i64.wrap a1 = a1 := wrap_i64 (by omega) (by omega)
  have w2 : IntKind.i64.wrap a2 = a2 := wrap_i64 (by omega) (by omega)
  have w4 : IntKind.i64.wrap a4 = a4 := wrap_i64 (by omega) (by omega)
  have w5 : IntKind.i64.wrap a5 = a5 := wrap_i64 (by omega) (by omega)
  have r1 := Int.tmod_nonneg 12 h0.1
  have r2 := Int.tmod_lt_of_pos a0 (show (0 : Int) < 12 by omega)
  obtain ⟨pn, hpn⟩ : ∃ pn : Nat, (pn : Int) = 1 + a0.tmod 12 := ⟨(1 + a0.tmod 12).toNat, by omega⟩
  have hp0 : (0 : Int) < (pn : Int) := by omega
  have r3 := Int.tmod_nonneg (pn : Int) h1.1
  have r4 := Int.tmod_lt_of_pos a1 hp0
  have r5 := Int.tmod_nonneg (pn : Int) h5.1
  have r6 := Int.tmod_lt_of_pos a5 hp0
  refine leakTested13 I (pn := pn) (who := (a1.tmod pn).toNat) (kk := (a5.tmod pn).toNat) (lost := 1 + a2) (wd := a4) hs w15 ?_ (by omega) (by omega) ?_ (by omega) ?_ (by omega) ?_ (by omega) w4 h4
  · rw [w0, wrap_i64 (by omega) (by omega), hpn]
  · rw [w1]; omega
  · rw [w5]; omega
  · rw [w2]; exact wrap_i64 (by omega) (by omega)
end Go.Proofs.Ytpgignenhiddkaa
