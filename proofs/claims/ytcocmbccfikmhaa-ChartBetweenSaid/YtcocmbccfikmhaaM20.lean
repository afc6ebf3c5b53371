/- What came in at this seat: arrays of two numbers (own texts put together: C36) -/
import Derived.Test.YtcocmbccfikmhaaM15
import Derived.Test.YtcocmbccfikmhaaM17
import Derived.Test.YtcocmbccfikmhaaM4
set_option linter.unusedSimpArgs false
set_option linter.unusedVariables false
namespace Go.Proofs.Ytcocmbccfikmhaa
open Go.Sym
set_option maxRecDepth 100000
open Go.ChangeShapes Go.WideShapes Go.Deep
theorem arr2_in {H : Type} {enc : TypeId × Value → H} {W : World} {r : Go.Reach} {bs : Nat} {t e : TypeId} {k : IntKind} {v : Value} {d : DataW H} {p : List MemPlace} (ht : Try.prog.underlying t = some (.array 2 e)) (he : Try.prog.underlying e = some (.int k)) (hc : Try.prog.cellsOf e = 1) (hct : Try.prog.cellsOf t = 2)
    (h : DataW.Trod enc Try.prog W 0 (fun _ => true) true t v d p) (hok : Value.okWide Try.prog W r bs t v) : ∃ a b : Int, v = .agg #[.int k a, .int k b] ∧ (Lit.int k a).wf = true ∧ (Lit.int k b).wf = true := by
  obtain ⟨fuel, hf⟩ := h
  obtain ⟨xs, m, rfl, _, hl, hxl, hx⟩ := DataW.trod_array ht hf
  rw [hct] at hl
  have h0 := hx 0 (by omega)
  have h1 := hx 1 (by omega)
  rw [hc] at h0 h1
  obtain ⟨y0, hy0⟩ : ∃ y, xs[0]? = some y := ⟨xs[0], List.getElem?_eq_getElem (by omega)⟩
  obtain ⟨y1, hy1⟩ : ∃ y, xs[1]? = some y := ⟨xs[1], List.getElem?_eq_getElem (by omega)⟩
  rw [hy0] at h0
  rw [hy1] at h1
  obtain ⟨a, ea, _, wa⟩ := DataW.trod_int he h0
  obtain ⟨b, eb, _, wb⟩ := DataW.trod_int he h1
  unfold Value.okWide at hok
  rw [ht] at hok
  obtain ⟨cs, hcs, _⟩ := hok
  subst hcs
  obtain ⟨l⟩ := cs
  simp only [Value.cells] at hl ea eb
  match l, hl, ea, eb with
  | [c0, c1], _, ea, eb =>
    simp only [Nat.zero_mul, List.drop_zero, List.take_succ_cons, List.take_zero, List.cons.injEq, and_true, Nat.one_mul, List.drop_succ_cons] at ea eb
    subst ea; subst eb
    exact ⟨a, b, rfl, wa, wb⟩
theorem u8_rng {a : Int} (h : (Lit.int .u8 a).wf = true) : 0 ≤ a ∧ a ≤ 255 := by
  simp [Lit.wf, IntKind.min, IntKind.max, IntKind.signed, IntKind.bits] at h
  omega
theorem u16_rng {a : Int} (h : (Lit.int .u16 a).wf = true) : 0 ≤ a ∧ a ≤ 65535 := by
  simp [Lit.wf, IntKind.min, IntKind.max, IntKind.signed, IntKind.bits] at h
  omega
theorem u32_rng {a : Int} (h : (Lit.int .u32 a).wf = true) : 0 ≤ a ∧ a ≤ 4294967295 := by
  simp [Lit.wf, IntKind.min, IntKind.max, IntKind.signed, IntKind.bits] at h
  omega
end Go.Proofs.Ytcocmbccfikmhaa
