/- LeakTested answers true for all numbers and sections, and leaves them as they were; no condition. (own texts put together: K3) -/
import Derived.Test.YtpgignenhiddkaaRows
import Derived.Test.YtpgignenhiddkaaM16
import Derived.Test.YtpgignenhiddkaaM8w
namespace Go.Proofs.Ytpgignenhiddkaa.leakTested
open Go.Sym Go.ChangeShapes Go.WideShapes Go.ChangeAt Go.RowKit
set_option linter.unusedVariables false
set_option linter.unusedSimpArgs false

theorem own : ownKnob Try.prog.godebug = none := by kernel_rfl
theorem laidOut : laidOutB Try.prog = true := by kernel_rfl

set_option maxRecDepth 100000 in
theorem lifted (os : Os) (started : os.Started) (H : Type) (enc : TypeId × Value → H) :
    ReturnsInHanded {} Try.checked os 13 .any (Rows.leakTestedSpec.pre6 enc Try.prog Try.f13 Rows.leakTestedRow.domain false) (Rows.leakTestedSpec.post enc Try.prog Try.f13 false true false false) := by
  refine returnsInHanded_of_change (C := Try.checked) own started (by kernel_rfl) Try.func13
    (ChangeSpec.witness6 (enc := enc) (C := Try.checked) false ⟨#[], #[.int .u8 0, .int .u8 0, .int .u16 0, .slice none 0 0, .int .u8 0, .int .u8 0], []⟩ 8 (by kernel_rfl) (by kernel_rfl) (by kernel_rfl) (by kernel_rfl)) ?_
  intro W base args ds gs before hval0 hW hcnd _
  have hval : ∀ (j : Nat) t v, Try.f13.params[j]? = some t → args[j]? = some v → Value.okWide Try.prog W .any base t v := hval0
  have hW' := hW
  obtain ⟨p, q, hA0, hV, rfl, hfz, hnd⟩ := hW
  have hA : DataW.TrodAll enc Try.prog W 0 (fun _ => true) true Try.f13.params.toList args.toList ds p := hA0
  rw [Try.params13] at hA hval
  obtain ⟨v0, vs0, d0, ds0, p0, q0, hargs, rfl, rfl, h0, r0⟩ := trodAll_cons hA
  obtain ⟨v1, vs1, d1, ds1, p1, q1, rfl, rfl, rfl, h1, r1⟩ := trodAll_cons r0
  obtain ⟨v2, vs2, d2, ds2, p2, q2, rfl, rfl, rfl, h2, r2⟩ := trodAll_cons r1
  obtain ⟨v3, vs3, d3, ds3, p3, q3, rfl, rfl, rfl, h3, r3⟩ := trodAll_cons r2
  obtain ⟨v4, vs4, d4, ds4, p4, q4, rfl, rfl, rfl, h4, r4⟩ := trodAll_cons r3
  obtain ⟨v5, vs5, d5, ds5, p5, q5, rfl, rfl, rfl, h5, r5⟩ := trodAll_cons r4
  obtain ⟨rfl, rfl, rfl⟩ := trodAll_nil r5
  obtain rfl : args = #[v0, v1, v2, v3, v4, v5] := by cases args; simp_all
  obtain ⟨rfl, rfl⟩ := trodVars_none hV
  obtain ⟨a0, rfl, rfl, rfl, w0⟩ := open_int (by kernel_rfl : Try.prog.underlying 5 = some (.int .u8)) (hval 0 5 v0 rfl rfl) h0
  obtain ⟨a1, rfl, rfl, rfl, w1⟩ := open_int (by kernel_rfl : Try.prog.underlying 5 = some (.int .u8)) (hval 1 5 v1 rfl rfl) h1
  obtain ⟨a2, rfl, rfl, rfl, w2⟩ := open_int (by kernel_rfl : Try.prog.underlying 39 = some (.int .u16)) (hval 2 39 v2 rfl rfl) h2
  have k3 := h3
  have lt3 : ∀ x ∈ p3, x.block < W.heap.size := by obtain ⟨m, hm⟩ := k3; exact DataW.trod_lt m _ _ _ hm
  obtain ⟨av3, n3, x3, g3a, g3c⟩ := u16s_in h3 (hval 3 86 v3 rfl rfl)
  obtain ⟨a4, rfl, rfl, rfl, w4⟩ := open_int (by kernel_rfl : Try.prog.underlying 5 = some (.int .u8)) (hval 4 5 v4 rfl rfl) h4
  obtain ⟨a5, rfl, rfl, rfl, w5⟩ := open_int (by kernel_rfl : Try.prog.underlying 5 = some (.int .u8)) (hval 5 5 v5 rfl rfl) h5
  clear hA0 hval0
  have hc : concL (inE W) [.int .u8 a0, .int .u8 a1, .int .u16 a2, av3, .int .u8 a4, .int .u8 a5] = some [.int .u8 a0, .int .u8 a1, .int .u16 a2, v3, .int .u8 a4, .int .u8 a5] := by
    simp only [concL, g3c, Option.bind_some, Option.map_some]
    try simp only [conc, Option.bind_some, Option.map_some]
  refine Calls.mono (Snd_calls (h' := []) (leakTested (inI W) (g3a []) (works15 (inI W)) (u8_rng w0) (u8_rng w1) (u16_rng w2) (u8_rng w4) (u8_rng w5)) hc rfl) fun e W' ⟨he, bel⟩ => ?_
  subst he
  exact ⟨_, rfl, _, _, _, [], _, [], hW', trodAll_mk1 (shut_bool (by kernel_rfl : Try.prog.underlying 4 = some .bool) _), (trodAll_cons_mk (shut_int (by kernel_rfl : Try.prog.underlying 5 = some (.int .u8)) w0) (trodAll_cons_mk (shut_int (by kernel_rfl : Try.prog.underlying 5 = some (.int .u8)) w1) (trodAll_cons_mk (shut_int (by kernel_rfl : Try.prog.underlying 39 = some (.int .u16)) w2) (trodAll_cons_mk (Below.trod laidOut (by kernel_rfl) (of_decide_eq_true (by kernel_rfl)) k3 bel lt3) (trodAll_cons_mk (shut_int (by kernel_rfl : Try.prog.underlying 5 = some (.int .u8)) w4) (trodAll_cons_mk (shut_int (by kernel_rfl : Try.prog.underlying 5 = some (.int .u8)) w5) trodAll_mk0)))))), rfl, bel.frame _, fun h => by cases h⟩

theorem over : Rows.leakTestedRow.holds Try.pinned (OpenSpec.ofChange Rows.leakTestedSpec) :=
  OpenClaim.holds_of_wide 13 Try.f13 rfl rfl rfl rfl rfl rfl rfl ⟨rfl, rfl, rfl, rfl, rfl⟩ rfl rfl rfl rfl rfl (by kernel_rfl) Try.func13 (by kernel_rfl)
    (of_decide_eq_true (by kernel_rfl)) (by unfold Func.isWrapper; rw [if_neg (of_decide_eq_false (by kernel_rfl))]; exact ⟨rfl, rfl⟩)
    (fun os started H enc _ => lifted os started H enc)

/-- the statement -/
theorem proved : Rows.LeakTestedSaid := over
#print axioms proved
end Go.Proofs.Ytpgignenhiddkaa.leakTested
