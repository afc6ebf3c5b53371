/- Contracts: Common of the program and of the reference (own texts put together: C26 C27 C28 C29 C30) -/
import Derived.Test.YtcocmbccfikmhaaM14
import Derived.Test.YtcocmbccfikmhaaM4
set_option linter.unusedSimpArgs false
set_option linter.unusedVariables false
namespace Go.Proofs.Ytcocmbccfikmhaa
open Go.Sym
theorem bl40 {a b c d : Int} : abuild Try.prog 40 [(0, .agg #[.int .i64 a, .int .i64 b]), (1, .agg #[.int .i64 c, .int .i64 d])] = some (.agg #[.int .i64 a, .int .i64 b, .int .i64 c, .int .i64 d]) := by kernel_rfl
theorem bl40_0 : abuild Try.prog 40 [] = some (.agg #[.int .i64 0, .int .i64 0, .int .i64 0, .int .i64 0]) := by kernel_rfl
/-- the greatest, and the least, product of both ranges -/
def warmest (wh sl sh : Int) : Int := if wh < 0 then wh * sl else wh * sh
def coldest (wl sl sh : Int) : Int := if wl < 0 then wl * sh else wl * sl
def spV (a b c d e : Int) : Value := .tuple #[.agg #[.int .i64 a, .int .i64 b, .int .i64 c, .int .i64 d], .int .i64 e]
def comV (l wl wh sl sh : Int) : Value :=
  if l < 0 ∨ 100000 < l then spV 0 0 0 0 3
  else if rangeB wl wh (-400) 400 = false ∨ rangeB sl sh 0 200 = false then spV 0 0 0 0 2
  else .tuple #[.agg (fracL (1000000 * l) (1000000 + warmest wh sl sh) ++ fracL (1000000 * l) (1000000 + coldest wl sl sh)).toArray, .int .i64 0]
theorem comV_flat {l wl wh sl sh : Int} : flat (comV l wl wh sl sh) = true := by
  unfold comV spV; split
  · rfl
  · split <;> rfl
theorem warm_rng {w s : Int} (hw : -400 ≤ w ∧ w ≤ 400) (hs : 0 ≤ s ∧ s ≤ 200) : -80000 ≤ w * s ∧ w * s ≤ 80000 := by
  rcases Int.le_total 0 w with h | h
  · have := mul_rng ⟨h, hw.2⟩ hs; omega
  · have := mul_rng ⟨show 0 ≤ -w by omega, show -w ≤ 400 by omega⟩ hs
    rw [Int.neg_mul] at this; omega
theorem warmest_max {wl wh sl sh : Int} (hw : wl ≤ wh) (hs : 0 ≤ sl ∧ sl ≤ sh) : max (max (max (max (wl * sl) (wl * sl)) (wh * sl)) (wl * sh)) (wh * sh) = warmest wh sl sh := by
  have e1 : wl * sl ≤ wh * sl := Int.mul_le_mul_of_nonneg_right hw hs.1
  have e2 : wl * sh ≤ wh * sh := Int.mul_le_mul_of_nonneg_right hw (by omega)
  unfold warmest
  split
  · rename_i h
    have : wh * sh ≤ wh * sl := Int.mul_le_mul_of_nonpos_left (by omega) hs.2
    omega
  · rename_i h
    have : wh * sl ≤ wh * sh := Int.mul_le_mul_of_nonneg_left hs.2 (by omega)
    omega
theorem coldest_min {wl wh sl sh : Int} (hw : wl ≤ wh) (hs : 0 ≤ sl ∧ sl ≤ sh) : min (min (min (min (wl * sl) (wl * sl)) (wh * sl)) (wl * sh)) (wh * sh) = coldest wl sl sh := by
  have e1 : wl * sl ≤ wh * sl := Int.mul_le_mul_of_nonneg_right hw hs.1
  have e2 : wl * sh ≤ wh * sh := Int.mul_le_mul_of_nonneg_right hw (by omega)
  unfold coldest
  split
  · rename_i h
    have : wl * sh ≤ wl * sl := Int.mul_le_mul_of_nonpos_left (by omega) hs.2
    omega
  · rename_i h
    have : wl * sl ≤ wl * sh := Int.mul_le_mul_of_nonneg_left hs.2 (by omega)
    omega

set_option maxRecDepth 100000 in
set_option maxHeartbeats 4000000 in
theorem common16 (I : Nat → Option Obj) {h : H} {l wl wh sl sh : Int} :
    Snd Try.prog I (.func 16) [.int .i64 l, .agg #[.int .i64 wl, .int .i64 wh], .agg #[.int .i64 sl, .int .i64 sh]] h (comV l wl wh sl sh) h := by
  refine Snd_run0 (rs := [.cell 6 40, .tmp 7]) 600 Try.func16 (by kernel_rfl) rfl Try.ntmps16 rfl comV_flat ?_
  simp -implicitDefEqProofs only [sB, Nat.reduceAdd, Nat.reduceSub, yieldL, popK, flat, nptr, Value.cells, H.new, eq_self, Int.reduceEq, Int.reduceLT, Int.reduceLE, Nat.reduceEqDiff, Nat.reduceLeDiff, thenQ, ContK, ty2, ty3, ty4, ty5, ty25, ty29, ty30, ty34, ty40, Bool.not_true, Bool.not_false, decide_true, decide_false, if_true, if_false, sl25_1, bs25_1, unk1, bl40, bl40_0, st40, st34, fracL_len]
  refine RunCall_of (within40 I (Sees.one (k := 3) (c := 1) (e := 2) (a := l) rfl)) ?_
  by_cases hl : l < 0 ∨ 100000 < l
  · have hw : withinB 0 100000 1 (one1 l) = false := by rw [within_one]; simp; omega
    rw [hw]
    simp -implicitDefEqProofs only [sB, Nat.reduceAdd, Nat.reduceSub, yieldL, popK, flat, nptr, Value.cells, H.new, eq_self, Int.reduceEq, Int.reduceLT, Int.reduceLE, Nat.reduceEqDiff, Nat.reduceLeDiff, thenQ, ContK, ty2, ty3, ty4, ty5, ty25, ty29, ty30, ty34, ty40, Bool.not_true, Bool.not_false, decide_true, decide_false, if_true, if_false, sl25_1, bs25_1, unk1, bl40, bl40_0, st40, st34, fracL_len]
    exact ⟨⟨_, rfl⟩, by unfold comV spV; rw [if_pos hl]⟩
  have hw : withinB 0 100000 1 (one1 l) = true := by rw [within_one]; simp; omega
  rw [hw]
  simp -implicitDefEqProofs only [sB, Nat.reduceAdd, Nat.reduceSub, yieldL, popK, flat, nptr, Value.cells, H.new, eq_self, Int.reduceEq, Int.reduceLT, Int.reduceLE, Nat.reduceEqDiff, Nat.reduceLeDiff, thenQ, ContK, ty2, ty3, ty4, ty5, ty25, ty29, ty30, ty34, ty40, Bool.not_true, Bool.not_false, decide_true, decide_false, if_true, if_false, sl25_1, bs25_1, unk1, bl40, bl40_0, st40, st34, fracL_len]
  refine RunCall_of (isRange55 I) ?_
  cases hrw : rangeB wl wh (-400) 400 with
  | false =>
    simp -implicitDefEqProofs only [sB, Nat.reduceAdd, Nat.reduceSub, yieldL, popK, flat, nptr, Value.cells, H.new, eq_self, Int.reduceEq, Int.reduceLT, Int.reduceLE, Nat.reduceEqDiff, Nat.reduceLeDiff, thenQ, ContK, ty2, ty3, ty4, ty5, ty25, ty29, ty30, ty34, ty40, Bool.not_true, Bool.not_false, decide_true, decide_false, if_true, if_false, sl25_1, bs25_1, unk1, bl40, bl40_0, st40, st34, fracL_len]
    exact ⟨⟨_, rfl⟩, by unfold comV spV; rw [if_neg hl, if_pos (.inl hrw)]⟩
  | true =>
  simp -implicitDefEqProofs only [sB, Nat.reduceAdd, Nat.reduceSub, yieldL, popK, flat, nptr, Value.cells, H.new, eq_self, Int.reduceEq, Int.reduceLT, Int.reduceLE, Nat.reduceEqDiff, Nat.reduceLeDiff, thenQ, ContK, ty2, ty3, ty4, ty5, ty25, ty29, ty30, ty34, ty40, Bool.not_true, Bool.not_false, decide_true, decide_false, if_true, if_false, sl25_1, bs25_1, unk1, bl40, bl40_0, st40, st34, fracL_len]
  refine RunCall_of (isRange55 I) ?_
  cases hrs : rangeB sl sh 0 200 with
  | false =>
    simp -implicitDefEqProofs only [sB, Nat.reduceAdd, Nat.reduceSub, yieldL, popK, flat, nptr, Value.cells, H.new, eq_self, Int.reduceEq, Int.reduceLT, Int.reduceLE, Nat.reduceEqDiff, Nat.reduceLeDiff, thenQ, ContK, ty2, ty3, ty4, ty5, ty25, ty29, ty30, ty34, ty40, Bool.not_true, Bool.not_false, decide_true, decide_false, if_true, if_false, sl25_1, bs25_1, unk1, bl40, bl40_0, st40, st34, fracL_len]
    exact ⟨⟨_, rfl⟩, by unfold comV spV; rw [if_neg hl, if_pos (.inr hrs)]⟩
  | true =>
    obtain ⟨r1, r2, r3⟩ := rangeB_iff.1 hrw
    obtain ⟨s1, s2, s3⟩ := rangeB_iff.1 hrs
    have p1 := warm_rng (w := wh) (s := sh) ⟨by omega, by omega⟩ ⟨by omega, by omega⟩
    have p2 := warm_rng (w := wh) (s := sl) ⟨by omega, by omega⟩ ⟨by omega, by omega⟩
    have p3 := warm_rng (w := wl) (s := sl) ⟨by omega, by omega⟩ ⟨by omega, by omega⟩
    have p4 := warm_rng (w := wl) (s := sh) ⟨by omega, by omega⟩ ⟨by omega, by omega⟩
    have w1 : IntKind.i64.wrap (wh * sh) = wh * sh := wrap_i64 (by omega) (by omega)
    have w2 : IntKind.i64.wrap (wh * sl) = wh * sl := wrap_i64 (by omega) (by omega)
    have w3 : IntKind.i64.wrap (wl * sl) = wl * sl := wrap_i64 (by omega) (by omega)
    have w4 : IntKind.i64.wrap (wl * sh) = wl * sh := wrap_i64 (by omega) (by omega)
    have w5 : IntKind.i64.wrap (1000000 * l) = 1000000 * l := wrap_i64 (by omega) (by omega)
    have hV : comV l wl wh sl sh = .tuple #[.agg (fracL (1000000 * l) (1000000 + warmest wh sl sh) ++ fracL (1000000 * l) (1000000 + coldest wl sl sh)).toArray, .int .i64 0] := by
      unfold comV; rw [if_neg hl, if_neg (by rw [hrw, hrs]; simp)]
    rw [hV]
    by_cases c1 : wh < 0
    · have c2 : wl < 0 := by omega
      rw [show warmest wh sl sh = wh * sl from if_pos c1, show coldest wl sl sh = wl * sh from if_pos c2]
      have q1 : IntKind.i64.wrap (1000000 + wh * sl) = 1000000 + wh * sl := wrap_i64 (by omega) (by omega)
      have q2 : IntKind.i64.wrap (1000000 + wl * sh) = 1000000 + wl * sh := wrap_i64 (by omega) (by omega)
      simp -implicitDefEqProofs only [sB, Nat.reduceAdd, Nat.reduceSub, yieldL, popK, flat, nptr, Value.cells, H.new, eq_self, Int.reduceEq, Int.reduceLT, Int.reduceLE, Nat.reduceEqDiff, Nat.reduceLeDiff, thenQ, ContK, ty2, ty3, ty4, ty5, ty25, ty29, ty30, ty34, ty40, sD, mixT, isAlloc, ridOf, blockOf, Bool.not_true, Bool.not_false, decide_true, decide_false, if_true, if_false, sl25_1, bs25_1, unk1, bl40, bl40_0, st40, st34, fracL_len, w1, w2, w3, w4, w5, q1, q2, c1, c2]
      refine ⟨drawOk_ren (fun _ => 0) rfl (by kernel_rfl), ?_⟩
      refine RunCall_of (least43 I ⟨by omega, by omega⟩ ⟨by omega, by omega⟩) ?_
      simp -implicitDefEqProofs only [sB, Nat.reduceAdd, Nat.reduceSub, yieldL, popK, flat, nptr, Value.cells, H.new, eq_self, Int.reduceEq, Int.reduceLT, Int.reduceLE, Nat.reduceEqDiff, Nat.reduceLeDiff, thenQ, ContK, ty2, ty3, ty4, ty5, ty25, ty29, ty30, ty34, ty40, Bool.not_true, Bool.not_false, decide_true, decide_false, if_true, if_false, sl25_1, bs25_1, unk1, bl40, bl40_0, st40, st34, fracL_len, w1, w2, w3, w4, w5, q1, q2, c1, c2]
      refine RunCall_of (least43 I ⟨by omega, by omega⟩ ⟨by omega, by omega⟩) ?_
      simp -implicitDefEqProofs only [sB, Nat.reduceAdd, Nat.reduceSub, yieldL, popK, flat, nptr, Value.cells, H.new, eq_self, Int.reduceEq, Int.reduceLT, Int.reduceLE, Nat.reduceEqDiff, Nat.reduceLeDiff, thenQ, ContK, ty2, ty3, ty4, ty5, ty25, ty29, ty30, ty34, ty40, Bool.not_true, Bool.not_false, decide_true, decide_false, if_true, if_false, sl25_1, bs25_1, unk1, bl40, bl40_0, st40, st34, fracL_len, fracL, w1, w2, w3, w4, w5, q1, q2, c1, c2]
      first | exact ⟨⟨_, rfl⟩, rfl⟩ | exact ⟨_, rfl⟩
    by_cases c2 : wl < 0
    · skip
      rw [show warmest wh sl sh = wh * sh from if_neg c1, show coldest wl sl sh = wl * sh from if_pos c2]
      have q1 : IntKind.i64.wrap (1000000 + wh * sh) = 1000000 + wh * sh := wrap_i64 (by omega) (by omega)
      have q2 : IntKind.i64.wrap (1000000 + wl * sh) = 1000000 + wl * sh := wrap_i64 (by omega) (by omega)
      simp -implicitDefEqProofs only [sB, Nat.reduceAdd, Nat.reduceSub, yieldL, popK, flat, nptr, Value.cells, H.new, eq_self, Int.reduceEq, Int.reduceLT, Int.reduceLE, Nat.reduceEqDiff, Nat.reduceLeDiff, thenQ, ContK, ty2, ty3, ty4, ty5, ty25, ty29, ty30, ty34, ty40, sD, mixT, isAlloc, ridOf, blockOf, Bool.not_true, Bool.not_false, decide_true, decide_false, if_true, if_false, sl25_1, bs25_1, unk1, bl40, bl40_0, st40, st34, fracL_len, w1, w2, w3, w4, w5, q1, q2, c1, c2]
      refine ⟨drawOk_ren (fun _ => 0) rfl (by kernel_rfl), ?_⟩
      refine RunCall_of (least43 I ⟨by omega, by omega⟩ ⟨by omega, by omega⟩) ?_
      simp -implicitDefEqProofs only [sB, Nat.reduceAdd, Nat.reduceSub, yieldL, popK, flat, nptr, Value.cells, H.new, eq_self, Int.reduceEq, Int.reduceLT, Int.reduceLE, Nat.reduceEqDiff, Nat.reduceLeDiff, thenQ, ContK, ty2, ty3, ty4, ty5, ty25, ty29, ty30, ty34, ty40, Bool.not_true, Bool.not_false, decide_true, decide_false, if_true, if_false, sl25_1, bs25_1, unk1, bl40, bl40_0, st40, st34, fracL_len, w1, w2, w3, w4, w5, q1, q2, c1, c2]
      refine RunCall_of (least43 I ⟨by omega, by omega⟩ ⟨by omega, by omega⟩) ?_
      simp -implicitDefEqProofs only [sB, Nat.reduceAdd, Nat.reduceSub, yieldL, popK, flat, nptr, Value.cells, H.new, eq_self, Int.reduceEq, Int.reduceLT, Int.reduceLE, Nat.reduceEqDiff, Nat.reduceLeDiff, thenQ, ContK, ty2, ty3, ty4, ty5, ty25, ty29, ty30, ty34, ty40, Bool.not_true, Bool.not_false, decide_true, decide_false, if_true, if_false, sl25_1, bs25_1, unk1, bl40, bl40_0, st40, st34, fracL_len, fracL, w1, w2, w3, w4, w5, q1, q2, c1, c2]
      first | exact ⟨⟨_, rfl⟩, rfl⟩ | exact ⟨_, rfl⟩
    · skip
      rw [show warmest wh sl sh = wh * sh from if_neg c1, show coldest wl sl sh = wl * sl from if_neg c2]
      have q1 : IntKind.i64.wrap (1000000 + wh * sh) = 1000000 + wh * sh := wrap_i64 (by omega) (by omega)
      have q2 : IntKind.i64.wrap (1000000 + wl * sl) = 1000000 + wl * sl := wrap_i64 (by omega) (by omega)
      simp -implicitDefEqProofs only [sB, Nat.reduceAdd, Nat.reduceSub, yieldL, popK, flat, nptr, Value.cells, H.new, eq_self, Int.reduceEq, Int.reduceLT, Int.reduceLE, Nat.reduceEqDiff, Nat.reduceLeDiff, thenQ, ContK, ty2, ty3, ty4, ty5, ty25, ty29, ty30, ty34, ty40, sD, mixT, isAlloc, ridOf, blockOf, Bool.not_true, Bool.not_false, decide_true, decide_false, if_true, if_false, sl25_1, bs25_1, unk1, bl40, bl40_0, st40, st34, fracL_len, w1, w2, w3, w4, w5, q1, q2, c1, c2]
      refine ⟨drawOk_ren (fun _ => 0) rfl (by kernel_rfl), ?_⟩
      refine RunCall_of (least43 I ⟨by omega, by omega⟩ ⟨by omega, by omega⟩) ?_
      simp -implicitDefEqProofs only [sB, Nat.reduceAdd, Nat.reduceSub, yieldL, popK, flat, nptr, Value.cells, H.new, eq_self, Int.reduceEq, Int.reduceLT, Int.reduceLE, Nat.reduceEqDiff, Nat.reduceLeDiff, thenQ, ContK, ty2, ty3, ty4, ty5, ty25, ty29, ty30, ty34, ty40, Bool.not_true, Bool.not_false, decide_true, decide_false, if_true, if_false, sl25_1, bs25_1, unk1, bl40, bl40_0, st40, st34, fracL_len, w1, w2, w3, w4, w5, q1, q2, c1, c2]
      refine RunCall_of (least43 I ⟨by omega, by omega⟩ ⟨by omega, by omega⟩) ?_
      simp -implicitDefEqProofs only [sB, Nat.reduceAdd, Nat.reduceSub, yieldL, popK, flat, nptr, Value.cells, H.new, eq_self, Int.reduceEq, Int.reduceLT, Int.reduceLE, Nat.reduceEqDiff, Nat.reduceLeDiff, thenQ, ContK, ty2, ty3, ty4, ty5, ty25, ty29, ty30, ty34, ty40, Bool.not_true, Bool.not_false, decide_true, decide_false, if_true, if_false, sl25_1, bs25_1, unk1, bl40, bl40_0, st40, st34, fracL_len, fracL, w1, w2, w3, w4, w5, q1, q2, c1, c2]
      first | exact ⟨⟨_, rfl⟩, rfl⟩ | exact ⟨_, rfl⟩

theorem bin_rem2 {P : Program} {k : IntKind} {t : TypeId} {x y : Operand} {a : Int} : abin P .rem t x y (.int k a) (.int k 2) = some (.int k (a.tmod 2)) := bin_rem (by omega)
theorem bin_quo2 {P : Program} {k : IntKind} {t : TypeId} {x y : Operand} {a : Int} : abin P .quo t x y (.int k a) (.int k 2) = some (.int k (k.wrap (a.tdiv 2))) := bin_quo (by omega)
theorem warmest_rng {wh sl sh : Int} (hw : -400 ≤ wh ∧ wh ≤ 400) (hs : 0 ≤ sl ∧ sl ≤ sh ∧ sh ≤ 200) : -80000 ≤ warmest wh sl sh ∧ warmest wh sl sh ≤ 80000 := by
  unfold warmest; split
  · exact warm_rng hw ⟨by omega, by omega⟩
  · exact warm_rng hw ⟨by omega, by omega⟩
theorem coldest_rng {wl sl sh : Int} (hw : -400 ≤ wl ∧ wl ≤ 400) (hs : 0 ≤ sl ∧ sl ≤ sh ∧ sh ≤ 200) : -80000 ≤ coldest wl sl sh ∧ coldest wl sl sh ≤ 80000 := by
  unfold coldest; split
  · exact warm_rng hw ⟨by omega, by omega⟩
  · exact warm_rng hw ⟨by omega, by omega⟩
def corn (wl wh sl sh : Int) (k : Nat) : Int := (if k % 2 = 1 then wh else wl) * (if k / 2 = 1 then sh else sl)
def cmin (wl wh sl sh : Int) : Nat → Int
  | 0 => wl * sl
  | k + 1 => min (cmin wl wh sl sh k) (corn wl wh sl sh k)
def cmax (wl wh sl sh : Int) : Nat → Int
  | 0 => wl * sl
  | k + 1 => max (cmax wl wh sl sh k) (corn wl wh sl sh k)
theorem cmax4 {wl wh sl sh : Int} (hw : wl ≤ wh) (hs : 0 ≤ sl ∧ sl ≤ sh) : cmax wl wh sl sh 4 = warmest wh sl sh := warmest_max hw hs
theorem cmin4 {wl wh sl sh : Int} (hw : wl ≤ wh) (hs : 0 ≤ sl ∧ sl ≤ sh) : cmin wl wh sl sh 4 = coldest wl sl sh := coldest_min hw hs
set_option maxRecDepth 100000 in
set_option maxHeartbeats 4000000 in
theorem common17 (I : Nat → Option Obj) {h : H} {l wl wh sl sh : Int} :
    Snd Try.prog I (.func 17) [.int .i64 l, .agg #[.int .i64 wl, .int .i64 wh], .agg #[.int .i64 sl, .int .i64 sh]] h (comV l wl wh sl sh) h := by
  refine Snd_run0 (rs := [.cell 6 40, .tmp 7]) 600 Try.func17 (by kernel_rfl) rfl Try.ntmps17 rfl comV_flat ?_
  by_cases hl : l < 0 ∨ 100000 < l
  · rcases hl with hl1 | hl1
    · simp -implicitDefEqProofs only [sB, Nat.reduceAdd, Nat.reduceSub, yieldL, popK, flat, nptr, Value.cells, H.new, eq_self, Int.reduceEq, Int.reduceLT, Int.reduceLE, Nat.reduceEqDiff, Nat.reduceLeDiff, thenQ, ContK, ty2, ty3, ty4, ty5, ty29, ty30, ty34, ty40, Bool.not_true, Bool.not_false, decide_true, decide_false, if_true, if_false, sl25_1, bs25_1, unk1, bl40, bl40_0, st40, st34, fracL_len, hl1]
      exact ⟨⟨_, rfl⟩, by unfold comV spV; rw [if_pos (.inl hl1)]⟩
    · by_cases hl2 : l < 0
      · omega
      simp -implicitDefEqProofs only [sB, Nat.reduceAdd, Nat.reduceSub, yieldL, popK, flat, nptr, Value.cells, H.new, eq_self, Int.reduceEq, Int.reduceLT, Int.reduceLE, Nat.reduceEqDiff, Nat.reduceLeDiff, thenQ, ContK, ty2, ty3, ty4, ty5, ty29, ty30, ty34, ty40, Bool.not_true, Bool.not_false, decide_true, decide_false, if_true, if_false, sl25_1, bs25_1, unk1, bl40, bl40_0, st40, st34, fracL_len, hl1, hl2]
      exact ⟨⟨_, rfl⟩, by unfold comV spV; rw [if_pos (.inr hl1)]⟩
  have hl1 : ¬ l < 0 := by omega
  have hl2 : ¬ 100000 < l := by omega
  simp -implicitDefEqProofs only [sB, Nat.reduceAdd, Nat.reduceSub, yieldL, popK, flat, nptr, Value.cells, H.new, eq_self, Int.reduceEq, Int.reduceLT, Int.reduceLE, Nat.reduceEqDiff, Nat.reduceLeDiff, thenQ, ContK, ty2, ty3, ty4, ty5, ty29, ty30, ty34, ty40, Bool.not_true, Bool.not_false, decide_true, decide_false, if_true, if_false, sl25_1, bs25_1, unk1, bl40, bl40_0, st40, st34, fracL_len, hl1, hl2]
  refine RunCall_of (valid56 I) ?_
  cases hrw : rangeB wl wh (-400) 400 with
  | false =>
    simp -implicitDefEqProofs only [sB, Nat.reduceAdd, Nat.reduceSub, yieldL, popK, flat, nptr, Value.cells, H.new, eq_self, Int.reduceEq, Int.reduceLT, Int.reduceLE, Nat.reduceEqDiff, Nat.reduceLeDiff, thenQ, ContK, ty2, ty3, ty4, ty5, ty29, ty30, ty34, ty40, Bool.not_true, Bool.not_false, decide_true, decide_false, if_true, if_false, sl25_1, bs25_1, unk1, bl40, bl40_0, st40, st34, fracL_len]
    exact ⟨⟨_, rfl⟩, by unfold comV spV; rw [if_neg hl, if_pos (.inl hrw)]⟩
  | true =>
  simp -implicitDefEqProofs only [sB, Nat.reduceAdd, Nat.reduceSub, yieldL, popK, flat, nptr, Value.cells, H.new, eq_self, Int.reduceEq, Int.reduceLT, Int.reduceLE, Nat.reduceEqDiff, Nat.reduceLeDiff, thenQ, ContK, ty2, ty3, ty4, ty5, ty29, ty30, ty34, ty40, Bool.not_true, Bool.not_false, decide_true, decide_false, if_true, if_false, sl25_1, bs25_1, unk1, bl40, bl40_0, st40, st34, fracL_len]
  refine RunCall_of (valid56 I) ?_
  cases hrs : rangeB sl sh 0 200 with
  | false =>
    simp -implicitDefEqProofs only [sB, Nat.reduceAdd, Nat.reduceSub, yieldL, popK, flat, nptr, Value.cells, H.new, eq_self, Int.reduceEq, Int.reduceLT, Int.reduceLE, Nat.reduceEqDiff, Nat.reduceLeDiff, thenQ, ContK, ty2, ty3, ty4, ty5, ty29, ty30, ty34, ty40, Bool.not_true, Bool.not_false, decide_true, decide_false, if_true, if_false, sl25_1, bs25_1, unk1, bl40, bl40_0, st40, st34, fracL_len]
    exact ⟨⟨_, rfl⟩, by unfold comV spV; rw [if_neg hl, if_pos (.inr hrs)]⟩
  | true =>
    obtain ⟨r1, r2, r3⟩ := rangeB_iff.1 hrw
    obtain ⟨s1, s2, s3⟩ := rangeB_iff.1 hrs
    have p1 := warm_rng (w := wh) (s := sh) ⟨by omega, by omega⟩ ⟨by omega, by omega⟩
    have p2 := warm_rng (w := wh) (s := sl) ⟨by omega, by omega⟩ ⟨by omega, by omega⟩
    have p3 := warm_rng (w := wl) (s := sl) ⟨by omega, by omega⟩ ⟨by omega, by omega⟩
    have p4 := warm_rng (w := wl) (s := sh) ⟨by omega, by omega⟩ ⟨by omega, by omega⟩
    have w1 : IntKind.i64.wrap (wh * sh) = wh * sh := wrap_i64 (by omega) (by omega)
    have w2 : IntKind.i64.wrap (wh * sl) = wh * sl := wrap_i64 (by omega) (by omega)
    have w3 : IntKind.i64.wrap (wl * sl) = wl * sl := wrap_i64 (by omega) (by omega)
    have w4 : IntKind.i64.wrap (wl * sh) = wl * sh := wrap_i64 (by omega) (by omega)
    have w5 : IntKind.i64.wrap (1000000 * l) = 1000000 * l := wrap_i64 (by omega) (by omega)
    have hV : comV l wl wh sl sh = .tuple #[.agg (fracL (1000000 * l) (1000000 + warmest wh sl sh) ++ fracL (1000000 * l) (1000000 + coldest wl sl sh)).toArray, .int .i64 0] := by
      unfold comV; rw [if_neg hl, if_neg (by rw [hrw, hrs]; simp)]
    rw [hV, ← cmax4 r2 ⟨by omega, by omega⟩, ← cmin4 r2 ⟨by omega, by omega⟩]
    simp -implicitDefEqProofs only [sB, Nat.reduceAdd, Nat.reduceSub, yieldL, popK, flat, nptr, Value.cells, H.new, eq_self, Int.reduceEq, Int.reduceLT, Int.reduceLE, Nat.reduceEqDiff, Nat.reduceLeDiff, thenQ, ContK, ty2, ty3, ty4, ty5, ty29, ty30, ty34, ty40, sD, mixT, isAlloc, ridOf, blockOf, Bool.not_true, Bool.not_false, decide_true, decide_false, if_true, if_false, sl25_1, bs25_1, unk1, bl40, bl40_0, st40, st34, fracL_len, w3]
    refine ⟨drawOk_ren (fun _ => 0) rfl (by kernel_rfl), ?_⟩
    obtain ⟨Ja, hJa⟩ : ∃ J : St → Prop, J = fun s => ∃ (k : Nat), s.df = [] ∧ s.h = h ++ [.cells [.int .i64 wl, .int .i64 wh] 34, .cells [.int .i64 sl, .int .i64 sh] 34, .cells [.int .i64 0, .int .i64 0, .int .i64 0, .int .i64 0] 40] ∧ s.tm.length = 78 ∧ s.tm.getD 0 undef = .int .i64 l ∧ s.tm.getD 4 undef = .pointer (some ⟨2 * h.length, 0, none⟩) ∧ s.tm.getD 5 undef = .pointer (some ⟨2 * (h.length + 1), 0, none⟩) ∧ s.tm.getD 6 undef = .pointer (some ⟨2 * (h.length + 2), 0, none⟩) ∧ s.tm.getD 7 undef = .int .i64 0 ∧ s.tm.getD 8 undef = .int .i64 (cmin wl wh sl sh k) ∧ s.tm.getD 9 undef = .int .i64 (cmax wl wh sl sh k) ∧ s.tm.getD 10 undef = .int .i64 k ∧ (k ≤ 4) := ⟨_, rfl⟩
    refine Loop_run (by kernel_rfl) 600 Ja (muI 10 4) (by rw [hJa]; exact ⟨0, rfl, rfl, rfl, rfl, rfl, rfl, rfl, rfl, rfl, rfl, rfl, by omega⟩) ?_
    intro sa hsa
    rw [hJa] at hsa
    obtain ⟨tma, dfa, hha⟩ := sa
    obtain ⟨k, ea1, ea2, ea3, la0, la4, la5, la6, la7, la8, la9, la10, hk⟩ := hsa
    simp only at ea1 ea2 ea3 la0 la4 la5 la6 la7 la8 la9 la10
    subst dfa; subst hha
    have elita : tma = [.int .i64 l, tma.getD 1 undef, tma.getD 2 undef, tma.getD 3 undef, .pointer (some ⟨2 * h.length, 0, none⟩), .pointer (some ⟨2 * (h.length + 1), 0, none⟩), .pointer (some ⟨2 * (h.length + 2), 0, none⟩), .int .i64 0, .int .i64 (cmin wl wh sl sh k), .int .i64 (cmax wl wh sl sh k), .int .i64 k, tma.getD 11 undef, tma.getD 12 undef, tma.getD 13 undef, tma.getD 14 undef, tma.getD 15 undef, tma.getD 16 undef, tma.getD 17 undef, tma.getD 18 undef, tma.getD 19 undef, tma.getD 20 undef, tma.getD 21 undef, tma.getD 22 undef, tma.getD 23 undef, tma.getD 24 undef, tma.getD 25 undef, tma.getD 26 undef, tma.getD 27 undef, tma.getD 28 undef, tma.getD 29 undef, tma.getD 30 undef, tma.getD 31 undef, tma.getD 32 undef, tma.getD 33 undef, tma.getD 34 undef, tma.getD 35 undef, tma.getD 36 undef, tma.getD 37 undef, tma.getD 38 undef, tma.getD 39 undef, tma.getD 40 undef, tma.getD 41 undef, tma.getD 42 undef, tma.getD 43 undef, tma.getD 44 undef, tma.getD 45 undef, tma.getD 46 undef, tma.getD 47 undef, tma.getD 48 undef, tma.getD 49 undef, tma.getD 50 undef, tma.getD 51 undef, tma.getD 52 undef, tma.getD 53 undef, tma.getD 54 undef, tma.getD 55 undef, tma.getD 56 undef, tma.getD 57 undef, tma.getD 58 undef, tma.getD 59 undef, tma.getD 60 undef, tma.getD 61 undef, tma.getD 62 undef, tma.getD 63 undef, tma.getD 64 undef, tma.getD 65 undef, tma.getD 66 undef, tma.getD 67 undef, tma.getD 68 undef, tma.getD 69 undef, tma.getD 70 undef, tma.getD 71 undef, tma.getD 72 undef, tma.getD 73 undef, tma.getD 74 undef, tma.getD 75 undef, tma.getD 76 undef, tma.getD 77 undef] := by
      have e0 := lit_eq ea3
      have er : List.range 78 = [0, 1, 2, 3, 4, 5, 6, 7, 8, 9, 10, 11, 12, 13, 14, 15, 16, 17, 18, 19, 20, 21, 22, 23, 24, 25, 26, 27, 28, 29, 30, 31, 32, 33, 34, 35, 36, 37, 38, 39, 40, 41, 42, 43, 44, 45, 46, 47, 48, 49, 50, 51, 52, 53, 54, 55, 56, 57, 58, 59, 60, 61, 62, 63, 64, 65, 66, 67, 68, 69, 70, 71, 72, 73, 74, 75, 76, 77] := by rfl
      rw [er] at e0
      simp only [List.map_cons, List.map_nil, la0, la4, la5, la6, la7, la8, la9, la10] at e0
      exact e0
    rw [elita]
    clear la0
    clear la4
    clear la5
    clear la6
    clear la7
    clear la8
    clear la9
    clear la10
    clear elita ea3
    have hc : k = 0 ∨ k = 1 ∨ k = 2 ∨ k = 3 ∨ k = 4 := by omega
    rcases hc with rfl | rfl | rfl | rfl | rfl
    · have z1 : ((0 : Nat) : Int) < 4 := by omega
      have z2 : ((0 : Nat) : Int).tmod 2 = 0 := rfl
      have z3 : IntKind.i64.wrap (((0 : Nat) : Int).tdiv 2) = 0 := rfl
      have z4 : IntKind.i64.wrap (((0 : Nat) : Int) + 1) = ((1 : Nat) : Int) := rfl
      have z5 : cmin wl wh sl sh 1 = min (cmin wl wh sl sh 0) (wl * sl) := rfl
      have z6 : cmax wl wh sl sh 1 = max (cmax wl wh sl sh 0) (wl * sl) := rfl
      simp -implicitDefEqProofs only [sB, Nat.reduceAdd, Nat.reduceSub, yieldL, popK, flat, nptr, Value.cells, H.new, eq_self, Int.reduceEq, Int.reduceLT, Int.reduceLE, Nat.reduceEqDiff, Nat.reduceLeDiff, thenQ, ContK, ty2, ty3, ty4, ty5, ty29, ty30, ty34, ty40, sD, mixT, isAlloc, ridOf, blockOf, Bool.not_true, Bool.not_false, decide_true, decide_false, if_true, if_false, sl25_1, bs25_1, unk1, bl40, bl40_0, st40, st34, fracL_len, bin_rem2, bin_quo2, z1, z2, z3, z4, w3]
      refine ⟨drawOk_ren (fun _ => 0) rfl (by kernel_rfl), by rw [← z5, ← z6]; rw [hJa]; exact ⟨1, rfl, rfl, rfl, rfl, rfl, rfl, rfl, rfl, rfl, rfl, rfl, by omega⟩, ?_⟩
      show 4 - ((1 : Nat) : Int).toNat < 4 - ((0 : Nat) : Int).toNat
      omega
    · have z1 : ((1 : Nat) : Int) < 4 := by omega
      have z2 : ((1 : Nat) : Int).tmod 2 = 1 := rfl
      have z3 : IntKind.i64.wrap (((1 : Nat) : Int).tdiv 2) = 0 := rfl
      have z4 : IntKind.i64.wrap (((1 : Nat) : Int) + 1) = ((2 : Nat) : Int) := rfl
      have z5 : cmin wl wh sl sh 2 = min (cmin wl wh sl sh 1) (wh * sl) := rfl
      have z6 : cmax wl wh sl sh 2 = max (cmax wl wh sl sh 1) (wh * sl) := rfl
      simp -implicitDefEqProofs only [sB, Nat.reduceAdd, Nat.reduceSub, yieldL, popK, flat, nptr, Value.cells, H.new, eq_self, Int.reduceEq, Int.reduceLT, Int.reduceLE, Nat.reduceEqDiff, Nat.reduceLeDiff, thenQ, ContK, ty2, ty3, ty4, ty5, ty29, ty30, ty34, ty40, sD, mixT, isAlloc, ridOf, blockOf, Bool.not_true, Bool.not_false, decide_true, decide_false, if_true, if_false, sl25_1, bs25_1, unk1, bl40, bl40_0, st40, st34, fracL_len, bin_rem2, bin_quo2, z1, z2, z3, z4, w2]
      refine ⟨drawOk_ren (fun _ => 0) rfl (by kernel_rfl), by rw [← z5, ← z6]; rw [hJa]; exact ⟨2, rfl, rfl, rfl, rfl, rfl, rfl, rfl, rfl, rfl, rfl, rfl, by omega⟩, ?_⟩
      show 4 - ((2 : Nat) : Int).toNat < 4 - ((1 : Nat) : Int).toNat
      omega
    · have z1 : ((2 : Nat) : Int) < 4 := by omega
      have z2 : ((2 : Nat) : Int).tmod 2 = 0 := rfl
      have z3 : IntKind.i64.wrap (((2 : Nat) : Int).tdiv 2) = 1 := rfl
      have z4 : IntKind.i64.wrap (((2 : Nat) : Int) + 1) = ((3 : Nat) : Int) := rfl
      have z5 : cmin wl wh sl sh 3 = min (cmin wl wh sl sh 2) (wl * sh) := rfl
      have z6 : cmax wl wh sl sh 3 = max (cmax wl wh sl sh 2) (wl * sh) := rfl
      simp -implicitDefEqProofs only [sB, Nat.reduceAdd, Nat.reduceSub, yieldL, popK, flat, nptr, Value.cells, H.new, eq_self, Int.reduceEq, Int.reduceLT, Int.reduceLE, Nat.reduceEqDiff, Nat.reduceLeDiff, thenQ, ContK, ty2, ty3, ty4, ty5, ty29, ty30, ty34, ty40, sD, mixT, isAlloc, ridOf, blockOf, Bool.not_true, Bool.not_false, decide_true, decide_false, if_true, if_false, sl25_1, bs25_1, unk1, bl40, bl40_0, st40, st34, fracL_len, bin_rem2, bin_quo2, z1, z2, z3, z4, w4]
      refine ⟨drawOk_ren (fun _ => 0) rfl (by kernel_rfl), by rw [← z5, ← z6]; rw [hJa]; exact ⟨3, rfl, rfl, rfl, rfl, rfl, rfl, rfl, rfl, rfl, rfl, rfl, by omega⟩, ?_⟩
      show 4 - ((3 : Nat) : Int).toNat < 4 - ((2 : Nat) : Int).toNat
      omega
    · have z1 : ((3 : Nat) : Int) < 4 := by omega
      have z2 : ((3 : Nat) : Int).tmod 2 = 1 := rfl
      have z3 : IntKind.i64.wrap (((3 : Nat) : Int).tdiv 2) = 1 := rfl
      have z4 : IntKind.i64.wrap (((3 : Nat) : Int) + 1) = ((4 : Nat) : Int) := rfl
      have z5 : cmin wl wh sl sh 4 = min (cmin wl wh sl sh 3) (wh * sh) := rfl
      have z6 : cmax wl wh sl sh 4 = max (cmax wl wh sl sh 3) (wh * sh) := rfl
      simp -implicitDefEqProofs only [sB, Nat.reduceAdd, Nat.reduceSub, yieldL, popK, flat, nptr, Value.cells, H.new, eq_self, Int.reduceEq, Int.reduceLT, Int.reduceLE, Nat.reduceEqDiff, Nat.reduceLeDiff, thenQ, ContK, ty2, ty3, ty4, ty5, ty29, ty30, ty34, ty40, sD, mixT, isAlloc, ridOf, blockOf, Bool.not_true, Bool.not_false, decide_true, decide_false, if_true, if_false, sl25_1, bs25_1, unk1, bl40, bl40_0, st40, st34, fracL_len, bin_rem2, bin_quo2, z1, z2, z3, z4, w1]
      refine ⟨drawOk_ren (fun _ => 0) rfl (by kernel_rfl), by rw [← z5, ← z6]; rw [hJa]; exact ⟨4, rfl, rfl, rfl, rfl, rfl, rfl, rfl, rfl, rfl, rfl, rfl, by omega⟩, ?_⟩
      show 4 - ((4 : Nat) : Int).toNat < 4 - ((3 : Nat) : Int).toNat
      omega
    · have b1 := coldest_rng (wl := wl) (sl := sl) (sh := sh) ⟨by omega, by omega⟩ ⟨by omega, by omega, by omega⟩
      have b2 := warmest_rng (wh := wh) (sl := sl) (sh := sh) ⟨by omega, by omega⟩ ⟨by omega, by omega, by omega⟩
      rw [← cmin4 r2 ⟨by omega, by omega⟩] at b1
      rw [← cmax4 r2 ⟨by omega, by omega⟩] at b2
      have q1 : IntKind.i64.wrap (1000000 + cmin wl wh sl sh 4) = 1000000 + cmin wl wh sl sh 4 := wrap_i64 (by omega) (by omega)
      have q2 : IntKind.i64.wrap (1000000 + cmax wl wh sl sh 4) = 1000000 + cmax wl wh sl sh 4 := wrap_i64 (by omega) (by omega)
      have z : ¬ (((4 : Nat) : Int) < 4) := by omega
      simp -implicitDefEqProofs only [sB, Nat.reduceAdd, Nat.reduceSub, yieldL, popK, flat, nptr, Value.cells, H.new, eq_self, Int.reduceEq, Int.reduceLT, Int.reduceLE, Nat.reduceEqDiff, Nat.reduceLeDiff, thenQ, ContK, ty2, ty3, ty4, ty5, ty29, ty30, ty34, ty40, Bool.not_true, Bool.not_false, decide_true, decide_false, if_true, if_false, sl25_1, bs25_1, unk1, bl40, bl40_0, st40, st34, fracL_len, w5, q1, q2, z]
      refine RunCall_of (fraction46 I ⟨by omega, by omega⟩ ⟨by omega, by omega⟩) ?_
      simp -implicitDefEqProofs only [sB, Nat.reduceAdd, Nat.reduceSub, yieldL, popK, flat, nptr, Value.cells, H.new, eq_self, Int.reduceEq, Int.reduceLT, Int.reduceLE, Nat.reduceEqDiff, Nat.reduceLeDiff, thenQ, ContK, ty2, ty3, ty4, ty5, ty29, ty30, ty34, ty40, Bool.not_true, Bool.not_false, decide_true, decide_false, if_true, if_false, sl25_1, bs25_1, unk1, bl40, bl40_0, st40, st34, fracL_len, w5, q1, q2]
      refine RunCall_of (fraction46 I ⟨by omega, by omega⟩ ⟨by omega, by omega⟩) ?_
      simp -implicitDefEqProofs only [sB, Nat.reduceAdd, Nat.reduceSub, yieldL, popK, flat, nptr, Value.cells, H.new, eq_self, Int.reduceEq, Int.reduceLT, Int.reduceLE, Nat.reduceEqDiff, Nat.reduceLeDiff, thenQ, ContK, ty2, ty3, ty4, ty5, ty29, ty30, ty34, ty40, Bool.not_true, Bool.not_false, decide_true, decide_false, if_true, if_false, sl25_1, bs25_1, unk1, bl40, bl40_0, st40, st34, fracL_len, fracL, w5, q1, q2]
      first | exact ⟨⟨_, rfl⟩, rfl⟩ | exact ⟨_, rfl⟩
end Go.Proofs.Ytcocmbccfikmhaa
set_option linter.unusedSimpArgs false
set_option linter.unusedVariables false
namespace Go.Proofs.Ytcocmbccfikmhaa
open Go.Sym
theorem av_last {p q a b : Int} (hp : 0 ≤ p) (hq : 0 ≤ q) (hpq : 0 < p + q) (hab : a ≤ b) : (0 ≤ p * a + q * b → 0 ≤ b) ∧ (0 < p * a + q * b → 0 < b) := by
  constructor
  · intro h
    refine Classical.byContradiction fun hb => ?_
    have h1 : p * a ≤ p * (-1) := Int.mul_le_mul_of_nonneg_left (by omega) hp
    have h2 : q * b ≤ q * (-1) := Int.mul_le_mul_of_nonneg_left (by omega) hq
    omega
  · intro h
    refine Classical.byContradiction fun hb => ?_
    have h1 : p * a ≤ p * 0 := Int.mul_le_mul_of_nonneg_left (by omega) hp
    have h2 : q * b ≤ q * 0 := Int.mul_le_mul_of_nonneg_left (by omega) hq
    omega
theorem av_pos {p q a b : Int} (hp : 0 ≤ p) (hq : 0 ≤ q) (hpq : 0 < p + q) : (0 ≤ a → 0 ≤ b → 0 ≤ p * a + q * b) ∧ (0 < a → 0 < b → 0 < p * a + q * b) := by
  constructor
  · intro ha hb
    have := Int.mul_nonneg hp ha
    have := Int.mul_nonneg hq hb
    omega
  · intro ha hb
    have h1 : p * 1 ≤ p * a := Int.mul_le_mul_of_nonneg_left (by omega) hp
    have h2 : q * 1 ≤ q * b := Int.mul_le_mul_of_nonneg_left (by omega) hq
    omega
/-- how much a chart has too much below a dip -/
def overV (n : Nat) (D A : Nat → Int) (l d : Int) : Int := belN n D A d - weighD n D d * l
theorem over_pq {n : Nat} {D A : Nat → Int} {l d : Int} : overV n D A l d = (D (wIx n D d) - d) * (A (wIx n D d - 1) - l) + (d - D (wIx n D d - 1)) * (A (wIx n D d) - l) := by
  unfold overV belN weighD
  generalize wIx n D d = w
  rw [Int.mul_sub, Int.mul_sub]
  have : (D w - D (w - 1)) * l = (D w - d) * l + (d - D (w - 1)) * l := by rw [← Int.add_mul]; congr 1; omega
  omega
theorem mono_of {A : Nat → Int} {n : Nat} (hA : ∀ i, i + 1 < n → A i ≤ A (i + 1)) : ∀ i j, i ≤ j → j < n → A i ≤ A j := by
  intro i j hij hj
  induction j with
  | zero => have : i = 0 := by omega
            subst this; exact Int.le_refl _
  | succ j ih =>
    by_cases e : i = j + 1
    · subst e; exact Int.le_refl _
    · have := ih (by omega) (by omega)
      have := hA j hj
      omega
theorem over_mono {n : Nat} {D L U A : Nat → Int} {pr l d e : Int} (t : TankOk n D L U pr) (hA : ∀ i, i + 1 < n → A i ≤ A (i + 1)) (hd : D 0 ≤ d) (hde : d ≤ e) (he : e ≤ D (n - 1)) :
    (0 ≤ overV n D A l d → 0 ≤ overV n D A l e) ∧ (0 < overV n D A l d → 0 < overV n D A l e) := by
  have n2 := t.n2
  have hm := mono_of hA
  obtain ⟨w1, w2⟩ := wIx_rng (n := n) (D := D) (dip := d) n2
  obtain ⟨w3, w4⟩ := wIx_between t (dip := d) ⟨hd, by omega⟩
  obtain ⟨v1, v2⟩ := wIx_rng (n := n) (D := D) (dip := e) n2
  obtain ⟨v3, v4⟩ := wIx_between t (dip := e) ⟨by omega, he⟩
  have ws := (wIxF_spec (n := n) (D := D) (dip := d) n 1 (by omega) (by omega)).1
  change (1 < wIx n D d → D (wIx n D d - 1) < d) at ws
  rw [over_pq, over_pq]
  generalize wIx n D d = w at *
  generalize wIx n D e = v at *
  have a1 := t.lt (w - 1) w (by omega) (by omega)
  have a2 := t.lt (v - 1) v (by omega) (by omega)
  have b1 := hm (w - 1) w (by omega) (by omega)
  have b2 := hm (v - 1) v (by omega) (by omega)
  have hwv : w ≤ v := by
    refine Classical.byContradiction fun hc => ?_
    have := t.mono v (w - 1) (by omega) (by omega)
    have := ws (by omega)
    omega
  by_cases hE : w = v
  · subst hE
    have e1 : (D w - d) * (A (w - 1) - l) = (D w - e) * (A (w - 1) - l) + (e - d) * (A (w - 1) - l) := by rw [← Int.add_mul]; congr 1; omega
    have e2 : (e - D (w - 1)) * (A w - l) = (d - D (w - 1)) * (A w - l) + (e - d) * (A w - l) := by rw [← Int.add_mul]; congr 1; omega
    have e3 : (e - d) * (A (w - 1) - l) ≤ (e - d) * (A w - l) := Int.mul_le_mul_of_nonneg_left (by omega) (by omega)
    omega
  · have k1 := av_last (p := D w - d) (q := d - D (w - 1)) (a := A (w - 1) - l) (b := A w - l) (by omega) (by omega) (by omega) (by omega)
    have k2 := av_pos (p := D v - e) (q := e - D (v - 1)) (a := A (v - 1) - l) (b := A v - l) (by omega) (by omega) (by omega)
    have b3 := hm w (v - 1) (by omega) (by omega)
    exact ⟨fun h => k2.1 (by have := k1.1 h; omega) (by have := k1.1 h; omega), fun h => k2.2 (by have := k1.2 h; omega) (by have := k1.2 h; omega)⟩
theorem over_congr {n : Nat} {D A B : Nat → Int} {l d : Int} (hn : 2 ≤ n) (h : ∀ i, i < n → A i = B i) : overV n D A l d = overV n D B l d := by
  obtain ⟨w1, w2⟩ := wIx_rng (n := n) (D := D) (dip := d) hn
  unfold overV belN
  rw [h _ (by omega), h _ (by omega)]
theorem bel_cross {n : Nat} {D L U x : Nat → Int} {pr dip : Int} (t : TankOk n D L U pr) (hd : D 0 ≤ dip ∧ dip ≤ D (n - 1)) : belR n D x dip * weighD n D dip = belN n D x dip * belRd n D dip ∧ 0 < belRd n D dip := by
  have n2 := t.n2
  obtain ⟨p1, p2, p3⟩ := pIx_spec (n := n) (D := D) (dip := dip) n2
  obtain ⟨w1, w2⟩ := wIx_rng (n := n) (D := D) (dip := dip) n2
  obtain ⟨w3, w4⟩ := wIx_between t hd
  unfold belR belRd belN weighD
  generalize pIx n D dip = p at *
  generalize hw : wIx n D dip = w at *
  refine ⟨?_, by have := t.lt p (p + 1) (by omega) (by omega); omega⟩
  have hp0 : D p ≤ dip := by
    by_cases e : 0 < p
    · exact p2 e
    · have : p = 0 := by omega
      rw [this]; exact hd.1
  by_cases e : p = w - 1
  · have e1 : p + 1 = w := by omega
    rw [e1, e]
    congr 1
    rw [Int.mul_comm (x (w - 1)), Int.mul_comm (x w)]
  · have hlt : w - 1 < p := by
      refine Classical.byContradiction fun hc => ?_
      have h1 : p + 1 ≤ w - 1 := by omega
      rcases p3 with h2 | h2
      · omega
      · have h3 := t.mono (p + 1) (w - 1) h1 (by omega)
        omega
    have hpw : p = w := by
      refine Classical.byContradiction fun hc => ?_
      have h1 : w < p := by omega
      have h3 := t.lt w p h1 (by omega)
      omega
    subst hpw
    have hdip : D p = dip := by omega
    rw [hdip]
    have z1 : dip - dip = 0 := by omega
    rw [z1, Int.mul_zero, Int.add_zero, Int.zero_mul, Int.zero_add, Int.mul_comm (x p), Int.mul_assoc, Int.mul_comm (x p), Int.mul_comm _ ((dip - D (p - 1)) * x p)]
theorem sign_of {X Y W R : Int} (h : X * W = Y * R) (hW : 0 < W) (hR : 0 < R) : (0 ≤ X ↔ 0 ≤ Y) ∧ (0 < X ↔ 0 < Y) := by
  have key : ∀ {x w : Int}, 0 < w → (0 < x ↔ 0 < x * w) ∧ (0 ≤ x ↔ 0 ≤ x * w) := by
    intro x w hw
    refine ⟨⟨fun h => Int.mul_pos h hw, fun h => ?_⟩, ⟨fun h => Int.mul_nonneg h (by omega), fun h => ?_⟩⟩
    · refine Classical.byContradiction fun hc => ?_
      have := Int.mul_le_mul_of_nonneg_right (show x ≤ 0 by omega) (show 0 ≤ w by omega)
      omega
    · refine Classical.byContradiction fun hc => ?_
      have := Int.mul_le_mul_of_nonneg_right (show x ≤ -1 by omega) (show 0 ≤ w by omega)
      omega
  have k1 := key (x := X) hW
  have k2 := key (x := Y) hR
  rw [h] at k1
  exact ⟨k1.2.trans k2.2.symm, k1.1.trans k2.1.symm⟩
theorem over_ref {n : Nat} {D L U A : Nat → Int} {pr l d : Int} (t : TankOk n D L U pr) (hd : D 0 ≤ d ∧ d ≤ D (n - 1)) : (belR n D A d ≤ l * belRd n D d ↔ ¬ 0 < overV n D A l d) ∧ (l * belRd n D d ≤ belR n D A d ↔ 0 ≤ overV n D A l d) := by
  obtain ⟨h1, h2⟩ := bel_cross (x := A) t hd
  have h3 := (weighD_rng (dip := d) t).1
  have h4 : (belR n D A d - l * belRd n D d) * weighD n D d = overV n D A l d * belRd n D d := by
    unfold overV
    rw [Int.sub_mul, Int.sub_mul, h1, Int.mul_comm l, Int.mul_comm (weighD n D d) l, Int.mul_assoc, Int.mul_comm (belRd n D d), Int.mul_assoc l]
  have := sign_of h4 h3 h2
  omega
/-- the first that is good -/
def firstT (p : Int → Bool) (lo : Int) : Nat → Int
  | 0 => lo
  | n + 1 => if p lo then lo else firstT p (lo + 1) n
theorem firstT_spec (p : Int → Bool) : ∀ n lo, lo ≤ firstT p lo n ∧ firstT p lo n ≤ lo + n ∧ (∀ d, lo ≤ d → d < firstT p lo n → p d = false) ∧ (firstT p lo n < lo + n → p (firstT p lo n) = true)
  | 0, lo => by simp only [firstT]; exact ⟨by omega, by omega, fun d h1 h2 => by omega, fun h => by omega⟩
  | n + 1, lo => by
    unfold firstT
    cases hp : p lo with
    | true => simp only [if_true]; exact ⟨by omega, by omega, fun d h1 h2 => by omega, fun _ => hp⟩
    | false =>
      simp only [Bool.false_eq_true, if_false]
      obtain ⟨h1, h2, h3, h4⟩ := firstT_spec p n (lo + 1)
      refine ⟨by omega, by omega, fun d g1 g2 => ?_, fun g => h4 (by omega)⟩
      by_cases e : d = lo
      · subst e; exact hp
      · exact h3 d (by omega) g2
theorem firstT_iff {p : Int → Bool} {lo hi : Int} (hlh : lo ≤ hi + 1) (hm : ∀ d e, lo ≤ d → d ≤ e → e ≤ hi → p d = true → p e = true) (d : Int) (h1 : lo ≤ d) (h2 : d ≤ hi) : p d = decide (firstT p lo (hi + 1 - lo).toNat ≤ d) := by
  obtain ⟨g1, g2, g3, g4⟩ := firstT_spec p (hi + 1 - lo).toNat lo
  generalize firstT p lo (hi + 1 - lo).toNat = r at *
  have e : lo + ((hi + 1 - lo).toNat : Int) = hi + 1 := by omega
  rw [e] at g2 g4
  by_cases c : r ≤ d
  · rw [hm r d g1 c h2 (g4 (by omega)), decide_eq_true c]
  · rw [g3 d h1 (by omega), decide_eq_false c]
def okHi (n : Nat) (D U : Nat → Int) (l d : Int) : Bool := decide (0 ≤ overV n D (fun j => rmin U n j) l d)
def okLo (n : Nat) (D L : Nat → Int) (l d : Int) : Bool := decide (0 < overV n D (fun j => rmax L j) l d)
theorem okHi_iff {n : Nat} {D U : Nat → Int} {l d : Int} : okHi n D U l d = true ↔ 0 ≤ overV n D (fun j => rmin U n j) l d := by unfold okHi; exact decide_eq_true_iff
theorem okLo_iff {n : Nat} {D L : Nat → Int} {l d : Int} : okLo n D L l d = true ↔ 0 < overV n D (fun j => rmax L j) l d := by unfold okLo; exact decide_eq_true_iff
def dFrom (n : Nat) (D U : Nat → Int) (l : Int) : Int := firstT (okHi n D U l) (D 0) (D (n - 1) + 1 - D 0).toNat
def dTo (n : Nat) (D L : Nat → Int) (l : Int) : Int := firstT (okLo n D L l) (D 0) (D (n - 1) + 1 - D 0).toNat
theorem rmax_mono (f : Nat → Int) (i : Nat) : rmax f i ≤ rmax f (i + 1) := by simp only [rmax]; omega
theorem rmin_mono (f : Nat → Int) {n i : Nat} (h : i + 1 < n) : rmin f n i ≤ rmin f n (i + 1) := by rw [rmin_step f h]; omega
section
variable {n : Nat} {D L U : Nat → Int} {pr l : Int}
theorem dFrom_iff (t : TankOk n D L U pr) (d : Int) (h1 : D 0 ≤ d) (h2 : d ≤ D (n - 1)) : okHi n D U l d = decide (dFrom n D U l ≤ d) := by
  have hm : ∀ d e, D 0 ≤ d → d ≤ e → e ≤ D (n - 1) → okHi n D U l d = true → okHi n D U l e = true := fun d e g1 g2 g3 h => by
    rw [okHi_iff] at h ⊢
    exact (over_mono (A := fun j => rmin U n j) (l := l) t (fun i hi => rmin_mono U hi) g1 g2 g3).1 h
  have h3 : D 0 ≤ D (n - 1) + 1 := by omega
  exact firstT_iff (p := okHi n D U l) (lo := D 0) (hi := D (n - 1)) h3 hm d h1 h2
theorem dTo_iff (t : TankOk n D L U pr) (d : Int) (h1 : D 0 ≤ d) (h2 : d ≤ D (n - 1)) : okLo n D L l d = decide (dTo n D L l ≤ d) := by
  have hm : ∀ d e, D 0 ≤ d → d ≤ e → e ≤ D (n - 1) → okLo n D L l d = true → okLo n D L l e = true := fun d e g1 g2 g3 h => by
    rw [okLo_iff] at h ⊢
    exact (over_mono (A := fun j => rmax L j) (l := l) t (fun i hi => rmax_mono L i) g1 g2 g3).2 h
  have h3 : D 0 ≤ D (n - 1) + 1 := by omega
  exact firstT_iff (p := okLo n D L l) (lo := D 0) (hi := D (n - 1)) h3 hm d h1 h2
theorem dFrom_rng (t : TankOk n D L U pr) : D 0 ≤ dFrom n D U l ∧ dFrom n D U l ≤ D (n - 1) + 1 := by
  have := t.mono 0 (n - 1) (by omega) (by have := t.n2; omega)
  unfold dFrom
  obtain ⟨g1, g2, _⟩ := firstT_spec (okHi n D U l) (D (n - 1) + 1 - D 0).toNat (D 0)
  generalize firstT _ _ _ = r at *
  omega
theorem dTo_rng (t : TankOk n D L U pr) : D 0 ≤ dTo n D L l ∧ dTo n D L l ≤ D (n - 1) + 1 := by
  have := t.mono 0 (n - 1) (by omega) (by have := t.n2; omega)
  unfold dTo
  obtain ⟨g1, g2, _⟩ := firstT_spec (okLo n D L l) (D (n - 1) + 1 - D 0).toNat (D 0)
  generalize firstT _ _ _ = r at *
  omega
end
/-- what Dips answers -/
def dipsV (n : Nat) (D L U : Nat → Int) (pr l : Int) : Value :=
  if tankE n D L U pr ≠ 0 then rgV 0 0 (tankE n D L U pr)
  else if l < 0 ∨ 100000 < l then rgV 0 0 3
  else if tightOk n (rowA n L U) = false then rgV 0 0 21
  else if dTo n D L l ≤ dFrom n D U l then rgV 0 0 17
  else rgV (dFrom n D U l) (dTo n D L l - 1) 0
theorem dipsV_form {n : Nat} {D L U : Nat → Int} {pr l : Int} : ∃ a b e, dipsV n D L U pr l = .tuple #[.agg #[.int .i64 a, .int .i64 b], .int .i64 e] := by
  unfold dipsV rgV
  split
  · exact ⟨_, _, _, rfl⟩
  · split
    · exact ⟨_, _, _, rfl⟩
    · split
      · exact ⟨_, _, _, rfl⟩
      · split <;> exact ⟨_, _, _, rfl⟩
theorem dipsV_flat {n : Nat} {D L U : Nat → Int} {pr l : Int} : flat (dipsV n D L U pr l) = true := by
  obtain ⟨a, b, e, h⟩ := dipsV_form (n := n) (D := D) (L := L) (U := U) (pr := pr) (l := l)
  rw [h]; rfl
theorem comV_form {l wl wh sl sh : Int} : ∃ a b c d e, comV l wl wh sl sh = .tuple #[.agg #[.int .i64 a, .int .i64 b, .int .i64 c, .int .i64 d], .int .i64 e] := by
  unfold comV spV
  split
  · exact ⟨_, _, _, _, _, rfl⟩
  · split
    · exact ⟨_, _, _, _, _, rfl⟩
    · unfold fracL
      exact ⟨_, _, _, _, _, rfl⟩
end Go.Proofs.Ytcocmbccfikmhaa
set_option linter.unusedSimpArgs false
set_option linter.unusedVariables false
namespace Go.Proofs.Ytcocmbccfikmhaa
open Go.Sym
theorem sz92 : tsz Try.prog 92 = some 1 := by kernel_rfl
theorem tg92 : tagg Try.prog 92 = some false := by kernel_rfl
theorem ld92 {I : Nat → Option Obj} {id off : Nat} {h : H} : aload Try.prog I 92 (.pointer (some ⟨id, off, none⟩)) h = ld1 (rdl I h id off 1) := by unfold aload ld1; simp only [tg92]; rcases rdl I h id off 1 with _ | _ | _ <;> rfl
theorem st92 {id off : Nat} {h : H} {f : Fn} {a b : Array Value} : astore Try.prog 92 (.pointer (some ⟨id, off, none⟩)) (.func f a b) h = wrl h id off [(.func f a b)] := by unfold astore; simp only [sz92]; rfl
theorem az92 {h : H} : allocV (tzero Try.prog 92) 92 h = some (nptr h, h ++ [.cells ([Value.nilFunc]) 92]) := by
  have e : tzero Try.prog 92 = some (Value.nilFunc) := by kernel_rfl
  rw [e]; exact allocV_eq (by kernel_rfl)
theorem oi_none : optInt none = some none := rfl
theorem oi_some {k : IntKind} {a : Int} : optInt (some (.int k a)) = some (some a) := rfl
theorem Sees.of_arr {I : Nat → Option Obj} {h : H} {id n N c : Nat} {e : TypeId} {x : Nat → Int} (hn : n ≤ 9223372036854775807) (hN : n ≤ N) (hg : h.get id = some (.cells (arrL N x) e)) : Sees I h (.slice (some ⟨id, 0, none⟩) n c) n x := by
  refine ⟨_, _, rfl, hn, fun h0 => ⟨id, 0, rfl, fun i hi => ?_⟩⟩
  rw [rd_at hg, rdB_cells (by rw [arrL_length]; omega), Nat.zero_add, arrL_part N x (by omega)]
theorem sl81 {id n : Nat} {h : H} (hn : n ≤ 16) : aslice Try.prog 81 (.pointer (some ⟨id, 0, none⟩)) none (some (n : Int)) none h = some (.slice (some ⟨id, 0, none⟩) n 16) := by
  have e1 : Try.prog.underlying 81 = some (.array 16 2) := by kernel_rfl
  have e2 : tsz Try.prog 2 = some 1 := by kernel_rfl
  have e3 : (0 : Int) ≤ (n : Int) ∧ (n : Int) ≤ ((16 : Nat) : Int) := ⟨by omega, by omega⟩
  have e4 : abounds 16 16 none (some (n : Int)) none = some (0, n, 16) := by
    unfold abounds
    simp only [Option.bind_some, e3, and_self, if_true, Option.map_some, Int.toNat_natCast]
  unfold aslice
  simp only [e1, e4, e2, Option.bind_some, Option.map_some]
  rw [if_pos (by decide)]
  simp

def muD (s : St) : Nat := match s.tm.getD 0 undef, s.tm.getD 1 undef with
  | .int _ a, .int _ b => (b + 1 - a).toNat
  | _, _ => 0
set_option maxRecDepth 100000 in
set_option maxHeartbeats 4000000 in
theorem halve52 (I : Nat → Option Obj) {h : H} {g : FuncId} {cap : Array Value} {lo hi r : Int} (hlo : -1000000 ≤ lo ∧ hi ≤ 1000000) (hr : lo ≤ r ∧ r ≤ hi + 1)
    (hg : ∀ d, lo ≤ d → d ≤ hi → Snd Try.prog I (.func g) (.int .i64 d :: cap.toList) h (.bool (decide (r ≤ d))) h) :
    Snd Try.prog I (.func 52) [.int .i64 lo, .int .i64 hi, .func (.func g) #[] cap] h (.int .i64 r) h := by
  refine Snd_run (rs := [.tmp 6]) 600 Try.func52 (by kernel_rfl) rfl Try.ntmps52 rfl ?_
  simp -implicitDefEqProofs only [sB, Nat.reduceAdd, Nat.reduceSub, yieldL, popK, flat, nptr, Value.cells, H.new, eq_self, Int.reduceEq, Int.reduceLT, Int.reduceLE, Nat.reduceEqDiff, Nat.reduceLeDiff, thenQ, ContK, ty2, ty3, ty4, ty5, ty94, Bool.not_true, Bool.not_false, decide_true, decide_false, if_true, if_false, unk1, oi_none, oi_some, Option.map_none, sliceV_some, ld92, st92, az92]
  obtain ⟨Ja, hJa⟩ : ∃ J : St → Prop, J = fun s => ∃ (a : Int) (b : Int), s.df = [] ∧ s.h = h ∧ s.tm.length = 25 ∧ s.tm.getD 0 undef = .int .i64 a ∧ s.tm.getD 1 undef = .int .i64 b ∧ s.tm.getD 2 undef = .func (.func g) #[] cap ∧ s.tm.getD 6 undef = .int .i64 0 ∧ (lo ≤ a ∧ a ≤ r ∧ r ≤ b + 1 ∧ b ≤ hi) := ⟨_, rfl⟩
  refine Loop_run (by kernel_rfl) 600 Ja (muD) (by rw [hJa]; exact ⟨lo, hi, rfl, rfl, rfl, rfl, rfl, rfl, rfl, ⟨by omega, by omega, by omega, by omega⟩⟩) ?_
  intro sa hsa
  rw [hJa] at hsa
  obtain ⟨tma, dfa, hha⟩ := sa
  obtain ⟨a, b, ea1, ea2, ea3, la0, la1, la2, la6, hab⟩ := hsa
  simp only at ea1 ea2 ea3 la0 la1 la2 la6
  subst dfa; subst hha
  have elita : tma = [.int .i64 a, .int .i64 b, .func (.func g) #[] cap, tma.getD 3 undef, tma.getD 4 undef, tma.getD 5 undef, .int .i64 0, tma.getD 7 undef, tma.getD 8 undef, tma.getD 9 undef, tma.getD 10 undef, tma.getD 11 undef, tma.getD 12 undef, tma.getD 13 undef, tma.getD 14 undef, tma.getD 15 undef, tma.getD 16 undef, tma.getD 17 undef, tma.getD 18 undef, tma.getD 19 undef, tma.getD 20 undef, tma.getD 21 undef, tma.getD 22 undef, tma.getD 23 undef, tma.getD 24 undef] := by
    have e0 := lit_eq ea3
    have er : List.range 25 = [0, 1, 2, 3, 4, 5, 6, 7, 8, 9, 10, 11, 12, 13, 14, 15, 16, 17, 18, 19, 20, 21, 22, 23, 24] := by rfl
    rw [er] at e0
    simp only [List.map_cons, List.map_nil, la0, la1, la2, la6] at e0
    exact e0
  rw [elita]
  clear la0
  clear la1
  clear la2
  clear la6
  clear elita ea3
  by_cases c1 : a ≤ b
  · have m1 : a ≤ a + (b - a).tdiv 2 ∧ a + (b - a).tdiv 2 ≤ b := by
      rw [Int.tdiv_eq_ediv_of_nonneg (by omega)]; omega
    have w1 : IntKind.i64.wrap (b - a) = b - a := wrap_i64 (by omega) (by omega)
    have w2 : IntKind.i64.wrap ((b - a).tdiv 2) = (b - a).tdiv 2 := wrap_i64 (by omega) (by omega)
    have w3 : IntKind.i64.wrap (a + (b - a).tdiv 2) = a + (b - a).tdiv 2 := wrap_i64 (by omega) (by omega)
    generalize hm : a + (b - a).tdiv 2 = m at *
    have w4 : IntKind.i64.wrap (m - 1) = m - 1 := wrap_i64 (by omega) (by omega)
    have w5 : IntKind.i64.wrap (m + 1) = m + 1 := wrap_i64 (by omega) (by omega)
    have hgm := hg m (by omega) (by omega)
    simp -implicitDefEqProofs only [sB, Nat.reduceAdd, Nat.reduceSub, yieldL, popK, flat, nptr, Value.cells, H.new, eq_self, Int.reduceEq, Int.reduceLT, Int.reduceLE, Nat.reduceEqDiff, Nat.reduceLeDiff, thenQ, ContK, ty2, ty3, ty4, ty5, ty94, Bool.not_true, Bool.not_false, decide_true, decide_false, if_true, if_false, unk1, oi_none, oi_some, Option.map_none, sliceV_some, ld92, st92, az92, bin_quo2, c1, w1, w2, hm, w3]
    refine RunCall_of hgm ?_
    by_cases c2 : r ≤ m
    · simp -implicitDefEqProofs only [sB, Nat.reduceAdd, Nat.reduceSub, yieldL, popK, flat, nptr, Value.cells, H.new, eq_self, Int.reduceEq, Int.reduceLT, Int.reduceLE, Nat.reduceEqDiff, Nat.reduceLeDiff, thenQ, ContK, ty2, ty3, ty4, ty5, ty94, Bool.not_true, Bool.not_false, decide_true, decide_false, if_true, if_false, unk1, oi_none, oi_some, Option.map_none, sliceV_some, ld92, st92, az92, c2, w4]
      refine ⟨by rw [hJa]; exact ⟨a, m - 1, rfl, rfl, rfl, rfl, rfl, rfl, rfl, ⟨by omega, by omega, by omega, by omega⟩⟩, ?_⟩
      show (m - 1 + 1 - a).toNat < (b + 1 - a).toNat
      omega
    · simp -implicitDefEqProofs only [sB, Nat.reduceAdd, Nat.reduceSub, yieldL, popK, flat, nptr, Value.cells, H.new, eq_self, Int.reduceEq, Int.reduceLT, Int.reduceLE, Nat.reduceEqDiff, Nat.reduceLeDiff, thenQ, ContK, ty2, ty3, ty4, ty5, ty94, Bool.not_true, Bool.not_false, decide_true, decide_false, if_true, if_false, unk1, oi_none, oi_some, Option.map_none, sliceV_some, ld92, st92, az92, c2, w5]
      refine ⟨by rw [hJa]; exact ⟨m + 1, b, rfl, rfl, rfl, rfl, rfl, rfl, rfl, ⟨by omega, by omega, by omega, by omega⟩⟩, ?_⟩
      show (b + 1 - (m + 1)).toNat < (b + 1 - a).toNat
      omega
  · have e : a = r := by omega
    subst e
    simp -implicitDefEqProofs only [sB, Nat.reduceAdd, Nat.reduceSub, yieldL, popK, flat, nptr, Value.cells, H.new, eq_self, Int.reduceEq, Int.reduceLT, Int.reduceLE, Nat.reduceEqDiff, Nat.reduceLeDiff, thenQ, ContK, ty2, ty3, ty4, ty5, ty94, Bool.not_true, Bool.not_false, decide_true, decide_false, if_true, if_false, unk1, oi_none, oi_some, Option.map_none, sliceV_some, ld92, st92, az92, c1]
set_option maxRecDepth 100000 in
set_option maxHeartbeats 4000000 in
theorem over51 (I : Nat → Option Obj) {h : H} {v : Value} {n pg p2 p3 p7 : Nat} {D L U A : Nat → Int} {pr l dip : Int} {lo hi : Nat → Int} (hv : Rows I v n D L U) (t : TankOk n D L U pr) (hA : ∀ i, i < n → 0 ≤ A i ∧ A i ≤ 100000) (hl : 0 ≤ l ∧ l ≤ 100000) (hd : D 0 ≤ dip ∧ dip ≤ D (n - 1))
    (h7 : h.get p7 = some (.cells [.pointer (some ⟨pg, 0, none⟩)] 78)) (h2 : h.get p2 = some (.cells [v, .int .i64 pr] 24)) (h3 : h.get p3 = some (.cells [.int .i64 l] 2)) (hg : h.get pg = some (.cells (gaugeL v pr lo hi) 90)) :
    Snd Try.prog I (.func 51) [.agg (arrL 16 A).toArray, .int .i64 dip, .pointer (some ⟨p7, 0, none⟩), .pointer (some ⟨p2, 0, none⟩), .pointer (some ⟨p3, 0, none⟩)] h (.int .i64 (overV n D A l dip)) h := by
  have hv0 := hv
  have n2 := t.n2
  have n16 := t.n16
  have d0 := t.dip 0 (by omega)
  have d1 := t.dip (n - 1) (by omega)
  obtain ⟨q, c, rfl, hn, hq⟩ := hv
  have hprod : ∀ k, k < n → 0 ≤ weighW n D dip k * A k ∧ weighW n D dip k * A k ≤ 4000 * 100000 := fun k hk => mul_rng (weighW_rng t hd k) (hA k hk)
  have hsum := sumTo_le (w := weighW n D dip) (x := A) (B := 4000 * 100000) (n := n) (fun k hk => by have := hprod k hk; omega) n (Nat.le_refl _)
  have hw := weighD_rng (dip := dip) t
  have hm := mul_rng (a := weighD n D dip) (b := l) ⟨by omega, hw.2⟩ hl
  have w1 : IntKind.i64.wrap (weighD n D dip * l) = weighD n D dip * l := wrap_i64 (by omega) (by omega)
  have w2 : IntKind.i64.wrap (sumTo (weighW n D dip) A n - weighD n D dip * l) = sumTo (weighW n D dip) A n - weighD n D dip * l := wrap_i64 (by omega) (by omega)
  refine Snd_run0 (rs := [.tmp 7]) 600 Try.func51 (by kernel_rfl) rfl Try.ntmps51 rfl rfl ?_
  simp -implicitDefEqProofs only [sB, Nat.reduceAdd, Nat.reduceSub, yieldL, popK, flat, nptr, Value.cells, H.new, eq_self, Int.reduceEq, Int.reduceLT, Int.reduceLE, Nat.reduceEqDiff, Nat.reduceLeDiff, thenQ, ContK, ty2, ty3, ty22, ty24, ty25, ty78, ty81, Bool.not_true, Bool.not_false, decide_true, decide_false, if_true, if_false, unk1, oi_none, oi_some, Option.map_none, sliceV_some, ld92, st92, az92, rd_at_app h7]
  refine RunCall_of (weigh42 (lo := lo) (hi := hi) I hv0 ⟨n2, n16⟩ t.dip ⟨by omega, by omega⟩ (H.get_append hg _)) ?_
  simp -implicitDefEqProofs only [sB, Nat.reduceAdd, Nat.reduceSub, yieldL, popK, flat, nptr, Value.cells, H.new, eq_self, Int.reduceEq, Int.reduceLT, Int.reduceLE, Nat.reduceEqDiff, Nat.reduceLeDiff, thenQ, ContK, ty2, ty3, ty22, ty24, ty25, ty78, ty81, sD, mixT, isAlloc, ridOf, blockOf, Bool.not_true, Bool.not_false, decide_true, decide_false, if_true, if_false, unk1, oi_none, oi_some, Option.map_none, sliceV_some, ld92, st92, az92, weighV, st81, sl81 n16, rd_at_app h2, rd_at_app h3]
  refine RunDC_quiet (sum44 I (x := A) (n := n) (Sees.of_arr (N := 16) (e := 81) (by omega) n16 (by rw [get_z]; rfl)) n16 (fun k hk => by have := hprod k hk; omega)) rfl ?_
  simp -implicitDefEqProofs only [sB, Nat.reduceAdd, Nat.reduceSub, yieldL, popK, flat, nptr, Value.cells, H.new, eq_self, Int.reduceEq, Int.reduceLT, Int.reduceLE, Nat.reduceEqDiff, Nat.reduceLeDiff, thenQ, ContK, ty2, ty3, ty22, ty24, ty25, ty78, ty81, sD, mixT, isAlloc, ridOf, blockOf, Bool.not_true, Bool.not_false, decide_true, decide_false, if_true, if_false, unk1, oi_none, oi_some, Option.map_none, sliceV_some, ld92, st92, az92, rd_at_app h3, w1, w2, rd_at_app h2]
  exact ⟨drawOk_ren (fun _ => 0) rfl (by kernel_rfl), ⟨_, rfl⟩, by unfold overV; rw [sum_weigh n2]⟩

set_option maxRecDepth 100000 in
set_option maxHeartbeats 4000000 in
theorem dips53 (I : Nat → Option Obj) {h : H} {v : Value} {n pg p2 p3 p7 p10 : Nat} {D L U : Nat → Int} {pr l dip : Int} {lo hi : Nat → Int} (hv : Rows I v n D L U) (t : TankOk n D L U pr) (hA : ∀ i, i < n → 0 ≤ hi i ∧ hi i ≤ 100000) (hl : 0 ≤ l ∧ l ≤ 100000) (hd : D 0 ≤ dip ∧ dip ≤ D (n - 1))
    (h7 : h.get p7 = some (.cells [.pointer (some ⟨pg, 0, none⟩)] 78)) (h2 : h.get p2 = some (.cells [v, .int .i64 pr] 24)) (h3 : h.get p3 = some (.cells [.int .i64 l] 2)) (hg : h.get pg = some (.cells (gaugeL v pr lo hi) 90)) (h10 : h.get p10 = some (.cells [.func (.func 51) #[] #[.pointer (some ⟨p7, 0, none⟩), .pointer (some ⟨p2, 0, none⟩), .pointer (some ⟨p3, 0, none⟩)]] 92)) :
    Snd Try.prog I (.func 53) [.int .i64 dip, .pointer (some ⟨p10, 0, none⟩), .pointer (some ⟨p7, 0, none⟩)] h (.bool (decide (0 ≤ overV n D hi l dip))) h := by
  refine Snd_run (rs := [.tmp 4]) 600 Try.func53 (by kernel_rfl) rfl Try.ntmps53 rfl ?_
  simp -implicitDefEqProofs only [sB, Nat.reduceAdd, Nat.reduceSub, yieldL, popK, flat, nptr, Value.cells, H.new, eq_self, Int.reduceEq, Int.reduceLT, Int.reduceLE, Nat.reduceEqDiff, Nat.reduceLeDiff, thenQ, ContK, ty2, ty4, ty78, ty81, ty90, sD, mixT, isAlloc, ridOf, blockOf, Bool.not_true, Bool.not_false, decide_true, decide_false, if_true, if_false, unk1, oi_none, oi_some, Option.map_none, sliceV_some, ld92, st92, az92, rd_at h7, rd_at hg, rd_at h10, rdG_his]
  refine RunDC_quiet (over51 I hv t hA hl hd h7 h2 h3 hg) rfl ?_
  simp -implicitDefEqProofs only [sB, Nat.reduceAdd, Nat.reduceSub, yieldL, popK, flat, nptr, Value.cells, H.new, eq_self, Int.reduceEq, Int.reduceLT, Int.reduceLE, Nat.reduceEqDiff, Nat.reduceLeDiff, thenQ, ContK, ty2, ty4, ty78, ty81, ty90, sD, mixT, isAlloc, ridOf, blockOf, Bool.not_true, Bool.not_false, decide_true, decide_false, if_true, if_false, unk1, oi_none, oi_some, Option.map_none, sliceV_some, ld92, st92, az92]
  exact drawOk_ren (fun _ => 0) rfl (by kernel_rfl)

set_option maxRecDepth 100000 in
set_option maxHeartbeats 4000000 in
theorem dips54 (I : Nat → Option Obj) {h : H} {v : Value} {n pg p2 p3 p7 p10 : Nat} {D L U : Nat → Int} {pr l dip : Int} {lo hi : Nat → Int} (hv : Rows I v n D L U) (t : TankOk n D L U pr) (hA : ∀ i, i < n → 0 ≤ lo i ∧ lo i ≤ 100000) (hl : 0 ≤ l ∧ l ≤ 100000) (hd : D 0 ≤ dip ∧ dip ≤ D (n - 1))
    (h7 : h.get p7 = some (.cells [.pointer (some ⟨pg, 0, none⟩)] 78)) (h2 : h.get p2 = some (.cells [v, .int .i64 pr] 24)) (h3 : h.get p3 = some (.cells [.int .i64 l] 2)) (hg : h.get pg = some (.cells (gaugeL v pr lo hi) 90)) (h10 : h.get p10 = some (.cells [.func (.func 51) #[] #[.pointer (some ⟨p7, 0, none⟩), .pointer (some ⟨p2, 0, none⟩), .pointer (some ⟨p3, 0, none⟩)]] 92)) :
    Snd Try.prog I (.func 54) [.int .i64 dip, .pointer (some ⟨p10, 0, none⟩), .pointer (some ⟨p7, 0, none⟩)] h (.bool (decide (0 < overV n D lo l dip))) h := by
  refine Snd_run (rs := [.tmp 4]) 600 Try.func54 (by kernel_rfl) rfl Try.ntmps54 rfl ?_
  simp -implicitDefEqProofs only [sB, Nat.reduceAdd, Nat.reduceSub, yieldL, popK, flat, nptr, Value.cells, H.new, eq_self, Int.reduceEq, Int.reduceLT, Int.reduceLE, Nat.reduceEqDiff, Nat.reduceLeDiff, thenQ, ContK, ty2, ty4, ty78, ty81, ty90, sD, mixT, isAlloc, ridOf, blockOf, Bool.not_true, Bool.not_false, decide_true, decide_false, if_true, if_false, unk1, oi_none, oi_some, Option.map_none, sliceV_some, ld92, st92, az92, rd_at h7, rd_at hg, rd_at h10, rdG_los]
  refine RunDC_quiet (over51 I hv t hA hl hd h7 h2 h3 hg) rfl ?_
  simp -implicitDefEqProofs only [sB, Nat.reduceAdd, Nat.reduceSub, yieldL, popK, flat, nptr, Value.cells, H.new, eq_self, Int.reduceEq, Int.reduceLT, Int.reduceLE, Nat.reduceEqDiff, Nat.reduceLeDiff, thenQ, ContK, ty2, ty4, ty78, ty81, ty90, sD, mixT, isAlloc, ridOf, blockOf, Bool.not_true, Bool.not_false, decide_true, decide_false, if_true, if_false, unk1, oi_none, oi_some, Option.map_none, sliceV_some, ld92, st92, az92]
  exact drawOk_ren (fun _ => 0) rfl (by kernel_rfl)
end Go.Proofs.Ytcocmbccfikmhaa
set_option linter.unusedSimpArgs false
set_option linter.unusedVariables false
namespace Go.Proofs.Ytcocmbccfikmhaa
open Go.Sym

set_option maxRecDepth 100000 in
set_option maxHeartbeats 4000000 in
theorem dips14 (I : Nat → Option Obj) {h : H} {v : Value} {n : Nat} {D L U : Nat → Int} {pr l : Int} (hv : Rows I v n D L U) (hcv : ∀ N, closedV (okN N) v = true) :
    Snd Try.prog I (.func 14) [.agg #[v, .int .i64 pr], .int .i64 l] h (dipsV n D L U pr l) h := by
  have hv0 := hv
  obtain ⟨q, c, rfl, hn, hq⟩ := hv
  refine Snd_run0 (rs := [.cell 4 34, .tmp 5]) 800 Try.func14 (by kernel_rfl) rfl Try.ntmps14 rfl dipsV_flat ?_
  simp -implicitDefEqProofs only [sB, Nat.reduceAdd, Nat.reduceSub, yieldL, popK, flat, nptr, Value.cells, H.new, eq_self, Int.reduceEq, Int.reduceLT, Int.reduceLE, Nat.reduceEqDiff, Nat.reduceLeDiff, thenQ, ContK, ty2, ty3, ty4, ty5, ty22, ty24, ty25, ty30, ty34, ty64, ty78, ty94, Bool.not_true, Bool.not_false, decide_true, decide_false, if_true, if_false, sl25_1, bs25_1, unk1, bl34, bl34_0, st34, ld92, st92, az92, len_assoc]
  refine RunCall_of (checkTank47 I hv0) ?_
  by_cases he : tankE n D L U pr = 0
  · have t := tank_ok he
    have n2 := t.n2
    have n16 := t.n16
    rw [he]
    simp -implicitDefEqProofs only [sB, Nat.reduceAdd, Nat.reduceSub, yieldL, popK, flat, nptr, Value.cells, H.new, eq_self, Int.reduceEq, Int.reduceLT, Int.reduceLE, Nat.reduceEqDiff, Nat.reduceLeDiff, thenQ, ContK, ty2, ty3, ty4, ty5, ty22, ty24, ty25, ty30, ty34, ty64, ty78, ty94, Bool.not_true, Bool.not_false, decide_true, decide_false, if_true, if_false, sl25_1, bs25_1, unk1, bl34, bl34_0, st34, ld92, st92, az92, len_assoc]
    refine RunCall_of (within40 I (Sees.one (k := 3) (c := 1) (e := 2) (a := l) rfl)) ?_
    by_cases hl : l < 0 ∨ 100000 < l
    · have hw : withinB 0 100000 1 (one1 l) = false := by rw [within_one]; simp; omega
      rw [hw]
      simp -implicitDefEqProofs only [sB, Nat.reduceAdd, Nat.reduceSub, yieldL, popK, flat, nptr, Value.cells, H.new, eq_self, Int.reduceEq, Int.reduceLT, Int.reduceLE, Nat.reduceEqDiff, Nat.reduceLeDiff, thenQ, ContK, ty2, ty3, ty4, ty5, ty22, ty24, ty25, ty30, ty34, ty64, ty78, ty94, Bool.not_true, Bool.not_false, decide_true, decide_false, if_true, if_false, sl25_1, bs25_1, unk1, bl34, bl34_0, st34, ld92, st92, az92, len_assoc]
      exact ⟨⟨_, rfl⟩, by unfold dipsV rgV; rw [if_neg (by rw [he]; simp), if_pos hl]⟩
    have hw : withinB 0 100000 1 (one1 l) = true := by rw [within_one]; simp; omega
    rw [hw]
    simp -implicitDefEqProofs only [sB, Nat.reduceAdd, Nat.reduceSub, yieldL, popK, flat, nptr, Value.cells, H.new, eq_self, Int.reduceEq, Int.reduceLT, Int.reduceLE, Nat.reduceEqDiff, Nat.reduceLeDiff, thenQ, ContK, ty2, ty3, ty4, ty5, ty22, ty24, ty25, ty30, ty34, ty64, ty78, ty94, Bool.not_true, Bool.not_false, decide_true, decide_false, if_true, if_false, sl25_1, bs25_1, unk1, bl34, bl34_0, st34, ld92, st92, az92, len_assoc]
    cases hok : tightOk n (rowA n L U) with
    | false =>
      have hE : openE n D L U pr 0 (fun _ => 0) = 21 := by
        unfold openE
        rw [if_neg (by rw [he]; simp), if_neg (by rw [show withinB (D 0) (D (n - 1)) 0 (fun _ => 0) = true from rfl]; simp), if_pos hok]
      have hop := fun h => open48_err I (h := h) (pr := pr) (x := fun _ => 0) hv0 hcv Sees.nil (by rw [hE]; simp)
      rw [hE] at hop
      refine RunCall_of (hop _) ?_
      simp -implicitDefEqProofs only [sB, Nat.reduceAdd, Nat.reduceSub, yieldL, popK, flat, nptr, Value.cells, H.new, eq_self, Int.reduceEq, Int.reduceLT, Int.reduceLE, Nat.reduceEqDiff, Nat.reduceLeDiff, thenQ, ContK, ty2, ty3, ty4, ty5, ty22, ty24, ty25, ty30, ty34, ty64, ty78, ty94, Bool.not_true, Bool.not_false, decide_true, decide_false, if_true, if_false, sl25_1, bs25_1, unk1, bl34, bl34_0, st34, ld92, st92, az92, len_assoc]
      exact ⟨⟨_, rfl⟩, by unfold dipsV rgV; rw [if_neg (by rw [he]; simp), if_neg hl, if_pos hok]⟩
    | true =>
    have hE : openE n D L U pr 0 (fun _ => 0) = 0 := by
      unfold openE
      rw [if_neg (by rw [he]; simp), if_neg (by rw [show withinB (D 0) (D (n - 1)) 0 (fun _ => 0) = true from rfl]; simp), if_neg (by rw [hok]; simp)]
    obtain ⟨id, off, rfl, hr⟩ := hq (by omega)
    have hw1 : IntKind.i64.wrap ((n : Int) - 1) = ((n - 1 : Nat) : Int) := by rw [wrap_i64 (by omega) (by omega)]; omega
    have h00 : (0 : Int) ≤ 0 ∧ (0 : Int) < (n : Int) := ⟨by omega, by omega⟩
    have h01 : (0 : Int) ≤ ((n - 1 : Nat) : Int) ∧ ((n - 1 : Nat) : Int) < (n : Int) := ⟨by omega, by omega⟩
    have r0 := fun h => row_D (hr h 0 (by omega))
    have r1 := fun h => row_D (hr h (n - 1) (by omega))
    simp only [Nat.zero_mul, Nat.add_zero] at r0
    have hop := fun h => open48_ok I (h := h) (pr := pr) (x := fun _ => 0) hv0 hcv Sees.nil hE
    refine RunCall_of (hop _) ?_
    simp -implicitDefEqProofs only [sB, Nat.reduceAdd, Nat.reduceSub, yieldL, popK, flat, nptr, Value.cells, H.new, eq_self, Int.reduceEq, Int.reduceLT, Int.reduceLE, Nat.reduceEqDiff, Nat.reduceLeDiff, thenQ, ContK, ty2, ty3, ty4, ty5, ty22, ty24, ty25, ty30, ty34, ty64, ty78, ty94, sD, mixT, isAlloc, ridOf, blockOf, Bool.not_true, Bool.not_false, decide_true, decide_false, if_true, if_false, sl25_1, bs25_1, unk1, bl34, bl34_0, st34, ld92, st92, az92, len_assoc, hw1, h00, h01, r0, r1, Int.toNat_zero, Nat.zero_mul]
    refine ⟨drawOk_ren (fun _ => 0) rfl (by kernel_rfl), ?_⟩
    obtain ⟨k0, hk0⟩ : ∃ x, x = h.length := ⟨_, rfl⟩
    have f1 := dFrom_rng (l := l) t
    have f2 := dTo_rng (l := l) t
    have d0 := t.dip 0 (by omega)
    have d1 := t.dip (n - 1) (by omega)
    have w1 : IntKind.i64.wrap (dTo n D L l - 1) = dTo n D L l - 1 := wrap_i64 (by omega) (by omega)
    refine RunCall_of (halve52 I (r := dFrom n D U l) ⟨by omega, by omega⟩ ⟨by omega, by omega⟩ (fun d h1 h2 => ?_)) ?_
    · have hs := fun h e1 e2 e3 e4 e5 => dips53 I (h := h) (p2 := 2 * k0) (p3 := 2 * (k0 + 1)) (p7 := 2 * (k0 + 7)) (p10 := 2 * (k0 + 8)) (pg := 2 * (k0 + 6)) (dip := d) (l := l) (lo := (tightA n (rowA n L U)).1) (hi := (tightA n (rowA n L U)).2) hv0 t (fun i hi => (tightA_rng t hi).2) ⟨by omega, by omega⟩ ⟨h1, h2⟩ e1 e2 e3 e4 e5
      rw [over_congr (B := fun j => rmin U n j) n2 (fun i hi => tightA_2 hi), show decide (0 ≤ overV n D (fun j => rmin U n j) l d) = okHi n D U l d from rfl, dFrom_iff t d h1 h2, hk0] at hs
      exact hs _ (by rw [get_k]; rfl) (by rw [get_z]; rfl) (by rw [get_k]; rfl) (by rw [get_k]; rfl) (by rw [get_k]; rfl)
    simp -implicitDefEqProofs only [sB, Nat.reduceAdd, Nat.reduceSub, yieldL, popK, flat, nptr, Value.cells, H.new, eq_self, Int.reduceEq, Int.reduceLT, Int.reduceLE, Nat.reduceEqDiff, Nat.reduceLeDiff, thenQ, ContK, ty2, ty3, ty4, ty5, ty22, ty24, ty25, ty30, ty34, ty64, ty78, ty94, Bool.not_true, Bool.not_false, decide_true, decide_false, if_true, if_false, sl25_1, bs25_1, unk1, bl34, bl34_0, st34, ld92, st92, az92, len_assoc]
    refine RunCall_of (halve52 I (r := dTo n D L l) ⟨by omega, by omega⟩ ⟨by omega, by omega⟩ (fun d h1 h2 => ?_)) ?_
    · have hs := fun h e1 e2 e3 e4 e5 => dips54 I (h := h) (p2 := 2 * k0) (p3 := 2 * (k0 + 1)) (p7 := 2 * (k0 + 7)) (p10 := 2 * (k0 + 8)) (pg := 2 * (k0 + 6)) (dip := d) (l := l) (lo := (tightA n (rowA n L U)).1) (hi := (tightA n (rowA n L U)).2) hv0 t (fun i hi => (tightA_rng t hi).1) ⟨by omega, by omega⟩ ⟨h1, h2⟩ e1 e2 e3 e4 e5
      rw [over_congr (B := fun j => rmax L j) n2 (fun i hi => tightA_1 hi), show decide (0 < overV n D (fun j => rmax L j) l d) = okLo n D L l d from rfl, dTo_iff t d h1 h2, hk0] at hs
      exact hs _ (by rw [get_k]; rfl) (by rw [get_z]; rfl) (by rw [get_k]; rfl) (by rw [get_k]; rfl) (by rw [get_k]; rfl)
    by_cases c1 : dTo n D L l ≤ dFrom n D U l
    · have c2 : dTo n D L l - 1 < dFrom n D U l := by omega
      simp -implicitDefEqProofs only [sB, Nat.reduceAdd, Nat.reduceSub, yieldL, popK, flat, nptr, Value.cells, H.new, eq_self, Int.reduceEq, Int.reduceLT, Int.reduceLE, Nat.reduceEqDiff, Nat.reduceLeDiff, thenQ, ContK, ty2, ty3, ty4, ty5, ty22, ty24, ty25, ty30, ty34, ty64, ty78, ty94, Bool.not_true, Bool.not_false, decide_true, decide_false, if_true, if_false, sl25_1, bs25_1, unk1, bl34, bl34_0, st34, ld92, st92, az92, len_assoc, w1, c2]
      exact ⟨⟨_, rfl⟩, by unfold dipsV rgV; rw [if_neg (by rw [he]; simp), if_neg hl, if_neg (by rw [hok]; simp), if_pos c1]⟩
    · have c2 : ¬ dTo n D L l - 1 < dFrom n D U l := by omega
      simp -implicitDefEqProofs only [sB, Nat.reduceAdd, Nat.reduceSub, yieldL, popK, flat, nptr, Value.cells, H.new, eq_self, Int.reduceEq, Int.reduceLT, Int.reduceLE, Nat.reduceEqDiff, Nat.reduceLeDiff, thenQ, ContK, ty2, ty3, ty4, ty5, ty22, ty24, ty25, ty30, ty34, ty64, ty78, ty94, Bool.not_true, Bool.not_false, decide_true, decide_false, if_true, if_false, sl25_1, bs25_1, unk1, bl34, bl34_0, st34, ld92, st92, az92, len_assoc, w1, c2]
      exact ⟨⟨_, rfl⟩, by unfold dipsV rgV; rw [if_neg (by rw [he]; simp), if_neg hl, if_neg (by rw [hok]; simp), if_neg c1]⟩
  · simp -implicitDefEqProofs only [sB, Nat.reduceAdd, Nat.reduceSub, yieldL, popK, flat, nptr, Value.cells, H.new, eq_self, Int.reduceEq, Int.reduceLT, Int.reduceLE, Nat.reduceEqDiff, Nat.reduceLeDiff, thenQ, ContK, ty2, ty3, ty4, ty5, ty22, ty24, ty25, ty30, ty34, ty64, ty78, ty94, Bool.not_true, Bool.not_false, decide_true, decide_false, if_true, if_false, sl25_1, bs25_1, unk1, bl34, bl34_0, st34, ld92, st92, az92, len_assoc, he]
    exact ⟨⟨_, rfl⟩, by unfold dipsV rgV; rw [if_pos he]⟩
end Go.Proofs.Ytcocmbccfikmhaa
set_option linter.unusedSimpArgs false
set_option linter.unusedVariables false
namespace Go.Proofs.Ytcocmbccfikmhaa
open Go.Sym
theorem sl25_l {k : IntKind} {a : Int} : sliceLit Try.prog 25 1 [(0, .int k a)] = some ([.int k a], 2) := by kernel_rfl
set_option maxRecDepth 100000 in
theorem app25 {I : Nat → Option Obj} {h X : H} {q m p : Nat} {f : Nat → Int} (hk : m ≠ 0 → X[q]? = some (.row (arrL m f) 2 1)) (hp : X[p]? = some (.cells [.int .i64 (f m)] 2)) (hm : m < 1000) :
    abi2 Try.prog I .append #[25, 25] 25 [slA (2 * (h.length + q)) m, .slice (some ⟨2 * (h.length + p), 0, none⟩) 1 1] (h ++ X) = some (slA (2 * (h.length + X.length)) (m + 1), h ++ (killL m X q ++ [.row (arrL (m + 1) f) 2 1])) := by
  have e3 : tbytes Try.prog 2 = some 8 := by kernel_rfl
  have e4 : tzero Try.prog 2 = some (.int .i64 0) := by kernel_rfl
  have e5 : rdS I (h ++ X) 1 (.slice (some ⟨2 * (h.length + p), 0, none⟩) 1 1) = some (1, [.int .i64 (f m)]) := by
    unfold rdS; simp only; rw [rd_k, hp, rdB_cells (by simp)]; rfl
  rw [← arrL_snoc]
  exact aappend_row un25 sz2 e3 e4 ⟨rfl, by omega, by omega⟩ hk (fun h => by subst h; rfl) (by rw [arrL_length]; omega) e5 rfl (by omega)
def muX (j : Nat) (e : Int) (s : St) : Nat := match s.tm.getD j undef with | .int _ d => (e - d).toNat | _ => 0
def dFnd (n : Nat) (D L U : Nat → Int) (l d : Int) : Bool := decide (dFrom n D U l < d ∧ dFrom n D U l < dTo n D L l)
def dLo (n : Nat) (D L U : Nat → Int) (l d : Int) : Int := if dFrom n D U l < d ∧ dFrom n D U l < dTo n D L l then dFrom n D U l else 0
def dHi (n : Nat) (D L U : Nat → Int) (l d : Int) : Int := if dFrom n D U l < d ∧ dFrom n D U l < dTo n D L l then min d (dTo n D L l) - 1 else 0
theorem pIx_wd {n : Nat} {D L U : Nat → Int} {pr dip : Int} (t : TankOk n D L U pr) : 0 < belRd n D dip ∧ belRd n D dip ≤ 4000 := by
  have n2 := t.n2
  obtain ⟨p1, p2, p3⟩ := pIx_spec (n := n) (D := D) (dip := dip) n2
  unfold belRd
  have := t.lt (pIx n D dip) (pIx n D dip + 1) (by omega) (by omega)
  have := t.dip (pIx n D dip) (by omega)
  have := t.dip (pIx n D dip + 1) (by omega)
  omega

set_option maxRecDepth 100000 in
set_option maxHeartbeats 4000000 in
theorem dips15 (I : Nat → Option Obj) {h : H} {v : Value} {n : Nat} {D L U : Nat → Int} {pr l : Int} (hv : Rows I v n D L U) :
    Snd Try.prog I (.func 15) [.agg #[v, .int .i64 pr], .int .i64 l] h (dipsV n D L U pr l) h := by
  have hv0 := hv
  obtain ⟨q, c, rfl, hn, hq⟩ := hv
  refine Snd_run0 (rs := [.cell 4 34, .tmp 5]) 900 Try.func15 (by kernel_rfl) rfl Try.ntmps15 rfl dipsV_flat ?_
  simp -implicitDefEqProofs only [sB, Nat.reduceAdd, Nat.reduceSub, yieldL, popK, flat, nptr, Value.cells, H.new, eq_self, Int.reduceEq, Int.reduceLT, Int.reduceLE, Nat.reduceEqDiff, Nat.reduceLeDiff, thenQ, ContK, ty2, ty3, ty4, ty5, ty22, ty24, ty25, ty30, ty34, ty51, ty64, Bool.not_true, Bool.not_false, decide_true, decide_false, if_true, if_false, unk1, bl34, bl34_0, st34, len_assoc]
  refine RunCall_of (checkTank30 I hv0) ?_
  by_cases he : tankE n D L U pr = 0
  · have t := tank_ok he
    have n2 := t.n2
    have n16 := t.n16
    rw [he]
    by_cases hl1 : l < 0
    · simp -implicitDefEqProofs only [sB, Nat.reduceAdd, Nat.reduceSub, yieldL, popK, flat, nptr, Value.cells, H.new, eq_self, Int.reduceEq, Int.reduceLT, Int.reduceLE, Nat.reduceEqDiff, Nat.reduceLeDiff, thenQ, ContK, ty2, ty3, ty4, ty5, ty22, ty24, ty25, ty30, ty34, ty51, ty64, Bool.not_true, Bool.not_false, decide_true, decide_false, if_true, if_false, unk1, bl34, bl34_0, st34, len_assoc, hl1]
      exact ⟨⟨_, rfl⟩, by unfold dipsV rgV; rw [if_neg (by rw [he]; simp), if_pos (.inl hl1)]⟩
    by_cases hl2 : 100000 < l
    · simp -implicitDefEqProofs only [sB, Nat.reduceAdd, Nat.reduceSub, yieldL, popK, flat, nptr, Value.cells, H.new, eq_self, Int.reduceEq, Int.reduceLT, Int.reduceLE, Nat.reduceEqDiff, Nat.reduceLeDiff, thenQ, ContK, ty2, ty3, ty4, ty5, ty22, ty24, ty25, ty30, ty34, ty51, ty64, Bool.not_true, Bool.not_false, decide_true, decide_false, if_true, if_false, unk1, bl34, bl34_0, st34, len_assoc, hl1, hl2]
      exact ⟨⟨_, rfl⟩, by unfold dipsV rgV; rw [if_neg (by rw [he]; simp), if_pos (.inr hl2)]⟩
    have hl : ¬ (l < 0 ∨ 100000 < l) := by omega
    have hcl := tight_iff t
    simp -implicitDefEqProofs only [sB, Nat.reduceAdd, Nat.reduceSub, yieldL, popK, flat, nptr, Value.cells, H.new, eq_self, Int.reduceEq, Int.reduceLT, Int.reduceLE, Nat.reduceEqDiff, Nat.reduceLeDiff, thenQ, ContK, ty2, ty3, ty4, ty5, ty22, ty24, ty25, ty30, ty34, ty51, ty64, Bool.not_true, Bool.not_false, decide_true, decide_false, if_true, if_false, unk1, bl34, bl34_0, st34, len_assoc, hl1, hl2]
    refine RunCall_of (clashes49 I hv0 t) ?_
    cases hc : (clashP n L U).isSome with
    | true =>
      have hok : tightOk n (rowA n L U) = false := by rw [hcl, hc]; rfl
      simp -implicitDefEqProofs only [sB, Nat.reduceAdd, Nat.reduceSub, yieldL, popK, flat, nptr, Value.cells, H.new, eq_self, Int.reduceEq, Int.reduceLT, Int.reduceLE, Nat.reduceEqDiff, Nat.reduceLeDiff, thenQ, ContK, ty2, ty3, ty4, ty5, ty22, ty24, ty25, ty30, ty34, ty51, ty64, Bool.not_true, Bool.not_false, decide_true, decide_false, if_true, if_false, unk1, bl34, bl34_0, st34, len_assoc]
      exact ⟨⟨_, rfl⟩, by unfold dipsV rgV; rw [if_neg (by rw [he]; simp), if_neg hl, if_pos hok]⟩
    | false =>
    have hok : tightOk n (rowA n L U) = true := by rw [hcl, hc]; rfl
    simp -implicitDefEqProofs only [sB, Nat.reduceAdd, Nat.reduceSub, yieldL, popK, flat, nptr, Value.cells, H.new, eq_self, Int.reduceEq, Int.reduceLT, Int.reduceLE, Nat.reduceEqDiff, Nat.reduceLeDiff, thenQ, ContK, ty2, ty3, ty4, ty5, ty22, ty24, ty25, ty30, ty34, ty51, ty64, Bool.not_true, Bool.not_false, decide_true, decide_false, if_true, if_false, unk1, bl34, bl34_0, st34, len_assoc]
    refine RunCall_of (tight50 I hv0 ⟨n2, n16⟩) ?_
    obtain ⟨id, off, rfl, hr⟩ := hq (by omega)
    have hix : ∀ B1 B2 B3 : Blk, (B1 :: B2 :: (List.replicate (3 * n) .dead ++ [B3]))[2 + 3 * n]? = some B3 := by
      intro B1 B2 B3
      have e : 2 + 3 * n = 3 * n + 1 + 1 := by omega
      rw [e, List.getElem?_cons_succ, List.getElem?_cons_succ, List.getElem?_append_right (by simp)]
      simp
    simp -implicitDefEqProofs only [sB, Nat.reduceAdd, Nat.reduceSub, yieldL, popK, flat, nptr, Value.cells, H.new, eq_self, Int.reduceEq, Int.reduceLT, Int.reduceLE, Nat.reduceEqDiff, Nat.reduceLeDiff, thenQ, ContK, ty2, ty3, ty4, ty5, ty22, ty24, ty25, ty30, ty34, ty51, ty64, Bool.not_true, Bool.not_false, decide_true, decide_false, if_true, if_false, unk1, bl34, bl34_0, st34, len_assoc]
    obtain ⟨Ja, hJa⟩ : ∃ J : St → Prop, J = fun s => ∃ (i : Nat) (T : H) (qa : Nat) (qb : Nat), s.df = [] ∧ s.h = h ++ T ∧ s.tm.length = 111 ∧ s.tm.getD 1 undef = .int .i64 l ∧ s.tm.getD 2 undef = .pointer (some ⟨2 * h.length, 0, none⟩) ∧ s.tm.getD 4 undef = .pointer (some ⟨2 * (h.length + 1), 0, none⟩) ∧ s.tm.getD 6 undef = slA (2 * (h.length + qa)) i ∧ s.tm.getD 7 undef = slA (2 * (h.length + qb)) i ∧ s.tm.getD 8 undef = .slice (some ⟨2 * (h.length + (2 + 3 * n)), 0, none⟩) n UNK ∧ s.tm.getD 9 undef = .int .i64 i ∧ (i ≤ n) ∧ (T[0]? = some (.cells [.slice (some ⟨id, off, none⟩) n c, .int .i64 pr] 24)) ∧ (T[1]? = some (.cells [.int .i64 0, .int .i64 0] 34)) ∧ (T[2 + 3 * n]? = some (.row (rcells (fun j => rmax L j) (fun j => rmin U n j) n) 34 2)) ∧ (i ≠ 0 → T[qa]? = some (.row (arrL i (fun j => rmax L j)) 2 1) ∧ T[qb]? = some (.row (arrL i (fun j => rmin U n j)) 2 1) ∧ qa ≠ qb ∧ 1 < qa ∧ 1 < qb ∧ qa ≠ 2 + 3 * n ∧ qb ≠ 2 + 3 * n) := ⟨_, rfl⟩
    refine Loop_run (by kernel_rfl) 900 Ja (muI 9 n) (by rw [hJa]; exact ⟨0, (.cells [.slice (some ⟨id, off, none⟩) n c, .int .i64 pr] 24 :: .cells [.int .i64 0, .int .i64 0] 34 :: (List.replicate (3 * n) .dead ++ [.row (rcells (fun j => rmax L j) (fun j => rmin U n j) n) 34 2])), 0, 0, rfl, rfl, rfl, rfl, rfl, rfl, rfl, rfl, rfl, rfl, Nat.zero_le _, rfl, rfl, hix _ _ _, fun h => absurd rfl h⟩) ?_
    intro sa hsa
    rw [hJa] at hsa
    obtain ⟨tma, dfa, hha⟩ := sa
    obtain ⟨i, T, qa, qb, ea1, ea2, ea3, la1, la2, la4, la6, la7, la8, la9, hi, h0, h1, hr2, hqa⟩ := hsa
    simp only at ea1 ea2 ea3 la1 la2 la4 la6 la7 la8 la9
    subst dfa; subst hha
    have elita : tma = [tma.getD 0 undef, .int .i64 l, .pointer (some ⟨2 * h.length, 0, none⟩), tma.getD 3 undef, .pointer (some ⟨2 * (h.length + 1), 0, none⟩), tma.getD 5 undef, slA (2 * (h.length + qa)) i, slA (2 * (h.length + qb)) i, .slice (some ⟨2 * (h.length + (2 + 3 * n)), 0, none⟩) n UNK, .int .i64 i, tma.getD 10 undef, tma.getD 11 undef, tma.getD 12 undef, tma.getD 13 undef, tma.getD 14 undef, tma.getD 15 undef, tma.getD 16 undef, tma.getD 17 undef, tma.getD 18 undef, tma.getD 19 undef, tma.getD 20 undef, tma.getD 21 undef, tma.getD 22 undef, tma.getD 23 undef, tma.getD 24 undef, tma.getD 25 undef, tma.getD 26 undef, tma.getD 27 undef, tma.getD 28 undef, tma.getD 29 undef, tma.getD 30 undef, tma.getD 31 undef, tma.getD 32 undef, tma.getD 33 undef, tma.getD 34 undef, tma.getD 35 undef, tma.getD 36 undef, tma.getD 37 undef, tma.getD 38 undef, tma.getD 39 undef, tma.getD 40 undef, tma.getD 41 undef, tma.getD 42 undef, tma.getD 43 undef, tma.getD 44 undef, tma.getD 45 undef, tma.getD 46 undef, tma.getD 47 undef, tma.getD 48 undef, tma.getD 49 undef, tma.getD 50 undef, tma.getD 51 undef, tma.getD 52 undef, tma.getD 53 undef, tma.getD 54 undef, tma.getD 55 undef, tma.getD 56 undef, tma.getD 57 undef, tma.getD 58 undef, tma.getD 59 undef, tma.getD 60 undef, tma.getD 61 undef, tma.getD 62 undef, tma.getD 63 undef, tma.getD 64 undef, tma.getD 65 undef, tma.getD 66 undef, tma.getD 67 undef, tma.getD 68 undef, tma.getD 69 undef, tma.getD 70 undef, tma.getD 71 undef, tma.getD 72 undef, tma.getD 73 undef, tma.getD 74 undef, tma.getD 75 undef, tma.getD 76 undef, tma.getD 77 undef, tma.getD 78 undef, tma.getD 79 undef, tma.getD 80 undef, tma.getD 81 undef, tma.getD 82 undef, tma.getD 83 undef, tma.getD 84 undef, tma.getD 85 undef, tma.getD 86 undef, tma.getD 87 undef, tma.getD 88 undef, tma.getD 89 undef, tma.getD 90 undef, tma.getD 91 undef, tma.getD 92 undef, tma.getD 93 undef, tma.getD 94 undef, tma.getD 95 undef, tma.getD 96 undef, tma.getD 97 undef, tma.getD 98 undef, tma.getD 99 undef, tma.getD 100 undef, tma.getD 101 undef, tma.getD 102 undef, tma.getD 103 undef, tma.getD 104 undef, tma.getD 105 undef, tma.getD 106 undef, tma.getD 107 undef, tma.getD 108 undef, tma.getD 109 undef, tma.getD 110 undef] := by
      have e0 := lit_eq ea3
      have er : List.range 111 = [0, 1, 2, 3, 4, 5, 6, 7, 8, 9, 10, 11, 12, 13, 14, 15, 16, 17, 18, 19, 20, 21, 22, 23, 24, 25, 26, 27, 28, 29, 30, 31, 32, 33, 34, 35, 36, 37, 38, 39, 40, 41, 42, 43, 44, 45, 46, 47, 48, 49, 50, 51, 52, 53, 54, 55, 56, 57, 58, 59, 60, 61, 62, 63, 64, 65, 66, 67, 68, 69, 70, 71, 72, 73, 74, 75, 76, 77, 78, 79, 80, 81, 82, 83, 84, 85, 86, 87, 88, 89, 90, 91, 92, 93, 94, 95, 96, 97, 98, 99, 100, 101, 102, 103, 104, 105, 106, 107, 108, 109, 110] := by rfl
      rw [er] at e0
      simp only [List.map_cons, List.map_nil, la1, la2, la4, la6, la7, la8, la9] at e0
      exact e0
    rw [elita]
    clear la1
    clear la2
    clear la4
    clear la6
    clear la7
    clear la8
    clear la9
    clear elita ea3
    by_cases hin : i < n
    · have i1 : (i : Int) < (n : Int) := by omega
      have i2 : (0 : Int) ≤ (i : Int) ∧ (i : Int) < (n : Int) := ⟨by omega, i1⟩
      have i4 := wrap_add1 (i := i) (by omega)
      have ri := rd_rcells (A := (fun j => rmax L j)) (B := (fun j => rmin U n j)) (e := 34) (sz := 2) (n := n) (j := i) hin
      have hqa1 : i ≠ 0 → qa < T.length := fun h => (List.getElem?_eq_some_iff.1 (hqa h).1).1
      have hqb1 : i ≠ 0 → qb < T.length := fun h => (List.getElem?_eq_some_iff.1 (hqa h).2.1).1
      have r2 : ∀ l : H, (T ++ l)[2 + 3 * n]? = some (.row (rcells (fun j => rmax L j) (fun j => rmin U n j) n) 34 2) := fun l => getElem?_app_lt hr2
      have r2' : ∀ l : H, (killL i T qa ++ l)[2 + 3 * n]? = some (.row (rcells (fun j => rmax L j) (fun j => rmin U n j) n) 34 2) := fun l => getElem?_app_lt (by
        by_cases hi0 : i = 0
        · rw [hi0]; exact hr2
        · rw [killL_get (hqa hi0).2.2.2.2.2.1.symm]; exact hr2)
      obtain ⟨wa, hwa, hwa2⟩ := apW_slA (q := 2 * (h.length + qa)) (n := i) (by omega) (2 * (h.length + (2 + 3 * n))) (by omega) (fun h => by have := (hqa h).2.2.2.2.2.1; omega)
      obtain ⟨wb, hwb, hwb2⟩ := apW_slA (q := 2 * (h.length + qb)) (n := i) (by omega) (2 * (h.length + (2 + 3 * n))) (by omega) (fun h => by have := (hqa h).2.2.2.2.2.2; omega)
      have hkl : i ≠ 0 → qb < (killL i T qa).length := fun h => by rw [killL_len]; exact hqb1 h
      have hA1 := app25 (I := I) (h := h) (X := T ++ [.cells [.int .i64 (rmax L i)] 2, .dead]) (q := qa) (m := i) (p := T.length) (f := (fun j => rmax L j)) (fun h => getElem?_app_lt (hqa h).1) (by simp) (by omega)
      have hA2 := app25 (I := I) (h := h) (X := killL i T qa ++ [.cells [.int .i64 (rmax L i)] 2, .cells [.int .i64 (rmin U n i)] 2, .row (arrL (i + 1) (fun j => rmax L j)) 2 1]) (q := qb) (m := i) (p := T.length + 1) (f := (fun j => rmin U n j)) (fun h => getElem?_app_lt (by rw [killL_get (hqa h).2.2.1.symm]; exact (hqa h).2.1)) (by rw [List.getElem?_append_right (by rw [killL_len]; omega), killL_len]; simp) (by omega)
      simp only [killL_app hqa1, killL_app hkl, List.length_append, List.append_assoc, List.cons_append, List.nil_append, List.length_cons, List.length_nil, killL_len, Nat.reduceAdd] at hA1 hA2
      have gk : ∀ (k : Nat) (l : H), (killL i T qa ++ l : H)[T.length + k]? = l[k]? := fun k l => by rw [List.getElem?_append_right (by rw [killL_len]; omega), killL_len]; congr 1; omega
      have sk : ∀ (k : Nat) (l : H) (b : Blk), (killL i T qa ++ l : H).set (T.length + k) b = killL i T qa ++ l.set k b := fun k l b => by rw [List.set_append_right _ _ (by rw [killL_len]; omega), killL_len]; congr 2; omega
      simp -implicitDefEqProofs only [sB, Nat.reduceAdd, Nat.reduceSub, yieldL, popK, flat, nptr, Value.cells, H.new, eq_self, Int.reduceEq, Int.reduceLT, Int.reduceLE, Nat.reduceEqDiff, Nat.reduceLeDiff, thenQ, ContK, ty2, ty3, ty4, ty5, ty22, ty24, ty25, ty30, ty34, ty51, ty64, sD, mixT, isAlloc, ridOf, blockOf, Bool.not_true, Bool.not_false, decide_true, decide_false, if_true, if_false, unk1, bl34, bl34_0, st34, len_assoc, i1, i2, i4, r2, r2', ri.1, ri.2, getElem?_app_k, set_app_k, getElem?_app_z, set_app_z, sl25_l, apL_cons, hwa, hwb, hA1, hA2, gk, sk]
      obtain ⟨fr, fr1, fr2, fr3⟩ : ∃ f : Nat → Nat, f wa = 1 ∧ f wb = 1 ∧ f (2 * (h.length + (2 + 3 * n))) = 2 := ⟨fun x => if x = 2 * (h.length + (2 + 3 * n)) then 2 else 1, by simp [hwa2], by simp [hwb2], by simp⟩
      have hlt := (List.getElem?_eq_some_iff.1 hr2).1
      have kk : ∀ (x : Nat) (b : Blk) (l : H), T[x]? = some b → (i ≠ 0 → x ≠ qa ∧ x ≠ qb) → (killL i (killL i T qa) qb ++ l : H)[x]? = some b := by
        intro x b l hx hne
        refine getElem?_app_lt ?_
        by_cases hi0 : i = 0
        · rw [hi0]; exact hx
        · rw [killL_get (hne hi0).2, killL_get (hne hi0).1]; exact hx
      have kl : ∀ (x : Nat) (l : H), (killL i (killL i T qa) qb ++ l : H)[T.length + x]? = l[x]? := fun x l => by rw [List.getElem?_append_right (by rw [killL_len, killL_len]; omega), killL_len, killL_len]; congr 1; omega
      refine ⟨effOk_free1 (i := 14) (k := 1) (by kernel_rfl) (by kernel_rfl) (by rw [len_assoc, get_k, get_k, gk, getElem?_app_k]; rfl) (by simp [killL_len]), effOk_of (by kernel_rfl) (by simp [killL_len]), drawOk_ren fr (by simp only [List.reverse_cons, List.reverse_nil, List.nil_append, List.cons_append, List.map_cons, List.map_nil, Ct.ren, Option.map_some, Option.map_none, fr1, fr2, fr3]; rfl) (by kernel_rfl), by rw [hJa]; exact ⟨i + 1, _, T.length + 2, T.length + 3, rfl, rfl, rfl, rfl, rfl, rfl, rfl, rfl, rfl, rfl, by omega, kk _ _ _ h0 (fun h => by have := hqa h; omega), kk _ _ _ h1 (fun h => by have := hqa h; omega), kk _ _ _ hr2 (fun h => by have := hqa h; omega), fun _ => ⟨kl 2 _, kl 3 _, by omega, by omega, by omega, by omega, by omega⟩⟩, ?_⟩
      show n - ((i + 1 : Nat) : Int).toNat < n - (i : Int).toNat
      omega
    · have i1 : ¬ (i : Int) < (n : Int) := by omega
      have hin' : i = n := by omega
      subst hin'
      obtain ⟨ta, tb, tne, _, _, _, _⟩ := hqa (by omega)
      have h0' : ∀ l : H, (T ++ l)[0]? = some (.cells [.slice (some ⟨id, off, none⟩) i c, .int .i64 pr] 24) := fun l => getElem?_app_lt h0
      have h1' : ∀ l : H, (T ++ l)[1]? = some (.cells [.int .i64 0, .int .i64 0] 34) := fun l => getElem?_app_lt h1
      have hw1 : IntKind.i64.wrap ((i : Int) - 1) = ((i - 1 : Nat) : Int) := by rw [wrap_i64 (by omega) (by omega)]; omega
      have h00 : (0 : Int) ≤ 0 ∧ (0 : Int) < (i : Int) := ⟨by omega, by omega⟩
      have h01 : (0 : Int) ≤ ((i - 1 : Nat) : Int) ∧ ((i - 1 : Nat) : Int) < (i : Int) := ⟨by omega, by omega⟩
      have r0 := fun h => row_D (hr h 0 (by omega))
      have r1 := fun h => row_D (hr h (i - 1) (by omega))
      simp only [Nat.zero_mul, Nat.add_zero] at r0
      have f1 := dFrom_rng (l := l) t
      have f2 := dTo_rng (l := l) t
      have d0 := t.dip 0 (by omega)
      have d1 := t.dip (i - 1) (by omega)
      have A1 : ∀ k, k < i → 0 ≤ rmax L k ∧ rmax L k ≤ 100000 := fun k hk => by have := (tightA_rng t hk).1; rw [tightA_1 hk] at this; exact this
      have A2 : ∀ k, k < i → 0 ≤ rmin U i k ∧ rmin U i k ≤ 100000 := fun k hk => by have := (tightA_rng t hk).2; rw [tightA_2 hk] at this; exact this
      simp -implicitDefEqProofs only [sB, Nat.reduceAdd, Nat.reduceSub, yieldL, popK, flat, nptr, Value.cells, H.new, eq_self, Int.reduceEq, Int.reduceLT, Int.reduceLE, Nat.reduceEqDiff, Nat.reduceLeDiff, thenQ, ContK, ty2, ty3, ty4, ty5, ty22, ty24, ty25, ty30, ty34, ty51, ty64, Bool.not_true, Bool.not_false, decide_true, decide_false, if_true, if_false, unk1, bl34, bl34_0, st34, len_assoc, i1, h0', h1', hw1, h00, h01, r0, r1, Int.toNat_zero, Nat.zero_mul]
      have s1 : dFnd i D L U l (D 0) = false := by unfold dFnd; rw [decide_eq_false]; omega
      have s2 : dLo i D L U l (D 0) = 0 := by unfold dLo; rw [if_neg]; omega
      have s3 : dHi i D L U l (D 0) = 0 := by unfold dHi; rw [if_neg]; omega
      obtain ⟨Jb, hJb⟩ : ∃ J : St → Prop, J = fun s => ∃ (d : Int), s.df = [] ∧ s.h = h ++ (T ++ [.cells [.int .i64 (dLo i D L U l d), .int .i64 (dHi i D L U l d)] 34]) ∧ s.tm.length = 111 ∧ s.tm.getD 1 undef = .int .i64 l ∧ s.tm.getD 2 undef = .pointer (some ⟨2 * h.length, 0, none⟩) ∧ s.tm.getD 4 undef = .pointer (some ⟨2 * (h.length + 1), 0, none⟩) ∧ s.tm.getD 6 undef = slA (2 * (h.length + qa)) i ∧ s.tm.getD 7 undef = slA (2 * (h.length + qb)) i ∧ s.tm.getD 10 undef = .bool (dFnd i D L U l d) ∧ s.tm.getD 11 undef = .pointer (some ⟨2 * (h.length + T.length), 0, none⟩) ∧ s.tm.getD 12 undef = .int .i64 d ∧ (D 0 ≤ d ∧ d ≤ D (i - 1) + 1) := ⟨_, rfl⟩
      refine Loop_run (by kernel_rfl) 900 Jb (muX 12 (D (i - 1) + 1)) (by rw [hJb]; exact ⟨D 0, rfl, by rw [s2, s3], rfl, rfl, rfl, rfl, rfl, rfl, by rw [s1]; rfl, rfl, rfl, ⟨by omega, by omega⟩⟩) ?_
      intro sb hsb
      rw [hJb] at hsb
      obtain ⟨tmb, dfb, hhb⟩ := sb
      obtain ⟨d, eb1, eb2, eb3, lb1, lb2, lb4, lb6, lb7, lb10, lb11, lb12, hd⟩ := hsb
      simp only at eb1 eb2 eb3 lb1 lb2 lb4 lb6 lb7 lb10 lb11 lb12
      subst dfb; subst hhb
      have elitb : tmb = [tmb.getD 0 undef, .int .i64 l, .pointer (some ⟨2 * h.length, 0, none⟩), tmb.getD 3 undef, .pointer (some ⟨2 * (h.length + 1), 0, none⟩), tmb.getD 5 undef, slA (2 * (h.length + qa)) i, slA (2 * (h.length + qb)) i, tmb.getD 8 undef, tmb.getD 9 undef, .bool (dFnd i D L U l d), .pointer (some ⟨2 * (h.length + T.length), 0, none⟩), .int .i64 d, tmb.getD 13 undef, tmb.getD 14 undef, tmb.getD 15 undef, tmb.getD 16 undef, tmb.getD 17 undef, tmb.getD 18 undef, tmb.getD 19 undef, tmb.getD 20 undef, tmb.getD 21 undef, tmb.getD 22 undef, tmb.getD 23 undef, tmb.getD 24 undef, tmb.getD 25 undef, tmb.getD 26 undef, tmb.getD 27 undef, tmb.getD 28 undef, tmb.getD 29 undef, tmb.getD 30 undef, tmb.getD 31 undef, tmb.getD 32 undef, tmb.getD 33 undef, tmb.getD 34 undef, tmb.getD 35 undef, tmb.getD 36 undef, tmb.getD 37 undef, tmb.getD 38 undef, tmb.getD 39 undef, tmb.getD 40 undef, tmb.getD 41 undef, tmb.getD 42 undef, tmb.getD 43 undef, tmb.getD 44 undef, tmb.getD 45 undef, tmb.getD 46 undef, tmb.getD 47 undef, tmb.getD 48 undef, tmb.getD 49 undef, tmb.getD 50 undef, tmb.getD 51 undef, tmb.getD 52 undef, tmb.getD 53 undef, tmb.getD 54 undef, tmb.getD 55 undef, tmb.getD 56 undef, tmb.getD 57 undef, tmb.getD 58 undef, tmb.getD 59 undef, tmb.getD 60 undef, tmb.getD 61 undef, tmb.getD 62 undef, tmb.getD 63 undef, tmb.getD 64 undef, tmb.getD 65 undef, tmb.getD 66 undef, tmb.getD 67 undef, tmb.getD 68 undef, tmb.getD 69 undef, tmb.getD 70 undef, tmb.getD 71 undef, tmb.getD 72 undef, tmb.getD 73 undef, tmb.getD 74 undef, tmb.getD 75 undef, tmb.getD 76 undef, tmb.getD 77 undef, tmb.getD 78 undef, tmb.getD 79 undef, tmb.getD 80 undef, tmb.getD 81 undef, tmb.getD 82 undef, tmb.getD 83 undef, tmb.getD 84 undef, tmb.getD 85 undef, tmb.getD 86 undef, tmb.getD 87 undef, tmb.getD 88 undef, tmb.getD 89 undef, tmb.getD 90 undef, tmb.getD 91 undef, tmb.getD 92 undef, tmb.getD 93 undef, tmb.getD 94 undef, tmb.getD 95 undef, tmb.getD 96 undef, tmb.getD 97 undef, tmb.getD 98 undef, tmb.getD 99 undef, tmb.getD 100 undef, tmb.getD 101 undef, tmb.getD 102 undef, tmb.getD 103 undef, tmb.getD 104 undef, tmb.getD 105 undef, tmb.getD 106 undef, tmb.getD 107 undef, tmb.getD 108 undef, tmb.getD 109 undef, tmb.getD 110 undef] := by
        have e0 := lit_eq eb3
        have er : List.range 111 = [0, 1, 2, 3, 4, 5, 6, 7, 8, 9, 10, 11, 12, 13, 14, 15, 16, 17, 18, 19, 20, 21, 22, 23, 24, 25, 26, 27, 28, 29, 30, 31, 32, 33, 34, 35, 36, 37, 38, 39, 40, 41, 42, 43, 44, 45, 46, 47, 48, 49, 50, 51, 52, 53, 54, 55, 56, 57, 58, 59, 60, 61, 62, 63, 64, 65, 66, 67, 68, 69, 70, 71, 72, 73, 74, 75, 76, 77, 78, 79, 80, 81, 82, 83, 84, 85, 86, 87, 88, 89, 90, 91, 92, 93, 94, 95, 96, 97, 98, 99, 100, 101, 102, 103, 104, 105, 106, 107, 108, 109, 110] := by rfl
        rw [er] at e0
        simp only [List.map_cons, List.map_nil, lb1, lb2, lb4, lb6, lb7, lb10, lb11, lb12] at e0
        exact e0
      rw [elitb]
      clear lb1
      clear lb2
      clear lb4
      clear lb6
      clear lb7
      clear lb10
      clear lb11
      clear lb12
      clear elitb eb3
      by_cases hde : d ≤ D (i - 1)
      · have hd2 : D 0 ≤ d ∧ d ≤ D (i - 1) := ⟨hd.1, hde⟩
        have hS1 : Sees I (h ++ (T ++ [Blk.cells [.int .i64 (dLo i D L U l d), .int .i64 (dHi i D L U l d)] 34])) (slA (2 * (h.length + qa)) i) i (fun j => rmax L j) := ⟨_, _, slA_pos (by omega), hn, fun _ => ⟨2 * (h.length + qa), 0, rfl, fun k hk => by rw [Nat.zero_add]; exact rd_arrRow (getElem?_app_lt ta) hk⟩⟩
        have hS2 : Sees I (h ++ (T ++ [Blk.cells [.int .i64 (dLo i D L U l d), .int .i64 (dHi i D L U l d)] 34])) (slA (2 * (h.length + qb)) i) i (fun j => rmin U i j) := ⟨_, _, slA_pos (by omega), hn, fun _ => ⟨2 * (h.length + qb), 0, rfl, fun k hk => by rw [Nat.zero_add]; exact rd_arrRow (getElem?_app_lt tb) hk⟩⟩
        have hwd := pIx_wd (dip := d) t
        have hm := mul_rng (a := l) (b := belRd i D d) (A := 100000) (B := 4000) ⟨by omega, by omega⟩ ⟨by omega, hwd.2⟩
        have w1 : IntKind.i64.wrap (l * belRd i D d) = l * belRd i D d := wrap_i64 (by omega) (by omega)
        have w2 : IntKind.i64.wrap (d + 1) = d + 1 := wrap_i64 (by omega) (by omega)
        have G1 : belR i D (fun j => rmax L j) d ≤ l * belRd i D d ↔ d < dTo i D L l := by rw [(over_ref t hd2).1, ← okLo_iff, dTo_iff t d hd2.1 hd2.2, decide_eq_true_iff]; omega
        have G2 : l * belRd i D d ≤ belR i D (fun j => rmin U i j) d ↔ dFrom i D U l ≤ d := by rw [(over_ref t hd2).2, ← okHi_iff, dFrom_iff t d hd2.1 hd2.2, decide_eq_true_iff]
        simp -implicitDefEqProofs only [sB, Nat.reduceAdd, Nat.reduceSub, yieldL, popK, flat, nptr, Value.cells, H.new, eq_self, Int.reduceEq, Int.reduceLT, Int.reduceLE, Nat.reduceEqDiff, Nat.reduceLeDiff, thenQ, ContK, ty2, ty3, ty4, ty5, ty22, ty24, ty25, ty30, ty34, ty51, ty64, Bool.not_true, Bool.not_false, decide_true, decide_false, if_true, if_false, unk1, bl34, bl34_0, st34, len_assoc, hde, h0', hw1, h01, r1]
        refine RunCall_of (below45 I hv0 hS1 t hd2 A1) ?_
        simp -implicitDefEqProofs only [sB, Nat.reduceAdd, Nat.reduceSub, yieldL, popK, flat, nptr, Value.cells, H.new, eq_self, Int.reduceEq, Int.reduceLT, Int.reduceLE, Nat.reduceEqDiff, Nat.reduceLeDiff, thenQ, ContK, ty2, ty3, ty4, ty5, ty22, ty24, ty25, ty30, ty34, ty51, ty64, Bool.not_true, Bool.not_false, decide_true, decide_false, if_true, if_false, unk1, bl34, bl34_0, st34, len_assoc, h0']
        by_cases g1 : d < dTo i D L l
        · have k1 := G1.2 g1
          by_cases g2 : dFrom i D U l ≤ d
          · have k2 := G2.2 g2
            have s1 : dFnd i D L U l (d + 1) = true := by unfold dFnd; rw [decide_eq_true]; omega
            have s2 : dLo i D L U l (d + 1) = dFrom i D U l := by unfold dLo; rw [if_pos]; omega
            have s3 : dHi i D L U l (d + 1) = d := by unfold dHi; rw [if_pos (by omega)]; omega
            by_cases e : d = dFrom i D U l
            · have s0 : dFnd i D L U l d = false := by unfold dFnd; rw [decide_eq_false]; omega
              refine RunCall_of (below45 I hv0 hS2 t hd2 A2) ?_
              simp -implicitDefEqProofs only [sB, Nat.reduceAdd, Nat.reduceSub, yieldL, popK, flat, nptr, Value.cells, H.new, eq_self, Int.reduceEq, Int.reduceLT, Int.reduceLE, Nat.reduceEqDiff, Nat.reduceLeDiff, thenQ, ContK, ty2, ty3, ty4, ty5, ty22, ty24, ty25, ty30, ty34, ty51, ty64, Bool.not_true, Bool.not_false, decide_true, decide_false, if_true, if_false, unk1, bl34, bl34_0, st34, len_assoc, h0', w1, w2, k1, k2, s0]
              refine ⟨by rw [hJb]; exact ⟨d + 1, rfl, by rw [s2, s3, ← e], rfl, rfl, rfl, rfl, rfl, rfl, by rw [s1]; rfl, rfl, rfl, ⟨by omega, by omega⟩⟩, ?_⟩; show (D (i - 1) + 1 - (d + 1)).toNat < (D (i - 1) + 1 - d).toNat; omega
            · have s0 : dFnd i D L U l d = true := by unfold dFnd; rw [decide_eq_true]; omega
              have s4 : dLo i D L U l d = dFrom i D U l := by unfold dLo; rw [if_pos]; omega
              refine RunCall_of (below45 I hv0 hS2 t hd2 A2) ?_
              simp -implicitDefEqProofs only [sB, Nat.reduceAdd, Nat.reduceSub, yieldL, popK, flat, nptr, Value.cells, H.new, eq_self, Int.reduceEq, Int.reduceLT, Int.reduceLE, Nat.reduceEqDiff, Nat.reduceLeDiff, thenQ, ContK, ty2, ty3, ty4, ty5, ty22, ty24, ty25, ty30, ty34, ty51, ty64, Bool.not_true, Bool.not_false, decide_true, decide_false, if_true, if_false, unk1, bl34, bl34_0, st34, len_assoc, h0', w1, w2, k1, k2, s0]
              refine ⟨by rw [hJb]; exact ⟨d + 1, rfl, by rw [s2, s3, ← s4], rfl, rfl, rfl, rfl, rfl, rfl, by rw [s1]; rfl, rfl, rfl, ⟨by omega, by omega⟩⟩, ?_⟩; show (D (i - 1) + 1 - (d + 1)).toNat < (D (i - 1) + 1 - d).toNat; omega
          · have k2 : ¬ l * belRd i D d ≤ belR i D (fun j => rmin U i j) d := fun h => g2 (G2.1 h)
            have s1 : dFnd i D L U l (d + 1) = dFnd i D L U l d := by unfold dFnd; congr 1; apply propext; omega
            have s2 : dLo i D L U l (d + 1) = dLo i D L U l d := by unfold dLo; rw [if_neg (by omega), if_neg (by omega)]
            have s3 : dHi i D L U l (d + 1) = dHi i D L U l d := by unfold dHi; rw [if_neg (by omega), if_neg (by omega)]
            refine RunCall_of (below45 I hv0 hS2 t hd2 A2) ?_
            simp -implicitDefEqProofs only [sB, Nat.reduceAdd, Nat.reduceSub, yieldL, popK, flat, nptr, Value.cells, H.new, eq_self, Int.reduceEq, Int.reduceLT, Int.reduceLE, Nat.reduceEqDiff, Nat.reduceLeDiff, thenQ, ContK, ty2, ty3, ty4, ty5, ty22, ty24, ty25, ty30, ty34, ty51, ty64, Bool.not_true, Bool.not_false, decide_true, decide_false, if_true, if_false, unk1, bl34, bl34_0, st34, len_assoc, h0', w1, w2, k1, k2]
            refine ⟨by rw [hJb]; exact ⟨d + 1, rfl, by rw [s2, s3], rfl, rfl, rfl, rfl, rfl, rfl, by rw [s1]; rfl, rfl, rfl, ⟨by omega, by omega⟩⟩, ?_⟩; show (D (i - 1) + 1 - (d + 1)).toNat < (D (i - 1) + 1 - d).toNat; omega
        · have k1 : ¬ belR i D (fun j => rmax L j) d ≤ l * belRd i D d := fun h => g1 (G1.1 h)
          have hw3 : IntKind.i64.wrap (d + 1) = d + 1 := w2
          have s1 : dFnd i D L U l (d + 1) = dFnd i D L U l d := by unfold dFnd; congr 1; apply propext; omega
          have s2 : dLo i D L U l (d + 1) = dLo i D L U l d := by
            unfold dLo
            by_cases e : dFrom i D U l < dTo i D L l
            · rw [if_pos (by omega), if_pos (by omega)]
            · rw [if_neg (by omega), if_neg (by omega)]
          have s3 : dHi i D L U l (d + 1) = dHi i D L U l d := by
            unfold dHi
            by_cases e : dFrom i D U l < dTo i D L l
            · rw [if_pos (by omega), if_pos (by omega)]; omega
            · rw [if_neg (by omega), if_neg (by omega)]
          refine RunCall_of (below45 I hv0 hS2 t hd2 A2) ?_
          simp -implicitDefEqProofs only [sB, Nat.reduceAdd, Nat.reduceSub, yieldL, popK, flat, nptr, Value.cells, H.new, eq_self, Int.reduceEq, Int.reduceLT, Int.reduceLE, Nat.reduceEqDiff, Nat.reduceLeDiff, thenQ, ContK, ty2, ty3, ty4, ty5, ty22, ty24, ty25, ty30, ty34, ty51, ty64, Bool.not_true, Bool.not_false, decide_true, decide_false, if_true, if_false, unk1, bl34, bl34_0, st34, len_assoc, h0', w1, w2, k1]
          refine ⟨by rw [hJb]; exact ⟨d + 1, rfl, by rw [s2, s3], rfl, rfl, rfl, rfl, rfl, rfl, by rw [s1]; rfl, rfl, rfl, ⟨by omega, by omega⟩⟩, ?_⟩; show (D (i - 1) + 1 - (d + 1)).toNat < (D (i - 1) + 1 - d).toNat; omega
      · have e : d = D (i - 1) + 1 := by omega
        subst e
        have hs1 : ∀ (l : H) (b : Blk), ((T ++ l : H).set 1 b)[1]? = some b := fun l b => by
          have := (List.getElem?_eq_some_iff.1 (h1' l)).1
          rw [List.getElem?_set_self this]
        by_cases g : dFrom i D U l < dTo i D L l
        · have s1 : dFnd i D L U l (D (i - 1) + 1) = true := by unfold dFnd; rw [decide_eq_true]; omega
          have s2 : dLo i D L U l (D (i - 1) + 1) = dFrom i D U l := by unfold dLo; rw [if_pos]; omega
          have s3 : dHi i D L U l (D (i - 1) + 1) = dTo i D L l - 1 := by unfold dHi; rw [if_pos (by omega)]; omega
          simp -implicitDefEqProofs only [sB, Nat.reduceAdd, Nat.reduceSub, yieldL, popK, flat, nptr, Value.cells, H.new, eq_self, Int.reduceEq, Int.reduceLT, Int.reduceLE, Nat.reduceEqDiff, Nat.reduceLeDiff, thenQ, ContK, ty2, ty3, ty4, ty5, ty22, ty24, ty25, ty30, ty34, ty51, ty64, Bool.not_true, Bool.not_false, decide_true, decide_false, if_true, if_false, unk1, bl34, bl34_0, st34, len_assoc, hde, h0', h1', hw1, h01, r1, s1, s2, s3, hs1]
          exact ⟨⟨_, rfl⟩, by unfold dipsV rgV; rw [if_neg (by rw [he]; simp), if_neg hl, if_neg (by rw [hok]; simp), if_neg (by omega)]⟩
        · have s1 : dFnd i D L U l (D (i - 1) + 1) = false := by unfold dFnd; rw [decide_eq_false]; omega
          simp -implicitDefEqProofs only [sB, Nat.reduceAdd, Nat.reduceSub, yieldL, popK, flat, nptr, Value.cells, H.new, eq_self, Int.reduceEq, Int.reduceLT, Int.reduceLE, Nat.reduceEqDiff, Nat.reduceLeDiff, thenQ, ContK, ty2, ty3, ty4, ty5, ty22, ty24, ty25, ty30, ty34, ty51, ty64, Bool.not_true, Bool.not_false, decide_true, decide_false, if_true, if_false, unk1, bl34, bl34_0, st34, len_assoc, hde, h0', h1', hw1, h01, r1, s1, hs1]
          exact ⟨⟨_, rfl⟩, by unfold dipsV rgV; rw [if_neg (by rw [he]; simp), if_neg hl, if_neg (by rw [hok]; simp), if_pos (by omega)]⟩
  · simp -implicitDefEqProofs only [sB, Nat.reduceAdd, Nat.reduceSub, yieldL, popK, flat, nptr, Value.cells, H.new, eq_self, Int.reduceEq, Int.reduceLT, Int.reduceLE, Nat.reduceEqDiff, Nat.reduceLeDiff, thenQ, ContK, ty2, ty3, ty4, ty5, ty22, ty24, ty25, ty30, ty34, ty51, ty64, Bool.not_true, Bool.not_false, decide_true, decide_false, if_true, if_false, unk1, bl34, bl34_0, st34, len_assoc, he]
    refine RunCall_of (checkTank30 I hv0) ?_
    simp -implicitDefEqProofs only [sB, Nat.reduceAdd, Nat.reduceSub, yieldL, popK, flat, nptr, Value.cells, H.new, eq_self, Int.reduceEq, Int.reduceLT, Int.reduceLE, Nat.reduceEqDiff, Nat.reduceLeDiff, thenQ, ContK, ty2, ty3, ty4, ty5, ty22, ty24, ty25, ty30, ty34, ty51, ty64, Bool.not_true, Bool.not_false, decide_true, decide_false, if_true, if_false, unk1, bl34, bl34_0, st34, len_assoc, he]
    exact ⟨⟨_, rfl⟩, by unfold dipsV rgV; rw [if_pos he]⟩
end Go.Proofs.Ytcocmbccfikmhaa
