/- The law ChartBetween: its function answers true (own texts put together: C41) -/
import Derived.Test.YtcocmbccfikmhaaM22
import Derived.Test.YtcocmbccfikmhaaM8
import Derived.Test.YtcocmbccfikmhaaM4b
import Derived.Test.YtcocmbccfikmhaaM4
set_option linter.unusedSimpArgs false
set_option linter.unusedVariables false
namespace Go.Proofs.Ytcocmbccfikmhaa
open Go.Sym
attribute [local irreducible] Run RunS RunG RunDG RunDS RunDE RunDA RunDC RunCall RunX RunB

set_option maxRecDepth 100000 in
set_option maxHeartbeats 4000000 in
theorem chartBetween7 (I : Nat → Option Obj) {h : H} {v yv : Value} {n m : Nat} {D L U y : Nat → Int} {pr o1 o2 dd : Int} (hv : Rows I v n D L U) (hcv : ∀ N, closedV (okN N) v = true) (hy : ∀ h, SeesW I h yv m y) (ho1 : 0 ≤ o1 ∧ o1 ≤ 4294967295) (ho2 : 0 ≤ o2 ∧ o2 ≤ 4294967295) (hdd : 0 ≤ dd ∧ dd ≤ 65535) :
    Snd Try.prog I (.func 7) [.agg #[v, .int .i64 pr], .int .u32 o1, .int .u32 o2, yv, .int .u16 dd] h (.bool true) h := by
  have hv0 := hv
  obtain ⟨q, c, rfl, hn, hq⟩ := hv
  have hy0 := hy
  obtain ⟨qy, cy, rfl, hmm, _⟩ := hy h
  refine Snd_tc0 (rs := [.tmp 10]) Try.func7 (by kernel_rfl) rfl Try.ntmps7 rfl rfl ?_
  refine TC_cut 400 (by kernel_rfl) fun qA qAn qAr qAx => ?_
  simp -implicitDefEqProofs only [sB, Nat.reduceAdd, Nat.reduceSub, yieldL, popK, flat, nptr, Value.cells, H.new, eq_self, Int.reduceEq, Int.reduceLT, Int.reduceLE, Nat.reduceEqDiff, Nat.reduceLeDiff, thenQ, ContK, ty2, ty3, ty4, ty5, ty24, ty25, ty29, ty30, ty34, ty44, ty45, ty70, Bool.not_true, Bool.not_false, decide_true, decide_false, if_true, if_false, unk1, z00, len_assoc, st34, st29, Bool.and_self]
  refine qAn _ ?_
  refine TC_cut 400 (by kernel_rfl) fun qB qBn qBr qBx => ?_
  simp -implicitDefEqProofs only [sB, Nat.reduceAdd, Nat.reduceSub, yieldL, popK, flat, nptr, Value.cells, H.new, eq_self, Int.reduceEq, Int.reduceLT, Int.reduceLE, Nat.reduceEqDiff, Nat.reduceLeDiff, thenQ, ContK, ty2, ty3, ty4, ty5, ty24, ty25, ty29, ty30, ty34, ty44, ty45, ty70, Bool.not_true, Bool.not_false, decide_true, decide_false, if_true, if_false, unk1, z00, len_assoc, st34, st29, Bool.and_self]
  refine RunCall_of (fine18 I hv0) ?_
  cases hf : fineB n D L U pr with
  | false =>
    simp -implicitDefEqProofs only [sB, Nat.reduceAdd, Nat.reduceSub, yieldL, popK, flat, nptr, Value.cells, H.new, eq_self, Int.reduceEq, Int.reduceLT, Int.reduceLE, Nat.reduceEqDiff, Nat.reduceLeDiff, thenQ, ContK, ty2, ty3, ty4, ty5, ty24, ty25, ty29, ty30, ty34, ty44, ty45, ty70, Bool.not_true, Bool.not_false, decide_true, decide_false, if_true, if_false, unk1, z00, len_assoc, st34, st29, Bool.and_self]
    refine RunCall_of (works9 I _) ?_
    simp -implicitDefEqProofs only [sB, Nat.reduceAdd, Nat.reduceSub, yieldL, popK, flat, nptr, Value.cells, H.new, eq_self, Int.reduceEq, Int.reduceLT, Int.reduceLE, Nat.reduceEqDiff, Nat.reduceLeDiff, thenQ, ContK, ty2, ty3, ty4, ty5, ty24, ty25, ty29, ty30, ty34, ty44, ty45, ty70, Bool.not_true, Bool.not_false, decide_true, decide_false, if_true, if_false, unk1, z00, len_assoc, st34, st29, Bool.and_self]
    refine qBr _ ?_
    simp -implicitDefEqProofs only [sB, Nat.reduceAdd, Nat.reduceSub, yieldL, popK, flat, nptr, Value.cells, H.new, eq_self, Int.reduceEq, Int.reduceLT, Int.reduceLE, Nat.reduceEqDiff, Nat.reduceLeDiff, thenQ, ContK, ty2, ty3, ty4, ty5, ty24, ty25, ty29, ty30, ty34, ty44, ty45, ty70, Bool.not_true, Bool.not_false, decide_true, decide_false, if_true, if_false, unk1, z00, len_assoc, st34, st29, Bool.and_self]
    first | exact ⟨⟨_, rfl⟩, rfl⟩ | exact ⟨_, rfl⟩
  | true =>
  by_cases hg2 : (40 : Int) < (m : Int)
  · simp -implicitDefEqProofs only [sB, Nat.reduceAdd, Nat.reduceSub, yieldL, popK, flat, nptr, Value.cells, H.new, eq_self, Int.reduceEq, Int.reduceLT, Int.reduceLE, Nat.reduceEqDiff, Nat.reduceLeDiff, thenQ, ContK, ty2, ty3, ty4, ty5, ty24, ty25, ty29, ty30, ty34, ty44, ty45, ty70, Bool.not_true, Bool.not_false, decide_true, decide_false, if_true, if_false, unk1, z00, len_assoc, st34, st29, Bool.and_self, hg2]
    refine RunCall_of (works9 I _) ?_
    simp -implicitDefEqProofs only [sB, Nat.reduceAdd, Nat.reduceSub, yieldL, popK, flat, nptr, Value.cells, H.new, eq_self, Int.reduceEq, Int.reduceLT, Int.reduceLE, Nat.reduceEqDiff, Nat.reduceLeDiff, thenQ, ContK, ty2, ty3, ty4, ty5, ty24, ty25, ty29, ty30, ty34, ty44, ty45, ty70, Bool.not_true, Bool.not_false, decide_true, decide_false, if_true, if_false, unk1, z00, len_assoc, st34, st29, Bool.and_self]
    refine qBr _ ?_
    simp -implicitDefEqProofs only [sB, Nat.reduceAdd, Nat.reduceSub, yieldL, popK, flat, nptr, Value.cells, H.new, eq_self, Int.reduceEq, Int.reduceLT, Int.reduceLE, Nat.reduceEqDiff, Nat.reduceLeDiff, thenQ, ContK, ty2, ty3, ty4, ty5, ty24, ty25, ty29, ty30, ty34, ty44, ty45, ty70, Bool.not_true, Bool.not_false, decide_true, decide_false, if_true, if_false, unk1, z00, len_assoc, st34, st29, Bool.and_self]
    first | exact ⟨⟨_, rfl⟩, rfl⟩ | exact ⟨_, rfl⟩
  simp -implicitDefEqProofs only [sB, Nat.reduceAdd, Nat.reduceSub, yieldL, popK, flat, nptr, Value.cells, H.new, eq_self, Int.reduceEq, Int.reduceLT, Int.reduceLE, Nat.reduceEqDiff, Nat.reduceLeDiff, thenQ, ContK, ty2, ty3, ty4, ty5, ty24, ty25, ty29, ty30, ty34, ty44, ty45, ty70, Bool.not_true, Bool.not_false, decide_true, decide_false, if_true, if_false, unk1, z00, len_assoc, st34, st29, Bool.and_self, hg2]
  refine qBn _ ?_
  obtain ⟨t, hcp⟩ := fine_ok hf
  have n2 := t.n2
  have n16 := t.n16
  obtain ⟨id, off, rfl, hr⟩ := hq (by omega)
  have w1 : IntKind.i64.wrap o1 = o1 := wrap_i64 (by omega) (by omega)
  have w2 : IntKind.i64.wrap o2 = o2 := wrap_i64 (by omega) (by omega)
  have bnr : ∀ (x z : Operand) (ty : TypeId) (a : Int), abin Try.prog .rem ty x z (.int .i64 a) (.int .i64 100001) = some (.int .i64 (a.tmod 100001)) := fun x z ty a => bin_rem (by omega)
  obtain ⟨a, ha⟩ : ∃ a, a = o1.tmod 100001 := ⟨_, rfl⟩
  obtain ⟨b, hb⟩ : ∃ b, b = o2.tmod 100001 := ⟨_, rfl⟩
  have ha2 : 0 ≤ a ∧ a ≤ 100000 := by
    have := Int.tmod_nonneg 100001 ho1.1
    have := Int.tmod_lt_of_pos o1 (show (0 : Int) < 100001 by omega)
    omega
  have hb2 : 0 ≤ b ∧ b ≤ 100000 := by
    have := Int.tmod_nonneg 100001 ho2.1
    have := Int.tmod_lt_of_pos o2 (show (0 : Int) < 100001 by omega)
    omega
  refine TC_cut 400 (by kernel_rfl) fun qC qCn qCr qCx => ?_
  simp -implicitDefEqProofs only [sB, Nat.reduceAdd, Nat.reduceSub, yieldL, popK, flat, nptr, Value.cells, H.new, eq_self, Int.reduceEq, Int.reduceLT, Int.reduceLE, Nat.reduceEqDiff, Nat.reduceLeDiff, thenQ, ContK, ty2, ty3, ty4, ty5, ty24, ty25, ty29, ty30, ty34, ty44, ty45, ty70, Bool.not_true, Bool.not_false, decide_true, decide_false, if_true, if_false, unk1, z00, len_assoc, st34, st29, Bool.and_self, cv70_2, w1, w2, bnr, ← ha, ← hb]
  refine qCn _ ?_
  clear w1 w2 bnr ha hb
  obtain ⟨la, hla⟩ : ∃ x, x = min a b := ⟨_, rfl⟩
  obtain ⟨lb, hlb⟩ : ∃ x, x = max a b := ⟨_, rfl⟩
  have f1 := dFrom_rng (l := la) t
  have f2 := dTo_rng (l := la) t
  have m1 := dFrom_mono (l := la) (l' := lb) t (by omega)
  have m2 := dTo_mono (l := la) (l' := lb) t (by omega)
  have hdv : ∀ l, 0 ≤ l ∧ l ≤ 100000 → ∃ lo hi e, dipsV n D L U pr l = .tuple #[.agg #[.int .i64 lo, .int .i64 hi], .int .i64 e] ∧ (e = 17 ∨ (e = 0 ∧ lo = dFrom n D U l ∧ hi = dTo n D L l - 1 ∧ dFrom n D U l < dTo n D L l)) := by
    intro l hl
    rw [dipsV_fine t hcp hl]
    by_cases e : dTo n D L l ≤ dFrom n D U l
    · rw [if_pos e]; exact ⟨_, _, _, rfl, .inl rfl⟩
    · rw [if_neg e]; exact ⟨_, _, _, rfl, .inr ⟨rfl, rfl, rfl, by omega⟩⟩
  obtain ⟨lo1, hi1, e1, hV1, P1⟩ := hdv la (by omega)
  obtain ⟨lo2, hi2, e2, hV2, P2⟩ := hdv lb (by omega)
  have d1 := fun h => dips14 I (h := h) (pr := pr) (l := la) hv0 hcv
  have d2 := fun h => dips14 I (h := h) (pr := pr) (l := lb) hv0 hcv
  rw [hV1] at d1
  rw [hV2] at d2
  refine TC_cut 400 (by kernel_rfl) fun qD qDn qDr qDx => ?_
  simp -implicitDefEqProofs only [sB, Nat.reduceAdd, Nat.reduceSub, yieldL, popK, flat, nptr, Value.cells, H.new, eq_self, Int.reduceEq, Int.reduceLT, Int.reduceLE, Nat.reduceEqDiff, Nat.reduceLeDiff, thenQ, ContK, ty2, ty3, ty4, ty5, ty24, ty25, ty29, ty30, ty34, ty44, ty45, ty70, Bool.not_true, Bool.not_false, decide_true, decide_false, if_true, if_false, unk1, z00, len_assoc, st34, st29, Bool.and_self, ← hla]
  refine RunCall_of (d1 _) ?_
  simp -implicitDefEqProofs only [sB, Nat.reduceAdd, Nat.reduceSub, yieldL, popK, flat, nptr, Value.cells, H.new, eq_self, Int.reduceEq, Int.reduceLT, Int.reduceLE, Nat.reduceEqDiff, Nat.reduceLeDiff, thenQ, ContK, ty2, ty3, ty4, ty5, ty24, ty25, ty29, ty30, ty34, ty44, ty45, ty70, Bool.not_true, Bool.not_false, decide_true, decide_false, if_true, if_false, unk1, z00, len_assoc, st34, st29, Bool.and_self]
  refine qDn _ ?_
  refine TC_cut 400 (by kernel_rfl) fun qE qEn qEr qEx => ?_
  simp -implicitDefEqProofs only [sB, Nat.reduceAdd, Nat.reduceSub, yieldL, popK, flat, nptr, Value.cells, H.new, eq_self, Int.reduceEq, Int.reduceLT, Int.reduceLE, Nat.reduceEqDiff, Nat.reduceLeDiff, thenQ, ContK, ty2, ty3, ty4, ty5, ty24, ty25, ty29, ty30, ty34, ty44, ty45, ty70, Bool.not_true, Bool.not_false, decide_true, decide_false, if_true, if_false, unk1, z00, len_assoc, st34, st29, Bool.and_self, ← hlb]
  refine RunCall_of (d2 _) ?_
  simp -implicitDefEqProofs only [sB, Nat.reduceAdd, Nat.reduceSub, yieldL, popK, flat, nptr, Value.cells, H.new, eq_self, Int.reduceEq, Int.reduceLT, Int.reduceLE, Nat.reduceEqDiff, Nat.reduceLeDiff, thenQ, ContK, ty2, ty3, ty4, ty5, ty24, ty25, ty29, ty30, ty34, ty44, ty45, ty70, Bool.not_true, Bool.not_false, decide_true, decide_false, if_true, if_false, unk1, z00, len_assoc, st34, st29, Bool.and_self]
  refine qEn _ ?_
  clear d1 d2
  obtain ⟨JF, hJF⟩ : ∃ J : St → Prop, J = fun s => ∃ (Lx : H), s.df = [] ∧ s.h = h ++ (.cells [.slice (some ⟨id, off, none⟩) n c, .int .i64 pr] 24 :: Lx) ∧ s.tm.length = 175 ∧ s.tm.getD 3 undef = .slice qy m cy ∧ s.tm.getD 4 undef = .int .u16 dd ∧ s.tm.getD 5 undef = .pointer (some ⟨2 * h.length, 0, none⟩) := ⟨_, rfl⟩
  refine TC_cutJ 400 (by kernel_rfl) JF (fun qF qFn qFr qFx => ?_) (fun sF hsF => ?_)
  · rcases P1 with rfl | ⟨rfl, rfl, rfl, g1⟩
    · rcases P2 with rfl | ⟨rfl, rfl, rfl, g2⟩
      · skip
        simp -implicitDefEqProofs only [sB, Nat.reduceAdd, Nat.reduceSub, yieldL, popK, flat, nptr, Value.cells, H.new, eq_self, Int.reduceEq, Int.reduceLT, Int.reduceLE, Nat.reduceEqDiff, Nat.reduceLeDiff, thenQ, ContK, ty2, ty3, ty4, ty5, ty24, ty25, ty29, ty30, ty34, ty44, ty45, ty70, Bool.not_true, Bool.not_false, decide_true, decide_false, if_true, if_false, unk1, z00, len_assoc, st34, st29, Bool.and_self, z00]
        refine qFn _ (by rw [hJF]; exact ⟨_, rfl, rfl, rfl, rfl, rfl, rfl⟩)
      simp -implicitDefEqProofs only [sB, Nat.reduceAdd, Nat.reduceSub, yieldL, popK, flat, nptr, Value.cells, H.new, eq_self, Int.reduceEq, Int.reduceLT, Int.reduceLE, Nat.reduceEqDiff, Nat.reduceLeDiff, thenQ, ContK, ty2, ty3, ty4, ty5, ty24, ty25, ty29, ty30, ty34, ty44, ty45, ty70, Bool.not_true, Bool.not_false, decide_true, decide_false, if_true, if_false, unk1, z00, len_assoc, st34, st29, Bool.and_self, z00]
      refine qFn _ (by rw [hJF]; exact ⟨_, rfl, rfl, rfl, rfl, rfl, rfl⟩)
    · have k1 := fun h => inside33 I (h := h) (pr := pr) (dip := dFrom n D U la) hv0 ⟨n2, n16⟩
      have k2 := fun h => inside33 I (h := h) (pr := pr) (dip := dTo n D L la - 1) hv0 ⟨n2, n16⟩
      rw [decide_eq_true (show D 0 ≤ dFrom n D U la by omega), decide_eq_true (show dFrom n D U la ≤ D (n - 1) by omega)] at k1
      rw [decide_eq_true (show D 0 ≤ dTo n D L la - 1 by omega), decide_eq_true (show dTo n D L la - 1 ≤ D (n - 1) by omega)] at k2
      have c1 : ¬ dTo n D L la - 1 < dFrom n D U la := by omega
      rcases P2 with rfl | ⟨rfl, rfl, rfl, g2⟩
      · skip
        simp -implicitDefEqProofs only [sB, Nat.reduceAdd, Nat.reduceSub, yieldL, popK, flat, nptr, Value.cells, H.new, eq_self, Int.reduceEq, Int.reduceLT, Int.reduceLE, Nat.reduceEqDiff, Nat.reduceLeDiff, thenQ, ContK, ty2, ty3, ty4, ty5, ty24, ty25, ty29, ty30, ty34, ty44, ty45, ty70, Bool.not_true, Bool.not_false, decide_true, decide_false, if_true, if_false, unk1, z00, len_assoc, st34, st29, Bool.and_self, c1]
        refine RunCall_of (k1 _) ?_
        simp -implicitDefEqProofs only [sB, Nat.reduceAdd, Nat.reduceSub, yieldL, popK, flat, nptr, Value.cells, H.new, eq_self, Int.reduceEq, Int.reduceLT, Int.reduceLE, Nat.reduceEqDiff, Nat.reduceLeDiff, thenQ, ContK, ty2, ty3, ty4, ty5, ty24, ty25, ty29, ty30, ty34, ty44, ty45, ty70, Bool.not_true, Bool.not_false, decide_true, decide_false, if_true, if_false, unk1, z00, len_assoc, st34, st29, Bool.and_self]
        refine RunCall_of (k2 _) ?_
        simp -implicitDefEqProofs only [sB, Nat.reduceAdd, Nat.reduceSub, yieldL, popK, flat, nptr, Value.cells, H.new, eq_self, Int.reduceEq, Int.reduceLT, Int.reduceLE, Nat.reduceEqDiff, Nat.reduceLeDiff, thenQ, ContK, ty2, ty3, ty4, ty5, ty24, ty25, ty29, ty30, ty34, ty44, ty45, ty70, Bool.not_true, Bool.not_false, decide_true, decide_false, if_true, if_false, unk1, z00, len_assoc, st34, st29, Bool.and_self]
        refine qFn _ (by rw [hJF]; exact ⟨_, rfl, rfl, rfl, rfl, rfl, rfl⟩)
      have c2 : ¬ dFrom n D U lb < dFrom n D U la := by omega
      have c3 : ¬ dTo n D L lb - 1 < dTo n D L la - 1 := by omega
      simp -implicitDefEqProofs only [sB, Nat.reduceAdd, Nat.reduceSub, yieldL, popK, flat, nptr, Value.cells, H.new, eq_self, Int.reduceEq, Int.reduceLT, Int.reduceLE, Nat.reduceEqDiff, Nat.reduceLeDiff, thenQ, ContK, ty2, ty3, ty4, ty5, ty24, ty25, ty29, ty30, ty34, ty44, ty45, ty70, Bool.not_true, Bool.not_false, decide_true, decide_false, if_true, if_false, unk1, z00, len_assoc, st34, st29, Bool.and_self, c1, c2, c3]
      refine RunCall_of (k1 _) ?_
      simp -implicitDefEqProofs only [sB, Nat.reduceAdd, Nat.reduceSub, yieldL, popK, flat, nptr, Value.cells, H.new, eq_self, Int.reduceEq, Int.reduceLT, Int.reduceLE, Nat.reduceEqDiff, Nat.reduceLeDiff, thenQ, ContK, ty2, ty3, ty4, ty5, ty24, ty25, ty29, ty30, ty34, ty44, ty45, ty70, Bool.not_true, Bool.not_false, decide_true, decide_false, if_true, if_false, unk1, z00, len_assoc, st34, st29, Bool.and_self]
      refine RunCall_of (k2 _) ?_
      simp -implicitDefEqProofs only [sB, Nat.reduceAdd, Nat.reduceSub, yieldL, popK, flat, nptr, Value.cells, H.new, eq_self, Int.reduceEq, Int.reduceLT, Int.reduceLE, Nat.reduceEqDiff, Nat.reduceLeDiff, thenQ, ContK, ty2, ty3, ty4, ty5, ty24, ty25, ty29, ty30, ty34, ty44, ty45, ty70, Bool.not_true, Bool.not_false, decide_true, decide_false, if_true, if_false, unk1, z00, len_assoc, st34, st29, Bool.and_self]
      refine qFn _ (by rw [hJF]; exact ⟨_, rfl, rfl, rfl, rfl, rfl, rfl⟩)
  rw [hJF] at hsF
  obtain ⟨tmF, dfF, hhF⟩ := sF
  obtain ⟨Lx, eF1, eF2, eF3, lF3, lF4, lF5⟩ := hsF
  simp only at eF1 eF2 eF3 lF3 lF4 lF5
  subst dfF; subst hhF
  have elitF : tmF = [tmF.getD 0 undef, tmF.getD 1 undef, tmF.getD 2 undef, .slice qy m cy, .int .u16 dd, .pointer (some ⟨2 * h.length, 0, none⟩), tmF.getD 6 undef, tmF.getD 7 undef, tmF.getD 8 undef, tmF.getD 9 undef, tmF.getD 10 undef, tmF.getD 11 undef, tmF.getD 12 undef, tmF.getD 13 undef, tmF.getD 14 undef, tmF.getD 15 undef, tmF.getD 16 undef, tmF.getD 17 undef, tmF.getD 18 undef, tmF.getD 19 undef, tmF.getD 20 undef, tmF.getD 21 undef, tmF.getD 22 undef, tmF.getD 23 undef, tmF.getD 24 undef, tmF.getD 25 undef, tmF.getD 26 undef, tmF.getD 27 undef, tmF.getD 28 undef, tmF.getD 29 undef, tmF.getD 30 undef, tmF.getD 31 undef, tmF.getD 32 undef, tmF.getD 33 undef, tmF.getD 34 undef, tmF.getD 35 undef, tmF.getD 36 undef, tmF.getD 37 undef, tmF.getD 38 undef, tmF.getD 39 undef, tmF.getD 40 undef, tmF.getD 41 undef, tmF.getD 42 undef, tmF.getD 43 undef, tmF.getD 44 undef, tmF.getD 45 undef, tmF.getD 46 undef, tmF.getD 47 undef, tmF.getD 48 undef, tmF.getD 49 undef, tmF.getD 50 undef, tmF.getD 51 undef, tmF.getD 52 undef, tmF.getD 53 undef, tmF.getD 54 undef, tmF.getD 55 undef, tmF.getD 56 undef, tmF.getD 57 undef, tmF.getD 58 undef, tmF.getD 59 undef, tmF.getD 60 undef, tmF.getD 61 undef, tmF.getD 62 undef, tmF.getD 63 undef, tmF.getD 64 undef, tmF.getD 65 undef, tmF.getD 66 undef, tmF.getD 67 undef, tmF.getD 68 undef, tmF.getD 69 undef, tmF.getD 70 undef, tmF.getD 71 undef, tmF.getD 72 undef, tmF.getD 73 undef, tmF.getD 74 undef, tmF.getD 75 undef, tmF.getD 76 undef, tmF.getD 77 undef, tmF.getD 78 undef, tmF.getD 79 undef, tmF.getD 80 undef, tmF.getD 81 undef, tmF.getD 82 undef, tmF.getD 83 undef, tmF.getD 84 undef, tmF.getD 85 undef, tmF.getD 86 undef, tmF.getD 87 undef, tmF.getD 88 undef, tmF.getD 89 undef, tmF.getD 90 undef, tmF.getD 91 undef, tmF.getD 92 undef, tmF.getD 93 undef, tmF.getD 94 undef, tmF.getD 95 undef, tmF.getD 96 undef, tmF.getD 97 undef, tmF.getD 98 undef, tmF.getD 99 undef, tmF.getD 100 undef, tmF.getD 101 undef, tmF.getD 102 undef, tmF.getD 103 undef, tmF.getD 104 undef, tmF.getD 105 undef, tmF.getD 106 undef, tmF.getD 107 undef, tmF.getD 108 undef, tmF.getD 109 undef, tmF.getD 110 undef, tmF.getD 111 undef, tmF.getD 112 undef, tmF.getD 113 undef, tmF.getD 114 undef, tmF.getD 115 undef, tmF.getD 116 undef, tmF.getD 117 undef, tmF.getD 118 undef, tmF.getD 119 undef, tmF.getD 120 undef, tmF.getD 121 undef, tmF.getD 122 undef, tmF.getD 123 undef, tmF.getD 124 undef, tmF.getD 125 undef, tmF.getD 126 undef, tmF.getD 127 undef, tmF.getD 128 undef, tmF.getD 129 undef, tmF.getD 130 undef, tmF.getD 131 undef, tmF.getD 132 undef, tmF.getD 133 undef, tmF.getD 134 undef, tmF.getD 135 undef, tmF.getD 136 undef, tmF.getD 137 undef, tmF.getD 138 undef, tmF.getD 139 undef, tmF.getD 140 undef, tmF.getD 141 undef, tmF.getD 142 undef, tmF.getD 143 undef, tmF.getD 144 undef, tmF.getD 145 undef, tmF.getD 146 undef, tmF.getD 147 undef, tmF.getD 148 undef, tmF.getD 149 undef, tmF.getD 150 undef, tmF.getD 151 undef, tmF.getD 152 undef, tmF.getD 153 undef, tmF.getD 154 undef, tmF.getD 155 undef, tmF.getD 156 undef, tmF.getD 157 undef, tmF.getD 158 undef, tmF.getD 159 undef, tmF.getD 160 undef, tmF.getD 161 undef, tmF.getD 162 undef, tmF.getD 163 undef, tmF.getD 164 undef, tmF.getD 165 undef, tmF.getD 166 undef, tmF.getD 167 undef, tmF.getD 168 undef, tmF.getD 169 undef, tmF.getD 170 undef, tmF.getD 171 undef, tmF.getD 172 undef, tmF.getD 173 undef, tmF.getD 174 undef] := by
    have e0 := lit_eq eF3
    have er : List.range 175 = [0, 1, 2, 3, 4, 5, 6, 7, 8, 9, 10, 11, 12, 13, 14, 15, 16, 17, 18, 19, 20, 21, 22, 23, 24, 25, 26, 27, 28, 29, 30, 31, 32, 33, 34, 35, 36, 37, 38, 39, 40, 41, 42, 43, 44, 45, 46, 47, 48, 49, 50, 51, 52, 53, 54, 55, 56, 57, 58, 59, 60, 61, 62, 63, 64, 65, 66, 67, 68, 69, 70, 71, 72, 73, 74, 75, 76, 77, 78, 79, 80, 81, 82, 83, 84, 85, 86, 87, 88, 89, 90, 91, 92, 93, 94, 95, 96, 97, 98, 99, 100, 101, 102, 103, 104, 105, 106, 107, 108, 109, 110, 111, 112, 113, 114, 115, 116, 117, 118, 119, 120, 121, 122, 123, 124, 125, 126, 127, 128, 129, 130, 131, 132, 133, 134, 135, 136, 137, 138, 139, 140, 141, 142, 143, 144, 145, 146, 147, 148, 149, 150, 151, 152, 153, 154, 155, 156, 157, 158, 159, 160, 161, 162, 163, 164, 165, 166, 167, 168, 169, 170, 171, 172, 173, 174] := by rfl
    rw [er] at e0
    simp only [List.map_cons, List.map_nil, lF3, lF4, lF5] at e0
    exact e0
  rw [elitF]
  clear lF3
  clear lF4
  clear lF5
  clear elitF eF3
  have hrd := readV_rng t hdd.1
  obtain ⟨d, hd⟩ : ∃ d, d = readV n D dd := ⟨_, rfl⟩
  rw [← hd] at hrd
  refine TC_cut 400 (by kernel_rfl) fun qG qGn qGr qGx => ?_
  simp -implicitDefEqProofs only [sB, Nat.reduceAdd, Nat.reduceSub, yieldL, popK, flat, nptr, Value.cells, H.new, eq_self, Int.reduceEq, Int.reduceLT, Int.reduceLE, Nat.reduceEqDiff, Nat.reduceLeDiff, thenQ, ContK, ty2, ty3, ty4, ty5, ty24, ty25, ty29, ty30, ty34, ty44, ty45, ty70, Bool.not_true, Bool.not_false, decide_true, decide_false, if_true, if_false, unk1, z00, len_assoc, st34, st29, Bool.and_self]
  refine RunCall_of (read20 I hv0 t hdd) ?_
  rw [← hd]
  simp -implicitDefEqProofs only [sB, Nat.reduceAdd, Nat.reduceSub, yieldL, popK, flat, nptr, Value.cells, H.new, eq_self, Int.reduceEq, Int.reduceLT, Int.reduceLE, Nat.reduceEqDiff, Nat.reduceLeDiff, thenQ, ContK, ty2, ty3, ty4, ty5, ty24, ty25, ty29, ty30, ty34, ty44, ty45, ty70, Bool.not_true, Bool.not_false, decide_true, decide_false, if_true, if_false, unk1, z00, len_assoc, st34, st29, Bool.and_self]
  refine qGn _ ?_
  have hyp : ∀ i, i < m → 0 ≤ y i := fun i hi => by
    obtain ⟨p', c', e', _, hq'⟩ := hy0 h
    obtain ⟨id', off', _, hr'⟩ := hq' (by omega)
    exact (hr' i hi).2.1
  have ch := trueC_chart t hcp hyp
  refine TC_cut 400 (by kernel_rfl) fun qH qHn qHr qHx => ?_
  simp -implicitDefEqProofs only [sB, Nat.reduceAdd, Nat.reduceSub, yieldL, popK, flat, nptr, Value.cells, H.new, eq_self, Int.reduceEq, Int.reduceLT, Int.reduceLE, Nat.reduceEqDiff, Nat.reduceLeDiff, thenQ, ContK, ty2, ty3, ty4, ty5, ty24, ty25, ty29, ty30, ty34, ty44, ty45, ty70, sD, mixT, isAlloc, ridOf, blockOf, Bool.not_true, Bool.not_false, decide_true, decide_false, if_true, if_false, unk1, z00, len_assoc, st34, st29, Bool.and_self]
  refine RunDC_effW 1 (true19 I hv0 t hcp hy0 (by omega)) (fun i hi ho => get_app_old ho) (effOk_free1 (i := 9) (k := 0) (by kernel_rfl) (by kernel_rfl) (get_app_old (fun _ => by simp [H.new])) (by simp)) ?_
  simp -implicitDefEqProofs only [sB, Nat.reduceAdd, Nat.reduceSub, yieldL, popK, flat, nptr, Value.cells, H.new, eq_self, Int.reduceEq, Int.reduceLT, Int.reduceLE, Nat.reduceEqDiff, Nat.reduceLeDiff, thenQ, ContK, ty2, ty3, ty4, ty5, ty24, ty25, ty29, ty30, ty34, ty44, ty45, ty70, sD, mixT, isAlloc, ridOf, blockOf, Bool.not_true, Bool.not_false, decide_true, decide_false, if_true, if_false, unk1, z00, len_assoc, st34, st29, Bool.and_self]
  have hT : ((.cells [.slice (some ⟨id, off, none⟩) n c, .int .i64 pr] 24 :: (Lx ++ (.dead :: (List.replicate (2 + 5 * n) .dead ++ [Blk.row (arrL n (fun j => trueC n L U m y j)) 2 1])))) : H)[Lx.length + (2 + (2 + 5 * n))]? = some (.row (arrL n (fun j => trueC n L U m y j)) 2 1) := by
    have e : Lx.length + (2 + (2 + 5 * n)) = (Lx.length + ((2 + 5 * n) + 1)) + 1 := by omega
    rw [e, List.getElem?_cons_succ, getElem?_app_k, List.getElem?_cons_succ, List.getElem?_append_right (by simp)]
    simp
  have hS : Sees I (h ++ (.cells [.slice (some ⟨id, off, none⟩) n c, .int .i64 pr] 24 :: (Lx ++ (.dead :: (List.replicate (2 + 5 * n) .dead ++ [Blk.row (arrL n (fun j => trueC n L U m y j)) 2 1])))) : H) (.slice (some ⟨2 * (h.length + (Lx.length + (2 + (2 + 5 * n)))), 0, none⟩) n UNK) n (fun j => trueC n L U m y j) :=
    ⟨_, _, rfl, by omega, fun _ => ⟨_, 0, rfl, fun k hk => by rw [Nat.zero_add]; exact rd_arrRow hT hk⟩⟩
  have hx100 : ∀ i, i < n → 0 ≤ trueC n L U m y i ∧ trueC n L U m y i ≤ 100000 := fun i hi => by
    have := ch.rng i hi
    have := t.lit i hi
    omega
  obtain ⟨N, hN⟩ : ∃ N, N = belN n D (fun j => trueC n L U m y j) d := ⟨_, rfl⟩
  have hNr := belN_rng (x := fun j => trueC n L U m y j) t hrd hx100
  have hW := (weighD_rng (dip := d) t)
  obtain ⟨p, q, hp, hq', hp0, hq1, hpq, _, _⟩ := frac_parts hNr.1 hW.1
  have hBV : belowV n D L U pr n (fun j => trueC n L U m y j) d = .tuple #[.agg #[.int .i64 p, .int .i64 q], .int .i64 0] := by
    unfold belowV
    rw [if_neg (by rw [chart_err ch]; simp), if_neg (by simpa using hrd)]
    unfold fracL
    rw [hp, hq']
  have hbl := fun hh (hs : Sees I hh (.slice (some ⟨2 * (h.length + (Lx.length + (2 + (2 + 5 * n)))), 0, none⟩) n UNK) n (fun j => trueC n L U m y j)) => below10 I (h := hh) (pr := pr) (dip := d) hv0 hcv hs
  rw [hBV] at hbl
  refine RunDC_quiet (hbl _ hS) rfl ?_
  simp -implicitDefEqProofs only [sB, Nat.reduceAdd, Nat.reduceSub, yieldL, popK, flat, nptr, Value.cells, H.new, eq_self, Int.reduceEq, Int.reduceLT, Int.reduceLE, Nat.reduceEqDiff, Nat.reduceLeDiff, thenQ, ContK, ty2, ty3, ty4, ty5, ty24, ty25, ty29, ty30, ty34, ty44, ty45, ty70, sD, mixT, isAlloc, ridOf, blockOf, Bool.not_true, Bool.not_false, decide_true, decide_false, if_true, if_false, unk1, z00, len_assoc, st34, st29, Bool.and_self, getElem?_app_z, set_app_z]
  obtain ⟨fr, fr1, fr2, fr3⟩ : ∃ f : Nat → Nat, f 1 = 1 ∧ f (2 * h.length) = 2 ∧ f (2 * (h.length + (Lx.length + 1))) = 3 := ren3 (a := 1) (b := 2 * h.length) (c := 2 * (h.length + (Lx.length + 1))) (by omega) (by omega) (by omega)
  refine ⟨effOk_of (by kernel_rfl) (by simp), drawOk_ren fr (by simp only [List.reverse_cons, List.reverse_nil, List.nil_append, List.cons_append, List.map_cons, List.map_nil, Ct.ren, Option.map_some, Option.map_none, fr1, fr2, fr3]; rfl) (by kernel_rfl), qHn _ ?_⟩
  obtain ⟨L2, hL2⟩ : ∃ x : H, Lx ++ (Blk.cells [.int .i64 p, .int .i64 q] 29 :: (List.replicate (2 + 5 * n) .dead ++ [Blk.row (arrL n (fun j => trueC n L U m y j)) 2 1])) = x := ⟨_, rfl⟩
  rw [hL2]
  have hg0 : L2[Lx.length]? = some (.cells [.int .i64 p, .int .i64 q] 29) := by rw [← hL2, getElem?_app_z]; rfl
  have hg1 : ∀ l : H, (L2 ++ l)[Lx.length]? = some (.cells [.int .i64 p, .int .i64 q] 29) := fun l => getElem?_app_lt hg0
  have c1 : ¬ q < 1 := by omega
  refine TC_cut 400 (by kernel_rfl) fun qI qIn qIr qIx => ?_
  simp -implicitDefEqProofs only [sB, Nat.reduceAdd, Nat.reduceSub, yieldL, popK, flat, nptr, Value.cells, H.new, eq_self, Int.reduceEq, Int.reduceLT, Int.reduceLE, Nat.reduceEqDiff, Nat.reduceLeDiff, thenQ, ContK, ty2, ty3, ty4, ty5, ty24, ty25, ty29, ty30, ty34, ty44, ty45, ty70, Bool.not_true, Bool.not_false, decide_true, decide_false, if_true, if_false, unk1, z00, len_assoc, st34, st29, Bool.and_self, getElem?_app_z, set_app_z, hg0, hg1, c1]
  refine qIn _ ?_
  by_cases hq2 : 1 < q
  · refine TC_cut 400 (by kernel_rfl) fun qJ qJn qJr qJx => ?_
    simp -implicitDefEqProofs only [sB, Nat.reduceAdd, Nat.reduceSub, yieldL, popK, flat, nptr, Value.cells, H.new, eq_self, Int.reduceEq, Int.reduceLT, Int.reduceLE, Nat.reduceEqDiff, Nat.reduceLeDiff, thenQ, ContK, ty2, ty3, ty4, ty5, ty24, ty25, ty29, ty30, ty34, ty44, ty45, ty70, Bool.not_true, Bool.not_false, decide_true, decide_false, if_true, if_false, unk1, z00, len_assoc, st34, st29, Bool.and_self, getElem?_app_z, set_app_z, hg0, hg1, hq2]
    refine RunCall_of (works9 I _) ?_
    simp -implicitDefEqProofs only [sB, Nat.reduceAdd, Nat.reduceSub, yieldL, popK, flat, nptr, Value.cells, H.new, eq_self, Int.reduceEq, Int.reduceLT, Int.reduceLE, Nat.reduceEqDiff, Nat.reduceLeDiff, thenQ, ContK, ty2, ty3, ty4, ty5, ty24, ty25, ty29, ty30, ty34, ty44, ty45, ty70, Bool.not_true, Bool.not_false, decide_true, decide_false, if_true, if_false, unk1, z00, len_assoc, st34, st29, Bool.and_self]
    refine qJr _ ?_
    simp -implicitDefEqProofs only [sB, Nat.reduceAdd, Nat.reduceSub, yieldL, popK, flat, nptr, Value.cells, H.new, eq_self, Int.reduceEq, Int.reduceLT, Int.reduceLE, Nat.reduceEqDiff, Nat.reduceLeDiff, thenQ, ContK, ty2, ty3, ty4, ty5, ty24, ty25, ty29, ty30, ty34, ty44, ty45, ty70, Bool.not_true, Bool.not_false, decide_true, decide_false, if_true, if_false, unk1, z00, len_assoc, st34, st29, Bool.and_self]
    first | exact ⟨⟨_, rfl⟩, rfl⟩ | exact ⟨_, rfl⟩
  · have hq1' : q = 1 := by omega
    have hNp := hpq hq1'
    subst hq1'
    have hp1 : p ≤ 100000 := by
      refine Classical.byContradiction fun hc => ?_
      have := Int.mul_le_mul_of_nonneg_right (show (100001 : Int) ≤ p by omega) (show 0 ≤ weighD n D d by omega)
      omega
    have hp0' : ¬ p < 0 := by omega
    have hp1' : ¬ 100000 < p := by omega
    obtain ⟨g1, g2⟩ := dips_has ch hrd hNp
    have g3 : d ≤ dTo n D L p - 1 := by omega
    have hD : dipsV n D L U pr p = .tuple #[.agg #[.int .i64 (dFrom n D U p), .int .i64 (dTo n D L p - 1)], .int .i64 0] := by
      rw [dipsV_fine t hcp ⟨hp0, hp1⟩, if_neg (by omega)]; rfl
    have kd := fun h => dips14 I (h := h) (pr := pr) (l := p) hv0 hcv
    rw [hD] at kd
    refine TC_cut 400 (by kernel_rfl) fun qJ qJn qJr qJx => ?_
    simp -implicitDefEqProofs only [sB, Nat.reduceAdd, Nat.reduceSub, yieldL, popK, flat, nptr, Value.cells, H.new, eq_self, Int.reduceEq, Int.reduceLT, Int.reduceLE, Nat.reduceEqDiff, Nat.reduceLeDiff, thenQ, ContK, ty2, ty3, ty4, ty5, ty24, ty25, ty29, ty30, ty34, ty44, ty45, ty70, Bool.not_true, Bool.not_false, decide_true, decide_false, if_true, if_false, unk1, z00, len_assoc, st34, st29, Bool.and_self, getElem?_app_z, set_app_z, hg0, hg1, hp0', hp1']
    refine qJn _ ?_
    refine TC_cut 400 (by kernel_rfl) fun qK qKn qKr qKx => ?_
    simp -implicitDefEqProofs only [sB, Nat.reduceAdd, Nat.reduceSub, yieldL, popK, flat, nptr, Value.cells, H.new, eq_self, Int.reduceEq, Int.reduceLT, Int.reduceLE, Nat.reduceEqDiff, Nat.reduceLeDiff, thenQ, ContK, ty2, ty3, ty4, ty5, ty24, ty25, ty29, ty30, ty34, ty44, ty45, ty70, Bool.not_true, Bool.not_false, decide_true, decide_false, if_true, if_false, unk1, z00, len_assoc, st34, st29, Bool.and_self, getElem?_app_z, set_app_z, hg0, hg1]
    refine RunCall_of (kd _) ?_
    simp -implicitDefEqProofs only [sB, Nat.reduceAdd, Nat.reduceSub, yieldL, popK, flat, nptr, Value.cells, H.new, eq_self, Int.reduceEq, Int.reduceLT, Int.reduceLE, Nat.reduceEqDiff, Nat.reduceLeDiff, thenQ, ContK, ty2, ty3, ty4, ty5, ty24, ty25, ty29, ty30, ty34, ty44, ty45, ty70, Bool.not_true, Bool.not_false, decide_true, decide_false, if_true, if_false, unk1, z00, len_assoc, st34, st29, Bool.and_self, getElem?_app_z, set_app_z, hg0, hg1]
    refine qKn _ ?_
    refine TC_last 400 (by kernel_rfl) ?_
    simp -implicitDefEqProofs only [sB, Nat.reduceAdd, Nat.reduceSub, yieldL, popK, flat, nptr, Value.cells, H.new, eq_self, Int.reduceEq, Int.reduceLT, Int.reduceLE, Nat.reduceEqDiff, Nat.reduceLeDiff, thenQ, ContK, ty2, ty3, ty4, ty5, ty24, ty25, ty29, ty30, ty34, ty44, ty45, ty70, Bool.not_true, Bool.not_false, decide_true, decide_false, if_true, if_false, unk1, z00, len_assoc, st34, st29, Bool.and_self, g1, g3, getElem?_app_k, getElem?_app_z, hg0, hg1]
    refine RunCall_of (works9 I _) ?_
    simp -implicitDefEqProofs only [sB, Nat.reduceAdd, Nat.reduceSub, yieldL, popK, flat, nptr, Value.cells, H.new, eq_self, Int.reduceEq, Int.reduceLT, Int.reduceLE, Nat.reduceEqDiff, Nat.reduceLeDiff, thenQ, ContK, ty2, ty3, ty4, ty5, ty24, ty25, ty29, ty30, ty34, ty44, ty45, ty70, Bool.not_true, Bool.not_false, decide_true, decide_false, if_true, if_false, unk1, z00, len_assoc, st34, st29, Bool.and_self]
    first | exact ⟨⟨_, rfl⟩, rfl⟩ | exact ⟨_, rfl⟩
end Go.Proofs.Ytcocmbccfikmhaa
