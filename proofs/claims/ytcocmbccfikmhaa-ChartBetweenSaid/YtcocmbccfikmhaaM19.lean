/- The law ChartEither: its function answers true (own texts put together: C35) -/
import Derived.Test.YtcocmbccfikmhaaM18
import Derived.Test.YtcocmbccfikmhaaM16
import Derived.Test.YtcocmbccfikmhaaM14
import Derived.Test.YtcocmbccfikmhaaM8
import Derived.Test.YtcocmbccfikmhaaM11
import Derived.Test.YtcocmbccfikmhaaM9
import Derived.Test.YtcocmbccfikmhaaM4
set_option linter.unusedSimpArgs false
set_option linter.unusedVariables false
namespace Go.Proofs.Ytcocmbccfikmhaa
open Go.Sym
theorem ckF_some {L U : Nat → Int} {i j : Nat} : ∀ m k, ckF L U i m k = some j → k ≤ j ∧ j < k + m ∧ U j < L i ∧ ∀ j', k ≤ j' → j' < j → ¬ U j' < L i
  | 0, k, h => by cases h
  | m + 1, k, h => by
    unfold ckF at h
    by_cases hc : U k < L i
    · rw [if_pos hc] at h
      cases h
      exact ⟨Nat.le_refl _, by omega, hc, fun j' h1 h2 => by omega⟩
    · rw [if_neg hc] at h
      obtain ⟨h1, h2, h3, h4⟩ := ckF_some m (k + 1) h
      refine ⟨by omega, by omega, h3, fun j' g1 g2 => ?_⟩
      by_cases e : j' = k
      · subst e; exact hc
      · exact h4 j' (by omega) g2
theorem ciF_some {L U : Nat → Int} {n a b : Nat} : ∀ m i, m + i = n → ciF L U n m i = some (a, b) → i ≤ a ∧ a < b ∧ b < n ∧ U b < L a ∧ ∀ a' b', i ≤ a' → a' < b' → b' < n → (a' < a ∨ a' = a ∧ b' < b) → ¬ U b' < L a'
  | 0, i, _, h => by cases h
  | m + 1, i, hm, h => by
    unfold ciF at h
    cases hc : ckF L U i (n - (i + 1)) (i + 1) with
    | some k =>
      rw [hc] at h
      simp only [Option.some.injEq, Prod.mk.injEq] at h
      obtain ⟨rfl, rfl⟩ := h
      obtain ⟨h1, h2, h3, h4⟩ := ckF_some _ _ hc
      refine ⟨Nat.le_refl _, by omega, by omega, h3, fun a' b' g1 g2 g3 g4 => ?_⟩
      rcases g4 with g4 | ⟨rfl, g4⟩
      · omega
      · exact h4 b' (by omega) g4
    | none =>
      rw [hc] at h
      obtain ⟨h1, h2, h3, h4, h5⟩ := ciF_some m (i + 1) (by omega) h
      refine ⟨by omega, h2, h3, h4, fun a' b' g1 g2 g3 g4 => ?_⟩
      by_cases e : a' = i
      · subst e
        intro hu
        have := (ckF_iff (L := L) (U := U) (i := a') (n - (a' + 1)) (a' + 1)).2 ⟨b', by omega, by omega, hu⟩
        rw [hc] at this; cases this
      · exact h5 a' b' (by omega) g2 g3 g4
theorem clash_some {L U : Nat → Int} {n a b : Nat} (h : clashP n L U = some (a, b)) : a < b ∧ b < n ∧ U b < L a ∧ ∀ a' b', a' < b' → b' < n → (a' < a ∨ a' = a ∧ b' < b) → ¬ U b' < L a' := by
  obtain ⟨_, h2, h3, h4, h5⟩ := ciF_some n 0 (by omega) h
  exact ⟨h2, h3, h4, fun a' b' g => h5 a' b' (Nat.zero_le _) g⟩
theorem clash_none {L U : Nat → Int} {n : Nat} (h : clashP n L U = none) : ∀ a b, a < b → b < n → ¬ U b < L a := by
  intro a b h1 h2 h3
  have := clash_iff.2 ⟨a, b, h1, h2, h3⟩
  rw [h] at this; cases this
theorem no_chart {n m : Nat} {D L U x : Nat → Int} {pr : Int} (h : (clashP n L U).isSome = true) : chartE n D L U pr m x ≠ 0 := by
  intro h0
  have ch := chart_ok h0
  obtain ⟨a, b, h1, h2, h3⟩ := clash_iff.1 h
  have := ch.rng a (by omega)
  have := ch.rng b h2
  have := mono_of ch.inc a b (by omega) h2
  omega
theorem lo_chart {n : Nat} {D L U : Nat → Int} {pr : Int} (t : TankOk n D L U pr) (h : clashP n L U = none) : chartE n D L U pr n (fun j => rmax L j) = 0 :=
  chart_err ⟨t, rfl, fun i hi => by
    obtain ⟨⟨j, h1, h2⟩, h3⟩ := rmax_spec L i
    refine ⟨h3 i (Nat.le_refl _), ?_⟩
    simp only [h2]
    by_cases e : j = i
    · subst e; exact (t.lit j hi).2.1
    · have := clash_none h j i (by omega) hi; omega, fun i hi => rmax_mono L i⟩
theorem hi_chart {n : Nat} {D L U : Nat → Int} {pr : Int} (t : TankOk n D L U pr) (h : clashP n L U = none) : chartE n D L U pr n (fun j => rmin U n j) = 0 :=
  chart_err ⟨t, rfl, fun i hi => by
    obtain ⟨⟨j, h1, h2, h3⟩, h4⟩ := rmin_spec U n _ i rfl hi
    refine ⟨?_, h4 i (Nat.le_refl _) hi⟩
    simp only [h3]
    by_cases e : j = i
    · subst e; exact (t.lit j hi).2.1
    · have := clash_none h i j (by omega) h2; omega, fun i hi => rmin_mono U hi⟩
theorem z00 : ((0 : Nat) : Int) = 0 := rfl
theorem cv5_3 {a : Int} : aconv Try.prog 5 3 (.int .u8 a) = some (.int .i64 (IntKind.i64.wrap a)) := by
  have e5 : Try.prog.underlying 5 = some (.int .u8) := by kernel_rfl
  have e3 : Try.prog.underlying 3 = some (.int .i64) := by kernel_rfl
  unfold aconv convert
  rw [free_bind, free_underlying e5, Option.bind_some, free_bind, free_underlying e3]
  rfl
theorem seesA {I : Nat → Option Obj} {h T : H} {q n : Nat} {f : Nat → Int} (hn : n < 1000) (h0 : n ≠ 0) (hT : T[q]? = some (.row (arrL n f) 2 1)) : Sees I (h ++ T) (slA (2 * (h.length + q)) n) n f :=
  ⟨_, _, slA_pos h0, by omega, fun _ => ⟨2 * (h.length + q), 0, rfl, fun k hk => by rw [Nat.zero_add]; exact rd_arrRow hT hk⟩⟩

set_option maxRecDepth 100000 in
set_option maxHeartbeats 8000000 in
theorem chartEither6 (I : Nat → Option Obj) {h : H} {v gv : Value} {n m : Nat} {D L U x : Nat → Int} {pr r0 r1 : Int} (hv : Rows I v n D L U) (hcv : ∀ N, closedV (okN N) v = true) (hx : ∀ h, Sees I h gv m x) (hr0 : 0 ≤ r0 ∧ r0 ≤ 255) (hr1 : 0 ≤ r1 ∧ r1 ≤ 255) :
    Snd Try.prog I (.func 6) [.agg #[v, .int .i64 pr], gv, .agg #[.int .u8 r0, .int .u8 r1]] h (.bool true) h := by
  have hv0 := hv
  obtain ⟨q, c, rfl, hn, hq⟩ := hv
  obtain ⟨q2, c2, rfl, hm, _⟩ := hx h
  refine Snd_run0 (rs := [.tmp 6]) 900 Try.func6 (by kernel_rfl) rfl Try.ntmps6 rfl rfl ?_
  simp -implicitDefEqProofs only [sB, Nat.reduceAdd, Nat.reduceSub, yieldL, popK, flat, nptr, Value.cells, H.new, eq_self, Int.reduceEq, Int.reduceLT, Int.reduceLE, Nat.reduceEqDiff, Nat.reduceLeDiff, thenQ, ContK, ty2, ty3, ty4, ty5, ty22, ty24, ty25, ty30, ty34, ty47, ty51, ty64, z00, Bool.not_true, Bool.not_false, decide_true, decide_false, if_true, if_false, unk1, len_assoc, Bool.and_self]
  refine RunCall_of (great8 I hv0) ?_
  cases hgr : decide (25 < n) with
  | true =>
    simp -implicitDefEqProofs only [sB, Nat.reduceAdd, Nat.reduceSub, yieldL, popK, flat, nptr, Value.cells, H.new, eq_self, Int.reduceEq, Int.reduceLT, Int.reduceLE, Nat.reduceEqDiff, Nat.reduceLeDiff, thenQ, ContK, ty2, ty3, ty4, ty5, ty22, ty24, ty25, ty30, ty34, ty47, ty51, ty64, z00, Bool.not_true, Bool.not_false, decide_true, decide_false, if_true, if_false, unk1, len_assoc, Bool.and_self]
    refine RunCall_of (works9 I _) ?_
    simp -implicitDefEqProofs only [sB, Nat.reduceAdd, Nat.reduceSub, yieldL, popK, flat, nptr, Value.cells, H.new, eq_self, Int.reduceEq, Int.reduceLT, Int.reduceLE, Nat.reduceEqDiff, Nat.reduceLeDiff, thenQ, ContK, ty2, ty3, ty4, ty5, ty22, ty24, ty25, ty30, ty34, ty47, ty51, ty64, z00, Bool.not_true, Bool.not_false, decide_true, decide_false, if_true, if_false, unk1, len_assoc, Bool.and_self]
    first | exact ⟨⟨_, rfl⟩, rfl⟩ | exact ⟨_, rfl⟩
  | false =>
  simp -implicitDefEqProofs only [sB, Nat.reduceAdd, Nat.reduceSub, yieldL, popK, flat, nptr, Value.cells, H.new, eq_self, Int.reduceEq, Int.reduceLT, Int.reduceLE, Nat.reduceEqDiff, Nat.reduceLeDiff, thenQ, ContK, ty2, ty3, ty4, ty5, ty22, ty24, ty25, ty30, ty34, ty47, ty51, ty64, z00, Bool.not_true, Bool.not_false, decide_true, decide_false, if_true, if_false, unk1, len_assoc, Bool.and_self]
  refine RunCall_of (checkTank30 I hv0) ?_
  by_cases he : tankE n D L U pr = 0
  case neg =>
    simp -implicitDefEqProofs only [sB, Nat.reduceAdd, Nat.reduceSub, yieldL, popK, flat, nptr, Value.cells, H.new, eq_self, Int.reduceEq, Int.reduceLT, Int.reduceLE, Nat.reduceEqDiff, Nat.reduceLeDiff, thenQ, ContK, ty2, ty3, ty4, ty5, ty22, ty24, ty25, ty30, ty34, ty47, ty51, ty64, z00, Bool.not_true, Bool.not_false, decide_true, decide_false, if_true, if_false, unk1, len_assoc, Bool.and_self, he]
    refine RunCall_of (works9 I _) ?_
    simp -implicitDefEqProofs only [sB, Nat.reduceAdd, Nat.reduceSub, yieldL, popK, flat, nptr, Value.cells, H.new, eq_self, Int.reduceEq, Int.reduceLT, Int.reduceLE, Nat.reduceEqDiff, Nat.reduceLeDiff, thenQ, ContK, ty2, ty3, ty4, ty5, ty22, ty24, ty25, ty30, ty34, ty47, ty51, ty64, z00, Bool.not_true, Bool.not_false, decide_true, decide_false, if_true, if_false, unk1, len_assoc, Bool.and_self]
    first | exact ⟨⟨_, rfl⟩, rfl⟩ | exact ⟨_, rfl⟩
  rw [he]
  by_cases hg2 : (40 : Int) < (m : Int)
  · simp -implicitDefEqProofs only [sB, Nat.reduceAdd, Nat.reduceSub, yieldL, popK, flat, nptr, Value.cells, H.new, eq_self, Int.reduceEq, Int.reduceLT, Int.reduceLE, Nat.reduceEqDiff, Nat.reduceLeDiff, thenQ, ContK, ty2, ty3, ty4, ty5, ty22, ty24, ty25, ty30, ty34, ty47, ty51, ty64, z00, Bool.not_true, Bool.not_false, decide_true, decide_false, if_true, if_false, unk1, len_assoc, Bool.and_self, hg2]
    refine RunCall_of (works9 I _) ?_
    simp -implicitDefEqProofs only [sB, Nat.reduceAdd, Nat.reduceSub, yieldL, popK, flat, nptr, Value.cells, H.new, eq_self, Int.reduceEq, Int.reduceLT, Int.reduceLE, Nat.reduceEqDiff, Nat.reduceLeDiff, thenQ, ContK, ty2, ty3, ty4, ty5, ty22, ty24, ty25, ty30, ty34, ty47, ty51, ty64, z00, Bool.not_true, Bool.not_false, decide_true, decide_false, if_true, if_false, unk1, len_assoc, Bool.and_self]
    first | exact ⟨⟨_, rfl⟩, rfl⟩ | exact ⟨_, rfl⟩
  have t := tank_ok he
  have n2 := t.n2
  have n16 := t.n16
  obtain ⟨id, off, rfl, hr⟩ := hq (by omega)
  have hcl := fun h => clash31 I (h := h) (pr := pr) hv0
  have hV : clashV n D L U pr = match clashP n L U with
      | some (i, k) => .tuple #[.int .i64 i, .int .i64 k, .int .i64 0]
      | none => .tuple #[.int .i64 0, .int .i64 0, .int .i64 5] := by unfold clashV; rw [if_neg (by rw [he]; simp)]; rfl
  rw [hV] at hcl
  have htk := tight_iff t
  have wr0 : IntKind.i64.wrap r0 = r0 := wrap_i64 (by omega) (by omega)
  have wr1 : IntKind.i64.wrap r1 = r1 := wrap_i64 (by omega) (by omega)
  have hn0 : ¬ ((n : Int) = 0) := by omega
  obtain ⟨a, ha1, ha2⟩ : ∃ a : Nat, r0.tmod (n : Int) = (a : Int) ∧ a < n := ⟨(r0.tmod n).toNat, by have := Int.tmod_nonneg (n : Int) hr0.1; omega, by have := Int.tmod_lt_of_pos r0 (show (0 : Int) < n by omega); have := Int.tmod_nonneg (n : Int) hr0.1; omega⟩
  obtain ⟨b, hb1, hb2⟩ : ∃ b : Nat, r1.tmod (n : Int) = (b : Int) ∧ b < n := ⟨(r1.tmod n).toNat, by have := Int.tmod_nonneg (n : Int) hr1.1; omega, by have := Int.tmod_lt_of_pos r1 (show (0 : Int) < n by omega); have := Int.tmod_nonneg (n : Int) hr1.1; omega⟩
  have bn : ∀ (x y : Operand) (z : Int) (ty : TypeId), abin Try.prog .rem ty x y (.int .i64 z) (.int .i64 n) = some (.int .i64 (z.tmod n)) := fun x y z ty => bin_rem hn0
  have q2' : (0 : Int) ≤ 0 ∧ (0 : Int) < ((2 : Nat) : Int) := by omega
  have q3' : (0 : Int) ≤ 1 ∧ (1 : Int) < ((2 : Nat) : Int) := by omega
  have a2 : (0 : Int) ≤ (a : Int) ∧ (a : Int) < (n : Int) := ⟨by omega, by omega⟩
  have b2 : (0 : Int) ≤ (b : Int) ∧ (b : Int) < (n : Int) := ⟨by omega, by omega⟩
  have rdA := fun h => row_L (hr h a ha2)
  have rdB' := fun h => row_U (hr h b hb2)
  simp -implicitDefEqProofs only [sB, Nat.reduceAdd, Nat.reduceSub, yieldL, popK, flat, nptr, Value.cells, H.new, eq_self, Int.reduceEq, Int.reduceLT, Int.reduceLE, Nat.reduceEqDiff, Nat.reduceLeDiff, thenQ, ContK, ty2, ty3, ty4, ty5, ty22, ty24, ty25, ty30, ty34, ty47, ty51, ty64, z00, Bool.not_true, Bool.not_false, decide_true, decide_false, if_true, if_false, unk1, len_assoc, Bool.and_self, hg2]
  refine RunCall_of (hcl _) ?_
  cases hcp : clashP n L U with
  | some ik =>
    obtain ⟨i, k⟩ := ik
    obtain ⟨ik1, ik2, ik3, ik4⟩ := clash_some hcp
    have hok : tightOk n (rowA n L U) = false := by rw [htk, hcp]; rfl
    have hE : openE n D L U pr 0 (fun _ => 0) = 21 := by
      unfold openE
      rw [if_neg (by rw [he]; simp), if_neg (by rw [show withinB (D 0) (D (n - 1)) 0 (fun _ => 0) = true from rfl]; simp), if_pos hok]
    have hop := fun h => tight22_err I (h := h) (pr := pr) hv0 hcv (by rw [hE]; simp)
    rw [hE] at hop
    have i2 : (0 : Int) ≤ (i : Int) ∧ (i : Int) < (n : Int) := ⟨by omega, by omega⟩
    have k2 : (0 : Int) ≤ (k : Int) ∧ (k : Int) < (n : Int) := ⟨by omega, by omega⟩
    have rdI := fun h => row_L (hr h i (by omega))
    have rdK := fun h => row_U (hr h k (by omega))
    have c1 : ¬ (i : Int) < 0 := by omega
    have c2 : ¬ (k : Int) ≤ (i : Int) := by omega
    have c3 : ¬ (n : Int) ≤ (k : Int) := by omega
    have c4 : ¬ L i ≤ U k := by omega
    have hce := no_chart (n := n) (m := m) (D := D) (L := L) (U := U) (x := x) (pr := pr) (by rw [hcp]; rfl)
    simp -implicitDefEqProofs only [sB, Nat.reduceAdd, Nat.reduceSub, yieldL, popK, flat, nptr, Value.cells, H.new, eq_self, Int.reduceEq, Int.reduceLT, Int.reduceLE, Nat.reduceEqDiff, Nat.reduceLeDiff, thenQ, ContK, ty2, ty3, ty4, ty5, ty22, ty24, ty25, ty30, ty34, ty47, ty51, ty64, z00, Bool.not_true, Bool.not_false, decide_true, decide_false, if_true, if_false, unk1, len_assoc, Bool.and_self]
    refine RunCall_of (hop _) ?_
    simp -implicitDefEqProofs only [sB, Nat.reduceAdd, Nat.reduceSub, yieldL, popK, flat, nptr, Value.cells, H.new, eq_self, Int.reduceEq, Int.reduceLT, Int.reduceLE, Nat.reduceEqDiff, Nat.reduceLeDiff, thenQ, ContK, ty2, ty3, ty4, ty5, ty22, ty24, ty25, ty30, ty34, ty47, ty51, ty64, sD, mixT, isAlloc, ridOf, blockOf, z00, Bool.not_true, Bool.not_false, decide_true, decide_false, if_true, if_false, unk1, len_assoc, Bool.and_self, bn, cv5_3, wr0, wr1, ha1, hb1, q2', q3', Int.toNat_zero, Int.toNat_one, i2, k2, rdI, rdK, c1, c2, c3, c4]
    refine ⟨drawOk_ren (fun _ => 0) rfl (by kernel_rfl), drawOk_ren (fun _ => 0) rfl (by kernel_rfl), ?_⟩
    by_cases p1 : a < b
    · have p1' : (a : Int) < (b : Int) := by omega
      by_cases p2 : a < i
      · have p2' : (a : Int) < (i : Int) := by omega
        have p5 := ik4 a b p1 hb2 (.inl p2)
        simp -implicitDefEqProofs only [sB, Nat.reduceAdd, Nat.reduceSub, yieldL, popK, flat, nptr, Value.cells, H.new, eq_self, Int.reduceEq, Int.reduceLT, Int.reduceLE, Nat.reduceEqDiff, Nat.reduceLeDiff, thenQ, ContK, ty2, ty3, ty4, ty5, ty22, ty24, ty25, ty30, ty34, ty47, ty51, ty64, sD, mixT, isAlloc, ridOf, blockOf, z00, Bool.not_true, Bool.not_false, decide_true, decide_false, if_true, if_false, unk1, len_assoc, Bool.and_self, a2, b2, rdA, rdB', hce, p1', p2', p5]
        refine ⟨drawOk_ren (fun _ => 0) rfl (by kernel_rfl), ?_⟩
        refine RunCall_of (checkChart21 I hv0 (hx _)) ?_
        simp -implicitDefEqProofs only [sB, Nat.reduceAdd, Nat.reduceSub, yieldL, popK, flat, nptr, Value.cells, H.new, eq_self, Int.reduceEq, Int.reduceLT, Int.reduceLE, Nat.reduceEqDiff, Nat.reduceLeDiff, thenQ, ContK, ty2, ty3, ty4, ty5, ty22, ty24, ty25, ty30, ty34, ty47, ty51, ty64, z00, Bool.not_true, Bool.not_false, decide_true, decide_false, if_true, if_false, unk1, len_assoc, Bool.and_self, hce]
        refine RunCall_of (works9 I _) ?_
        simp -implicitDefEqProofs only [sB, Nat.reduceAdd, Nat.reduceSub, yieldL, popK, flat, nptr, Value.cells, H.new, eq_self, Int.reduceEq, Int.reduceLT, Int.reduceLE, Nat.reduceEqDiff, Nat.reduceLeDiff, thenQ, ContK, ty2, ty3, ty4, ty5, ty22, ty24, ty25, ty30, ty34, ty47, ty51, ty64, z00, Bool.not_true, Bool.not_false, decide_true, decide_false, if_true, if_false, unk1, len_assoc, Bool.and_self]
        first | exact ⟨⟨_, rfl⟩, rfl⟩ | exact ⟨_, rfl⟩
      · have p2' : ¬ (a : Int) < (i : Int) := by omega
        by_cases p3 : a = i
        · subst p3
          by_cases p4 : b < k
          · have p4' : (b : Int) < (k : Int) := by omega
            have p5 := ik4 a b p1 hb2 (.inr ⟨rfl, p4⟩)
            simp -implicitDefEqProofs only [sB, Nat.reduceAdd, Nat.reduceSub, yieldL, popK, flat, nptr, Value.cells, H.new, eq_self, Int.reduceEq, Int.reduceLT, Int.reduceLE, Nat.reduceEqDiff, Nat.reduceLeDiff, thenQ, ContK, ty2, ty3, ty4, ty5, ty22, ty24, ty25, ty30, ty34, ty47, ty51, ty64, sD, mixT, isAlloc, ridOf, blockOf, z00, Bool.not_true, Bool.not_false, decide_true, decide_false, if_true, if_false, unk1, len_assoc, Bool.and_self, a2, b2, rdA, rdB', hce, p1', p2', p4', p5]
            refine ⟨drawOk_ren (fun _ => 0) rfl (by kernel_rfl), ?_⟩
            refine RunCall_of (checkChart21 I hv0 (hx _)) ?_
            simp -implicitDefEqProofs only [sB, Nat.reduceAdd, Nat.reduceSub, yieldL, popK, flat, nptr, Value.cells, H.new, eq_self, Int.reduceEq, Int.reduceLT, Int.reduceLE, Nat.reduceEqDiff, Nat.reduceLeDiff, thenQ, ContK, ty2, ty3, ty4, ty5, ty22, ty24, ty25, ty30, ty34, ty47, ty51, ty64, z00, Bool.not_true, Bool.not_false, decide_true, decide_false, if_true, if_false, unk1, len_assoc, Bool.and_self, hce]
            refine RunCall_of (works9 I _) ?_
            simp -implicitDefEqProofs only [sB, Nat.reduceAdd, Nat.reduceSub, yieldL, popK, flat, nptr, Value.cells, H.new, eq_self, Int.reduceEq, Int.reduceLT, Int.reduceLE, Nat.reduceEqDiff, Nat.reduceLeDiff, thenQ, ContK, ty2, ty3, ty4, ty5, ty22, ty24, ty25, ty30, ty34, ty47, ty51, ty64, z00, Bool.not_true, Bool.not_false, decide_true, decide_false, if_true, if_false, unk1, len_assoc, Bool.and_self]
            first | exact ⟨⟨_, rfl⟩, rfl⟩ | exact ⟨_, rfl⟩
          · have p4' : ¬ (b : Int) < (k : Int) := by omega
            simp -implicitDefEqProofs only [sB, Nat.reduceAdd, Nat.reduceSub, yieldL, popK, flat, nptr, Value.cells, H.new, eq_self, Int.reduceEq, Int.reduceLT, Int.reduceLE, Nat.reduceEqDiff, Nat.reduceLeDiff, thenQ, ContK, ty2, ty3, ty4, ty5, ty22, ty24, ty25, ty30, ty34, ty47, ty51, ty64, sD, mixT, isAlloc, ridOf, blockOf, z00, Bool.not_true, Bool.not_false, decide_true, decide_false, if_true, if_false, unk1, len_assoc, Bool.and_self, a2, b2, rdA, rdB', hce, p1', p2', p4']
            refine ⟨drawOk_ren (fun _ => 0) rfl (by kernel_rfl), ?_⟩
            refine RunCall_of (checkChart21 I hv0 (hx _)) ?_
            simp -implicitDefEqProofs only [sB, Nat.reduceAdd, Nat.reduceSub, yieldL, popK, flat, nptr, Value.cells, H.new, eq_self, Int.reduceEq, Int.reduceLT, Int.reduceLE, Nat.reduceEqDiff, Nat.reduceLeDiff, thenQ, ContK, ty2, ty3, ty4, ty5, ty22, ty24, ty25, ty30, ty34, ty47, ty51, ty64, z00, Bool.not_true, Bool.not_false, decide_true, decide_false, if_true, if_false, unk1, len_assoc, Bool.and_self, hce]
            refine RunCall_of (works9 I _) ?_
            simp -implicitDefEqProofs only [sB, Nat.reduceAdd, Nat.reduceSub, yieldL, popK, flat, nptr, Value.cells, H.new, eq_self, Int.reduceEq, Int.reduceLT, Int.reduceLE, Nat.reduceEqDiff, Nat.reduceLeDiff, thenQ, ContK, ty2, ty3, ty4, ty5, ty22, ty24, ty25, ty30, ty34, ty47, ty51, ty64, z00, Bool.not_true, Bool.not_false, decide_true, decide_false, if_true, if_false, unk1, len_assoc, Bool.and_self]
            first | exact ⟨⟨_, rfl⟩, rfl⟩ | exact ⟨_, rfl⟩
        · have p3' : ¬ (a : Int) = (i : Int) := by omega
          simp -implicitDefEqProofs only [sB, Nat.reduceAdd, Nat.reduceSub, yieldL, popK, flat, nptr, Value.cells, H.new, eq_self, Int.reduceEq, Int.reduceLT, Int.reduceLE, Nat.reduceEqDiff, Nat.reduceLeDiff, thenQ, ContK, ty2, ty3, ty4, ty5, ty22, ty24, ty25, ty30, ty34, ty47, ty51, ty64, sD, mixT, isAlloc, ridOf, blockOf, z00, Bool.not_true, Bool.not_false, decide_true, decide_false, if_true, if_false, unk1, len_assoc, Bool.and_self, a2, b2, rdA, rdB', hce, p1', p2', p3']
          refine ⟨drawOk_ren (fun _ => 0) rfl (by kernel_rfl), ?_⟩
          refine RunCall_of (checkChart21 I hv0 (hx _)) ?_
          simp -implicitDefEqProofs only [sB, Nat.reduceAdd, Nat.reduceSub, yieldL, popK, flat, nptr, Value.cells, H.new, eq_self, Int.reduceEq, Int.reduceLT, Int.reduceLE, Nat.reduceEqDiff, Nat.reduceLeDiff, thenQ, ContK, ty2, ty3, ty4, ty5, ty22, ty24, ty25, ty30, ty34, ty47, ty51, ty64, z00, Bool.not_true, Bool.not_false, decide_true, decide_false, if_true, if_false, unk1, len_assoc, Bool.and_self, hce]
          refine RunCall_of (works9 I _) ?_
          simp -implicitDefEqProofs only [sB, Nat.reduceAdd, Nat.reduceSub, yieldL, popK, flat, nptr, Value.cells, H.new, eq_self, Int.reduceEq, Int.reduceLT, Int.reduceLE, Nat.reduceEqDiff, Nat.reduceLeDiff, thenQ, ContK, ty2, ty3, ty4, ty5, ty22, ty24, ty25, ty30, ty34, ty47, ty51, ty64, z00, Bool.not_true, Bool.not_false, decide_true, decide_false, if_true, if_false, unk1, len_assoc, Bool.and_self]
          first | exact ⟨⟨_, rfl⟩, rfl⟩ | exact ⟨_, rfl⟩
    · have p1' : ¬ (a : Int) < (b : Int) := by omega
      simp -implicitDefEqProofs only [sB, Nat.reduceAdd, Nat.reduceSub, yieldL, popK, flat, nptr, Value.cells, H.new, eq_self, Int.reduceEq, Int.reduceLT, Int.reduceLE, Nat.reduceEqDiff, Nat.reduceLeDiff, thenQ, ContK, ty2, ty3, ty4, ty5, ty22, ty24, ty25, ty30, ty34, ty47, ty51, ty64, sD, mixT, isAlloc, ridOf, blockOf, z00, Bool.not_true, Bool.not_false, decide_true, decide_false, if_true, if_false, unk1, len_assoc, Bool.and_self, a2, b2, rdA, rdB', hce, p1']
      refine ⟨drawOk_ren (fun _ => 0) rfl (by kernel_rfl), ?_⟩
      refine RunCall_of (checkChart21 I hv0 (hx _)) ?_
      simp -implicitDefEqProofs only [sB, Nat.reduceAdd, Nat.reduceSub, yieldL, popK, flat, nptr, Value.cells, H.new, eq_self, Int.reduceEq, Int.reduceLT, Int.reduceLE, Nat.reduceEqDiff, Nat.reduceLeDiff, thenQ, ContK, ty2, ty3, ty4, ty5, ty22, ty24, ty25, ty30, ty34, ty47, ty51, ty64, z00, Bool.not_true, Bool.not_false, decide_true, decide_false, if_true, if_false, unk1, len_assoc, Bool.and_self, hce]
      refine RunCall_of (works9 I _) ?_
      simp -implicitDefEqProofs only [sB, Nat.reduceAdd, Nat.reduceSub, yieldL, popK, flat, nptr, Value.cells, H.new, eq_self, Int.reduceEq, Int.reduceLT, Int.reduceLE, Nat.reduceEqDiff, Nat.reduceLeDiff, thenQ, ContK, ty2, ty3, ty4, ty5, ty22, ty24, ty25, ty30, ty34, ty47, ty51, ty64, z00, Bool.not_true, Bool.not_false, decide_true, decide_false, if_true, if_false, unk1, len_assoc, Bool.and_self]
      first | exact ⟨⟨_, rfl⟩, rfl⟩ | exact ⟨_, rfl⟩
  | none =>
    have hok : tightOk n (rowA n L U) = true := by rw [htk, hcp]; rfl
    have hE : openE n D L U pr 0 (fun _ => 0) = 0 := by
      unfold openE
      rw [if_neg (by rw [he]; simp), if_neg (by rw [show withinB (D 0) (D (n - 1)) 0 (fun _ => 0) = true from rfl]; simp), if_neg (by rw [hok]; simp)]
    have hop := fun h => tight22_ok I (h := h) (pr := pr) hv0 hcv hE
    have hno := clash_none hcp
    have hlo := lo_chart t hcp
    have hhi := hi_chart t hcp
    simp -implicitDefEqProofs only [sB, Nat.reduceAdd, Nat.reduceSub, yieldL, popK, flat, nptr, Value.cells, H.new, eq_self, Int.reduceEq, Int.reduceLT, Int.reduceLE, Nat.reduceEqDiff, Nat.reduceLeDiff, thenQ, ContK, ty2, ty3, ty4, ty5, ty22, ty24, ty25, ty30, ty34, ty47, ty51, ty64, z00, Bool.not_true, Bool.not_false, decide_true, decide_false, if_true, if_false, unk1, len_assoc, Bool.and_self]
    refine RunCall_of (hop _) ?_
    simp -implicitDefEqProofs only [sB, Nat.reduceAdd, Nat.reduceSub, yieldL, popK, flat, nptr, Value.cells, H.new, eq_self, Int.reduceEq, Int.reduceLT, Int.reduceLE, Nat.reduceEqDiff, Nat.reduceLeDiff, thenQ, ContK, ty2, ty3, ty4, ty5, ty22, ty24, ty25, ty30, ty34, ty47, ty51, ty64, sD, mixT, isAlloc, ridOf, blockOf, z00, Bool.not_true, Bool.not_false, decide_true, decide_false, if_true, if_false, unk1, len_assoc, Bool.and_self, bn, cv5_3, wr0, wr1, ha1, hb1, q2', q3', Int.toNat_zero, Int.toNat_one]
    refine ⟨drawOk_ren (fun _ => 0) rfl (by kernel_rfl), ?_⟩
    have hix : ∀ B1 B2 B3 : Blk, (B1 :: B2 :: (List.replicate (9 + 2 * n) .dead ++ [B3]))[11 + 2 * n]? = some B3 := by
      intro B1 B2 B3
      have e : 11 + 2 * n = (9 + 2 * n) + 1 + 1 := by omega
      rw [e, List.getElem?_cons_succ, List.getElem?_cons_succ, List.getElem?_append_right (by simp)]
      simp
    have e11 : 2 + (9 + 2 * n) = 11 + 2 * n := by omega
    by_cases p1 : a < b
    · have p1' : (a : Int) < (b : Int) := by omega
      have p5 := hno a b p1 hb2
      simp -implicitDefEqProofs only [sB, Nat.reduceAdd, Nat.reduceSub, yieldL, popK, flat, nptr, Value.cells, H.new, eq_self, Int.reduceEq, Int.reduceLT, Int.reduceLE, Nat.reduceEqDiff, Nat.reduceLeDiff, thenQ, ContK, ty2, ty3, ty4, ty5, ty22, ty24, ty25, ty30, ty34, ty47, ty51, ty64, sD, mixT, isAlloc, ridOf, blockOf, z00, Bool.not_true, Bool.not_false, decide_true, decide_false, if_true, if_false, unk1, len_assoc, Bool.and_self, a2, b2, rdA, rdB', p1', p5]
      rw [e11]
      refine ⟨drawOk_ren (fun _ => 0) rfl (by kernel_rfl), ?_⟩
      obtain ⟨Ja, hJa⟩ : ∃ J : St → Prop, J = fun s => ∃ (i : Nat) (T : H) (qa : Nat) (qb : Nat), s.df = [] ∧ s.h = h ++ T ∧ s.tm.length = 222 ∧ s.tm.getD 3 undef = .pointer (some ⟨2 * h.length, 0, none⟩) ∧ s.tm.getD 10 undef = .slice (some ⟨2 * (h.length + (11 + 2 * n)), 0, none⟩) n UNK ∧ s.tm.getD 14 undef = slA (2 * (h.length + qa)) i ∧ s.tm.getD 15 undef = slA (2 * (h.length + qb)) i ∧ s.tm.getD 16 undef = .int .i64 i ∧ (i ≤ n) ∧ (T[0]? = some (.cells [.slice (some ⟨id, off, none⟩) n c, .int .i64 pr] 24)) ∧ (T[11 + 2 * n]? = some (.row (rcells (fun j => rmax L j) (fun j => rmin U n j) n) 34 2)) ∧ (i ≠ 0 → T[qa]? = some (.row (arrL i (fun j => rmax L j)) 2 1) ∧ T[qb]? = some (.row (arrL i (fun j => rmin U n j)) 2 1) ∧ qa ≠ qb ∧ 1 < qa ∧ 1 < qb ∧ qa ≠ 11 + 2 * n ∧ qb ≠ 11 + 2 * n) := ⟨_, rfl⟩
      refine Loop_run (by kernel_rfl) 900 Ja (muI 16 n) (by rw [hJa]; exact ⟨0, (.cells [.slice (some ⟨id, off, none⟩) n c, .int .i64 pr] 24 :: .cells [.int .u8 r0, .int .u8 r1] 47 :: (List.replicate (9 + 2 * n) .dead ++ [.row (rcells (fun j => rmax L j) (fun j => rmin U n j) n) 34 2])), 0, 0, rfl, rfl, rfl, rfl, rfl, rfl, rfl, rfl, Nat.zero_le _, rfl, hix _ _ _, fun h => absurd rfl h⟩) ?_
      intro sa hsa
      rw [hJa] at hsa
      obtain ⟨tma, dfa, hha⟩ := sa
      obtain ⟨i, T, qa, qb, ea1, ea2, ea3, la3, la10, la14, la15, la16, hi, h0, hr2, hqa⟩ := hsa
      simp only at ea1 ea2 ea3 la3 la10 la14 la15 la16
      subst dfa; subst hha
      have elita : tma = [tma.getD 0 undef, tma.getD 1 undef, tma.getD 2 undef, .pointer (some ⟨2 * h.length, 0, none⟩), tma.getD 4 undef, tma.getD 5 undef, tma.getD 6 undef, tma.getD 7 undef, tma.getD 8 undef, tma.getD 9 undef, .slice (some ⟨2 * (h.length + (11 + 2 * n)), 0, none⟩) n UNK, tma.getD 11 undef, tma.getD 12 undef, tma.getD 13 undef, slA (2 * (h.length + qa)) i, slA (2 * (h.length + qb)) i, .int .i64 i, tma.getD 17 undef, tma.getD 18 undef, tma.getD 19 undef, tma.getD 20 undef, tma.getD 21 undef, tma.getD 22 undef, tma.getD 23 undef, tma.getD 24 undef, tma.getD 25 undef, tma.getD 26 undef, tma.getD 27 undef, tma.getD 28 undef, tma.getD 29 undef, tma.getD 30 undef, tma.getD 31 undef, tma.getD 32 undef, tma.getD 33 undef, tma.getD 34 undef, tma.getD 35 undef, tma.getD 36 undef, tma.getD 37 undef, tma.getD 38 undef, tma.getD 39 undef, tma.getD 40 undef, tma.getD 41 undef, tma.getD 42 undef, tma.getD 43 undef, tma.getD 44 undef, tma.getD 45 undef, tma.getD 46 undef, tma.getD 47 undef, tma.getD 48 undef, tma.getD 49 undef, tma.getD 50 undef, tma.getD 51 undef, tma.getD 52 undef, tma.getD 53 undef, tma.getD 54 undef, tma.getD 55 undef, tma.getD 56 undef, tma.getD 57 undef, tma.getD 58 undef, tma.getD 59 undef, tma.getD 60 undef, tma.getD 61 undef, tma.getD 62 undef, tma.getD 63 undef, tma.getD 64 undef, tma.getD 65 undef, tma.getD 66 undef, tma.getD 67 undef, tma.getD 68 undef, tma.getD 69 undef, tma.getD 70 undef, tma.getD 71 undef, tma.getD 72 undef, tma.getD 73 undef, tma.getD 74 undef, tma.getD 75 undef, tma.getD 76 undef, tma.getD 77 undef, tma.getD 78 undef, tma.getD 79 undef, tma.getD 80 undef, tma.getD 81 undef, tma.getD 82 undef, tma.getD 83 undef, tma.getD 84 undef, tma.getD 85 undef, tma.getD 86 undef, tma.getD 87 undef, tma.getD 88 undef, tma.getD 89 undef, tma.getD 90 undef, tma.getD 91 undef, tma.getD 92 undef, tma.getD 93 undef, tma.getD 94 undef, tma.getD 95 undef, tma.getD 96 undef, tma.getD 97 undef, tma.getD 98 undef, tma.getD 99 undef, tma.getD 100 undef, tma.getD 101 undef, tma.getD 102 undef, tma.getD 103 undef, tma.getD 104 undef, tma.getD 105 undef, tma.getD 106 undef, tma.getD 107 undef, tma.getD 108 undef, tma.getD 109 undef, tma.getD 110 undef, tma.getD 111 undef, tma.getD 112 undef, tma.getD 113 undef, tma.getD 114 undef, tma.getD 115 undef, tma.getD 116 undef, tma.getD 117 undef, tma.getD 118 undef, tma.getD 119 undef, tma.getD 120 undef, tma.getD 121 undef, tma.getD 122 undef, tma.getD 123 undef, tma.getD 124 undef, tma.getD 125 undef, tma.getD 126 undef, tma.getD 127 undef, tma.getD 128 undef, tma.getD 129 undef, tma.getD 130 undef, tma.getD 131 undef, tma.getD 132 undef, tma.getD 133 undef, tma.getD 134 undef, tma.getD 135 undef, tma.getD 136 undef, tma.getD 137 undef, tma.getD 138 undef, tma.getD 139 undef, tma.getD 140 undef, tma.getD 141 undef, tma.getD 142 undef, tma.getD 143 undef, tma.getD 144 undef, tma.getD 145 undef, tma.getD 146 undef, tma.getD 147 undef, tma.getD 148 undef, tma.getD 149 undef, tma.getD 150 undef, tma.getD 151 undef, tma.getD 152 undef, tma.getD 153 undef, tma.getD 154 undef, tma.getD 155 undef, tma.getD 156 undef, tma.getD 157 undef, tma.getD 158 undef, tma.getD 159 undef, tma.getD 160 undef, tma.getD 161 undef, tma.getD 162 undef, tma.getD 163 undef, tma.getD 164 undef, tma.getD 165 undef, tma.getD 166 undef, tma.getD 167 undef, tma.getD 168 undef, tma.getD 169 undef, tma.getD 170 undef, tma.getD 171 undef, tma.getD 172 undef, tma.getD 173 undef, tma.getD 174 undef, tma.getD 175 undef, tma.getD 176 undef, tma.getD 177 undef, tma.getD 178 undef, tma.getD 179 undef, tma.getD 180 undef, tma.getD 181 undef, tma.getD 182 undef, tma.getD 183 undef, tma.getD 184 undef, tma.getD 185 undef, tma.getD 186 undef, tma.getD 187 undef, tma.getD 188 undef, tma.getD 189 undef, tma.getD 190 undef, tma.getD 191 undef, tma.getD 192 undef, tma.getD 193 undef, tma.getD 194 undef, tma.getD 195 undef, tma.getD 196 undef, tma.getD 197 undef, tma.getD 198 undef, tma.getD 199 undef, tma.getD 200 undef, tma.getD 201 undef, tma.getD 202 undef, tma.getD 203 undef, tma.getD 204 undef, tma.getD 205 undef, tma.getD 206 undef, tma.getD 207 undef, tma.getD 208 undef, tma.getD 209 undef, tma.getD 210 undef, tma.getD 211 undef, tma.getD 212 undef, tma.getD 213 undef, tma.getD 214 undef, tma.getD 215 undef, tma.getD 216 undef, tma.getD 217 undef, tma.getD 218 undef, tma.getD 219 undef, tma.getD 220 undef, tma.getD 221 undef] := by
        have e0 := lit_eq ea3
        have er : List.range 222 = [0, 1, 2, 3, 4, 5, 6, 7, 8, 9, 10, 11, 12, 13, 14, 15, 16, 17, 18, 19, 20, 21, 22, 23, 24, 25, 26, 27, 28, 29, 30, 31, 32, 33, 34, 35, 36, 37, 38, 39, 40, 41, 42, 43, 44, 45, 46, 47, 48, 49, 50, 51, 52, 53, 54, 55, 56, 57, 58, 59, 60, 61, 62, 63, 64, 65, 66, 67, 68, 69, 70, 71, 72, 73, 74, 75, 76, 77, 78, 79, 80, 81, 82, 83, 84, 85, 86, 87, 88, 89, 90, 91, 92, 93, 94, 95, 96, 97, 98, 99, 100, 101, 102, 103, 104, 105, 106, 107, 108, 109, 110, 111, 112, 113, 114, 115, 116, 117, 118, 119, 120, 121, 122, 123, 124, 125, 126, 127, 128, 129, 130, 131, 132, 133, 134, 135, 136, 137, 138, 139, 140, 141, 142, 143, 144, 145, 146, 147, 148, 149, 150, 151, 152, 153, 154, 155, 156, 157, 158, 159, 160, 161, 162, 163, 164, 165, 166, 167, 168, 169, 170, 171, 172, 173, 174, 175, 176, 177, 178, 179, 180, 181, 182, 183, 184, 185, 186, 187, 188, 189, 190, 191, 192, 193, 194, 195, 196, 197, 198, 199, 200, 201, 202, 203, 204, 205, 206, 207, 208, 209, 210, 211, 212, 213, 214, 215, 216, 217, 218, 219, 220, 221] := by rfl
        rw [er] at e0
        simp only [List.map_cons, List.map_nil, la3, la10, la14, la15, la16] at e0
        exact e0
      rw [elita]
      clear la3
      clear la10
      clear la14
      clear la15
      clear la16
      clear elita ea3
      by_cases hin : i < n
      · have i1 : (i : Int) < (n : Int) := by omega
        have i2 : (0 : Int) ≤ (i : Int) ∧ (i : Int) < (n : Int) := ⟨by omega, i1⟩
        have i4 := wrap_add1 (i := i) (by omega)
        have ri := rd_rcells (A := (fun j => rmax L j)) (B := (fun j => rmin U n j)) (e := 34) (sz := 2) (n := n) (j := i) hin
        have hqa1 : i ≠ 0 → qa < T.length := fun h => (List.getElem?_eq_some_iff.1 (hqa h).1).1
        have hqb1 : i ≠ 0 → qb < T.length := fun h => (List.getElem?_eq_some_iff.1 (hqa h).2.1).1
        have r2 : ∀ l : H, (T ++ l)[11 + 2 * n]? = some (.row (rcells (fun j => rmax L j) (fun j => rmin U n j) n) 34 2) := fun l => getElem?_app_lt hr2
        have r2' : ∀ l : H, (killL i T qa ++ l)[11 + 2 * n]? = some (.row (rcells (fun j => rmax L j) (fun j => rmin U n j) n) 34 2) := fun l => getElem?_app_lt (by
          by_cases hi0 : i = 0
          · rw [hi0]; exact hr2
          · rw [killL_get (hqa hi0).2.2.2.2.2.1.symm]; exact hr2)
        obtain ⟨wa, hwa, hwa2⟩ := apW_slA (q := 2 * (h.length + qa)) (n := i) (by omega) (2 * (h.length + (11 + 2 * n))) (by omega) (fun h => by have := (hqa h).2.2.2.2.2.1; omega)
        obtain ⟨wb, hwb, hwb2⟩ := apW_slA (q := 2 * (h.length + qb)) (n := i) (by omega) (2 * (h.length + (11 + 2 * n))) (by omega) (fun h => by have := (hqa h).2.2.2.2.2.2; omega)
        have hkl : i ≠ 0 → qb < (killL i T qa).length := fun h => by rw [killL_len]; exact hqb1 h
        have hA1 := app25 (I := I) (h := h) (X := T ++ [.cells [.int .i64 (rmax L i)] 2, .dead]) (q := qa) (m := i) (p := T.length) (f := (fun j => rmax L j)) (fun h => getElem?_app_lt (hqa h).1) (by simp) (by omega)
        have hA2 := app25 (I := I) (h := h) (X := killL i T qa ++ [.cells [.int .i64 (rmax L i)] 2, .cells [.int .i64 (rmin U n i)] 2, .row (arrL (i + 1) (fun j => rmax L j)) 2 1]) (q := qb) (m := i) (p := T.length + 1) (f := (fun j => rmin U n j)) (fun h => getElem?_app_lt (by rw [killL_get (hqa h).2.2.1.symm]; exact (hqa h).2.1)) (by rw [List.getElem?_append_right (by rw [killL_len]; omega), killL_len]; simp) (by omega)
        simp only [killL_app hqa1, killL_app hkl, List.length_append, List.append_assoc, List.cons_append, List.nil_append, List.length_cons, List.length_nil, killL_len, Nat.reduceAdd] at hA1 hA2
        have gk : ∀ (k : Nat) (l : H), (killL i T qa ++ l : H)[T.length + k]? = l[k]? := fun k l => by rw [List.getElem?_append_right (by rw [killL_len]; omega), killL_len]; congr 1; omega
        have sk : ∀ (k : Nat) (l : H) (b : Blk), (killL i T qa ++ l : H).set (T.length + k) b = killL i T qa ++ l.set k b := fun k l b => by rw [List.set_append_right _ _ (by rw [killL_len]; omega), killL_len]; congr 2; omega
        simp -implicitDefEqProofs only [sB, Nat.reduceAdd, Nat.reduceSub, yieldL, popK, flat, nptr, Value.cells, H.new, eq_self, Int.reduceEq, Int.reduceLT, Int.reduceLE, Nat.reduceEqDiff, Nat.reduceLeDiff, thenQ, ContK, ty2, ty3, ty4, ty5, ty22, ty24, ty25, ty30, ty34, ty47, ty51, ty64, sD, mixT, isAlloc, ridOf, blockOf, z00, Bool.not_true, Bool.not_false, decide_true, decide_false, if_true, if_false, unk1, len_assoc, Bool.and_self, i1, i2, i4, r2, r2', ri.1, ri.2, getElem?_app_k, set_app_k, getElem?_app_z, set_app_z, sl25_l, apL_cons, hwa, hwb, hA1, hA2, gk, sk]
        obtain ⟨fr, fr1, fr2, fr3⟩ : ∃ f : Nat → Nat, f wa = 1 ∧ f wb = 1 ∧ f (2 * (h.length + (11 + 2 * n))) = 2 := ⟨fun x => if x = 2 * (h.length + (11 + 2 * n)) then 2 else 1, by simp [hwa2], by simp [hwb2], by simp⟩
        have hlt := (List.getElem?_eq_some_iff.1 hr2).1
        have kk : ∀ (x : Nat) (b : Blk) (l : H), T[x]? = some b → (i ≠ 0 → x ≠ qa ∧ x ≠ qb) → (killL i (killL i T qa) qb ++ l : H)[x]? = some b := by
          intro x b l hx hne
          refine getElem?_app_lt ?_
          by_cases hi0 : i = 0
          · rw [hi0]; exact hx
          · rw [killL_get (hne hi0).2, killL_get (hne hi0).1]; exact hx
        have kl : ∀ (x : Nat) (l : H), (killL i (killL i T qa) qb ++ l : H)[T.length + x]? = l[x]? := fun x l => by rw [List.getElem?_append_right (by rw [killL_len, killL_len]; omega), killL_len, killL_len]; congr 1; omega
        refine ⟨effOk_free1 (i := 14) (k := 1) (by kernel_rfl) (by kernel_rfl) (by rw [len_assoc, get_k, get_k, gk, getElem?_app_k]; rfl) (by simp [killL_len]), effOk_of (by kernel_rfl) (by simp [killL_len]), drawOk_ren fr (by simp only [List.reverse_cons, List.reverse_nil, List.nil_append, List.cons_append, List.map_cons, List.map_nil, Ct.ren, Option.map_some, Option.map_none, fr1, fr2, fr3]; rfl) (by kernel_rfl), by rw [hJa]; exact ⟨i + 1, _, T.length + 2, T.length + 3, rfl, rfl, rfl, rfl, rfl, rfl, rfl, rfl, by omega, kk _ _ _ h0 (fun h => by have := hqa h; omega), kk _ _ _ hr2 (fun h => by have := hqa h; omega), fun _ => ⟨kl 2 _, kl 3 _, by omega, by omega, by omega, by omega, by omega⟩⟩, ?_⟩
        show n - ((i + 1 : Nat) : Int).toNat < n - (i : Int).toNat
        omega
      · have i1 : ¬ (i : Int) < (n : Int) := by omega
        have hin' : i = n := by omega
        subst hin'
        obtain ⟨ta, tb, tne, _, _, _, _⟩ := hqa (by omega)
        have c1 : Snd Try.prog I (.func 32) [.agg #[.slice (some ⟨id, off, none⟩) i c, .int .i64 pr], slA (2 * (h.length + qa)) i] (h ++ T) (.int .i64 0) (h ++ T) := by
          have := checkChart32 I (h := h ++ T) (pr := pr) hv0 (seesA (by omega) (by omega) ta)
          rwa [hlo] at this
        have c2 : Snd Try.prog I (.func 32) [.agg #[.slice (some ⟨id, off, none⟩) i c, .int .i64 pr], slA (2 * (h.length + qb)) i] (h ++ T) (.int .i64 0) (h ++ T) := by
          have := checkChart32 I (h := h ++ T) (pr := pr) hv0 (seesA (by omega) (by omega) tb)
          rwa [hhi] at this
        have c3 : Snd Try.prog I (.func 21) [.agg #[.slice (some ⟨id, off, none⟩) i c, .int .i64 pr], slA (2 * (h.length + qa)) i] (h ++ T) (.int .i64 0) (h ++ T) := by
          have := checkChart21 I (h := h ++ T) (pr := pr) hv0 (seesA (by omega) (by omega) ta)
          rwa [hlo] at this
        have c4 : Snd Try.prog I (.func 21) [.agg #[.slice (some ⟨id, off, none⟩) i c, .int .i64 pr], slA (2 * (h.length + qb)) i] (h ++ T) (.int .i64 0) (h ++ T) := by
          have := checkChart21 I (h := h ++ T) (pr := pr) hv0 (seesA (by omega) (by omega) tb)
          rwa [hhi] at this
        simp -implicitDefEqProofs only [sB, Nat.reduceAdd, Nat.reduceSub, yieldL, popK, flat, nptr, Value.cells, H.new, eq_self, Int.reduceEq, Int.reduceLT, Int.reduceLE, Nat.reduceEqDiff, Nat.reduceLeDiff, thenQ, ContK, ty2, ty3, ty4, ty5, ty22, ty24, ty25, ty30, ty34, ty47, ty51, ty64, z00, Bool.not_true, Bool.not_false, decide_true, decide_false, if_true, if_false, unk1, len_assoc, Bool.and_self, i1, h0]
        refine RunCall_of c1 ?_
        simp -implicitDefEqProofs only [sB, Nat.reduceAdd, Nat.reduceSub, yieldL, popK, flat, nptr, Value.cells, H.new, eq_self, Int.reduceEq, Int.reduceLT, Int.reduceLE, Nat.reduceEqDiff, Nat.reduceLeDiff, thenQ, ContK, ty2, ty3, ty4, ty5, ty22, ty24, ty25, ty30, ty34, ty47, ty51, ty64, z00, Bool.not_true, Bool.not_false, decide_true, decide_false, if_true, if_false, unk1, len_assoc, Bool.and_self, h0]
        refine RunCall_of c2 ?_
        simp -implicitDefEqProofs only [sB, Nat.reduceAdd, Nat.reduceSub, yieldL, popK, flat, nptr, Value.cells, H.new, eq_self, Int.reduceEq, Int.reduceLT, Int.reduceLE, Nat.reduceEqDiff, Nat.reduceLeDiff, thenQ, ContK, ty2, ty3, ty4, ty5, ty22, ty24, ty25, ty30, ty34, ty47, ty51, ty64, z00, Bool.not_true, Bool.not_false, decide_true, decide_false, if_true, if_false, unk1, len_assoc, Bool.and_self, h0]
        refine RunCall_of c3 ?_
        simp -implicitDefEqProofs only [sB, Nat.reduceAdd, Nat.reduceSub, yieldL, popK, flat, nptr, Value.cells, H.new, eq_self, Int.reduceEq, Int.reduceLT, Int.reduceLE, Nat.reduceEqDiff, Nat.reduceLeDiff, thenQ, ContK, ty2, ty3, ty4, ty5, ty22, ty24, ty25, ty30, ty34, ty47, ty51, ty64, z00, Bool.not_true, Bool.not_false, decide_true, decide_false, if_true, if_false, unk1, len_assoc, Bool.and_self, h0]
        refine RunCall_of c4 ?_
        simp -implicitDefEqProofs only [sB, Nat.reduceAdd, Nat.reduceSub, yieldL, popK, flat, nptr, Value.cells, H.new, eq_self, Int.reduceEq, Int.reduceLT, Int.reduceLE, Nat.reduceEqDiff, Nat.reduceLeDiff, thenQ, ContK, ty2, ty3, ty4, ty5, ty22, ty24, ty25, ty30, ty34, ty47, ty51, ty64, z00, Bool.not_true, Bool.not_false, decide_true, decide_false, if_true, if_false, unk1, len_assoc, Bool.and_self, h0]
        refine RunCall_of (works9 I _) ?_
        simp -implicitDefEqProofs only [sB, Nat.reduceAdd, Nat.reduceSub, yieldL, popK, flat, nptr, Value.cells, H.new, eq_self, Int.reduceEq, Int.reduceLT, Int.reduceLE, Nat.reduceEqDiff, Nat.reduceLeDiff, thenQ, ContK, ty2, ty3, ty4, ty5, ty22, ty24, ty25, ty30, ty34, ty47, ty51, ty64, z00, Bool.not_true, Bool.not_false, decide_true, decide_false, if_true, if_false, unk1, len_assoc, Bool.and_self]
        first | exact ⟨⟨_, rfl⟩, rfl⟩ | exact ⟨_, rfl⟩
    · have p1' : ¬ (a : Int) < (b : Int) := by omega
      simp -implicitDefEqProofs only [sB, Nat.reduceAdd, Nat.reduceSub, yieldL, popK, flat, nptr, Value.cells, H.new, eq_self, Int.reduceEq, Int.reduceLT, Int.reduceLE, Nat.reduceEqDiff, Nat.reduceLeDiff, thenQ, ContK, ty2, ty3, ty4, ty5, ty22, ty24, ty25, ty30, ty34, ty47, ty51, ty64, sD, mixT, isAlloc, ridOf, blockOf, z00, Bool.not_true, Bool.not_false, decide_true, decide_false, if_true, if_false, unk1, len_assoc, Bool.and_self, a2, b2, rdA, rdB', p1']
      rw [e11]
      refine ⟨drawOk_ren (fun _ => 0) rfl (by kernel_rfl), ?_⟩
      obtain ⟨Ja, hJa⟩ : ∃ J : St → Prop, J = fun s => ∃ (i : Nat) (T : H) (qa : Nat) (qb : Nat), s.df = [] ∧ s.h = h ++ T ∧ s.tm.length = 222 ∧ s.tm.getD 3 undef = .pointer (some ⟨2 * h.length, 0, none⟩) ∧ s.tm.getD 10 undef = .slice (some ⟨2 * (h.length + (11 + 2 * n)), 0, none⟩) n UNK ∧ s.tm.getD 14 undef = slA (2 * (h.length + qa)) i ∧ s.tm.getD 15 undef = slA (2 * (h.length + qb)) i ∧ s.tm.getD 16 undef = .int .i64 i ∧ (i ≤ n) ∧ (T[0]? = some (.cells [.slice (some ⟨id, off, none⟩) n c, .int .i64 pr] 24)) ∧ (T[11 + 2 * n]? = some (.row (rcells (fun j => rmax L j) (fun j => rmin U n j) n) 34 2)) ∧ (i ≠ 0 → T[qa]? = some (.row (arrL i (fun j => rmax L j)) 2 1) ∧ T[qb]? = some (.row (arrL i (fun j => rmin U n j)) 2 1) ∧ qa ≠ qb ∧ 1 < qa ∧ 1 < qb ∧ qa ≠ 11 + 2 * n ∧ qb ≠ 11 + 2 * n) := ⟨_, rfl⟩
      refine Loop_run (by kernel_rfl) 900 Ja (muI 16 n) (by rw [hJa]; exact ⟨0, (.cells [.slice (some ⟨id, off, none⟩) n c, .int .i64 pr] 24 :: .cells [.int .u8 r0, .int .u8 r1] 47 :: (List.replicate (9 + 2 * n) .dead ++ [.row (rcells (fun j => rmax L j) (fun j => rmin U n j) n) 34 2])), 0, 0, rfl, rfl, rfl, rfl, rfl, rfl, rfl, rfl, Nat.zero_le _, rfl, hix _ _ _, fun h => absurd rfl h⟩) ?_
      intro sa hsa
      rw [hJa] at hsa
      obtain ⟨tma, dfa, hha⟩ := sa
      obtain ⟨i, T, qa, qb, ea1, ea2, ea3, la3, la10, la14, la15, la16, hi, h0, hr2, hqa⟩ := hsa
      simp only at ea1 ea2 ea3 la3 la10 la14 la15 la16
      subst dfa; subst hha
      have elita : tma = [tma.getD 0 undef, tma.getD 1 undef, tma.getD 2 undef, .pointer (some ⟨2 * h.length, 0, none⟩), tma.getD 4 undef, tma.getD 5 undef, tma.getD 6 undef, tma.getD 7 undef, tma.getD 8 undef, tma.getD 9 undef, .slice (some ⟨2 * (h.length + (11 + 2 * n)), 0, none⟩) n UNK, tma.getD 11 undef, tma.getD 12 undef, tma.getD 13 undef, slA (2 * (h.length + qa)) i, slA (2 * (h.length + qb)) i, .int .i64 i, tma.getD 17 undef, tma.getD 18 undef, tma.getD 19 undef, tma.getD 20 undef, tma.getD 21 undef, tma.getD 22 undef, tma.getD 23 undef, tma.getD 24 undef, tma.getD 25 undef, tma.getD 26 undef, tma.getD 27 undef, tma.getD 28 undef, tma.getD 29 undef, tma.getD 30 undef, tma.getD 31 undef, tma.getD 32 undef, tma.getD 33 undef, tma.getD 34 undef, tma.getD 35 undef, tma.getD 36 undef, tma.getD 37 undef, tma.getD 38 undef, tma.getD 39 undef, tma.getD 40 undef, tma.getD 41 undef, tma.getD 42 undef, tma.getD 43 undef, tma.getD 44 undef, tma.getD 45 undef, tma.getD 46 undef, tma.getD 47 undef, tma.getD 48 undef, tma.getD 49 undef, tma.getD 50 undef, tma.getD 51 undef, tma.getD 52 undef, tma.getD 53 undef, tma.getD 54 undef, tma.getD 55 undef, tma.getD 56 undef, tma.getD 57 undef, tma.getD 58 undef, tma.getD 59 undef, tma.getD 60 undef, tma.getD 61 undef, tma.getD 62 undef, tma.getD 63 undef, tma.getD 64 undef, tma.getD 65 undef, tma.getD 66 undef, tma.getD 67 undef, tma.getD 68 undef, tma.getD 69 undef, tma.getD 70 undef, tma.getD 71 undef, tma.getD 72 undef, tma.getD 73 undef, tma.getD 74 undef, tma.getD 75 undef, tma.getD 76 undef, tma.getD 77 undef, tma.getD 78 undef, tma.getD 79 undef, tma.getD 80 undef, tma.getD 81 undef, tma.getD 82 undef, tma.getD 83 undef, tma.getD 84 undef, tma.getD 85 undef, tma.getD 86 undef, tma.getD 87 undef, tma.getD 88 undef, tma.getD 89 undef, tma.getD 90 undef, tma.getD 91 undef, tma.getD 92 undef, tma.getD 93 undef, tma.getD 94 undef, tma.getD 95 undef, tma.getD 96 undef, tma.getD 97 undef, tma.getD 98 undef, tma.getD 99 undef, tma.getD 100 undef, tma.getD 101 undef, tma.getD 102 undef, tma.getD 103 undef, tma.getD 104 undef, tma.getD 105 undef, tma.getD 106 undef, tma.getD 107 undef, tma.getD 108 undef, tma.getD 109 undef, tma.getD 110 undef, tma.getD 111 undef, tma.getD 112 undef, tma.getD 113 undef, tma.getD 114 undef, tma.getD 115 undef, tma.getD 116 undef, tma.getD 117 undef, tma.getD 118 undef, tma.getD 119 undef, tma.getD 120 undef, tma.getD 121 undef, tma.getD 122 undef, tma.getD 123 undef, tma.getD 124 undef, tma.getD 125 undef, tma.getD 126 undef, tma.getD 127 undef, tma.getD 128 undef, tma.getD 129 undef, tma.getD 130 undef, tma.getD 131 undef, tma.getD 132 undef, tma.getD 133 undef, tma.getD 134 undef, tma.getD 135 undef, tma.getD 136 undef, tma.getD 137 undef, tma.getD 138 undef, tma.getD 139 undef, tma.getD 140 undef, tma.getD 141 undef, tma.getD 142 undef, tma.getD 143 undef, tma.getD 144 undef, tma.getD 145 undef, tma.getD 146 undef, tma.getD 147 undef, tma.getD 148 undef, tma.getD 149 undef, tma.getD 150 undef, tma.getD 151 undef, tma.getD 152 undef, tma.getD 153 undef, tma.getD 154 undef, tma.getD 155 undef, tma.getD 156 undef, tma.getD 157 undef, tma.getD 158 undef, tma.getD 159 undef, tma.getD 160 undef, tma.getD 161 undef, tma.getD 162 undef, tma.getD 163 undef, tma.getD 164 undef, tma.getD 165 undef, tma.getD 166 undef, tma.getD 167 undef, tma.getD 168 undef, tma.getD 169 undef, tma.getD 170 undef, tma.getD 171 undef, tma.getD 172 undef, tma.getD 173 undef, tma.getD 174 undef, tma.getD 175 undef, tma.getD 176 undef, tma.getD 177 undef, tma.getD 178 undef, tma.getD 179 undef, tma.getD 180 undef, tma.getD 181 undef, tma.getD 182 undef, tma.getD 183 undef, tma.getD 184 undef, tma.getD 185 undef, tma.getD 186 undef, tma.getD 187 undef, tma.getD 188 undef, tma.getD 189 undef, tma.getD 190 undef, tma.getD 191 undef, tma.getD 192 undef, tma.getD 193 undef, tma.getD 194 undef, tma.getD 195 undef, tma.getD 196 undef, tma.getD 197 undef, tma.getD 198 undef, tma.getD 199 undef, tma.getD 200 undef, tma.getD 201 undef, tma.getD 202 undef, tma.getD 203 undef, tma.getD 204 undef, tma.getD 205 undef, tma.getD 206 undef, tma.getD 207 undef, tma.getD 208 undef, tma.getD 209 undef, tma.getD 210 undef, tma.getD 211 undef, tma.getD 212 undef, tma.getD 213 undef, tma.getD 214 undef, tma.getD 215 undef, tma.getD 216 undef, tma.getD 217 undef, tma.getD 218 undef, tma.getD 219 undef, tma.getD 220 undef, tma.getD 221 undef] := by
        have e0 := lit_eq ea3
        have er : List.range 222 = [0, 1, 2, 3, 4, 5, 6, 7, 8, 9, 10, 11, 12, 13, 14, 15, 16, 17, 18, 19, 20, 21, 22, 23, 24, 25, 26, 27, 28, 29, 30, 31, 32, 33, 34, 35, 36, 37, 38, 39, 40, 41, 42, 43, 44, 45, 46, 47, 48, 49, 50, 51, 52, 53, 54, 55, 56, 57, 58, 59, 60, 61, 62, 63, 64, 65, 66, 67, 68, 69, 70, 71, 72, 73, 74, 75, 76, 77, 78, 79, 80, 81, 82, 83, 84, 85, 86, 87, 88, 89, 90, 91, 92, 93, 94, 95, 96, 97, 98, 99, 100, 101, 102, 103, 104, 105, 106, 107, 108, 109, 110, 111, 112, 113, 114, 115, 116, 117, 118, 119, 120, 121, 122, 123, 124, 125, 126, 127, 128, 129, 130, 131, 132, 133, 134, 135, 136, 137, 138, 139, 140, 141, 142, 143, 144, 145, 146, 147, 148, 149, 150, 151, 152, 153, 154, 155, 156, 157, 158, 159, 160, 161, 162, 163, 164, 165, 166, 167, 168, 169, 170, 171, 172, 173, 174, 175, 176, 177, 178, 179, 180, 181, 182, 183, 184, 185, 186, 187, 188, 189, 190, 191, 192, 193, 194, 195, 196, 197, 198, 199, 200, 201, 202, 203, 204, 205, 206, 207, 208, 209, 210, 211, 212, 213, 214, 215, 216, 217, 218, 219, 220, 221] := by rfl
        rw [er] at e0
        simp only [List.map_cons, List.map_nil, la3, la10, la14, la15, la16] at e0
        exact e0
      rw [elita]
      clear la3
      clear la10
      clear la14
      clear la15
      clear la16
      clear elita ea3
      by_cases hin : i < n
      · have i1 : (i : Int) < (n : Int) := by omega
        have i2 : (0 : Int) ≤ (i : Int) ∧ (i : Int) < (n : Int) := ⟨by omega, i1⟩
        have i4 := wrap_add1 (i := i) (by omega)
        have ri := rd_rcells (A := (fun j => rmax L j)) (B := (fun j => rmin U n j)) (e := 34) (sz := 2) (n := n) (j := i) hin
        have hqa1 : i ≠ 0 → qa < T.length := fun h => (List.getElem?_eq_some_iff.1 (hqa h).1).1
        have hqb1 : i ≠ 0 → qb < T.length := fun h => (List.getElem?_eq_some_iff.1 (hqa h).2.1).1
        have r2 : ∀ l : H, (T ++ l)[11 + 2 * n]? = some (.row (rcells (fun j => rmax L j) (fun j => rmin U n j) n) 34 2) := fun l => getElem?_app_lt hr2
        have r2' : ∀ l : H, (killL i T qa ++ l)[11 + 2 * n]? = some (.row (rcells (fun j => rmax L j) (fun j => rmin U n j) n) 34 2) := fun l => getElem?_app_lt (by
          by_cases hi0 : i = 0
          · rw [hi0]; exact hr2
          · rw [killL_get (hqa hi0).2.2.2.2.2.1.symm]; exact hr2)
        obtain ⟨wa, hwa, hwa2⟩ := apW_slA (q := 2 * (h.length + qa)) (n := i) (by omega) (2 * (h.length + (11 + 2 * n))) (by omega) (fun h => by have := (hqa h).2.2.2.2.2.1; omega)
        obtain ⟨wb, hwb, hwb2⟩ := apW_slA (q := 2 * (h.length + qb)) (n := i) (by omega) (2 * (h.length + (11 + 2 * n))) (by omega) (fun h => by have := (hqa h).2.2.2.2.2.2; omega)
        have hkl : i ≠ 0 → qb < (killL i T qa).length := fun h => by rw [killL_len]; exact hqb1 h
        have hA1 := app25 (I := I) (h := h) (X := T ++ [.cells [.int .i64 (rmax L i)] 2, .dead]) (q := qa) (m := i) (p := T.length) (f := (fun j => rmax L j)) (fun h => getElem?_app_lt (hqa h).1) (by simp) (by omega)
        have hA2 := app25 (I := I) (h := h) (X := killL i T qa ++ [.cells [.int .i64 (rmax L i)] 2, .cells [.int .i64 (rmin U n i)] 2, .row (arrL (i + 1) (fun j => rmax L j)) 2 1]) (q := qb) (m := i) (p := T.length + 1) (f := (fun j => rmin U n j)) (fun h => getElem?_app_lt (by rw [killL_get (hqa h).2.2.1.symm]; exact (hqa h).2.1)) (by rw [List.getElem?_append_right (by rw [killL_len]; omega), killL_len]; simp) (by omega)
        simp only [killL_app hqa1, killL_app hkl, List.length_append, List.append_assoc, List.cons_append, List.nil_append, List.length_cons, List.length_nil, killL_len, Nat.reduceAdd] at hA1 hA2
        have gk : ∀ (k : Nat) (l : H), (killL i T qa ++ l : H)[T.length + k]? = l[k]? := fun k l => by rw [List.getElem?_append_right (by rw [killL_len]; omega), killL_len]; congr 1; omega
        have sk : ∀ (k : Nat) (l : H) (b : Blk), (killL i T qa ++ l : H).set (T.length + k) b = killL i T qa ++ l.set k b := fun k l b => by rw [List.set_append_right _ _ (by rw [killL_len]; omega), killL_len]; congr 2; omega
        simp -implicitDefEqProofs only [sB, Nat.reduceAdd, Nat.reduceSub, yieldL, popK, flat, nptr, Value.cells, H.new, eq_self, Int.reduceEq, Int.reduceLT, Int.reduceLE, Nat.reduceEqDiff, Nat.reduceLeDiff, thenQ, ContK, ty2, ty3, ty4, ty5, ty22, ty24, ty25, ty30, ty34, ty47, ty51, ty64, sD, mixT, isAlloc, ridOf, blockOf, z00, Bool.not_true, Bool.not_false, decide_true, decide_false, if_true, if_false, unk1, len_assoc, Bool.and_self, i1, i2, i4, r2, r2', ri.1, ri.2, getElem?_app_k, set_app_k, getElem?_app_z, set_app_z, sl25_l, apL_cons, hwa, hwb, hA1, hA2, gk, sk]
        obtain ⟨fr, fr1, fr2, fr3⟩ : ∃ f : Nat → Nat, f wa = 1 ∧ f wb = 1 ∧ f (2 * (h.length + (11 + 2 * n))) = 2 := ⟨fun x => if x = 2 * (h.length + (11 + 2 * n)) then 2 else 1, by simp [hwa2], by simp [hwb2], by simp⟩
        have hlt := (List.getElem?_eq_some_iff.1 hr2).1
        have kk : ∀ (x : Nat) (b : Blk) (l : H), T[x]? = some b → (i ≠ 0 → x ≠ qa ∧ x ≠ qb) → (killL i (killL i T qa) qb ++ l : H)[x]? = some b := by
          intro x b l hx hne
          refine getElem?_app_lt ?_
          by_cases hi0 : i = 0
          · rw [hi0]; exact hx
          · rw [killL_get (hne hi0).2, killL_get (hne hi0).1]; exact hx
        have kl : ∀ (x : Nat) (l : H), (killL i (killL i T qa) qb ++ l : H)[T.length + x]? = l[x]? := fun x l => by rw [List.getElem?_append_right (by rw [killL_len, killL_len]; omega), killL_len, killL_len]; congr 1; omega
        refine ⟨effOk_free1 (i := 14) (k := 1) (by kernel_rfl) (by kernel_rfl) (by rw [len_assoc, get_k, get_k, gk, getElem?_app_k]; rfl) (by simp [killL_len]), effOk_of (by kernel_rfl) (by simp [killL_len]), drawOk_ren fr (by simp only [List.reverse_cons, List.reverse_nil, List.nil_append, List.cons_append, List.map_cons, List.map_nil, Ct.ren, Option.map_some, Option.map_none, fr1, fr2, fr3]; rfl) (by kernel_rfl), by rw [hJa]; exact ⟨i + 1, _, T.length + 2, T.length + 3, rfl, rfl, rfl, rfl, rfl, rfl, rfl, rfl, by omega, kk _ _ _ h0 (fun h => by have := hqa h; omega), kk _ _ _ hr2 (fun h => by have := hqa h; omega), fun _ => ⟨kl 2 _, kl 3 _, by omega, by omega, by omega, by omega, by omega⟩⟩, ?_⟩
        show n - ((i + 1 : Nat) : Int).toNat < n - (i : Int).toNat
        omega
      · have i1 : ¬ (i : Int) < (n : Int) := by omega
        have hin' : i = n := by omega
        subst hin'
        obtain ⟨ta, tb, tne, _, _, _, _⟩ := hqa (by omega)
        have c1 : Snd Try.prog I (.func 32) [.agg #[.slice (some ⟨id, off, none⟩) i c, .int .i64 pr], slA (2 * (h.length + qa)) i] (h ++ T) (.int .i64 0) (h ++ T) := by
          have := checkChart32 I (h := h ++ T) (pr := pr) hv0 (seesA (by omega) (by omega) ta)
          rwa [hlo] at this
        have c2 : Snd Try.prog I (.func 32) [.agg #[.slice (some ⟨id, off, none⟩) i c, .int .i64 pr], slA (2 * (h.length + qb)) i] (h ++ T) (.int .i64 0) (h ++ T) := by
          have := checkChart32 I (h := h ++ T) (pr := pr) hv0 (seesA (by omega) (by omega) tb)
          rwa [hhi] at this
        have c3 : Snd Try.prog I (.func 21) [.agg #[.slice (some ⟨id, off, none⟩) i c, .int .i64 pr], slA (2 * (h.length + qa)) i] (h ++ T) (.int .i64 0) (h ++ T) := by
          have := checkChart21 I (h := h ++ T) (pr := pr) hv0 (seesA (by omega) (by omega) ta)
          rwa [hlo] at this
        have c4 : Snd Try.prog I (.func 21) [.agg #[.slice (some ⟨id, off, none⟩) i c, .int .i64 pr], slA (2 * (h.length + qb)) i] (h ++ T) (.int .i64 0) (h ++ T) := by
          have := checkChart21 I (h := h ++ T) (pr := pr) hv0 (seesA (by omega) (by omega) tb)
          rwa [hhi] at this
        simp -implicitDefEqProofs only [sB, Nat.reduceAdd, Nat.reduceSub, yieldL, popK, flat, nptr, Value.cells, H.new, eq_self, Int.reduceEq, Int.reduceLT, Int.reduceLE, Nat.reduceEqDiff, Nat.reduceLeDiff, thenQ, ContK, ty2, ty3, ty4, ty5, ty22, ty24, ty25, ty30, ty34, ty47, ty51, ty64, z00, Bool.not_true, Bool.not_false, decide_true, decide_false, if_true, if_false, unk1, len_assoc, Bool.and_self, i1, h0]
        refine RunCall_of c1 ?_
        simp -implicitDefEqProofs only [sB, Nat.reduceAdd, Nat.reduceSub, yieldL, popK, flat, nptr, Value.cells, H.new, eq_self, Int.reduceEq, Int.reduceLT, Int.reduceLE, Nat.reduceEqDiff, Nat.reduceLeDiff, thenQ, ContK, ty2, ty3, ty4, ty5, ty22, ty24, ty25, ty30, ty34, ty47, ty51, ty64, z00, Bool.not_true, Bool.not_false, decide_true, decide_false, if_true, if_false, unk1, len_assoc, Bool.and_self, h0]
        refine RunCall_of c2 ?_
        simp -implicitDefEqProofs only [sB, Nat.reduceAdd, Nat.reduceSub, yieldL, popK, flat, nptr, Value.cells, H.new, eq_self, Int.reduceEq, Int.reduceLT, Int.reduceLE, Nat.reduceEqDiff, Nat.reduceLeDiff, thenQ, ContK, ty2, ty3, ty4, ty5, ty22, ty24, ty25, ty30, ty34, ty47, ty51, ty64, z00, Bool.not_true, Bool.not_false, decide_true, decide_false, if_true, if_false, unk1, len_assoc, Bool.and_self, h0]
        refine RunCall_of c3 ?_
        simp -implicitDefEqProofs only [sB, Nat.reduceAdd, Nat.reduceSub, yieldL, popK, flat, nptr, Value.cells, H.new, eq_self, Int.reduceEq, Int.reduceLT, Int.reduceLE, Nat.reduceEqDiff, Nat.reduceLeDiff, thenQ, ContK, ty2, ty3, ty4, ty5, ty22, ty24, ty25, ty30, ty34, ty47, ty51, ty64, z00, Bool.not_true, Bool.not_false, decide_true, decide_false, if_true, if_false, unk1, len_assoc, Bool.and_self, h0]
        refine RunCall_of c4 ?_
        simp -implicitDefEqProofs only [sB, Nat.reduceAdd, Nat.reduceSub, yieldL, popK, flat, nptr, Value.cells, H.new, eq_self, Int.reduceEq, Int.reduceLT, Int.reduceLE, Nat.reduceEqDiff, Nat.reduceLeDiff, thenQ, ContK, ty2, ty3, ty4, ty5, ty22, ty24, ty25, ty30, ty34, ty47, ty51, ty64, z00, Bool.not_true, Bool.not_false, decide_true, decide_false, if_true, if_false, unk1, len_assoc, Bool.and_self, h0]
        refine RunCall_of (works9 I _) ?_
        simp -implicitDefEqProofs only [sB, Nat.reduceAdd, Nat.reduceSub, yieldL, popK, flat, nptr, Value.cells, H.new, eq_self, Int.reduceEq, Int.reduceLT, Int.reduceLE, Nat.reduceEqDiff, Nat.reduceLeDiff, thenQ, ContK, ty2, ty3, ty4, ty5, ty22, ty24, ty25, ty30, ty34, ty47, ty51, ty64, z00, Bool.not_true, Bool.not_false, decide_true, decide_false, if_true, if_false, unk1, len_assoc, Bool.and_self]
        first | exact ⟨⟨_, rfl⟩, rfl⟩ | exact ⟨_, rfl⟩
end Go.Proofs.Ytcocmbccfikmhaa
