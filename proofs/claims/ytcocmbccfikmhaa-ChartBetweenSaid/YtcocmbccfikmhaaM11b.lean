/- Contract: Below of the reference: the same as that of the program (own texts put together: C13) -/
import Derived.Test.YtcocmbccfikmhaaM11
import Derived.Test.YtcocmbccfikmhaaM4
set_option linter.unusedSimpArgs false
set_option linter.unusedVariables false
namespace Go.Proofs.Ytcocmbccfikmhaa
open Go.Sym

theorem gcdI_mul {a d : Int} (ha : 0 ≤ a) (hd : 0 < d) : gcdI (a * d) d = d := by
  rw [gcdI_step (Int.mul_nonneg ha (by omega)) (by omega) (by omega)]
  have : (a * d).tmod d = 0 := Int.mul_tmod_left a d
  rw [this, gcdI_zero]
theorem fracL_mul {a d : Int} (ha : 0 ≤ a) (hd : 0 < d) : fracL (a * d) d = [.int .i64 a, .int .i64 1] := by
  unfold fracL
  rw [gcdI_mul ha hd, Int.mul_tdiv_cancel a (by omega), Int.tdiv_self (by omega)]
/-- both pieces tell the same -/
theorem bel_same {n : Nat} {D L U x : Nat → Int} {pr dip : Int} (t : TankOk n D L U pr) (hd : D 0 ≤ dip ∧ dip ≤ D (n - 1)) (hx : ∀ k, k < n → 0 ≤ x k) : fracL (belR n D x dip) (belRd n D dip) = fracL (belN n D x dip) (weighD n D dip) := by
  have n2 := t.n2
  obtain ⟨p1, p2, p3⟩ := pIx_spec (n := n) (D := D) (dip := dip) n2
  obtain ⟨w1, w2⟩ := wIx_rng (n := n) (D := D) (dip := dip) n2
  obtain ⟨w3, w4⟩ := wIx_between t hd
  have wd := weighD_rng (dip := dip) t
  unfold belR belRd belN
  unfold weighD at wd ⊢
  generalize pIx n D dip = p at *
  generalize hw : wIx n D dip = w at *
  have hp0 : D p ≤ dip := by
    by_cases e : 0 < p
    · exact p2 e
    · have : p = 0 := by omega
      rw [this]; exact hd.1
  by_cases e : p = w - 1
  · have e1 : p + 1 = w := by omega
    rw [e1, e]
    congr 1
    rw [Int.mul_comm (x (w - 1)), Int.mul_comm (x w)]
  · -- the dip is a row's
    have hlt : w - 1 < p := by
      refine Classical.byContradiction fun hc => ?_
      have h1 : p + 1 ≤ w - 1 := by omega
      rcases p3 with h2 | h2
      · omega
      · have h3 := t.mono (p + 1) (w - 1) h1 (by omega)
        omega
    have hpw : p = w := by
      refine Classical.byContradiction fun hc => ?_
      have h1 : w < p := by omega
      have h3 := t.lt w p h1 (by omega)
      omega
    subst hpw
    have hdip : D p = dip := by omega
    have hpos := t.lt p (p + 1) (by omega) (by omega)
    rw [hdip]
    have z1 : dip - dip = 0 := by omega
    rw [z1, Int.mul_zero, Int.add_zero, Int.zero_mul, Int.zero_add, fracL_mul (hx p (by omega)) (by omega), Int.mul_comm, fracL_mul (hx p (by omega)) (by omega)]

set_option maxRecDepth 100000 in
theorem below11 (I : Nat → Option Obj) {h : H} {v cv : Value} {n m : Nat} {D L U x : Nat → Int} {pr dip : Int} (hv : Rows I v n D L U) (hx : Sees I h cv m x) :
    Snd Try.prog I (.func 11) [.agg #[v, .int .i64 pr], cv, .int .i64 dip] h (belowV n D L U pr m x dip) h := by
  have hv0 := hv
  obtain ⟨q, c, rfl, hn, hq⟩ := hv
  refine Snd_run0 (rs := [.cell 6 29, .tmp 7]) 600 Try.func11 (by kernel_rfl) rfl Try.ntmps11 rfl belowV_flat ?_
  simp -implicitDefEqProofs only [sB, Nat.reduceAdd, Nat.reduceSub, yieldL, popK, flat, nptr, Value.cells, H.new, eq_self, Int.reduceEq, Int.reduceLT, Int.reduceLE, Nat.reduceEqDiff, Nat.reduceLeDiff, thenQ, ContK, ty2, ty3, ty4, ty5, ty24, ty25, ty29, ty30, Bool.not_true, Bool.not_false, decide_true, decide_false, if_true, if_false, st34, st29, bl29_0, bl29, fracL_len]
  refine RunCall_of (checkChart32 I hv0 (hx.app _)) ?_
  by_cases he : chartE n D L U pr m x = 0
  · have ch := chart_ok he
    have t := ch.tank
    have n2 := t.n2
    have n16 := t.n16
    have hm : m = n := ch.len
    subst hm
    have hx100 : ∀ k, k < m → 0 ≤ x k ∧ x k ≤ 100000 := fun k hk => by
      have := ch.rng k hk
      have := t.lit k hk
      omega
    rw [he]
    simp -implicitDefEqProofs only [sB, Nat.reduceAdd, Nat.reduceSub, yieldL, popK, flat, nptr, Value.cells, H.new, eq_self, Int.reduceEq, Int.reduceLT, Int.reduceLE, Nat.reduceEqDiff, Nat.reduceLeDiff, thenQ, ContK, ty2, ty3, ty4, ty5, ty24, ty25, ty29, ty30, Bool.not_true, Bool.not_false, decide_true, decide_false, if_true, if_false, st34, st29, bl29_0, bl29, fracL_len]
    refine RunCall_of (inside33 I hv0 ⟨n2, n16⟩) ?_
    by_cases hw : D 0 ≤ dip ∧ dip ≤ D (m - 1)
    · have hw' : (decide (D 0 ≤ dip) && decide (dip ≤ D (m - 1))) = true := by simp [hw]
      simp -implicitDefEqProofs only [sB, Nat.reduceAdd, Nat.reduceSub, yieldL, popK, flat, nptr, Value.cells, H.new, eq_self, Int.reduceEq, Int.reduceLT, Int.reduceLE, Nat.reduceEqDiff, Nat.reduceLeDiff, thenQ, ContK, ty2, ty3, ty4, ty5, ty24, ty25, ty29, ty30, Bool.not_true, Bool.not_false, decide_true, decide_false, if_true, if_false, st34, st29, bl29_0, bl29, fracL_len, hw']
      refine RunCall_of (below45 I hv0 (hx.app _) t hw hx100) ?_
      simp -implicitDefEqProofs only [sB, Nat.reduceAdd, Nat.reduceSub, yieldL, popK, flat, nptr, Value.cells, H.new, eq_self, Int.reduceEq, Int.reduceLT, Int.reduceLE, Nat.reduceEqDiff, Nat.reduceLeDiff, thenQ, ContK, ty2, ty3, ty4, ty5, ty24, ty25, ty29, ty30, Bool.not_true, Bool.not_false, decide_true, decide_false, if_true, if_false, st34, st29, bl29_0, bl29, fracL_len]
      obtain ⟨p1, p2, p3⟩ := pIx_spec (n := m) (D := D) (dip := dip) n2
      have hp0 : D (pIx m D dip) ≤ dip := by
        by_cases e : 0 < pIx m D dip
        · exact p2 e
        · have : pIx m D dip = 0 := by omega
          rw [this]; exact hw.1
      have hp1 : dip ≤ D (pIx m D dip + 1) := by
        rcases p3 with e | e
        · have : pIx m D dip + 1 = m - 1 := by omega
          rw [this]; exact hw.2
        · omega
      have e1 := t.dip (pIx m D dip) (by omega)
      have e2 := t.dip (pIx m D dip + 1) (by omega)
      have e3 := t.lt (pIx m D dip) (pIx m D dip + 1) (by omega) (by omega)
      have m1 := mul_rng (hx100 (pIx m D dip) (by omega)) ⟨show 0 ≤ D (pIx m D dip + 1) - dip by omega, show D (pIx m D dip + 1) - dip ≤ 4000 by omega⟩
      have m2 := mul_rng (hx100 (pIx m D dip + 1) (by omega)) ⟨show 0 ≤ dip - D (pIx m D dip) by omega, show dip - D (pIx m D dip) ≤ 4000 by omega⟩
      refine RunCall_of (fraction46 I ⟨by unfold belR; omega, by unfold belR; omega⟩ ⟨by unfold belRd; omega, by unfold belRd; omega⟩) ?_
      rw [bel_same t hw (fun k hk => (hx100 k hk).1)]
      simp -implicitDefEqProofs only [sB, Nat.reduceAdd, Nat.reduceSub, yieldL, popK, flat, nptr, Value.cells, H.new, eq_self, Int.reduceEq, Int.reduceLT, Int.reduceLE, Nat.reduceEqDiff, Nat.reduceLeDiff, thenQ, ContK, ty2, ty3, ty4, ty5, ty24, ty25, ty29, ty30, Bool.not_true, Bool.not_false, decide_true, decide_false, if_true, if_false, st34, st29, bl29_0, bl29, fracL_len, fracL]
      refine ⟨⟨_, rfl⟩, ?_⟩
      unfold belowV
      rw [if_neg (by rw [he]; simp), if_neg (by simpa using hw)]; rfl
    · have hw' : (decide (D 0 ≤ dip) && decide (dip ≤ D (m - 1))) = false := by simp; omega
      simp -implicitDefEqProofs only [sB, Nat.reduceAdd, Nat.reduceSub, yieldL, popK, flat, nptr, Value.cells, H.new, eq_self, Int.reduceEq, Int.reduceLT, Int.reduceLE, Nat.reduceEqDiff, Nat.reduceLeDiff, thenQ, ContK, ty2, ty3, ty4, ty5, ty24, ty25, ty29, ty30, Bool.not_true, Bool.not_false, decide_true, decide_false, if_true, if_false, st34, st29, bl29_0, bl29, fracL_len, hw', belowV, he, hw, ne_eq, not_true_eq_false, not_false_eq_true]
      first | exact ⟨⟨_, rfl⟩, rfl⟩ | exact ⟨_, rfl⟩
  · simp -implicitDefEqProofs only [sB, Nat.reduceAdd, Nat.reduceSub, yieldL, popK, flat, nptr, Value.cells, H.new, eq_self, Int.reduceEq, Int.reduceLT, Int.reduceLE, Nat.reduceEqDiff, Nat.reduceLeDiff, thenQ, ContK, ty2, ty3, ty4, ty5, ty24, ty25, ty29, ty30, Bool.not_true, Bool.not_false, decide_true, decide_false, if_true, if_false, st34, st29, bl29_0, bl29, fracL_len, he, ne_eq, not_false_eq_true]
    refine RunCall_of (checkChart32 I hv0 (hx.app _)) ?_
    simp -implicitDefEqProofs only [sB, Nat.reduceAdd, Nat.reduceSub, yieldL, popK, flat, nptr, Value.cells, H.new, eq_self, Int.reduceEq, Int.reduceLT, Int.reduceLE, Nat.reduceEqDiff, Nat.reduceLeDiff, thenQ, ContK, ty2, ty3, ty4, ty5, ty24, ty25, ty29, ty30, Bool.not_true, Bool.not_false, decide_true, decide_false, if_true, if_false, st34, st29, bl29_0, bl29, fracL_len, he, belowV, ne_eq, not_false_eq_true]
    first | exact ⟨⟨_, rfl⟩, rfl⟩ | exact ⟨_, rfl⟩
end Go.Proofs.Ytcocmbccfikmhaa
