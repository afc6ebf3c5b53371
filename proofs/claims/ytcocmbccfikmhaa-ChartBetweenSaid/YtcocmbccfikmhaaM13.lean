/- Contract: open (own texts put together: C17 C18 C19) -/
import Derived.Test.YtcocmbccfikmhaaM12
import Derived.Test.YtcocmbccfikmhaaM4
import Derived.Test.YtcocmbccfikmhaaM11
set_option linter.unusedSimpArgs false
set_option linter.unusedVariables false
namespace Go.Proofs.Ytcocmbccfikmhaa
open Go.Sym
theorem put_same {h : H} {p : Nat} {B : Blk} (hg : h.get p = some B) : h.put p B = h := by
  have h1 := H.get_lt hg
  unfold H.get at hg
  rw [if_pos h1.2] at hg
  unfold H.put
  rw [if_pos h1.2]
  apply List.ext_getElem?
  intro i
  by_cases e : p / 2 = i
  · subst e
    have := (List.getElem?_eq_some_iff.1 hg).1
    rw [List.getElem?_set_self this, hg]
  · rw [List.getElem?_set_ne e]
theorem tighten_at (I : Nat → Option Obj) {h : H} {pg n : Nat} {v : Value} {D L U : Nat → Int} {pr : Int} {a0 : AA} (hg : h.get pg = some (gBl v pr a0)) (hv : Rows I v n D L U) (hcv : ∀ N, closedV (okN N) v = true) (hn2 : 2 ≤ n ∧ n ≤ 16) :
    Snd Try.prog I (.func 68) [.pointer (some ⟨pg, 0, none⟩)] h (.bool (tightOk n a0)) (h.put pg (gBl v pr (tightA n a0))) := by
  have := tighten68 I (GHeap.of (bl := gBl v pr) hg) hv hcv hn2 a0
  rwa [put_same hg] at this
/-- the rows' own ranges -/
def rowA (n : Nat) (L U : Nat → Int) : AA := (cut n L, cut n U)
def openE (n : Nat) (D L U : Nat → Int) (pr : Int) (m : Nat) (x : Nat → Int) : Int :=
  if tankE n D L U pr ≠ 0 then tankE n D L U pr else if withinB (D 0) (D (n - 1)) m x = false then 3 else if tightOk n (rowA n L U) = false then 21 else 0

set_option maxRecDepth 100000 in
theorem open48_err (I : Nat → Option Obj) {h : H} {v dv : Value} {n m : Nat} {D L U x : Nat → Int} {pr : Int} (hv : Rows I v n D L U) (hcv : ∀ N, closedV (okN N) v = true) (hx : Sees I h dv m x) (herr : openE n D L U pr m x ≠ 0) :
    Snd Try.prog I (.func 48) [.agg #[v, .int .i64 pr], dv] h (.tuple #[.pointer none, .int .i64 (openE n D L U pr m x)]) h := by
  have hv0 := hv
  obtain ⟨q, c, rfl, hn, hq⟩ := hv
  refine Snd_run0 (rs := [.tmp 4, .tmp 5]) 400 Try.func48 (by kernel_rfl) rfl Try.ntmps48 rfl rfl ?_
  simp -implicitDefEqProofs only [sB, Nat.reduceAdd, Nat.reduceSub, yieldL, popK, flat, nptr, Value.cells, H.new, eq_self, Int.reduceEq, Int.reduceLT, Int.reduceLE, Nat.reduceEqDiff, Nat.reduceLeDiff, thenQ, ContK, ty2, ty3, ty4, ty5, ty22, ty24, ty25, ty30, ty64, ty78, Bool.not_true, Bool.not_false, decide_true, decide_false, if_true, if_false]
  refine RunCall_of (checkTank47 I hv0) ?_
  by_cases he : tankE n D L U pr = 0
  · rw [he]
    have t := tank_ok he
    have n2 := t.n2
    have n16 := t.n16
    obtain ⟨id, off, rfl, hr⟩ := hq (by omega)
    have hw1 : IntKind.i64.wrap ((n : Int) - 1) = ((n - 1 : Nat) : Int) := by rw [wrap_i64 (by omega) (by omega)]; omega
    have h00 : (0 : Int) ≤ 0 ∧ (0 : Int) < (n : Int) := ⟨by omega, by omega⟩
    have h01 : (0 : Int) ≤ ((n - 1 : Nat) : Int) ∧ ((n - 1 : Nat) : Int) < (n : Int) := ⟨by omega, by omega⟩
    have r0 := fun h => row_D (hr h 0 (by omega))
    have r1 := fun h => row_D (hr h (n - 1) (by omega))
    simp only [Nat.zero_mul, Nat.add_zero] at r0
    simp -implicitDefEqProofs only [sB, Nat.reduceAdd, Nat.reduceSub, yieldL, popK, flat, nptr, Value.cells, H.new, eq_self, Int.reduceEq, Int.reduceLT, Int.reduceLE, Nat.reduceEqDiff, Nat.reduceLeDiff, thenQ, ContK, ty2, ty3, ty4, ty5, ty22, ty24, ty25, ty30, ty64, ty78, sD, mixT, isAlloc, ridOf, blockOf, Bool.not_true, Bool.not_false, decide_true, decide_false, if_true, if_false, hw1, h00, h01, r0, r1, Int.toNat_zero, Nat.zero_mul]
    refine RunDC_quiet (within40 I (hx.app _)) rfl ?_
    cases hw : withinB (D 0) (D (n - 1)) m x with
    | true =>
      simp -implicitDefEqProofs only [sB, Nat.reduceAdd, Nat.reduceSub, yieldL, popK, flat, nptr, Value.cells, H.new, eq_self, Int.reduceEq, Int.reduceLT, Int.reduceLE, Nat.reduceEqDiff, Nat.reduceLeDiff, thenQ, ContK, ty2, ty3, ty4, ty5, ty22, ty24, ty25, ty30, ty64, ty78, sD, mixT, isAlloc, ridOf, blockOf, Bool.not_true, Bool.not_false, decide_true, decide_false, if_true, if_false, hw]
      refine ⟨drawOk_ren (fun _ => 0) rfl (by kernel_rfl), ?_⟩
      refine RunCall_of (newGauge41 I hv0 hcv n16) ?_
      simp -implicitDefEqProofs only [sB, Nat.reduceAdd, Nat.reduceSub, yieldL, popK, flat, nptr, Value.cells, H.new, eq_self, Int.reduceEq, Int.reduceLT, Int.reduceLE, Nat.reduceEqDiff, Nat.reduceLeDiff, thenQ, ContK, ty2, ty3, ty4, ty5, ty22, ty24, ty25, ty30, ty64, ty78, Bool.not_true, Bool.not_false, decide_true, decide_false, if_true, if_false, len_assoc]
      refine RunCall_of (tighten_at I (a0 := rowA n L U) (pr := pr) (by rw [get_k]; rfl) hv0 hcv ⟨n2, n16⟩) ?_
      have hok : tightOk n (rowA n L U) = false := by
        cases ho : tightOk n (rowA n L U) with
        | false => rfl
        | true =>
          exfalso; apply herr; unfold openE
          rw [if_neg (by rw [he]; simp), if_neg (by rw [hw]; simp), if_neg (by rw [ho]; simp)]
      have hE : openE n D L U pr m x = 21 := by
        unfold openE
        rw [if_neg (by rw [he]; simp), if_neg (by rw [hw]; simp), if_pos hok]
      rw [hE, hok]
      simp -implicitDefEqProofs only [sB, Nat.reduceAdd, Nat.reduceSub, yieldL, popK, flat, nptr, Value.cells, H.new, eq_self, Int.reduceEq, Int.reduceLT, Int.reduceLE, Nat.reduceEqDiff, Nat.reduceLeDiff, thenQ, ContK, ty2, ty3, ty4, ty5, ty22, ty24, ty25, ty30, ty64, ty78, Bool.not_true, Bool.not_false, decide_true, decide_false, if_true, if_false, len_assoc]
      first | exact ⟨⟨_, rfl⟩, rfl⟩ | exact ⟨_, rfl⟩
    | false =>
      have hE : openE n D L U pr m x = 3 := by
        unfold openE
        rw [if_neg (by rw [he]; simp), if_pos hw]
      rw [hE]
      simp -implicitDefEqProofs only [sB, Nat.reduceAdd, Nat.reduceSub, yieldL, popK, flat, nptr, Value.cells, H.new, eq_self, Int.reduceEq, Int.reduceLT, Int.reduceLE, Nat.reduceEqDiff, Nat.reduceLeDiff, thenQ, ContK, ty2, ty3, ty4, ty5, ty22, ty24, ty25, ty30, ty64, ty78, sD, mixT, isAlloc, ridOf, blockOf, Bool.not_true, Bool.not_false, decide_true, decide_false, if_true, if_false, hw]
      exact ⟨drawOk_ren (fun _ => 0) rfl (by kernel_rfl), _, rfl⟩
  · have hE : openE n D L U pr m x = tankE n D L U pr := by unfold openE; rw [if_pos he]
    rw [hE]
    simp -implicitDefEqProofs only [sB, Nat.reduceAdd, Nat.reduceSub, yieldL, popK, flat, nptr, Value.cells, H.new, eq_self, Int.reduceEq, Int.reduceLT, Int.reduceLE, Nat.reduceEqDiff, Nat.reduceLeDiff, thenQ, ContK, ty2, ty3, ty4, ty5, ty22, ty24, ty25, ty30, ty64, ty78, Bool.not_true, Bool.not_false, decide_true, decide_false, if_true, if_false, he]
    first | exact ⟨⟨_, rfl⟩, rfl⟩ | exact ⟨_, rfl⟩

theorem open_ok {n m : Nat} {D L U x : Nat → Int} {pr : Int} (h : openE n D L U pr m x = 0) : TankOk n D L U pr ∧ withinB (D 0) (D (n - 1)) m x = true ∧ tightOk n (rowA n L U) = true := by
  unfold openE at h
  split at h
  · contradiction
  rename_i h1
  split at h
  · cases h
  rename_i h2
  split at h
  · cases h
  rename_i h3
  exact ⟨tank_ok (by simpa using h1), by simpa using h2, by simpa using h3⟩

set_option maxRecDepth 100000 in
theorem open48_ok (I : Nat → Option Obj) {h : H} {v dv : Value} {n m : Nat} {D L U x : Nat → Int} {pr : Int} (hv : Rows I v n D L U) (hcv : ∀ N, closedV (okN N) v = true) (hx : Sees I h dv m x) (hok : openE n D L U pr m x = 0) :
    Snd Try.prog I (.func 48) [.agg #[v, .int .i64 pr], dv] h (.tuple #[.pointer (some ⟨2 * (h.length + 2), 0, none⟩), .int .i64 0]) (h ++ [.cells [v, .int .i64 pr] 24, .cells [v, .int .i64 pr] 24, gBl v pr (tightA n (rowA n L U))]) := by
  obtain ⟨t, hw, ht⟩ := open_ok hok
  have he := tank_err t
  have hv0 := hv
  obtain ⟨q, c, rfl, hn, hq⟩ := hv
  have n2 := t.n2
  have n16 := t.n16
  obtain ⟨id, off, rfl, hr⟩ := hq (by omega)
  have hw1 : IntKind.i64.wrap ((n : Int) - 1) = ((n - 1 : Nat) : Int) := by rw [wrap_i64 (by omega) (by omega)]; omega
  have h00 : (0 : Int) ≤ 0 ∧ (0 : Int) < (n : Int) := ⟨by omega, by omega⟩
  have h01 : (0 : Int) ≤ ((n - 1 : Nat) : Int) ∧ ((n - 1 : Nat) : Int) < (n : Int) := ⟨by omega, by omega⟩
  have r0 := fun h => row_D (hr h 0 (by omega))
  have r1 := fun h => row_D (hr h (n - 1) (by omega))
  simp only [Nat.zero_mul, Nat.add_zero] at r0
  refine Snd_run (rs := [.tmp 4, .tmp 5]) 400 Try.func48 (by kernel_rfl) rfl Try.ntmps48 rfl ?_
  simp -implicitDefEqProofs only [sB, Nat.reduceAdd, Nat.reduceSub, yieldL, popK, flat, nptr, Value.cells, H.new, eq_self, Int.reduceEq, Int.reduceLT, Int.reduceLE, Nat.reduceEqDiff, Nat.reduceLeDiff, thenQ, ContK, ty2, ty3, ty4, ty5, ty22, ty24, ty25, ty30, ty64, ty78, Bool.not_true, Bool.not_false, decide_true, decide_false, if_true, if_false]
  refine RunCall_of (checkTank47 I hv0) ?_
  rw [he]
  simp -implicitDefEqProofs only [sB, Nat.reduceAdd, Nat.reduceSub, yieldL, popK, flat, nptr, Value.cells, H.new, eq_self, Int.reduceEq, Int.reduceLT, Int.reduceLE, Nat.reduceEqDiff, Nat.reduceLeDiff, thenQ, ContK, ty2, ty3, ty4, ty5, ty22, ty24, ty25, ty30, ty64, ty78, sD, mixT, isAlloc, ridOf, blockOf, Bool.not_true, Bool.not_false, decide_true, decide_false, if_true, if_false, hw1, h00, h01, r0, r1, Int.toNat_zero, Nat.zero_mul]
  refine RunDC_quiet (within40 I (hx.app _)) rfl ?_
  rw [hw]
  simp -implicitDefEqProofs only [sB, Nat.reduceAdd, Nat.reduceSub, yieldL, popK, flat, nptr, Value.cells, H.new, eq_self, Int.reduceEq, Int.reduceLT, Int.reduceLE, Nat.reduceEqDiff, Nat.reduceLeDiff, thenQ, ContK, ty2, ty3, ty4, ty5, ty22, ty24, ty25, ty30, ty64, ty78, sD, mixT, isAlloc, ridOf, blockOf, Bool.not_true, Bool.not_false, decide_true, decide_false, if_true, if_false]
  refine ⟨drawOk_ren (fun _ => 0) rfl (by kernel_rfl), ?_⟩
  refine RunCall_of (newGauge41 I hv0 hcv n16) ?_
  simp -implicitDefEqProofs only [sB, Nat.reduceAdd, Nat.reduceSub, yieldL, popK, flat, nptr, Value.cells, H.new, eq_self, Int.reduceEq, Int.reduceLT, Int.reduceLE, Nat.reduceEqDiff, Nat.reduceLeDiff, thenQ, ContK, ty2, ty3, ty4, ty5, ty22, ty24, ty25, ty30, ty64, ty78, Bool.not_true, Bool.not_false, decide_true, decide_false, if_true, if_false, len_assoc]
  refine RunCall_of (tighten_at I (a0 := rowA n L U) (pr := pr) (by rw [get_k]; rfl) hv0 hcv ⟨n2, n16⟩) ?_
  rw [ht]
  simp -implicitDefEqProofs only [sB, Nat.reduceAdd, Nat.reduceSub, yieldL, popK, flat, nptr, Value.cells, H.new, eq_self, Int.reduceEq, Int.reduceLT, Int.reduceLE, Nat.reduceEqDiff, Nat.reduceLeDiff, thenQ, ContK, ty2, ty3, ty4, ty5, ty22, ty24, ty25, ty30, ty64, ty78, Bool.not_true, Bool.not_false, decide_true, decide_false, if_true, if_false, len_assoc]
end Go.Proofs.Ytcocmbccfikmhaa
set_option linter.unusedSimpArgs false
set_option linter.unusedVariables false
namespace Go.Proofs.Ytcocmbccfikmhaa
open Go.Sym
theorem rmax_rng {f : Nat → Int} {A B : Int} : ∀ i, (∀ j, j ≤ i → A ≤ f j ∧ f j ≤ B) → A ≤ rmax f i ∧ rmax f i ≤ B
  | 0, h => h 0 (Nat.le_refl _)
  | i + 1, h => by
    have h1 := rmax_rng i (fun j hj => h j (by omega))
    have h2 := h (i + 1) (Nat.le_refl _)
    simp only [rmax]; omega
theorem rminB_rng {f : Nat → Int} {A B : Int} {n : Nat} : ∀ i, (∀ j, j < n → A ≤ f j ∧ f j ≤ B) → 0 < n → A ≤ rminB f n i ∧ rminB f n i ≤ B
  | 0, h, hn => h (n - 1) (by omega)
  | i + 1, h, hn => by
    have h1 := rminB_rng i h hn
    have h2 := h (n - 1 - (i + 1)) (by omega)
    simp only [rminB]; omega
theorem tightA_rng {n : Nat} {D L U : Nat → Int} {pr : Int} (t : TankOk n D L U pr) {i : Nat} (hi : i < n) : (0 ≤ (tightA n (rowA n L U)).1 i ∧ (tightA n (rowA n L U)).1 i ≤ 100000) ∧ (0 ≤ (tightA n (rowA n L U)).2 i ∧ (tightA n (rowA n L U)).2 i ≤ 100000) := by
  have n2 := t.n2
  have hc : ∀ j, j < n → cut n L j = L j ∧ cut n U j = U j := fun j hj => ⟨by unfold cut; rw [if_pos hj], by unfold cut; rw [if_pos hj]⟩
  constructor
  · show 0 ≤ fwd (cut n L) n i ∧ fwd (cut n L) n i ≤ 100000
    rw [fwd_in hi]
    exact rmax_rng i fun j hj => by have := t.lit j (by omega); have := hc j (by omega); omega
  · show 0 ≤ bwd (cut n U) n n i ∧ bwd (cut n U) n n i ≤ 100000
    rw [bwd_in (by omega)]
    exact rminB_rng _ (fun j hj => by have := t.lit j hj; have := hc j hj; omega) (by omega)
theorem bl34_0 : abuild Try.prog 34 [] = some (.agg #[.int .i64 0, .int .i64 0]) := by kernel_rfl
def rgV (a b : Int) (e : Int) : Value := .tuple #[.agg #[.int .i64 a, .int .i64 b], .int .i64 e]
/-- what Metered answers -/
def metV (n : Nat) (D L U : Nat → Int) (pr : Int) (fr to : Int) : Value :=
  if tankE n D L U pr ≠ 0 then rgV 0 0 (tankE n D L U pr)
  else if fr < 0 ∨ (n : Int) ≤ fr ∨ to < 0 ∨ (n : Int) ≤ to then rgV 0 0 3
  else if to < fr then rgV 0 0 2
  else if tightOk n (rowA n L U) = false then rgV 0 0 21
  else if fr = to then rgV 0 0 0
  else rgV (max 0 ((tightA n (rowA n L U)).1 to.toNat - (tightA n (rowA n L U)).2 fr.toNat)) ((tightA n (rowA n L U)).2 to.toNat - (tightA n (rowA n L U)).1 fr.toNat) 0
theorem metV_flat {n : Nat} {D L U : Nat → Int} {pr fr to : Int} : flat (metV n D L U pr fr to) = true := by
  unfold metV; split
  · rfl
  · split
    · rfl
    · split
      · rfl
      · split
        · rfl
        · split <;> rfl

set_option maxRecDepth 100000 in
set_option maxHeartbeats 4000000 in
theorem metered12 (I : Nat → Option Obj) {h : H} {v : Value} {n : Nat} {D L U : Nat → Int} {pr fr to : Int} (hv : Rows I v n D L U) (hcv : ∀ N, closedV (okN N) v = true) :
    Snd Try.prog I (.func 12) [.agg #[v, .int .i64 pr], .int .i64 fr, .int .i64 to] h (metV n D L U pr fr to) h := by
  have hv0 := hv
  obtain ⟨q, c, rfl, hn, hq⟩ := hv
  refine Snd_run0 (rs := [.cell 6 34, .tmp 7]) 600 Try.func12 (by kernel_rfl) rfl Try.ntmps12 rfl metV_flat ?_
  simp -implicitDefEqProofs only [sB, Nat.reduceAdd, Nat.reduceSub, yieldL, popK, flat, nptr, Value.cells, H.new, eq_self, Int.reduceEq, Int.reduceLT, Int.reduceLE, Nat.reduceEqDiff, Nat.reduceLeDiff, thenQ, ContK, ty2, ty3, ty4, ty5, ty22, ty24, ty25, ty30, ty34, ty78, ty81, ty90, Bool.not_true, Bool.not_false, decide_true, decide_false, if_true, if_false, bl34, bl34_0, st34]
  refine RunCall_of (checkTank47 I hv0) ?_
  by_cases he : tankE n D L U pr = 0
  · rw [he]
    have t := tank_ok he
    have n2 := t.n2
    have n16 := t.n16
    by_cases c1 : fr < 0
    · simp -implicitDefEqProofs only [sB, Nat.reduceAdd, Nat.reduceSub, yieldL, popK, flat, nptr, Value.cells, H.new, eq_self, Int.reduceEq, Int.reduceLT, Int.reduceLE, Nat.reduceEqDiff, Nat.reduceLeDiff, thenQ, ContK, ty2, ty3, ty4, ty5, ty22, ty24, ty25, ty30, ty34, ty78, ty81, ty90, Bool.not_true, Bool.not_false, decide_true, decide_false, if_true, if_false, bl34, bl34_0, st34, c1]
      exact ⟨⟨_, rfl⟩, by unfold metV rgV; rw [if_neg (by rw [he]; simp), if_pos (by omega)]⟩
    by_cases c2 : (n : Int) ≤ fr
    · simp -implicitDefEqProofs only [sB, Nat.reduceAdd, Nat.reduceSub, yieldL, popK, flat, nptr, Value.cells, H.new, eq_self, Int.reduceEq, Int.reduceLT, Int.reduceLE, Nat.reduceEqDiff, Nat.reduceLeDiff, thenQ, ContK, ty2, ty3, ty4, ty5, ty22, ty24, ty25, ty30, ty34, ty78, ty81, ty90, Bool.not_true, Bool.not_false, decide_true, decide_false, if_true, if_false, bl34, bl34_0, st34, c1, c2]
      exact ⟨⟨_, rfl⟩, by unfold metV rgV; rw [if_neg (by rw [he]; simp), if_pos (by omega)]⟩
    by_cases c3 : to < 0
    · simp -implicitDefEqProofs only [sB, Nat.reduceAdd, Nat.reduceSub, yieldL, popK, flat, nptr, Value.cells, H.new, eq_self, Int.reduceEq, Int.reduceLT, Int.reduceLE, Nat.reduceEqDiff, Nat.reduceLeDiff, thenQ, ContK, ty2, ty3, ty4, ty5, ty22, ty24, ty25, ty30, ty34, ty78, ty81, ty90, Bool.not_true, Bool.not_false, decide_true, decide_false, if_true, if_false, bl34, bl34_0, st34, c1, c2, c3]
      exact ⟨⟨_, rfl⟩, by unfold metV rgV; rw [if_neg (by rw [he]; simp), if_pos (by omega)]⟩
    by_cases c4 : (n : Int) ≤ to
    · simp -implicitDefEqProofs only [sB, Nat.reduceAdd, Nat.reduceSub, yieldL, popK, flat, nptr, Value.cells, H.new, eq_self, Int.reduceEq, Int.reduceLT, Int.reduceLE, Nat.reduceEqDiff, Nat.reduceLeDiff, thenQ, ContK, ty2, ty3, ty4, ty5, ty22, ty24, ty25, ty30, ty34, ty78, ty81, ty90, Bool.not_true, Bool.not_false, decide_true, decide_false, if_true, if_false, bl34, bl34_0, st34, c1, c2, c3, c4]
      exact ⟨⟨_, rfl⟩, by unfold metV rgV; rw [if_neg (by rw [he]; simp), if_pos (by omega)]⟩
    have hin : ¬ (fr < 0 ∨ (n : Int) ≤ fr ∨ to < 0 ∨ (n : Int) ≤ to) := by omega
    by_cases c5 : to < fr
    · simp -implicitDefEqProofs only [sB, Nat.reduceAdd, Nat.reduceSub, yieldL, popK, flat, nptr, Value.cells, H.new, eq_self, Int.reduceEq, Int.reduceLT, Int.reduceLE, Nat.reduceEqDiff, Nat.reduceLeDiff, thenQ, ContK, ty2, ty3, ty4, ty5, ty22, ty24, ty25, ty30, ty34, ty78, ty81, ty90, Bool.not_true, Bool.not_false, decide_true, decide_false, if_true, if_false, bl34, bl34_0, st34, c1, c2, c3, c4, c5]
      exact ⟨⟨_, rfl⟩, by unfold metV rgV; rw [if_neg (by rw [he]; simp), if_neg hin, if_pos c5]⟩
    obtain ⟨i, rfl⟩ : ∃ i : Nat, fr = i := ⟨fr.toNat, by omega⟩
    obtain ⟨k, rfl⟩ : ∃ k : Nat, to = k := ⟨to.toNat, by omega⟩
    simp -implicitDefEqProofs only [sB, Nat.reduceAdd, Nat.reduceSub, yieldL, popK, flat, nptr, Value.cells, H.new, eq_self, Int.reduceEq, Int.reduceLT, Int.reduceLE, Nat.reduceEqDiff, Nat.reduceLeDiff, thenQ, ContK, ty2, ty3, ty4, ty5, ty22, ty24, ty25, ty30, ty34, ty78, ty81, ty90, Bool.not_true, Bool.not_false, decide_true, decide_false, if_true, if_false, bl34, bl34_0, st34, c1, c2, c3, c4, c5]
    have hE : openE n D L U pr 0 (fun _ => 0) = if tightOk n (rowA n L U) = false then 21 else 0 := by
      unfold openE
      rw [if_neg (by rw [he]; simp), if_neg]
      have : withinB (D 0) (D (n - 1)) 0 (fun _ => 0) = true := withinB_iff.2 fun i hi => by omega
      rw [this]; simp
    cases hok : tightOk n (rowA n L U) with
    | false =>
      rw [hok, if_pos rfl] at hE
      have hop := open48_err I (h := h ++ [.cells [.slice q n c, .int .i64 pr] 24, .cells [.int .i64 0, .int .i64 0] 34]) (pr := pr) (x := fun _ => 0) hv0 hcv Sees.nil (by rw [hE]; simp)
      rw [hE] at hop
      refine RunCall_of hop ?_
      simp -implicitDefEqProofs only [sB, Nat.reduceAdd, Nat.reduceSub, yieldL, popK, flat, nptr, Value.cells, H.new, eq_self, Int.reduceEq, Int.reduceLT, Int.reduceLE, Nat.reduceEqDiff, Nat.reduceLeDiff, thenQ, ContK, ty2, ty3, ty4, ty5, ty22, ty24, ty25, ty30, ty34, ty78, ty81, ty90, Bool.not_true, Bool.not_false, decide_true, decide_false, if_true, if_false, bl34, bl34_0, st34, len_assoc]
      exact ⟨⟨_, rfl⟩, by unfold metV rgV; rw [if_neg (by rw [he]; simp), if_neg hin, if_neg c5, if_pos hok]⟩
    | true =>
      rw [hok, if_neg (by simp)] at hE
      have hop := open48_ok I (h := h ++ [.cells [.slice q n c, .int .i64 pr] 24, .cells [.int .i64 0, .int .i64 0] 34]) (pr := pr) (x := fun _ => 0) hv0 hcv Sees.nil hE
      by_cases c6 : i = k
      · refine RunCall_of hop ?_
        subst c6
        simp -implicitDefEqProofs only [sB, Nat.reduceAdd, Nat.reduceSub, yieldL, popK, flat, nptr, Value.cells, H.new, eq_self, Int.reduceEq, Int.reduceLT, Int.reduceLE, Nat.reduceEqDiff, Nat.reduceLeDiff, thenQ, ContK, ty2, ty3, ty4, ty5, ty22, ty24, ty25, ty30, ty34, ty78, ty81, ty90, Bool.not_true, Bool.not_false, decide_true, decide_false, if_true, if_false, bl34, bl34_0, st34, len_assoc]
        exact ⟨⟨_, rfl⟩, by unfold metV rgV; rw [if_neg (by rw [he]; simp), if_neg hin, if_neg c5, if_neg (by rw [hok]; simp), if_pos rfl]⟩
      · have c6' : ¬ ((i : Int) = (k : Int)) := by omega
        have i2 : (0 : Int) ≤ (i : Int) ∧ (i : Int) < ((16 : Nat) : Int) := ⟨by omega, by omega⟩
        have k2 : (0 : Int) ≤ (k : Int) ∧ (k : Int) < ((16 : Nat) : Int) := ⟨by omega, by omega⟩
        have i16 : i < 16 := by omega
        have k16 : k < 16 := by omega
        obtain ⟨a1, a2⟩ := tightA_rng t (i := i) (by omega)
        obtain ⟨b1, b2⟩ := tightA_rng t (i := k) (by omega)
        generalize htA : tightA n (rowA n L U) = A at *
        have w1 : IntKind.i64.wrap (A.1 k - A.2 i) = A.1 k - A.2 i := wrap_i64 (by omega) (by omega)
        have w2 : IntKind.i64.wrap (A.2 k - A.1 i) = A.2 k - A.1 i := wrap_i64 (by omega) (by omega)
        refine RunCall_of hop ?_
        simp -implicitDefEqProofs only [sB, Nat.reduceAdd, Nat.reduceSub, yieldL, popK, flat, nptr, Value.cells, H.new, eq_self, Int.reduceEq, Int.reduceLT, Int.reduceLE, Nat.reduceEqDiff, Nat.reduceLeDiff, thenQ, ContK, ty2, ty3, ty4, ty5, ty22, ty24, ty25, ty30, ty34, ty78, ty81, ty90, sD, mixT, isAlloc, ridOf, blockOf, Bool.not_true, Bool.not_false, decide_true, decide_false, if_true, if_false, bl34, bl34_0, st34, len_assoc, c6', i2, k2, gb_lo i16, gb_lo k16, gb_hi i16, gb_hi k16, w1, w2]
        refine ⟨effOk_of (by kernel_rfl) (by simp), drawOk_ren (fun _ => 0) rfl (by kernel_rfl), ⟨_, rfl⟩, ?_⟩
        unfold metV rgV
        rw [if_neg (by rw [he]; simp), if_neg hin, if_neg c5, if_neg (by rw [hok]; simp), if_neg c6', htA, Int.toNat_natCast, Int.toNat_natCast]
  · simp -implicitDefEqProofs only [sB, Nat.reduceAdd, Nat.reduceSub, yieldL, popK, flat, nptr, Value.cells, H.new, eq_self, Int.reduceEq, Int.reduceLT, Int.reduceLE, Nat.reduceEqDiff, Nat.reduceLeDiff, thenQ, ContK, ty2, ty3, ty4, ty5, ty22, ty24, ty25, ty30, ty34, ty78, ty81, ty90, Bool.not_true, Bool.not_false, decide_true, decide_false, if_true, if_false, bl34, bl34_0, st34, he]
    exact ⟨⟨_, rfl⟩, by unfold metV rgV; rw [if_pos he]⟩
end Go.Proofs.Ytcocmbccfikmhaa
set_option linter.unusedSimpArgs false
set_option linter.unusedVariables false
namespace Go.Proofs.Ytcocmbccfikmhaa
open Go.Sym
/-- the first row behind row i that contradicts it: m rows from k on -/
def ckF (L U : Nat → Int) (i : Nat) : Nat → Nat → Option Nat
  | 0, _ => none
  | m + 1, k => if U k < L i then some k else ckF L U i m (k + 1)
def ciF (L U : Nat → Int) (n : Nat) : Nat → Nat → Option (Nat × Nat)
  | 0, _ => none
  | m + 1, i => match ckF L U i (n - (i + 1)) (i + 1) with
    | some k => some (i, k)
    | none => ciF L U n m (i + 1)
/-- the first pair of rows that contradict each other -/
def clashP (n : Nat) (L U : Nat → Int) : Option (Nat × Nat) := ciF L U n n 0
theorem ckF_hit {L U : Nat → Int} {n i k : Nat} (hk : k < n) (h : U k < L i) : ckF L U i (n - k) k = some k := by
  obtain ⟨m, hm⟩ : ∃ m, n - k = m + 1 := ⟨n - k - 1, by omega⟩
  rw [hm]; simp [ckF, h]
theorem ckF_miss {L U : Nat → Int} {n i k : Nat} (hk : k < n) (h : ¬ U k < L i) : ckF L U i (n - k) k = ckF L U i (n - (k + 1)) (k + 1) := by
  obtain ⟨m, hm⟩ : ∃ m, n - k = m + 1 := ⟨n - k - 1, by omega⟩
  have hm2 : n - (k + 1) = m := by omega
  rw [hm, hm2]; simp [ckF, h]
theorem ckF_end {L U : Nat → Int} {n i k : Nat} (hk : ¬ k < n) : ckF L U i (n - k) k = none := by
  have : n - k = 0 := by omega
  rw [this]; rfl
theorem ciF_hit {L U : Nat → Int} {n i k : Nat} (hi : i < n) (h : ckF L U i (n - (i + 1)) (i + 1) = some k) : ciF L U n (n - i) i = some (i, k) := by
  obtain ⟨m, hm⟩ : ∃ m, n - i = m + 1 := ⟨n - i - 1, by omega⟩
  rw [hm]; simp [ciF, h]
theorem ciF_miss {L U : Nat → Int} {n i : Nat} (hi : i < n) (h : ckF L U i (n - (i + 1)) (i + 1) = none) : ciF L U n (n - i) i = ciF L U n (n - (i + 1)) (i + 1) := by
  obtain ⟨m, hm⟩ : ∃ m, n - i = m + 1 := ⟨n - i - 1, by omega⟩
  have hm2 : n - (i + 1) = m := by omega
  rw [hm, hm2]; simp [ciF, h]
theorem ciF_end {L U : Nat → Int} {n i : Nat} (hi : ¬ i < n) : ciF L U n (n - i) i = none := by
  have : n - i = 0 := by omega
  rw [this]; rfl
def clashV (n : Nat) (D L U : Nat → Int) (pr : Int) : Value :=
  if tankE n D L U pr ≠ 0 then .tuple #[.int .i64 0, .int .i64 0, .int .i64 (tankE n D L U pr)]
  else match clashP n L U with
    | some (i, k) => .tuple #[.int .i64 i, .int .i64 k, .int .i64 0]
    | none => .tuple #[.int .i64 0, .int .i64 0, .int .i64 5]
theorem clashV_flat {n : Nat} {D L U : Nat → Int} {pr : Int} : flat (clashV n D L U pr) = true := by
  unfold clashV; split
  · rfl
  · split <;> rfl

set_option maxRecDepth 100000 in
set_option maxHeartbeats 4000000 in
theorem clash69 (I : Nat → Option Obj) {h : H} {v : Value} {n : Nat} {D L U : Nat → Int} {pr : Int} (hv : Rows I v n D L U) :
    Snd Try.prog I (.func 69) [.agg #[v, .int .i64 pr]] h (clashV n D L U pr) h := by
  have hv0 := hv
  obtain ⟨q, c, rfl, hn, hq⟩ := hv
  refine Snd_run0 (rs := [.tmp 2, .tmp 3, .tmp 4]) 600 Try.func69 (by kernel_rfl) rfl Try.ntmps69 rfl clashV_flat ?_
  simp -implicitDefEqProofs only [sB, Nat.reduceAdd, Nat.reduceSub, yieldL, popK, flat, nptr, Value.cells, H.new, eq_self, Int.reduceEq, Int.reduceLT, Int.reduceLE, Nat.reduceEqDiff, Nat.reduceLeDiff, thenQ, ContK, ty2, ty3, ty4, ty5, ty22, ty24, ty30, ty34, ty64, Bool.not_true, Bool.not_false, decide_true, decide_false, if_true, if_false]
  refine RunCall_of (checkTank30 I hv0) ?_
  by_cases he : tankE n D L U pr = 0
  · rw [he]
    have t := tank_ok he
    have n2 := t.n2
    have n16 := t.n16
    obtain ⟨id, off, rfl, hr⟩ := hq (by omega)
    have hV : clashV n D L U pr = match clashP n L U with
      | some (i, k) => .tuple #[.int .i64 i, .int .i64 k, .int .i64 0]
      | none => .tuple #[.int .i64 0, .int .i64 0, .int .i64 5] := by unfold clashV; rw [if_neg (by rw [he]; simp)]
    simp -implicitDefEqProofs only [sB, Nat.reduceAdd, Nat.reduceSub, yieldL, popK, flat, nptr, Value.cells, H.new, eq_self, Int.reduceEq, Int.reduceLT, Int.reduceLE, Nat.reduceEqDiff, Nat.reduceLeDiff, thenQ, ContK, ty2, ty3, ty4, ty5, ty22, ty24, ty30, ty34, ty64, Bool.not_true, Bool.not_false, decide_true, decide_false, if_true, if_false]
    obtain ⟨Ja, hJa⟩ : ∃ J : St → Prop, J = fun s => ∃ (i : Nat), s.df = [] ∧ s.h = h ++ [.cells [.slice (some ⟨id, off, none⟩) n c, .int .i64 pr] 24] ∧ s.tm.length = 45 ∧ s.tm.getD 1 undef = .pointer (some ⟨2 * h.length, 0, none⟩) ∧ s.tm.getD 5 undef = .int .i64 i ∧ (i ≤ n) ∧ (clashP n L U = ciF L U n (n - i) i) := ⟨_, rfl⟩
    refine Loop_run (by kernel_rfl) 600 Ja (muI 5 n) (by rw [hJa]; exact ⟨0, rfl, rfl, rfl, rfl, rfl, Nat.zero_le _, rfl⟩) ?_
    intro sa hsa
    rw [hJa] at hsa
    obtain ⟨tma, dfa, hha⟩ := sa
    obtain ⟨i, ea1, ea2, ea3, la1, la5, hi, hp⟩ := hsa
    simp only at ea1 ea2 ea3 la1 la5
    subst dfa; subst hha
    have elita : tma = [tma.getD 0 undef, .pointer (some ⟨2 * h.length, 0, none⟩), tma.getD 2 undef, tma.getD 3 undef, tma.getD 4 undef, .int .i64 i, tma.getD 6 undef, tma.getD 7 undef, tma.getD 8 undef, tma.getD 9 undef, tma.getD 10 undef, tma.getD 11 undef, tma.getD 12 undef, tma.getD 13 undef, tma.getD 14 undef, tma.getD 15 undef, tma.getD 16 undef, tma.getD 17 undef, tma.getD 18 undef, tma.getD 19 undef, tma.getD 20 undef, tma.getD 21 undef, tma.getD 22 undef, tma.getD 23 undef, tma.getD 24 undef, tma.getD 25 undef, tma.getD 26 undef, tma.getD 27 undef, tma.getD 28 undef, tma.getD 29 undef, tma.getD 30 undef, tma.getD 31 undef, tma.getD 32 undef, tma.getD 33 undef, tma.getD 34 undef, tma.getD 35 undef, tma.getD 36 undef, tma.getD 37 undef, tma.getD 38 undef, tma.getD 39 undef, tma.getD 40 undef, tma.getD 41 undef, tma.getD 42 undef, tma.getD 43 undef, tma.getD 44 undef] := by
      have e0 := lit_eq ea3
      have er : List.range 45 = [0, 1, 2, 3, 4, 5, 6, 7, 8, 9, 10, 11, 12, 13, 14, 15, 16, 17, 18, 19, 20, 21, 22, 23, 24, 25, 26, 27, 28, 29, 30, 31, 32, 33, 34, 35, 36, 37, 38, 39, 40, 41, 42, 43, 44] := by rfl
      rw [er] at e0
      simp only [List.map_cons, List.map_nil, la1, la5] at e0
      exact e0
    rw [elita]
    clear la1
    clear la5
    clear elita ea3
    by_cases hin : i < n
    · have h1 : (i : Int) < (n : Int) := by omega
      have h2 : (0 : Int) ≤ (i : Int) ∧ (i : Int) < (n : Int) := ⟨by omega, h1⟩
      have h3 := fun h => hr h i hin
      have h4 := wrap_add1 (i := i) (by omega)
      simp -implicitDefEqProofs only [sB, Nat.reduceAdd, Nat.reduceSub, yieldL, popK, flat, nptr, Value.cells, H.new, eq_self, Int.reduceEq, Int.reduceLT, Int.reduceLE, Nat.reduceEqDiff, Nat.reduceLeDiff, thenQ, ContK, ty2, ty3, ty4, ty5, ty22, ty24, ty30, ty34, ty64, Bool.not_true, Bool.not_false, decide_true, decide_false, if_true, if_false, h1, h4]
      obtain ⟨Jb, hJb⟩ : ∃ J : St → Prop, J = fun s => ∃ (k : Nat), s.df = [] ∧ s.h = h ++ [.cells [.slice (some ⟨id, off, none⟩) n c, .int .i64 pr] 24] ∧ s.tm.length = 45 ∧ s.tm.getD 1 undef = .pointer (some ⟨2 * h.length, 0, none⟩) ∧ s.tm.getD 5 undef = .int .i64 i ∧ s.tm.getD 6 undef = .int .i64 k ∧ (k ≤ n) ∧ (ckF L U i (n - (i + 1)) (i + 1) = ckF L U i (n - k) k) := ⟨_, rfl⟩
      refine Loop_run (by kernel_rfl) 600 Jb (muI 6 n) (by rw [hJb]; exact ⟨i + 1, rfl, rfl, rfl, rfl, rfl, rfl, hin, rfl⟩) ?_
      intro sb hsb
      rw [hJb] at hsb
      obtain ⟨tmb, dfb, hhb⟩ := sb
      obtain ⟨k, eb1, eb2, eb3, lb1, lb5, lb6, hk, hp2⟩ := hsb
      simp only at eb1 eb2 eb3 lb1 lb5 lb6
      subst dfb; subst hhb
      have elitb : tmb = [tmb.getD 0 undef, .pointer (some ⟨2 * h.length, 0, none⟩), tmb.getD 2 undef, tmb.getD 3 undef, tmb.getD 4 undef, .int .i64 i, .int .i64 k, tmb.getD 7 undef, tmb.getD 8 undef, tmb.getD 9 undef, tmb.getD 10 undef, tmb.getD 11 undef, tmb.getD 12 undef, tmb.getD 13 undef, tmb.getD 14 undef, tmb.getD 15 undef, tmb.getD 16 undef, tmb.getD 17 undef, tmb.getD 18 undef, tmb.getD 19 undef, tmb.getD 20 undef, tmb.getD 21 undef, tmb.getD 22 undef, tmb.getD 23 undef, tmb.getD 24 undef, tmb.getD 25 undef, tmb.getD 26 undef, tmb.getD 27 undef, tmb.getD 28 undef, tmb.getD 29 undef, tmb.getD 30 undef, tmb.getD 31 undef, tmb.getD 32 undef, tmb.getD 33 undef, tmb.getD 34 undef, tmb.getD 35 undef, tmb.getD 36 undef, tmb.getD 37 undef, tmb.getD 38 undef, tmb.getD 39 undef, tmb.getD 40 undef, tmb.getD 41 undef, tmb.getD 42 undef, tmb.getD 43 undef, tmb.getD 44 undef] := by
        have e0 := lit_eq eb3
        have er : List.range 45 = [0, 1, 2, 3, 4, 5, 6, 7, 8, 9, 10, 11, 12, 13, 14, 15, 16, 17, 18, 19, 20, 21, 22, 23, 24, 25, 26, 27, 28, 29, 30, 31, 32, 33, 34, 35, 36, 37, 38, 39, 40, 41, 42, 43, 44] := by rfl
        rw [er] at e0
        simp only [List.map_cons, List.map_nil, lb1, lb5, lb6] at e0
        exact e0
      rw [elitb]
      clear lb1
      clear lb5
      clear lb6
      clear elitb eb3
      by_cases hkn : k < n
      · have k1 : (k : Int) < (n : Int) := by omega
        have k2 : (0 : Int) ≤ (k : Int) ∧ (k : Int) < (n : Int) := ⟨by omega, k1⟩
        have k3 := fun h => hr h k hkn
        have k4 := wrap_add1 (i := k) (by omega)
        by_cases hc : U k < L i
        · simp -implicitDefEqProofs only [sB, Nat.reduceAdd, Nat.reduceSub, yieldL, popK, flat, nptr, Value.cells, H.new, eq_self, Int.reduceEq, Int.reduceLT, Int.reduceLE, Nat.reduceEqDiff, Nat.reduceLeDiff, thenQ, ContK, ty2, ty3, ty4, ty5, ty22, ty24, ty30, ty34, ty64, sD, mixT, isAlloc, ridOf, blockOf, Bool.not_true, Bool.not_false, decide_true, decide_false, if_true, if_false, h2, k1, k2, row_L (h3 _), row_U (k3 _), hc]
          refine ⟨drawOk_ren (fun _ => 0) rfl (by kernel_rfl), ⟨_, rfl⟩, ?_⟩
          rw [hV, hp, ciF_hit hin (by rw [hp2, ckF_hit hkn hc])]
        · simp -implicitDefEqProofs only [sB, Nat.reduceAdd, Nat.reduceSub, yieldL, popK, flat, nptr, Value.cells, H.new, eq_self, Int.reduceEq, Int.reduceLT, Int.reduceLE, Nat.reduceEqDiff, Nat.reduceLeDiff, thenQ, ContK, ty2, ty3, ty4, ty5, ty22, ty24, ty30, ty34, ty64, sD, mixT, isAlloc, ridOf, blockOf, Bool.not_true, Bool.not_false, decide_true, decide_false, if_true, if_false, h2, k1, k2, k4, row_L (h3 _), row_U (k3 _), hc]
          refine ⟨drawOk_ren (fun _ => 0) rfl (by kernel_rfl), by rw [hJb]; exact ⟨k + 1, rfl, rfl, rfl, rfl, rfl, rfl, by omega, by rw [hp2, ckF_miss hkn hc]⟩, ?_⟩
          show n - ((k + 1 : Nat) : Int).toNat < n - (k : Int).toNat
          omega
      · have k1 : ¬ (k : Int) < (n : Int) := by omega
        simp -implicitDefEqProofs only [sB, Nat.reduceAdd, Nat.reduceSub, yieldL, popK, flat, nptr, Value.cells, H.new, eq_self, Int.reduceEq, Int.reduceLT, Int.reduceLE, Nat.reduceEqDiff, Nat.reduceLeDiff, thenQ, ContK, ty2, ty3, ty4, ty5, ty22, ty24, ty30, ty34, ty64, Bool.not_true, Bool.not_false, decide_true, decide_false, if_true, if_false, k1, h4]
        refine ⟨by rw [hJa]; exact ⟨i + 1, rfl, rfl, rfl, rfl, rfl, by omega, by rw [hp, ciF_miss hin (by rw [hp2, ckF_end hkn])]⟩, ?_⟩
        show n - ((i + 1 : Nat) : Int).toNat < n - (i : Int).toNat
        omega
    · have h1 : ¬ (i : Int) < (n : Int) := by omega
      simp -implicitDefEqProofs only [sB, Nat.reduceAdd, Nat.reduceSub, yieldL, popK, flat, nptr, Value.cells, H.new, eq_self, Int.reduceEq, Int.reduceLT, Int.reduceLE, Nat.reduceEqDiff, Nat.reduceLeDiff, thenQ, ContK, ty2, ty3, ty4, ty5, ty22, ty24, ty30, ty34, ty64, Bool.not_true, Bool.not_false, decide_true, decide_false, if_true, if_false, h1]
      refine ⟨⟨_, rfl⟩, ?_⟩
      rw [hV, hp, ciF_end hin]
  · simp -implicitDefEqProofs only [sB, Nat.reduceAdd, Nat.reduceSub, yieldL, popK, flat, nptr, Value.cells, H.new, eq_self, Int.reduceEq, Int.reduceLT, Int.reduceLE, Nat.reduceEqDiff, Nat.reduceLeDiff, thenQ, ContK, ty2, ty3, ty4, ty5, ty22, ty24, ty30, ty34, ty64, Bool.not_true, Bool.not_false, decide_true, decide_false, if_true, if_false, he]
    refine RunCall_of (checkTank30 I hv0) ?_
    simp -implicitDefEqProofs only [sB, Nat.reduceAdd, Nat.reduceSub, yieldL, popK, flat, nptr, Value.cells, H.new, eq_self, Int.reduceEq, Int.reduceLT, Int.reduceLE, Nat.reduceEqDiff, Nat.reduceLeDiff, thenQ, ContK, ty2, ty3, ty4, ty5, ty22, ty24, ty30, ty34, ty64, Bool.not_true, Bool.not_false, decide_true, decide_false, if_true, if_false, he]
    exact ⟨⟨_, rfl⟩, by unfold clashV; rw [if_pos he]⟩

set_option maxRecDepth 100000 in
theorem clashes49 (I : Nat → Option Obj) {h : H} {v : Value} {n : Nat} {D L U : Nat → Int} {pr : Int} (hv : Rows I v n D L U) (t : TankOk n D L U pr) :
    Snd Try.prog I (.func 49) [.agg #[v, .int .i64 pr]] h (.bool (clashP n L U).isSome) h := by
  have hc := fun h => clash69 I (h := h) (pr := pr) hv
  have hV : clashV n D L U pr = match clashP n L U with
      | some (i, k) => .tuple #[.int .i64 i, .int .i64 k, .int .i64 0]
      | none => .tuple #[.int .i64 0, .int .i64 0, .int .i64 5] := by unfold clashV; rw [if_neg (by rw [tank_err t]; simp)]
  rw [hV] at hc
  refine Snd_run0 (rs := [.tmp 2]) 400 Try.func49 (by kernel_rfl) rfl Try.ntmps49 rfl rfl ?_
  simp -implicitDefEqProofs only [sB, Nat.reduceAdd, Nat.reduceSub, yieldL, popK, flat, nptr, Value.cells, H.new, eq_self, Int.reduceEq, Int.reduceLT, Int.reduceLE, Nat.reduceEqDiff, Nat.reduceLeDiff, thenQ, ContK, ty2, ty3, ty4, ty24, ty30, Bool.not_true, Bool.not_false, decide_true, decide_false, if_true, if_false]
  refine RunCall_of (hc _) ?_
  cases hcl : clashP n L U with
  | some ik =>
    obtain ⟨i, k⟩ := ik
    simp -implicitDefEqProofs only [sB, Nat.reduceAdd, Nat.reduceSub, yieldL, popK, flat, nptr, Value.cells, H.new, eq_self, Int.reduceEq, Int.reduceLT, Int.reduceLE, Nat.reduceEqDiff, Nat.reduceLeDiff, thenQ, ContK, ty2, ty3, ty4, ty24, ty30, Bool.not_true, Bool.not_false, decide_true, decide_false, if_true, if_false]
    exact ⟨⟨_, rfl⟩, rfl⟩
  | none =>
    simp -implicitDefEqProofs only [sB, Nat.reduceAdd, Nat.reduceSub, yieldL, popK, flat, nptr, Value.cells, H.new, eq_self, Int.reduceEq, Int.reduceLT, Int.reduceLE, Nat.reduceEqDiff, Nat.reduceLeDiff, thenQ, ContK, ty2, ty3, ty4, ty24, ty30, Bool.not_true, Bool.not_false, decide_true, decide_false, if_true, if_false]
    exact ⟨⟨_, rfl⟩, rfl⟩
end Go.Proofs.Ytcocmbccfikmhaa
