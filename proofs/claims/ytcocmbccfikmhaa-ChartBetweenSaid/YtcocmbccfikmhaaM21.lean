/- Contracts: fine, Tight of the reference, Read (own texts put together: C38 C39) -/
import Derived.Test.YtcocmbccfikmhaaM19
import Derived.Test.YtcocmbccfikmhaaM16
import Derived.Test.YtcocmbccfikmhaaM4
set_option linter.unusedSimpArgs false
set_option linter.unusedVariables false
namespace Go.Proofs.Ytcocmbccfikmhaa
open Go.Sym

/-- a valid tank that has a chart -/
def fineB (n : Nat) (D L U : Nat → Int) (pr : Int) : Bool := !decide (25 < n) && (decide (tankE n D L U pr = 0) && !(clashP n L U).isSome)
theorem fine_ok {n : Nat} {D L U : Nat → Int} {pr : Int} (h : fineB n D L U pr = true) : TankOk n D L U pr ∧ clashP n L U = none := by
  unfold fineB at h
  simp only [Bool.and_eq_true, decide_eq_true_iff, Bool.not_eq_true'] at h
  refine ⟨tank_ok h.2.1, ?_⟩
  cases hc : clashP n L U with
  | none => rfl
  | some x => rw [hc] at h; cases h.2.2
set_option maxRecDepth 100000 in
theorem fine18 (I : Nat → Option Obj) {h : H} {v : Value} {n : Nat} {D L U : Nat → Int} {pr : Int} (hv : Rows I v n D L U) :
    Snd Try.prog I (.func 18) [.agg #[v, .int .i64 pr]] h (.bool (fineB n D L U pr)) h := by
  refine Snd_run0 (rs := [.tmp 2]) 400 Try.func18 (by kernel_rfl) rfl Try.ntmps18 rfl rfl ?_
  simp -implicitDefEqProofs only [sB, Nat.reduceAdd, Nat.reduceSub, yieldL, popK, flat, nptr, Value.cells, H.new, eq_self, Int.reduceEq, Int.reduceLT, Int.reduceLE, Nat.reduceEqDiff, Nat.reduceLeDiff, thenQ, ContK, ty4, ty24, ty30, Bool.not_true, Bool.not_false, decide_true, decide_false, if_true, if_false, z00, len_assoc]
  refine RunCall_of (great8 I hv) ?_
  by_cases hg : 25 < n
  · have e : fineB n D L U pr = false := by unfold fineB; rw [decide_eq_true hg]; rfl
    rw [e]
    simp -implicitDefEqProofs only [sB, Nat.reduceAdd, Nat.reduceSub, yieldL, popK, flat, nptr, Value.cells, H.new, eq_self, Int.reduceEq, Int.reduceLT, Int.reduceLE, Nat.reduceEqDiff, Nat.reduceLeDiff, thenQ, ContK, ty4, ty24, ty30, Bool.not_true, Bool.not_false, decide_true, decide_false, if_true, if_false, z00, len_assoc, hg]
    first | exact ⟨⟨_, rfl⟩, rfl⟩ | exact ⟨_, rfl⟩
  simp -implicitDefEqProofs only [sB, Nat.reduceAdd, Nat.reduceSub, yieldL, popK, flat, nptr, Value.cells, H.new, eq_self, Int.reduceEq, Int.reduceLT, Int.reduceLE, Nat.reduceEqDiff, Nat.reduceLeDiff, thenQ, ContK, ty4, ty24, ty30, Bool.not_true, Bool.not_false, decide_true, decide_false, if_true, if_false, z00, len_assoc, hg]
  refine RunCall_of (checkTank30 I hv) ?_
  by_cases he : tankE n D L U pr = 0
  · have t := tank_ok he
    have e : fineB n D L U pr = !(clashP n L U).isSome := by unfold fineB; rw [decide_eq_false hg, he]; simp
    rw [e]
    simp -implicitDefEqProofs only [sB, Nat.reduceAdd, Nat.reduceSub, yieldL, popK, flat, nptr, Value.cells, H.new, eq_self, Int.reduceEq, Int.reduceLT, Int.reduceLE, Nat.reduceEqDiff, Nat.reduceLeDiff, thenQ, ContK, ty4, ty24, ty30, Bool.not_true, Bool.not_false, decide_true, decide_false, if_true, if_false, z00, len_assoc, he]
    refine RunCall_of (clashes49 I hv t) ?_
    simp -implicitDefEqProofs only [sB, Nat.reduceAdd, Nat.reduceSub, yieldL, popK, flat, nptr, Value.cells, H.new, eq_self, Int.reduceEq, Int.reduceLT, Int.reduceLE, Nat.reduceEqDiff, Nat.reduceLeDiff, thenQ, ContK, ty4, ty24, ty30, Bool.not_true, Bool.not_false, decide_true, decide_false, if_true, if_false, z00, len_assoc, he]
    first | exact ⟨⟨_, rfl⟩, rfl⟩ | exact ⟨_, rfl⟩
  · have e : fineB n D L U pr = false := by unfold fineB; rw [decide_eq_false he]; simp
    rw [e]
    simp -implicitDefEqProofs only [sB, Nat.reduceAdd, Nat.reduceSub, yieldL, popK, flat, nptr, Value.cells, H.new, eq_self, Int.reduceEq, Int.reduceLT, Int.reduceLE, Nat.reduceEqDiff, Nat.reduceLeDiff, thenQ, ContK, ty4, ty24, ty30, Bool.not_true, Bool.not_false, decide_true, decide_false, if_true, if_false, z00, len_assoc, he]
    first | exact ⟨⟨_, rfl⟩, rfl⟩ | exact ⟨_, rfl⟩
set_option maxRecDepth 100000 in
theorem tight57 (I : Nat → Option Obj) {h : H} {v : Value} {n : Nat} {D L U : Nat → Int} {pr : Int} (hv : Rows I v n D L U) (t : TankOk n D L U pr) (hc : clashP n L U = none) :
    Snd Try.prog I (.func 57) [.agg #[v, .int .i64 pr]] h (.tuple #[.slice (some ⟨2 * (h.length + (1 + 3 * n)), 0, none⟩) n UNK, .int .i64 0]) (h ++ (.cells [v, .int .i64 pr] 24 :: (List.replicate (3 * n) .dead ++ [.row (rcells (fun j => rmax L j) (fun j => rmin U n j) n) 34 2]))) := by
  have n2 := t.n2
  have n16 := t.n16
  have he := tank_err t
  have k1 := fun h => clashes49 I (h := h) (pr := pr) hv t
  rw [hc] at k1
  refine Snd_run (rs := [.tmp 2, .tmp 3]) 400 Try.func57 (by kernel_rfl) rfl Try.ntmps57 rfl ?_
  simp -implicitDefEqProofs only [sB, Nat.reduceAdd, Nat.reduceSub, yieldL, popK, flat, nptr, Value.cells, H.new, eq_self, Int.reduceEq, Int.reduceLT, Int.reduceLE, Nat.reduceEqDiff, Nat.reduceLeDiff, thenQ, ContK, ty2, ty3, ty4, ty5, ty24, ty30, ty51, Bool.not_true, Bool.not_false, decide_true, decide_false, if_true, if_false, z00, len_assoc]
  refine RunCall_of (checkTank30 I hv) ?_
  simp -implicitDefEqProofs only [sB, Nat.reduceAdd, Nat.reduceSub, yieldL, popK, flat, nptr, Value.cells, H.new, eq_self, Int.reduceEq, Int.reduceLT, Int.reduceLE, Nat.reduceEqDiff, Nat.reduceLeDiff, thenQ, ContK, ty2, ty3, ty4, ty5, ty24, ty30, ty51, Bool.not_true, Bool.not_false, decide_true, decide_false, if_true, if_false, z00, len_assoc, he]
  refine RunCall_of (k1 _) ?_
  simp -implicitDefEqProofs only [sB, Nat.reduceAdd, Nat.reduceSub, yieldL, popK, flat, nptr, Value.cells, H.new, eq_self, Int.reduceEq, Int.reduceLT, Int.reduceLE, Nat.reduceEqDiff, Nat.reduceLeDiff, thenQ, ContK, ty2, ty3, ty4, ty5, ty24, ty30, ty51, Bool.not_true, Bool.not_false, decide_true, decide_false, if_true, if_false, z00, len_assoc, Option.isSome_none]
  refine RunCall_of (tight50 I hv ⟨n2, n16⟩) ?_
  simp -implicitDefEqProofs only [sB, Nat.reduceAdd, Nat.reduceSub, yieldL, popK, flat, nptr, Value.cells, H.new, eq_self, Int.reduceEq, Int.reduceLT, Int.reduceLE, Nat.reduceEqDiff, Nat.reduceLeDiff, thenQ, ContK, ty2, ty3, ty4, ty5, ty24, ty30, ty51, Bool.not_true, Bool.not_false, decide_true, decide_false, if_true, if_false, z00, len_assoc]

/-- a dip by a number -/
def readV (n : Nat) (D : Nat → Int) (by_ : Int) : Int := D 0 + by_.tmod (D (n - 1) - D 0 + 1)
theorem readV_rng {n : Nat} {D L U : Nat → Int} {pr y : Int} (t : TankOk n D L U pr) (hy : 0 ≤ y) : D 0 ≤ readV n D y ∧ readV n D y ≤ D (n - 1) := by
  have := t.mono 0 (n - 1) (by omega) (by have := t.n2; omega)
  have h1 := Int.tmod_nonneg (D (n - 1) - D 0 + 1) hy
  have h2 := Int.tmod_lt_of_pos y (show 0 < D (n - 1) - D 0 + 1 by omega)
  unfold readV
  omega
theorem cv45_2 {a : Int} : aconv Try.prog 45 2 (.int .u16 a) = some (.int .i64 (IntKind.i64.wrap a)) := by
  have e5 : Try.prog.underlying 45 = some (.int .u16) := by kernel_rfl
  unfold aconv convert
  rw [free_bind, free_underlying e5, Option.bind_some, free_bind, free_underlying un2]
  rfl
theorem cv70_2 {a : Int} : aconv Try.prog 70 2 (.int .u32 a) = some (.int .i64 (IntKind.i64.wrap a)) := by
  have e5 : Try.prog.underlying 70 = some (.int .u32) := by kernel_rfl
  unfold aconv convert
  rw [free_bind, free_underlying e5, Option.bind_some, free_bind, free_underlying un2]
  rfl
set_option maxRecDepth 100000 in
theorem read20 (I : Nat → Option Obj) {h : H} {v : Value} {n : Nat} {D L U : Nat → Int} {pr y : Int} (hv : Rows I v n D L U) (t : TankOk n D L U pr) (hy : 0 ≤ y ∧ y ≤ 65535) :
    Snd Try.prog I (.func 20) [.agg #[v, .int .i64 pr], .int .u16 y] h (.int .i64 (readV n D y)) h := by
  have n2 := t.n2
  have n16 := t.n16
  obtain ⟨q, c, rfl, hn, hq⟩ := hv
  obtain ⟨id, off, rfl, hr⟩ := hq (by omega)
  have hw1 : IntKind.i64.wrap ((n : Int) - 1) = ((n - 1 : Nat) : Int) := by rw [wrap_i64 (by omega) (by omega)]; omega
  have h00 : (0 : Int) ≤ 0 ∧ (0 : Int) < (n : Int) := ⟨by omega, by omega⟩
  have h01 : (0 : Int) ≤ ((n - 1 : Nat) : Int) ∧ ((n - 1 : Nat) : Int) < (n : Int) := ⟨by omega, by omega⟩
  have r0 := fun h => row_D (hr h 0 (by omega))
  have r1 := fun h => row_D (hr h (n - 1) (by omega))
  simp only [Nat.zero_mul, Nat.add_zero] at r0
  have d0 := t.dip 0 (by omega)
  have d1 := t.dip (n - 1) (by omega)
  have dm := t.mono 0 (n - 1) (by omega) (by omega)
  have hR := readV_rng t hy.1
  unfold readV at hR
  have w1 : IntKind.i64.wrap y = y := wrap_i64 (by omega) (by omega)
  have w2 : IntKind.i64.wrap (D (n - 1) - D 0) = D (n - 1) - D 0 := wrap_i64 (by omega) (by omega)
  have w3 : IntKind.i64.wrap (D (n - 1) - D 0 + 1) = D (n - 1) - D 0 + 1 := wrap_i64 (by omega) (by omega)
  have w4 : IntKind.i64.wrap (D 0 + y.tmod (D (n - 1) - D 0 + 1)) = D 0 + y.tmod (D (n - 1) - D 0 + 1) := wrap_i64 (by omega) (by omega)
  have bn : ∀ (x z : Operand) (ty : TypeId), abin Try.prog .rem ty x z (.int .i64 y) (.int .i64 (D (n - 1) - D 0 + 1)) = some (.int .i64 (y.tmod (D (n - 1) - D 0 + 1))) := fun x z ty => bin_rem (by omega)
  refine Snd_run0 (rs := [.tmp 4]) 400 Try.func20 (by kernel_rfl) rfl Try.ntmps20 rfl rfl ?_
  simp -implicitDefEqProofs only [sB, Nat.reduceAdd, Nat.reduceSub, yieldL, popK, flat, nptr, Value.cells, H.new, eq_self, Int.reduceEq, Int.reduceLT, Int.reduceLE, Nat.reduceEqDiff, Nat.reduceLeDiff, thenQ, ContK, ty2, ty3, ty22, ty24, ty45, ty64, sD, mixT, isAlloc, ridOf, blockOf, Bool.not_true, Bool.not_false, decide_true, decide_false, if_true, if_false, z00, len_assoc, hw1, h00, h01, r0, r1, Int.toNat_zero, Nat.zero_mul, cv45_2, w1, w2, w3, w4, bn]
  exact ⟨drawOk_ren (fun _ => 0) rfl (by kernel_rfl), ⟨_, rfl⟩, rfl⟩
end Go.Proofs.Ytcocmbccfikmhaa
set_option linter.unusedSimpArgs false
set_option linter.unusedVariables false
namespace Go.Proofs.Ytcocmbccfikmhaa
open Go.Sym
/-- a list of uint32 -/
def SeesW (I : Nat → Option Obj) (h : H) (v : Value) (n : Nat) (y : Nat → Int) : Prop :=
  ∃ p c, v = .slice p n c ∧ n ≤ 9223372036854775807 ∧ (0 < n → ∃ id off, p = some ⟨id, off, none⟩ ∧ ∀ i, i < n → rdl I h id (off + i) 1 = some [.int .u32 (y i)] ∧ 0 ≤ y i ∧ y i ≤ 4294967295)
/-- the chart by numbers: row by row -/
def trueC (n : Nat) (L U : Nat → Int) (m : Nat) (y : Nat → Int) : Nat → Int
  | 0 => max 0 (rmax L 0) + (if m = 0 then 0 else (y (0 % m)).tmod (rmin U n 0 - max 0 (rmax L 0) + 1))
  | i + 1 => max (trueC n L U m y i) (rmax L (i + 1)) + (if m = 0 then 0 else (y ((i + 1) % m)).tmod (rmin U n (i + 1) - max (trueC n L U m y i) (rmax L (i + 1)) + 1))
/-- the number before -/
def lastC (n : Nat) (L U : Nat → Int) (m : Nat) (y : Nat → Int) (i : Nat) : Int := match i with | 0 => 0 | i + 1 => trueC n L U m y i
theorem trueC_eq (n : Nat) (L U : Nat → Int) (m : Nat) (y : Nat → Int) (i : Nat) : trueC n L U m y i = max (lastC n L U m y i) (rmax L i) + (if m = 0 then 0 else (y (i % m)).tmod (rmin U n i - max (lastC n L U m y i) (rmax L i) + 1)) := by
  cases i <;> rfl
theorem rng_tight {n : Nat} {D L U : Nat → Int} {pr : Int} (t : TankOk n D L U pr) (hc : clashP n L U = none) {i : Nat} (hi : i < n) : 0 ≤ rmax L i ∧ rmax L i ≤ rmin U n i ∧ rmin U n i ≤ 100000 := by
  have h1 := (chart_ok (lo_chart t hc)).rng i hi
  obtain ⟨⟨j, h2, h3⟩, h4⟩ := rmax_spec L i
  obtain ⟨⟨k, g1, g2, g3⟩, g4⟩ := rmin_spec U n _ i rfl hi
  have := t.lit j (by omega)
  have := t.lit k g2
  refine ⟨by omega, ?_, by omega⟩
  rw [h3, g3]
  by_cases e : j = k
  · subst e; omega
  · have := clash_none hc j k (by omega) g2; omega
theorem trueC_rng {n m : Nat} {D L U y : Nat → Int} {pr : Int} (t : TankOk n D L U pr) (hc : clashP n L U = none) (hy : ∀ i, i < m → 0 ≤ y i) : ∀ i, i < n →
    0 ≤ lastC n L U m y i ∧ max (lastC n L U m y i) (rmax L i) ≤ rmin U n i ∧ max (lastC n L U m y i) (rmax L i) ≤ trueC n L U m y i ∧ trueC n L U m y i ≤ rmin U n i
  | 0, hi => by
    have h1 := rng_tight t hc hi
    have e0 : lastC n L U m y 0 = 0 := rfl
    rw [trueC_eq, e0]
    refine ⟨Int.le_refl _, by omega, ?_⟩
    by_cases hm : m = 0
    · rw [if_pos hm]; omega
    · rw [if_neg hm]
      have h2 := Int.tmod_nonneg (rmin U n 0 - max 0 (rmax L 0) + 1) (hy (0 % m) (Nat.mod_lt _ (by omega)))
      have h3 := Int.tmod_lt_of_pos (y (0 % m)) (show 0 < rmin U n 0 - max 0 (rmax L 0) + 1 by omega)
      omega
  | i + 1, hi => by
    obtain ⟨h1, h2, h3, h4⟩ := trueC_rng t hc hy i (by omega)
    have h5 := rng_tight t hc hi
    have h6 := rmin_mono U (n := n) (i := i) hi
    have h7 := rng_tight t hc (show i < n by omega)
    have e0 : lastC n L U m y (i + 1) = trueC n L U m y i := rfl
    rw [trueC_eq, e0]
    refine ⟨by omega, by omega, ?_⟩
    by_cases hm : m = 0
    · rw [if_pos hm]; omega
    · rw [if_neg hm]
      have g2 := Int.tmod_nonneg (rmin U n (i + 1) - max (trueC n L U m y i) (rmax L (i + 1)) + 1) (hy ((i + 1) % m) (Nat.mod_lt _ (by omega)))
      have g3 := Int.tmod_lt_of_pos (y ((i + 1) % m)) (show 0 < rmin U n (i + 1) - max (trueC n L U m y i) (rmax L (i + 1)) + 1 by omega)
      omega
theorem trueC_chart {n m : Nat} {D L U y : Nat → Int} {pr : Int} (t : TankOk n D L U pr) (hc : clashP n L U = none) (hy : ∀ i, i < m → 0 ≤ y i) : ChartOk n D L U pr n (fun i => trueC n L U m y i) :=
  ⟨t, rfl, fun i hi => by
    obtain ⟨h1, h2, h3, h4⟩ := trueC_rng t hc hy i hi
    have := (rmax_spec L i).2 i (Nat.le_refl _)
    have := (rmin_spec U n _ i rfl hi).2 i (Nat.le_refl _) hi
    omega, fun i hi => by
    obtain ⟨h1, h2, h3, h4⟩ := trueC_rng t hc hy (i + 1) hi
    have e0 : lastC n L U m y (i + 1) = trueC n L U m y i := rfl
    rw [e0] at h3
    omega⟩

set_option maxRecDepth 100000 in
set_option maxHeartbeats 4000000 in
theorem true19 (I : Nat → Option Obj) {h : H} {v yv : Value} {n m : Nat} {D L U y : Nat → Int} {pr : Int} (hv : Rows I v n D L U) (t : TankOk n D L U pr) (hc : clashP n L U = none) (hy : ∀ h, SeesW I h yv m y) (hm40 : m ≤ 40) :
    Snd Try.prog I (.func 19) [.agg #[v, .int .i64 pr], yv] h (.slice (some ⟨2 * (h.length + (2 + 5 * n)), 0, none⟩) n UNK) (h ++ (List.replicate (2 + 5 * n) .dead ++ [Blk.row (arrL n (fun j => trueC n L U m y j)) 2 1]) : H) := by
  have n2 := t.n2
  have n16 := t.n16
  have k1 := fun h => tight57 I (h := h) (pr := pr) hv t hc
  obtain ⟨q, c, rfl, hn, hq⟩ := hv
  obtain ⟨id, off, rfl, hr⟩ := hq (by omega)
  have hy0 := hy
  obtain ⟨qy, cy, rfl, hmm, _⟩ := hy h
  have hyp : ∀ i, i < m → 0 ≤ y i := fun i hi => by
    obtain ⟨p', c', e', _, hq'⟩ := hy0 h
    obtain ⟨id', off', _, hr'⟩ := hq' (by omega)
    exact (hr' i hi).2.1
  have hix : ∀ B1 B2 B3 : Blk, (B1 :: B2 :: (List.replicate (3 * n) .dead ++ [B3]))[2 + 3 * n]? = some B3 := by
    intro B1 B2 B3
    have e : 2 + 3 * n = 3 * n + 1 + 1 := by omega
    rw [e, List.getElem?_cons_succ, List.getElem?_cons_succ, List.getElem?_append_right (by simp)]
    simp
  refine Snd_runK (rs := [.tmp 4]) 900 Try.func19 (by kernel_rfl) rfl Try.ntmps19 rfl (by simp) ?_ ?_ ?_
  · intro x Bx hg
    by_cases hid : x < h.new
    · right
      have : (h ++ (List.replicate (2 + 5 * n) .dead ++ [Blk.row (arrL n (fun j => trueC n L U m y j)) 2 1]) : H).get x = h.get x := by
        unfold H.get; unfold H.new at hid
        split
        · rw [List.getElem?_append_left (by omega)]
        · rfl
      rw [← this]; exact hg
    · left
      have h1 := H.get_lt hg
      unfold H.new at hid
      obtain ⟨y', rfl⟩ : ∃ y, x = 2 * (h.length + y) := ⟨x / 2 - h.length, by omega⟩
      rw [get_k] at hg
      by_cases hy : y' < 2 + 5 * n
      · rw [List.getElem?_append_left (by simpa using hy), List.getElem?_replicate, if_pos hy] at hg
        cases hg; rfl
      · have hlt := (List.getElem?_eq_some_iff.1 hg).1
        have hy2 : y' = 2 + 5 * n := by simp at hlt; omega
        subst hy2
        rw [List.getElem?_append_right (by simp)] at hg
        simp at hg
        subst hg
        exact closedL_flat _ _ (arrL_flat _ _)
  · simp [closedV, okN]
  simp -implicitDefEqProofs only [sB, Nat.reduceAdd, Nat.reduceSub, yieldL, popK, flat, nptr, Value.cells, H.new, eq_self, Int.reduceEq, Int.reduceLT, Int.reduceLE, Nat.reduceEqDiff, Nat.reduceLeDiff, thenQ, ContK, ty2, ty3, ty4, ty5, ty24, ty25, ty30, ty34, ty44, ty51, ty70, Bool.not_true, Bool.not_false, decide_true, decide_false, if_true, if_false, unk1, z00, len_assoc]
  refine RunCall_of (k1 _) ?_
  have e11 : 1 + (1 + 3 * n) = 2 + 3 * n := by omega
  simp -implicitDefEqProofs only [sB, Nat.reduceAdd, Nat.reduceSub, yieldL, popK, flat, nptr, Value.cells, H.new, eq_self, Int.reduceEq, Int.reduceLT, Int.reduceLE, Nat.reduceEqDiff, Nat.reduceLeDiff, thenQ, ContK, ty2, ty3, ty4, ty5, ty24, ty25, ty30, ty34, ty44, ty51, ty70, Bool.not_true, Bool.not_false, decide_true, decide_false, if_true, if_false, unk1, z00, len_assoc, e11]
  obtain ⟨Ja, hJa⟩ : ∃ J : St → Prop, J = fun s => ∃ (i : Nat) (T : H), s.df = [] ∧ s.h = h ++ T ∧ s.tm.length = 59 ∧ s.tm.getD 1 undef = .slice qy m cy ∧ s.tm.getD 5 undef = .slice (some ⟨2 * (h.length + (2 + 3 * n)), 0, none⟩) n UNK ∧ s.tm.getD 7 undef = slA (2 * (h.length + (2 + 3 * n + 2 * i))) i ∧ s.tm.getD 8 undef = .int .i64 (lastC n L U m y i) ∧ s.tm.getD 9 undef = .int .i64 i ∧ (i ≤ n) ∧ (T.length = 3 + 3 * n + 2 * i) ∧ (T[2 + 3 * n]? = some (.row (rcells (fun j => rmax L j) (fun j => rmin U n j) n) 34 2)) ∧ (i ≠ 0 → T[2 + 3 * n + 2 * i]? = some (.row (arrL i (fun j => trueC n L U m y j)) 2 1)) := ⟨_, rfl⟩
  refine Loop_run (by kernel_rfl) 900 Ja (muI 9 n) (by rw [hJa]; exact ⟨0, (.cells [.slice (some ⟨id, off, none⟩) n c, .int .i64 pr] 24 :: .cells [.slice (some ⟨id, off, none⟩) n c, .int .i64 pr] 24 :: (List.replicate (3 * n) .dead ++ [.row (rcells (fun j => rmax L j) (fun j => rmin U n j) n) 34 2])), rfl, rfl, rfl, rfl, rfl, rfl, rfl, rfl, Nat.zero_le _, by simp; omega, hix _ _ _, fun h => absurd rfl h⟩) ?_
  intro sa hsa
  rw [hJa] at hsa
  obtain ⟨tma, dfa, hha⟩ := sa
  obtain ⟨i, T, ea1, ea2, ea3, la1, la5, la7, la8, la9, hi, hT, hr2, hq1⟩ := hsa
  simp only at ea1 ea2 ea3 la1 la5 la7 la8 la9
  subst dfa; subst hha
  have elita : tma = [tma.getD 0 undef, .slice qy m cy, tma.getD 2 undef, tma.getD 3 undef, tma.getD 4 undef, .slice (some ⟨2 * (h.length + (2 + 3 * n)), 0, none⟩) n UNK, tma.getD 6 undef, slA (2 * (h.length + (2 + 3 * n + 2 * i))) i, .int .i64 (lastC n L U m y i), .int .i64 i, tma.getD 10 undef, tma.getD 11 undef, tma.getD 12 undef, tma.getD 13 undef, tma.getD 14 undef, tma.getD 15 undef, tma.getD 16 undef, tma.getD 17 undef, tma.getD 18 undef, tma.getD 19 undef, tma.getD 20 undef, tma.getD 21 undef, tma.getD 22 undef, tma.getD 23 undef, tma.getD 24 undef, tma.getD 25 undef, tma.getD 26 undef, tma.getD 27 undef, tma.getD 28 undef, tma.getD 29 undef, tma.getD 30 undef, tma.getD 31 undef, tma.getD 32 undef, tma.getD 33 undef, tma.getD 34 undef, tma.getD 35 undef, tma.getD 36 undef, tma.getD 37 undef, tma.getD 38 undef, tma.getD 39 undef, tma.getD 40 undef, tma.getD 41 undef, tma.getD 42 undef, tma.getD 43 undef, tma.getD 44 undef, tma.getD 45 undef, tma.getD 46 undef, tma.getD 47 undef, tma.getD 48 undef, tma.getD 49 undef, tma.getD 50 undef, tma.getD 51 undef, tma.getD 52 undef, tma.getD 53 undef, tma.getD 54 undef, tma.getD 55 undef, tma.getD 56 undef, tma.getD 57 undef, tma.getD 58 undef] := by
    have e0 := lit_eq ea3
    have er : List.range 59 = [0, 1, 2, 3, 4, 5, 6, 7, 8, 9, 10, 11, 12, 13, 14, 15, 16, 17, 18, 19, 20, 21, 22, 23, 24, 25, 26, 27, 28, 29, 30, 31, 32, 33, 34, 35, 36, 37, 38, 39, 40, 41, 42, 43, 44, 45, 46, 47, 48, 49, 50, 51, 52, 53, 54, 55, 56, 57, 58] := by rfl
    rw [er] at e0
    simp only [List.map_cons, List.map_nil, la1, la5, la7, la8, la9] at e0
    exact e0
  rw [elita]
  clear la1
  clear la5
  clear la7
  clear la8
  clear la9
  clear elita ea3
  by_cases hin : i < n
  · have i1 : (i : Int) < (n : Int) := by omega
    have i2 : (0 : Int) ≤ (i : Int) ∧ (i : Int) < (n : Int) := ⟨by omega, i1⟩
    have i4 := wrap_add1 (i := i) (by omega)
    have ri := rd_rcells (A := fun j => rmax L j) (B := fun j => rmin U n j) (e := 34) (sz := 2) (n := n) (j := i) hin
    have r2 : ∀ l : H, (T ++ l)[2 + 3 * n]? = some (.row (rcells (fun j => rmax L j) (fun j => rmin U n j) n) 34 2) := fun l => getElem?_app_lt hr2
    obtain ⟨b1, b2, b3, b4⟩ := trueC_rng t hc hyp i hin
    have b5 := rng_tight t hc hin
    have hqa : i ≠ 0 → 2 + 3 * n + 2 * i < T.length := fun h => by omega
    have hA := app25 (I := I) (h := h) (X := T ++ [.cells [.int .i64 (trueC n L U m y i)] 2]) (q := 2 + 3 * n + 2 * i) (m := i) (p := 3 + 3 * n + 2 * i) (f := fun j => trueC n L U m y j) (fun h => getElem?_app_lt (hq1 h)) (by rw [← hT]; simp) (by omega)
    simp only [killL_app hqa, List.length_append, List.append_assoc, List.cons_append, List.nil_append, List.length_cons, List.length_nil, killL_len, Nat.reduceAdd, hT] at hA
    have eN : 3 + 3 * n + 2 * i + 1 = 2 + 3 * n + 2 * (i + 1) := by omega
    have bs := @bs25_1 (h ++ T) .i64 (trueC n L U m y i)
    have e3 : lastC n L U m y (i + 1) = trueC n L U m y i := rfl
    have hte := trueC_eq n L U m y i
    have hr2' : (killL i T (2 + 3 * n + 2 * i) ++ [Blk.cells [.int .i64 (trueC n L U m y i)] 2, .row (arrL (i + 1) (fun j => trueC n L U m y j)) 2 1] : H)[2 + 3 * n]? = some (.row (rcells (fun j => rmax L j) (fun j => rmin U n j) n) 34 2) := getElem?_app_lt (by
      by_cases hi0 : i = 0
      · rw [hi0]; exact hr2
      · rw [killL_get (by omega)]; exact hr2)
    have hq' : (killL i T (2 + 3 * n + 2 * i) ++ [Blk.cells [.int .i64 (trueC n L U m y i)] 2, .row (arrL (i + 1) (fun j => trueC n L U m y j)) 2 1] : H)[2 + 3 * n + 2 * (i + 1)]? = some (.row (arrL (i + 1) (fun j => trueC n L U m y j)) 2 1) := by
      rw [show 2 + 3 * n + 2 * (i + 1) = T.length + 1 by omega, List.getElem?_append_right (by rw [killL_len]; omega), killL_len]
      simp
    by_cases hm : m = 0
    · have m1 : ¬ (0 : Int) < (m : Int) := by omega
      rw [if_pos hm, Int.add_zero] at hte
      simp -implicitDefEqProofs only [sB, Nat.reduceAdd, Nat.reduceSub, yieldL, popK, flat, nptr, Value.cells, H.new, eq_self, Int.reduceEq, Int.reduceLT, Int.reduceLE, Nat.reduceEqDiff, Nat.reduceLeDiff, thenQ, ContK, ty2, ty3, ty4, ty5, ty24, ty25, ty30, ty34, ty44, ty51, ty70, sD, mixT, isAlloc, ridOf, blockOf, Bool.not_true, Bool.not_false, decide_true, decide_false, if_true, if_false, unk1, z00, len_assoc, i1, i2, i4, hr2, ri.1, ri.2, bs25_1, m1, hT, ← hte, hA, eN]
      refine ⟨by rw [hJa]; exact ⟨i + 1, _, rfl, rfl, rfl, rfl, rfl, rfl, rfl, rfl, by omega, by simp [killL_len, hT]; omega, hr2', fun _ => hq'⟩, ?_⟩
      show n - ((i + 1 : Nat) : Int).toNat < n - (i : Int).toNat
      omega
    · have m1 : (0 : Int) < (m : Int) := by omega
      rw [if_neg hm] at hte
      obtain ⟨idy, offy, rfl, _⟩ : ∃ idy offy, qy = some ⟨idy, offy, none⟩ ∧ True := by
        obtain ⟨p', c', e', _, hq'⟩ := hy0 h
        obtain ⟨id', off', e2, _⟩ := hq' (by omega)
        cases e'
        exact ⟨id', off', e2, trivial⟩
      have hmod : i % m < m := Nat.mod_lt _ (by omega)
      have hry : ∀ hh : H, rdl I hh idy (offy + i % m) 1 = some [.int .u32 (y (i % m))] := by
        intro hh
        obtain ⟨p', c', e', _, hq'⟩ := hy0 hh
        obtain ⟨id', off', e2, hr'⟩ := hq' (by omega)
        cases e'
        cases e2
        exact (hr' _ hmod).1
      have hyr : 0 ≤ y (i % m) ∧ y (i % m) ≤ 4294967295 := by
        obtain ⟨p', c', e', _, hq'⟩ := hy0 h
        obtain ⟨id', off', e2, hr'⟩ := hq' (by omega)
        exact (hr' _ hmod).2
      have m2 : (0 : Int) ≤ ((i % m : Nat) : Int) ∧ ((i % m : Nat) : Int) < (m : Int) := ⟨by omega, by omega⟩
      have w0 : IntKind.i64.wrap (y (i % m)) = y (i % m) := wrap_i64 (by omega) (by omega)
      have w1 : IntKind.i64.wrap (rmin U n i - max (lastC n L U m y i) (rmax L i)) = rmin U n i - max (lastC n L U m y i) (rmax L i) := wrap_i64 (by omega) (by omega)
      have w2 : IntKind.i64.wrap (rmin U n i - max (lastC n L U m y i) (rmax L i) + 1) = rmin U n i - max (lastC n L U m y i) (rmax L i) + 1 := wrap_i64 (by omega) (by omega)
      have w3 : IntKind.i64.wrap (max (lastC n L U m y i) (rmax L i) + (y (i % m)).tmod (rmin U n i - max (lastC n L U m y i) (rmax L i) + 1)) = trueC n L U m y i := by rw [← hte]; exact wrap_i64 (by omega) (by omega)
      have bn1 : ∀ (x z : Operand) (ty : TypeId), abin Try.prog .rem ty x z (.int .i64 i) (.int .i64 m) = some (.int .i64 ((i % m : Nat) : Int)) := fun x z ty => bin_rem (by omega)
      have bn2 : ∀ (x z : Operand) (ty : TypeId), abin Try.prog .rem ty x z (.int .i64 (y (i % m))) (.int .i64 (rmin U n i - max (lastC n L U m y i) (rmax L i) + 1)) = some (.int .i64 ((y (i % m)).tmod (rmin U n i - max (lastC n L U m y i) (rmax L i) + 1))) := fun x z ty => bin_rem (by omega)
      simp -implicitDefEqProofs only [sB, Nat.reduceAdd, Nat.reduceSub, yieldL, popK, flat, nptr, Value.cells, H.new, eq_self, Int.reduceEq, Int.reduceLT, Int.reduceLE, Nat.reduceEqDiff, Nat.reduceLeDiff, thenQ, ContK, ty2, ty3, ty4, ty5, ty24, ty25, ty30, ty34, ty44, ty51, ty70, sD, mixT, isAlloc, ridOf, blockOf, Bool.not_true, Bool.not_false, decide_true, decide_false, if_true, if_false, unk1, z00, len_assoc, i1, i2, i4, hr2, ri.1, ri.2, bs25_1, m1, m2, hT, hA, eN, hry, cv70_2, w0, w1, w2, w3, bn1, bn2]
      refine ⟨drawOk_ren (fun _ => 0) rfl (by kernel_rfl), by rw [hJa]; exact ⟨i + 1, _, rfl, rfl, rfl, rfl, rfl, rfl, rfl, rfl, by omega, by simp [killL_len, hT]; omega, hr2', fun _ => hq'⟩, ?_⟩
      show n - ((i + 1 : Nat) : Int).toNat < n - (i : Int).toNat
      omega
  · have i1 : ¬ (i : Int) < (n : Int) := by omega
    have hin' : i = n := by omega
    subst hin'
    have hq2 := hq1 (by omega)
    have eN : 2 + 3 * i + 2 * i = 2 + 5 * i := by omega
    rw [eN] at hq2
    simp -implicitDefEqProofs only [sB, Nat.reduceAdd, Nat.reduceSub, yieldL, popK, flat, nptr, Value.cells, H.new, eq_self, Int.reduceEq, Int.reduceLT, Int.reduceLE, Nat.reduceEqDiff, Nat.reduceLeDiff, thenQ, ContK, ty2, ty3, ty4, ty5, ty24, ty25, ty30, ty34, ty44, ty51, ty70, Bool.not_true, Bool.not_false, decide_true, decide_false, if_true, if_false, unk1, z00, len_assoc, i1, eN, finK_ret]
    refine ⟨⟨_, [], (List.append_nil _).symm, by simp [hT]; omega, fun x => ?_⟩, by rw [slA_pos (by omega)]⟩
    by_cases hx1 : x < h.length
    · left; rw [List.getElem?_append_left hx1, List.getElem?_append_left hx1]
    · obtain ⟨y', rfl⟩ : ∃ y, x = h.length + y := ⟨x - h.length, by omega⟩
      rw [getElem?_app_k, getElem?_app_k]
      by_cases hy : y' < 2 + 5 * i
      · right; rw [List.getElem?_append_left (by simpa using hy), List.getElem?_replicate, if_pos hy]
      · left
        by_cases hy2 : y' = 2 + 5 * i
        · subst hy2
          rw [hq2, List.getElem?_append_right (by simp)]
          simp
        · rw [List.getElem?_eq_none (by simp; omega), List.getElem?_eq_none (by omega)]
end Go.Proofs.Ytcocmbccfikmhaa
