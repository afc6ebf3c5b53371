/- Contracts: valid, CheckTank of the reference (own texts put together: C10 C11 C12) -/
import Derived.Test.YtcocmbccfikmhaaM10
import Derived.Test.YtcocmbccfikmhaaM4
set_option linter.unusedSimpArgs false
set_option linter.unusedVariables false
namespace Go.Proofs.Ytcocmbccfikmhaa
open Go.Sym

set_option maxRecDepth 100000 in
set_option maxHeartbeats 4000000 in
theorem valid56 (I : Nat → Option Obj) {h : H} {a b lo hi : Int} :
    Snd Try.prog I (.func 56) [.agg #[.int .i64 a, .int .i64 b], .int .i64 lo, .int .i64 hi] h (.bool (rangeB a b lo hi)) h := by
  refine Snd_run0 (rs := [.tmp 6]) 400 Try.func56 (by kernel_rfl) rfl Try.ntmps56 rfl rfl ?_
  by_cases h1 : lo ≤ a
  · by_cases h2 : a ≤ b
    · simp -implicitDefEqProofs only [sB, Nat.reduceAdd, Nat.reduceSub, yieldL, popK, flat, nptr, Value.cells, H.new, eq_self, Int.reduceEq, Int.reduceLT, Int.reduceLE, Nat.reduceEqDiff, Nat.reduceLeDiff, thenQ, ContK, ty2, ty4, ty34, Bool.not_true, Bool.not_false, decide_true, decide_false, if_true, if_false, h1, h2]
      refine ⟨⟨_, rfl⟩, ?_⟩
      have : rangeB a b lo hi = decide (b ≤ hi) := by
        rw [Bool.eq_iff_iff, rangeB_iff]; simp [h1, h2]
      rw [this]
    · simp -implicitDefEqProofs only [sB, Nat.reduceAdd, Nat.reduceSub, yieldL, popK, flat, nptr, Value.cells, H.new, eq_self, Int.reduceEq, Int.reduceLT, Int.reduceLE, Nat.reduceEqDiff, Nat.reduceLeDiff, thenQ, ContK, ty2, ty4, ty34, Bool.not_true, Bool.not_false, decide_true, decide_false, if_true, if_false, h1, h2]
      have : rangeB a b lo hi = false := by
        rw [← Bool.not_eq_true, rangeB_iff]; omega
      rw [this]
      exact ⟨⟨_, rfl⟩, rfl⟩
  · simp -implicitDefEqProofs only [sB, Nat.reduceAdd, Nat.reduceSub, yieldL, popK, flat, nptr, Value.cells, H.new, eq_self, Int.reduceEq, Int.reduceLT, Int.reduceLE, Nat.reduceEqDiff, Nat.reduceLeDiff, thenQ, ContK, ty2, ty4, ty34, Bool.not_true, Bool.not_false, decide_true, decide_false, if_true, if_false, h1]
    have : rangeB a b lo hi = false := by
      rw [← Bool.not_eq_true, rangeB_iff]; omega
    rw [this]
    exact ⟨⟨_, rfl⟩, rfl⟩
theorem dip_nonneg {D : Nat → Int} {k : Nat} (h : ∀ i, i < k → dipOk D i = true) (hk : 0 < k) : 0 ≤ D (k - 1) := by
  have key : ∀ i, i < k → 0 ≤ D i := by
    intro i
    induction i with
    | zero =>
      intro hi
      have h1 := h 0 hi
      unfold dipOk at h1
      rw [Bool.and_eq_true, decide_eq_true_iff, decide_eq_true_iff] at h1
      have h2 : (-1 : Int) < D 0 := h1.1
      omega
    | succ j ih =>
      intro hi
      have h1 := ih (by omega)
      have h2 := h (j + 1) hi
      unfold dipOk at h2
      rw [Bool.and_eq_true, decide_eq_true_iff, decide_eq_true_iff] at h2
      have h3 : D j < D (j + 1) := h2.1
      omega
  exact key _ (by omega)
theorem dipOk_iff {D : Nat → Int} {k : Nat} (h : ∀ i, i < k → dipOk D i = true) : dipOk D k = true ↔ ¬ D k < 0 ∧ ¬ 4000 < D k ∧ ¬ (0 < k ∧ D k ≤ D (k - 1)) := by
  unfold dipOk
  rw [Bool.and_eq_true, decide_eq_true_iff, decide_eq_true_iff]
  cases k with
  | zero => simp only [prevD]; omega
  | succ j =>
    have := dip_nonneg h (by omega)
    simp only [prevD]
    have e : j + 1 - 1 = j := by omega
    rw [e] at this ⊢
    omega

set_option maxRecDepth 100000 in
set_option maxHeartbeats 4000000 in
theorem checkTank30 (I : Nat → Option Obj) {h : H} {v : Value} {n : Nat} {D L U : Nat → Int} {pr : Int} (hv : Rows I v n D L U) :
    Snd Try.prog I (.func 30) [.agg #[v, .int .i64 pr]] h (.int .i64 (tankE n D L U pr)) h := by
  obtain ⟨q, c, rfl, hn, hq⟩ := hv
  refine Snd_run0 (rs := [.tmp 2]) 600 Try.func30 (by kernel_rfl) rfl Try.ntmps30 rfl rfl ?_
  by_cases hm1 : n < 2
  · have h1 : (n : Int) < 2 := by omega
    simp -implicitDefEqProofs only [sB, Nat.reduceAdd, Nat.reduceSub, yieldL, popK, flat, nptr, Value.cells, H.new, eq_self, Int.reduceEq, Int.reduceLT, Int.reduceLE, Nat.reduceEqDiff, Nat.reduceLeDiff, thenQ, ContK, ty2, ty3, ty4, ty5, ty22, ty24, ty30, ty34, ty64, Bool.not_true, Bool.not_false, decide_true, decide_false, if_true, if_false, h1]
    exact ⟨⟨_, rfl⟩, by rw [tankE_many (.inl hm1)]⟩
  by_cases hm2 : 16 < n
  · have h1 : ¬ (n : Int) < 2 := by omega
    have h2 : (16 : Int) < (n : Int) := by omega
    simp -implicitDefEqProofs only [sB, Nat.reduceAdd, Nat.reduceSub, yieldL, popK, flat, nptr, Value.cells, H.new, eq_self, Int.reduceEq, Int.reduceLT, Int.reduceLE, Nat.reduceEqDiff, Nat.reduceLeDiff, thenQ, ContK, ty2, ty3, ty4, ty5, ty22, ty24, ty30, ty34, ty64, Bool.not_true, Bool.not_false, decide_true, decide_false, if_true, if_false, h1, h2]
    exact ⟨⟨_, rfl⟩, by rw [tankE_many (.inr hm2)]⟩
  have h1 : ¬ (n : Int) < 2 := by omega
  have h2 : ¬ (16 : Int) < (n : Int) := by omega
  have hm : ¬ (n < 2 ∨ 16 < n) := by omega
  obtain ⟨id, off, rfl, hr⟩ := hq (by omega)
  simp -implicitDefEqProofs only [sB, Nat.reduceAdd, Nat.reduceSub, yieldL, popK, flat, nptr, Value.cells, H.new, eq_self, Int.reduceEq, Int.reduceLT, Int.reduceLE, Nat.reduceEqDiff, Nat.reduceLeDiff, thenQ, ContK, ty2, ty3, ty4, ty5, ty22, ty24, ty30, ty34, ty64, Bool.not_true, Bool.not_false, decide_true, decide_false, if_true, if_false, h1, h2]
  clear h1 h2
  obtain ⟨Ja, hJa⟩ : ∃ J : St → Prop, J = fun s => ∃ (k : Nat), s.df = [] ∧ s.h = h ++ [.cells [.slice (some ⟨id, off, none⟩) n c, .int .i64 pr] 24] ∧ s.tm.length = 81 ∧ s.tm.getD 1 undef = .pointer (some ⟨2 * h.length, 0, none⟩) ∧ s.tm.getD 2 undef = .int .i64 0 ∧ s.tm.getD 3 undef = .int .i64 k ∧ (k ≤ n) ∧ (∀ i, i < k → dipOk D i = true) := ⟨_, rfl⟩
  refine Loop_run (by kernel_rfl) 600 Ja (fun s => match s.tm.getD 3 undef with | .int _ i => n - i.toNat | _ => 0) (by rw [hJa]; exact ⟨0, rfl, rfl, rfl, rfl, rfl, rfl, Nat.zero_le _, fun i hi => absurd hi (Nat.not_lt_zero i)⟩) ?_
  intro sa hsa
  rw [hJa] at hsa
  obtain ⟨tma, dfa, hha⟩ := sa
  obtain ⟨k, ea1, ea2, ea3, la1, la2, la3, hk, hp⟩ := hsa
  simp only at ea1 ea2 ea3 la1 la2 la3
  subst dfa; subst hha
  have elita : tma = [tma.getD 0 undef, .pointer (some ⟨2 * h.length, 0, none⟩), .int .i64 0, .int .i64 k, tma.getD 4 undef, tma.getD 5 undef, tma.getD 6 undef, tma.getD 7 undef, tma.getD 8 undef, tma.getD 9 undef, tma.getD 10 undef, tma.getD 11 undef, tma.getD 12 undef, tma.getD 13 undef, tma.getD 14 undef, tma.getD 15 undef, tma.getD 16 undef, tma.getD 17 undef, tma.getD 18 undef, tma.getD 19 undef, tma.getD 20 undef, tma.getD 21 undef, tma.getD 22 undef, tma.getD 23 undef, tma.getD 24 undef, tma.getD 25 undef, tma.getD 26 undef, tma.getD 27 undef, tma.getD 28 undef, tma.getD 29 undef, tma.getD 30 undef, tma.getD 31 undef, tma.getD 32 undef, tma.getD 33 undef, tma.getD 34 undef, tma.getD 35 undef, tma.getD 36 undef, tma.getD 37 undef, tma.getD 38 undef, tma.getD 39 undef, tma.getD 40 undef, tma.getD 41 undef, tma.getD 42 undef, tma.getD 43 undef, tma.getD 44 undef, tma.getD 45 undef, tma.getD 46 undef, tma.getD 47 undef, tma.getD 48 undef, tma.getD 49 undef, tma.getD 50 undef, tma.getD 51 undef, tma.getD 52 undef, tma.getD 53 undef, tma.getD 54 undef, tma.getD 55 undef, tma.getD 56 undef, tma.getD 57 undef, tma.getD 58 undef, tma.getD 59 undef, tma.getD 60 undef, tma.getD 61 undef, tma.getD 62 undef, tma.getD 63 undef, tma.getD 64 undef, tma.getD 65 undef, tma.getD 66 undef, tma.getD 67 undef, tma.getD 68 undef, tma.getD 69 undef, tma.getD 70 undef, tma.getD 71 undef, tma.getD 72 undef, tma.getD 73 undef, tma.getD 74 undef, tma.getD 75 undef, tma.getD 76 undef, tma.getD 77 undef, tma.getD 78 undef, tma.getD 79 undef, tma.getD 80 undef] := by
    have e0 := lit_eq ea3
    have er : List.range 81 = [0, 1, 2, 3, 4, 5, 6, 7, 8, 9, 10, 11, 12, 13, 14, 15, 16, 17, 18, 19, 20, 21, 22, 23, 24, 25, 26, 27, 28, 29, 30, 31, 32, 33, 34, 35, 36, 37, 38, 39, 40, 41, 42, 43, 44, 45, 46, 47, 48, 49, 50, 51, 52, 53, 54, 55, 56, 57, 58, 59, 60, 61, 62, 63, 64, 65, 66, 67, 68, 69, 70, 71, 72, 73, 74, 75, 76, 77, 78, 79, 80] := by rfl
    rw [er] at e0
    simp only [List.map_cons, List.map_nil, la1, la2, la3] at e0
    exact e0
  rw [elita]
  clear la1
  clear la2
  clear la3
  clear elita ea3
  by_cases hkn : k < n
  · have h1 : (k : Int) < (n : Int) := by omega
    have h2 : (0 : Int) ≤ (k : Int) ∧ (k : Int) < (n : Int) := ⟨by omega, h1⟩
    have h3 := fun h => hr h k hkn
    have h4 := wrap_add1 (i := k) (by omega)
    have hiff := dipOk_iff hp
    by_cases c1 : D k < 0
    · simp -implicitDefEqProofs only [sB, Nat.reduceAdd, Nat.reduceSub, yieldL, popK, flat, nptr, Value.cells, H.new, eq_self, Int.reduceEq, Int.reduceLT, Int.reduceLE, Nat.reduceEqDiff, Nat.reduceLeDiff, thenQ, ContK, ty2, ty3, ty4, ty5, ty22, ty24, ty30, ty34, ty64, sD, mixT, isAlloc, ridOf, blockOf, Bool.not_true, Bool.not_false, decide_true, decide_false, if_true, if_false, c1, h1, h2, h4, row_D (h3 _)]
      exact ⟨drawOk_ren (fun _ => 0) rfl (by kernel_rfl), ⟨_, rfl⟩, by rw [tankE_dip hm hkn (by rw [← Bool.not_eq_true, hiff]; omega)]⟩
    by_cases c2 : 4000 < D k
    · simp -implicitDefEqProofs only [sB, Nat.reduceAdd, Nat.reduceSub, yieldL, popK, flat, nptr, Value.cells, H.new, eq_self, Int.reduceEq, Int.reduceLT, Int.reduceLE, Nat.reduceEqDiff, Nat.reduceLeDiff, thenQ, ContK, ty2, ty3, ty4, ty5, ty22, ty24, ty30, ty34, ty64, sD, mixT, isAlloc, ridOf, blockOf, Bool.not_true, Bool.not_false, decide_true, decide_false, if_true, if_false, c1, c2, h1, h2, h4, row_D (h3 _)]
      exact ⟨drawOk_ren (fun _ => 0) rfl (by kernel_rfl), ⟨_, rfl⟩, by rw [tankE_dip hm hkn (by rw [← Bool.not_eq_true, hiff]; omega)]⟩
    by_cases c3 : 0 < k
    · have c3' : (0 : Int) < (k : Int) := by omega
      have hk' : IntKind.i64.wrap ((k : Int) - 1) = ((k - 1 : Nat) : Int) := by rw [wrap_i64 (by omega) (by omega)]; omega
      have h2' : (0 : Int) ≤ ((k - 1 : Nat) : Int) ∧ ((k - 1 : Nat) : Int) < (n : Int) := ⟨by omega, by omega⟩
      have h3' := fun h => hr h (k - 1) (by omega)
      by_cases c4 : D k ≤ D (k - 1)
      · simp -implicitDefEqProofs only [sB, Nat.reduceAdd, Nat.reduceSub, yieldL, popK, flat, nptr, Value.cells, H.new, eq_self, Int.reduceEq, Int.reduceLT, Int.reduceLE, Nat.reduceEqDiff, Nat.reduceLeDiff, thenQ, ContK, ty2, ty3, ty4, ty5, ty22, ty24, ty30, ty34, ty64, sD, mixT, isAlloc, ridOf, blockOf, Bool.not_true, Bool.not_false, decide_true, decide_false, if_true, if_false, c1, c2, c3', c4, hk', h2', row_D (h3' _), h1, h2, h4, row_D (h3 _)]
        exact ⟨drawOk_ren (fun _ => 0) rfl (by kernel_rfl), ⟨_, rfl⟩, by rw [tankE_dip hm hkn (by rw [← Bool.not_eq_true, hiff]; omega)]⟩
      · simp -implicitDefEqProofs only [sB, Nat.reduceAdd, Nat.reduceSub, yieldL, popK, flat, nptr, Value.cells, H.new, eq_self, Int.reduceEq, Int.reduceLT, Int.reduceLE, Nat.reduceEqDiff, Nat.reduceLeDiff, thenQ, ContK, ty2, ty3, ty4, ty5, ty22, ty24, ty30, ty34, ty64, sD, mixT, isAlloc, ridOf, blockOf, Bool.not_true, Bool.not_false, decide_true, decide_false, if_true, if_false, c1, c2, c3', c4, hk', h2', row_D (h3' _), h1, h2, h4, row_D (h3 _)]
        refine ⟨drawOk_ren (fun _ => 0) rfl (by kernel_rfl), by rw [hJa]; exact ⟨k + 1, rfl, rfl, rfl, rfl, rfl, rfl, by omega, fun i hi => by rcases Nat.lt_succ_iff_lt_or_eq.1 hi with h | rfl; exact hp i h; exact hiff.2 ⟨c1, c2, by omega⟩⟩, ?_⟩
        show n - ((k + 1 : Nat) : Int).toNat < n - (k : Int).toNat
        omega
    · have c3' : ¬ (0 : Int) < (k : Int) := by omega
      simp -implicitDefEqProofs only [sB, Nat.reduceAdd, Nat.reduceSub, yieldL, popK, flat, nptr, Value.cells, H.new, eq_self, Int.reduceEq, Int.reduceLT, Int.reduceLE, Nat.reduceEqDiff, Nat.reduceLeDiff, thenQ, ContK, ty2, ty3, ty4, ty5, ty22, ty24, ty30, ty34, ty64, sD, mixT, isAlloc, ridOf, blockOf, Bool.not_true, Bool.not_false, decide_true, decide_false, if_true, if_false, c1, c2, c3', h1, h2, h4, row_D (h3 _)]
      refine ⟨drawOk_ren (fun _ => 0) rfl (by kernel_rfl), by rw [hJa]; exact ⟨k + 1, rfl, rfl, rfl, rfl, rfl, rfl, by omega, fun i hi => by rcases Nat.lt_succ_iff_lt_or_eq.1 hi with h | rfl; exact hp i h; exact hiff.2 ⟨c1, c2, by omega⟩⟩, ?_⟩
      show n - ((k + 1 : Nat) : Int).toNat < n - (k : Int).toNat
      omega
  have h1 : ¬ (k : Int) < (n : Int) := by omega
  have hkn' : k = n := by omega
  subst hkn'
  rw [tankE_arg hm hp]
  simp -implicitDefEqProofs only [sB, Nat.reduceAdd, Nat.reduceSub, yieldL, popK, flat, nptr, Value.cells, H.new, eq_self, Int.reduceEq, Int.reduceLT, Int.reduceLE, Nat.reduceEqDiff, Nat.reduceLeDiff, thenQ, ContK, ty2, ty3, ty4, ty5, ty22, ty24, ty30, ty34, ty64, Bool.not_true, Bool.not_false, decide_true, decide_false, if_true, if_false, h1]
  clear h1
  obtain ⟨Jb, hJb⟩ : ∃ J : St → Prop, J = fun s => ∃ (j : Nat), s.df = [] ∧ s.h = h ++ [.cells [.slice (some ⟨id, off, none⟩) k c, .int .i64 pr] 24] ∧ s.tm.length = 81 ∧ s.tm.getD 1 undef = .pointer (some ⟨2 * h.length, 0, none⟩) ∧ s.tm.getD 2 undef = .int .i64 0 ∧ s.tm.getD 4 undef = .int .i64 j ∧ (j ≤ k) ∧ (∀ i, i < j → rangeB (L i) (U i) 0 100000 = true) := ⟨_, rfl⟩
  refine Loop_run (by kernel_rfl) 600 Jb (fun s => match s.tm.getD 4 undef with | .int _ i => k - i.toNat | _ => 0) (by rw [hJb]; exact ⟨0, rfl, rfl, rfl, rfl, rfl, rfl, Nat.zero_le _, fun i hi => absurd hi (Nat.not_lt_zero i)⟩) ?_
  intro sb hsb
  rw [hJb] at hsb
  obtain ⟨tmb, dfb, hhb⟩ := sb
  obtain ⟨j, eb1, eb2, eb3, lb1, lb2, lb4, hj, hp2⟩ := hsb
  simp only at eb1 eb2 eb3 lb1 lb2 lb4
  subst dfb; subst hhb
  have elitb : tmb = [tmb.getD 0 undef, .pointer (some ⟨2 * h.length, 0, none⟩), .int .i64 0, tmb.getD 3 undef, .int .i64 j, tmb.getD 5 undef, tmb.getD 6 undef, tmb.getD 7 undef, tmb.getD 8 undef, tmb.getD 9 undef, tmb.getD 10 undef, tmb.getD 11 undef, tmb.getD 12 undef, tmb.getD 13 undef, tmb.getD 14 undef, tmb.getD 15 undef, tmb.getD 16 undef, tmb.getD 17 undef, tmb.getD 18 undef, tmb.getD 19 undef, tmb.getD 20 undef, tmb.getD 21 undef, tmb.getD 22 undef, tmb.getD 23 undef, tmb.getD 24 undef, tmb.getD 25 undef, tmb.getD 26 undef, tmb.getD 27 undef, tmb.getD 28 undef, tmb.getD 29 undef, tmb.getD 30 undef, tmb.getD 31 undef, tmb.getD 32 undef, tmb.getD 33 undef, tmb.getD 34 undef, tmb.getD 35 undef, tmb.getD 36 undef, tmb.getD 37 undef, tmb.getD 38 undef, tmb.getD 39 undef, tmb.getD 40 undef, tmb.getD 41 undef, tmb.getD 42 undef, tmb.getD 43 undef, tmb.getD 44 undef, tmb.getD 45 undef, tmb.getD 46 undef, tmb.getD 47 undef, tmb.getD 48 undef, tmb.getD 49 undef, tmb.getD 50 undef, tmb.getD 51 undef, tmb.getD 52 undef, tmb.getD 53 undef, tmb.getD 54 undef, tmb.getD 55 undef, tmb.getD 56 undef, tmb.getD 57 undef, tmb.getD 58 undef, tmb.getD 59 undef, tmb.getD 60 undef, tmb.getD 61 undef, tmb.getD 62 undef, tmb.getD 63 undef, tmb.getD 64 undef, tmb.getD 65 undef, tmb.getD 66 undef, tmb.getD 67 undef, tmb.getD 68 undef, tmb.getD 69 undef, tmb.getD 70 undef, tmb.getD 71 undef, tmb.getD 72 undef, tmb.getD 73 undef, tmb.getD 74 undef, tmb.getD 75 undef, tmb.getD 76 undef, tmb.getD 77 undef, tmb.getD 78 undef, tmb.getD 79 undef, tmb.getD 80 undef] := by
    have e0 := lit_eq eb3
    have er : List.range 81 = [0, 1, 2, 3, 4, 5, 6, 7, 8, 9, 10, 11, 12, 13, 14, 15, 16, 17, 18, 19, 20, 21, 22, 23, 24, 25, 26, 27, 28, 29, 30, 31, 32, 33, 34, 35, 36, 37, 38, 39, 40, 41, 42, 43, 44, 45, 46, 47, 48, 49, 50, 51, 52, 53, 54, 55, 56, 57, 58, 59, 60, 61, 62, 63, 64, 65, 66, 67, 68, 69, 70, 71, 72, 73, 74, 75, 76, 77, 78, 79, 80] := by rfl
    rw [er] at e0
    simp only [List.map_cons, List.map_nil, lb1, lb2, lb4] at e0
    exact e0
  rw [elitb]
  clear lb1
  clear lb2
  clear lb4
  clear elitb eb3
  by_cases hjn : j < k
  · have h1 : (j : Int) < (k : Int) := by omega
    have h2 : (0 : Int) ≤ (j : Int) ∧ (j : Int) < (k : Int) := ⟨by omega, h1⟩
    have h3 := fun h => hr h j hjn
    have h4 := wrap_add1 (i := j) (by omega)
    simp -implicitDefEqProofs only [sB, Nat.reduceAdd, Nat.reduceSub, yieldL, popK, flat, nptr, Value.cells, H.new, eq_self, Int.reduceEq, Int.reduceLT, Int.reduceLE, Nat.reduceEqDiff, Nat.reduceLeDiff, thenQ, ContK, ty2, ty3, ty4, ty5, ty22, ty24, ty30, ty34, ty64, Bool.not_true, Bool.not_false, decide_true, decide_false, if_true, if_false, row_R (h3 _), h1, h2]
    refine RunCall_of (valid56 I) ?_
    by_cases hw : rangeB (L j) (U j) 0 100000 = true
    · simp -implicitDefEqProofs only [sB, Nat.reduceAdd, Nat.reduceSub, yieldL, popK, flat, nptr, Value.cells, H.new, eq_self, Int.reduceEq, Int.reduceLT, Int.reduceLE, Nat.reduceEqDiff, Nat.reduceLeDiff, thenQ, ContK, ty2, ty3, ty4, ty5, ty22, ty24, ty30, ty34, ty64, Bool.not_true, Bool.not_false, decide_true, decide_false, if_true, if_false, hw, h4]
      refine ⟨by rw [hJb]; exact ⟨j + 1, rfl, rfl, rfl, rfl, rfl, rfl, by omega, fun i hi => by rcases Nat.lt_succ_iff_lt_or_eq.1 hi with h | rfl; exact hp2 i h; exact hw⟩, ?_⟩
      show k - ((j + 1 : Nat) : Int).toNat < k - (j : Int).toNat
      omega
    · have ha : anyN (fun i => !rangeB (L i) (U i) 0 100000) k = true := anyN_iff.2 ⟨j, hjn, by simpa using hw⟩
      simp only [Bool.not_eq_true] at hw
      rw [ha, Bool.or_true, if_pos rfl]
      simp -implicitDefEqProofs only [sB, Nat.reduceAdd, Nat.reduceSub, yieldL, popK, flat, nptr, Value.cells, H.new, eq_self, Int.reduceEq, Int.reduceLT, Int.reduceLE, Nat.reduceEqDiff, Nat.reduceLeDiff, thenQ, ContK, ty2, ty3, ty4, ty5, ty22, ty24, ty30, ty34, ty64, Bool.not_true, Bool.not_false, decide_true, decide_false, if_true, if_false, hw, h4]
      first | exact ⟨⟨_, rfl⟩, rfl⟩ | exact ⟨_, rfl⟩
  have h1 : ¬ (j : Int) < (k : Int) := by omega
  have hjn' : j = k := by omega
  subst hjn'
  have ha : anyN (fun i => !rangeB (L i) (U i) 0 100000) j = false := by
    rw [← Bool.not_eq_true, anyN_iff]; rintro ⟨i, hi, hb⟩; rw [hp2 i hi] at hb; cases hb
  rw [ha, Bool.or_false, within_one]
  by_cases c1 : pr < 0
  · simp -implicitDefEqProofs only [sB, Nat.reduceAdd, Nat.reduceSub, yieldL, popK, flat, nptr, Value.cells, H.new, eq_self, Int.reduceEq, Int.reduceLT, Int.reduceLE, Nat.reduceEqDiff, Nat.reduceLeDiff, thenQ, ContK, ty2, ty3, ty4, ty5, ty22, ty24, ty30, ty34, ty64, Bool.not_true, Bool.not_false, decide_true, decide_false, if_true, if_false, h1, c1]
    exact ⟨⟨_, rfl⟩, by rw [if_pos (by simp; omega)]⟩
  by_cases c2 : 50 < pr
  · simp -implicitDefEqProofs only [sB, Nat.reduceAdd, Nat.reduceSub, yieldL, popK, flat, nptr, Value.cells, H.new, eq_self, Int.reduceEq, Int.reduceLT, Int.reduceLE, Nat.reduceEqDiff, Nat.reduceLeDiff, thenQ, ContK, ty2, ty3, ty4, ty5, ty22, ty24, ty30, ty34, ty64, Bool.not_true, Bool.not_false, decide_true, decide_false, if_true, if_false, h1, c1, c2]
    exact ⟨⟨_, rfl⟩, by rw [if_pos (by simp; omega)]⟩
  simp -implicitDefEqProofs only [sB, Nat.reduceAdd, Nat.reduceSub, yieldL, popK, flat, nptr, Value.cells, H.new, eq_self, Int.reduceEq, Int.reduceLT, Int.reduceLE, Nat.reduceEqDiff, Nat.reduceLeDiff, thenQ, ContK, ty2, ty3, ty4, ty5, ty22, ty24, ty30, ty34, ty64, Bool.not_true, Bool.not_false, decide_true, decide_false, if_true, if_false, h1, c1, c2]
  exact ⟨⟨_, rfl⟩, by rw [if_neg (by simp; omega)]⟩
end Go.Proofs.Ytcocmbccfikmhaa
set_option linter.unusedSimpArgs false
set_option linter.unusedVariables false
namespace Go.Proofs.Ytcocmbccfikmhaa
open Go.Sym

theorem numOk_iff {n : Nat} {D L U x : Nat → Int} {pr : Int} (t : TankOk n D L U pr) {k : Nat} (hk : k < n) : numOk L U x k = true ↔ ¬ x k < L k ∧ ¬ U k < x k ∧ ¬ (0 < k ∧ x k < x (k - 1)) := by
  have h1 := t.lit k hk
  have e : numOk L U x k = true ↔ max (prevX x k) (L k) ≤ x k ∧ x k ≤ U k :=
    ⟨fun h => withinB_iff.1 h 0 (by omega), fun h => withinB_iff.2 fun _ _ => h⟩
  rw [e]
  cases k with
  | zero => simp only [prevX]; omega
  | succ j =>
    simp only [prevX]
    have e : j + 1 - 1 = j := by omega
    rw [e]; omega

set_option maxRecDepth 100000 in
set_option maxHeartbeats 4000000 in
theorem checkChart32 (I : Nat → Option Obj) {h : H} {v cv : Value} {n m : Nat} {D L U x : Nat → Int} {pr : Int} (hv : Rows I v n D L U) (hx : Sees I h cv m x) :
    Snd Try.prog I (.func 32) [.agg #[v, .int .i64 pr], cv] h (.int .i64 (chartE n D L U pr m x)) h := by
  have hv0 := hv
  obtain ⟨q, c, rfl, hn, hq⟩ := hv
  have hx0 := hx
  obtain ⟨q2, c2, rfl, hm, hq2⟩ := hx
  refine Snd_run0 (rs := [.tmp 4]) 600 Try.func32 (by kernel_rfl) rfl Try.ntmps32 rfl rfl ?_
  simp -implicitDefEqProofs only [sB, Nat.reduceAdd, Nat.reduceSub, yieldL, popK, flat, nptr, Value.cells, H.new, eq_self, Int.reduceEq, Int.reduceLT, Int.reduceLE, Nat.reduceEqDiff, Nat.reduceLeDiff, thenQ, ContK, ty2, ty3, ty4, ty5, ty22, ty24, ty25, ty30, ty34, ty64, Bool.not_true, Bool.not_false, decide_true, decide_false, if_true, if_false, st34]
  refine RunCall_of (checkTank30 I hv0) ?_
  by_cases he : tankE n D L U pr = 0
  · rw [he]
    have t := tank_ok he
    have n2 := t.n2
    have n16 := t.n16
    have hchE : chartE n D L U pr m x = if m ≠ n then 15 else if anyN (fun i => !numOk L U x i) n then 21 else 0 := by unfold chartE; rw [if_neg (by omega)]
    rw [hchE]
    by_cases hmn : m = n
    · subst hmn
      obtain ⟨id, off, rfl, hr⟩ := hq (by omega)
      obtain ⟨id2, off2, rfl, hr2⟩ := hq2 (by omega)
      simp -implicitDefEqProofs only [sB, Nat.reduceAdd, Nat.reduceSub, yieldL, popK, flat, nptr, Value.cells, H.new, eq_self, Int.reduceEq, Int.reduceLT, Int.reduceLE, Nat.reduceEqDiff, Nat.reduceLeDiff, thenQ, ContK, ty2, ty3, ty4, ty5, ty22, ty24, ty25, ty30, ty34, ty64, Bool.not_true, Bool.not_false, decide_true, decide_false, if_true, if_false, st34]
      obtain ⟨Ja, hJa⟩ : ∃ J : St → Prop, J = fun s => ∃ (k : Nat) (Lx : H), s.df = [] ∧ s.h = h ++ (.cells [.slice (some ⟨id, off, none⟩) m c, .int .i64 pr] 24 :: Lx) ∧ s.tm.length = 62 ∧ s.tm.getD 1 undef = .slice (some ⟨id2, off2, none⟩) m c2 ∧ s.tm.getD 2 undef = .pointer (some ⟨2 * h.length, 0, none⟩) ∧ s.tm.getD 4 undef = .int .i64 0 ∧ s.tm.getD 5 undef = .int .i64 k ∧ (k ≤ m) ∧ (∀ i, i < k → numOk L U x i = true) := ⟨_, rfl⟩
      refine Loop_run (by kernel_rfl) 600 Ja (fun s => match s.tm.getD 5 undef with | .int _ i => m - i.toNat | _ => 0) (by rw [hJa]; exact ⟨0, [], rfl, rfl, rfl, rfl, rfl, rfl, rfl, Nat.zero_le _, fun i hi => absurd hi (Nat.not_lt_zero i)⟩) ?_
      intro sa hsa
      rw [hJa] at hsa
      obtain ⟨tma, dfa, hha⟩ := sa
      obtain ⟨k, Lx, ea1, ea2, ea3, la1, la2, la4, la5, hk, hp⟩ := hsa
      simp only at ea1 ea2 ea3 la1 la2 la4 la5
      subst dfa; subst hha
      have elita : tma = [tma.getD 0 undef, .slice (some ⟨id2, off2, none⟩) m c2, .pointer (some ⟨2 * h.length, 0, none⟩), tma.getD 3 undef, .int .i64 0, .int .i64 k, tma.getD 6 undef, tma.getD 7 undef, tma.getD 8 undef, tma.getD 9 undef, tma.getD 10 undef, tma.getD 11 undef, tma.getD 12 undef, tma.getD 13 undef, tma.getD 14 undef, tma.getD 15 undef, tma.getD 16 undef, tma.getD 17 undef, tma.getD 18 undef, tma.getD 19 undef, tma.getD 20 undef, tma.getD 21 undef, tma.getD 22 undef, tma.getD 23 undef, tma.getD 24 undef, tma.getD 25 undef, tma.getD 26 undef, tma.getD 27 undef, tma.getD 28 undef, tma.getD 29 undef, tma.getD 30 undef, tma.getD 31 undef, tma.getD 32 undef, tma.getD 33 undef, tma.getD 34 undef, tma.getD 35 undef, tma.getD 36 undef, tma.getD 37 undef, tma.getD 38 undef, tma.getD 39 undef, tma.getD 40 undef, tma.getD 41 undef, tma.getD 42 undef, tma.getD 43 undef, tma.getD 44 undef, tma.getD 45 undef, tma.getD 46 undef, tma.getD 47 undef, tma.getD 48 undef, tma.getD 49 undef, tma.getD 50 undef, tma.getD 51 undef, tma.getD 52 undef, tma.getD 53 undef, tma.getD 54 undef, tma.getD 55 undef, tma.getD 56 undef, tma.getD 57 undef, tma.getD 58 undef, tma.getD 59 undef, tma.getD 60 undef, tma.getD 61 undef] := by
        have e0 := lit_eq ea3
        have er : List.range 62 = [0, 1, 2, 3, 4, 5, 6, 7, 8, 9, 10, 11, 12, 13, 14, 15, 16, 17, 18, 19, 20, 21, 22, 23, 24, 25, 26, 27, 28, 29, 30, 31, 32, 33, 34, 35, 36, 37, 38, 39, 40, 41, 42, 43, 44, 45, 46, 47, 48, 49, 50, 51, 52, 53, 54, 55, 56, 57, 58, 59, 60, 61] := by rfl
        rw [er] at e0
        simp only [List.map_cons, List.map_nil, la1, la2, la4, la5] at e0
        exact e0
      rw [elita]
      clear la1
      clear la2
      clear la4
      clear la5
      clear elita ea3
      by_cases hkn : k < m
      · have h1 : (k : Int) < (m : Int) := by omega
        have h2 : (0 : Int) ≤ (k : Int) ∧ (k : Int) < (m : Int) := ⟨by omega, h1⟩
        have h3 := fun h => hr h k hkn
        have h3b := rdl_mono (hr2 k hkn)
        have h4 := wrap_add1 (i := k) (by omega)
        have hiff := numOk_iff (x := x) t hkn
        by_cases c1 : x k < L k
        · simp -implicitDefEqProofs only [sB, Nat.reduceAdd, Nat.reduceSub, yieldL, popK, flat, nptr, Value.cells, H.new, eq_self, Int.reduceEq, Int.reduceLT, Int.reduceLE, Nat.reduceEqDiff, Nat.reduceLeDiff, thenQ, ContK, ty2, ty3, ty4, ty5, ty22, ty24, ty25, ty30, ty34, ty64, sD, mixT, isAlloc, ridOf, blockOf, Bool.not_true, Bool.not_false, decide_true, decide_false, if_true, if_false, st34, c1, h1, h2, h4, row_R (h3 _), h3b]
          exact ⟨drawOk_ren (fun _ => 0) rfl (by kernel_rfl), ⟨_, rfl⟩, by rw [if_neg (show ¬ m ≠ m by simp), if_pos (anyN_iff.2 ⟨k, hkn, by rw [show numOk L U x k = false from by rw [← Bool.not_eq_true, hiff]; omega]; rfl⟩)]⟩
        by_cases c2 : U k < x k
        · simp -implicitDefEqProofs only [sB, Nat.reduceAdd, Nat.reduceSub, yieldL, popK, flat, nptr, Value.cells, H.new, eq_self, Int.reduceEq, Int.reduceLT, Int.reduceLE, Nat.reduceEqDiff, Nat.reduceLeDiff, thenQ, ContK, ty2, ty3, ty4, ty5, ty22, ty24, ty25, ty30, ty34, ty64, sD, mixT, isAlloc, ridOf, blockOf, Bool.not_true, Bool.not_false, decide_true, decide_false, if_true, if_false, st34, c1, c2, h1, h2, h4, row_R (h3 _), h3b]
          exact ⟨drawOk_ren (fun _ => 0) rfl (by kernel_rfl), ⟨_, rfl⟩, by rw [if_neg (show ¬ m ≠ m by simp), if_pos (anyN_iff.2 ⟨k, hkn, by rw [show numOk L U x k = false from by rw [← Bool.not_eq_true, hiff]; omega]; rfl⟩)]⟩
        by_cases c3 : 0 < k
        · have c3' : (0 : Int) < (k : Int) := by omega
          have hk' : IntKind.i64.wrap ((k : Int) - 1) = ((k - 1 : Nat) : Int) := by rw [wrap_i64 (by omega) (by omega)]; omega
          have h2' : (0 : Int) ≤ ((k - 1 : Nat) : Int) ∧ ((k - 1 : Nat) : Int) < (m : Int) := ⟨by omega, by omega⟩
          have h3' := rdl_mono (hr2 (k - 1) (by omega))
          by_cases c4 : x k < x (k - 1)
          · simp -implicitDefEqProofs only [sB, Nat.reduceAdd, Nat.reduceSub, yieldL, popK, flat, nptr, Value.cells, H.new, eq_self, Int.reduceEq, Int.reduceLT, Int.reduceLE, Nat.reduceEqDiff, Nat.reduceLeDiff, thenQ, ContK, ty2, ty3, ty4, ty5, ty22, ty24, ty25, ty30, ty34, ty64, sD, mixT, isAlloc, ridOf, blockOf, Bool.not_true, Bool.not_false, decide_true, decide_false, if_true, if_false, st34, c1, c2, c3', c4, hk', h2', h3', h1, h2, h4, row_R (h3 _), h3b]
            exact ⟨drawOk_ren (fun _ => 0) rfl (by kernel_rfl), ⟨_, rfl⟩, by rw [if_neg (show ¬ m ≠ m by simp), if_pos (anyN_iff.2 ⟨k, hkn, by rw [show numOk L U x k = false from by rw [← Bool.not_eq_true, hiff]; omega]; rfl⟩)]⟩
          · simp -implicitDefEqProofs only [sB, Nat.reduceAdd, Nat.reduceSub, yieldL, popK, flat, nptr, Value.cells, H.new, eq_self, Int.reduceEq, Int.reduceLT, Int.reduceLE, Nat.reduceEqDiff, Nat.reduceLeDiff, thenQ, ContK, ty2, ty3, ty4, ty5, ty22, ty24, ty25, ty30, ty34, ty64, sD, mixT, isAlloc, ridOf, blockOf, Bool.not_true, Bool.not_false, decide_true, decide_false, if_true, if_false, st34, c1, c2, c3', c4, hk', h2', h3', h1, h2, h4, row_R (h3 _), h3b]
            refine ⟨drawOk_ren (fun _ => 0) rfl (by kernel_rfl), by rw [hJa]; exact ⟨k + 1, Lx ++ [.cells [.int .i64 (L k), .int .i64 (U k)] 34], rfl, rfl, rfl, rfl, rfl, rfl, rfl, by omega, fun i hi => by rcases Nat.lt_succ_iff_lt_or_eq.1 hi with h | rfl; exact hp i h; exact hiff.2 ⟨c1, c2, by omega⟩⟩, ?_⟩
            show m - ((k + 1 : Nat) : Int).toNat < m - (k : Int).toNat
            omega
        · have c3' : ¬ (0 : Int) < (k : Int) := by omega
          simp -implicitDefEqProofs only [sB, Nat.reduceAdd, Nat.reduceSub, yieldL, popK, flat, nptr, Value.cells, H.new, eq_self, Int.reduceEq, Int.reduceLT, Int.reduceLE, Nat.reduceEqDiff, Nat.reduceLeDiff, thenQ, ContK, ty2, ty3, ty4, ty5, ty22, ty24, ty25, ty30, ty34, ty64, sD, mixT, isAlloc, ridOf, blockOf, Bool.not_true, Bool.not_false, decide_true, decide_false, if_true, if_false, st34, c1, c2, c3', h1, h2, h4, row_R (h3 _), h3b]
          refine ⟨drawOk_ren (fun _ => 0) rfl (by kernel_rfl), by rw [hJa]; exact ⟨k + 1, Lx ++ [.cells [.int .i64 (L k), .int .i64 (U k)] 34], rfl, rfl, rfl, rfl, rfl, rfl, rfl, by omega, fun i hi => by rcases Nat.lt_succ_iff_lt_or_eq.1 hi with h | rfl; exact hp i h; exact hiff.2 ⟨c1, c2, by omega⟩⟩, ?_⟩
          show m - ((k + 1 : Nat) : Int).toNat < m - (k : Int).toNat
          omega
      have h1 : ¬ (k : Int) < (m : Int) := by omega
      have hkn' : k = m := by omega
      subst hkn'
      have ha : ¬ anyN (fun i => !numOk L U x i) k = true := by
        rw [anyN_iff]; rintro ⟨i, hi, hb⟩; rw [hp i hi] at hb; cases hb
      rw [if_neg (show ¬ k ≠ k by simp), if_neg ha]
      simp -implicitDefEqProofs only [sB, Nat.reduceAdd, Nat.reduceSub, yieldL, popK, flat, nptr, Value.cells, H.new, eq_self, Int.reduceEq, Int.reduceLT, Int.reduceLE, Nat.reduceEqDiff, Nat.reduceLeDiff, thenQ, ContK, ty2, ty3, ty4, ty5, ty22, ty24, ty25, ty30, ty34, ty64, Bool.not_true, Bool.not_false, decide_true, decide_false, if_true, if_false, st34, h1]
      first | exact ⟨⟨_, rfl⟩, rfl⟩ | exact ⟨_, rfl⟩
    · have hmn' : ¬ ((m : Int) = (n : Int)) := by omega
      simp -implicitDefEqProofs only [sB, Nat.reduceAdd, Nat.reduceSub, yieldL, popK, flat, nptr, Value.cells, H.new, eq_self, Int.reduceEq, Int.reduceLT, Int.reduceLE, Nat.reduceEqDiff, Nat.reduceLeDiff, thenQ, ContK, ty2, ty3, ty4, ty5, ty22, ty24, ty25, ty30, ty34, ty64, Bool.not_true, Bool.not_false, decide_true, decide_false, if_true, if_false, st34, hmn']
      rw [if_pos hmn]
      first | exact ⟨⟨_, rfl⟩, rfl⟩ | exact ⟨_, rfl⟩
  · have hchE : chartE n D L U pr m x = tankE n D L U pr := by unfold chartE; rw [if_pos he]
    rw [hchE]
    simp -implicitDefEqProofs only [sB, Nat.reduceAdd, Nat.reduceSub, yieldL, popK, flat, nptr, Value.cells, H.new, eq_self, Int.reduceEq, Int.reduceLT, Int.reduceLE, Nat.reduceEqDiff, Nat.reduceLeDiff, thenQ, ContK, ty2, ty3, ty4, ty5, ty22, ty24, ty25, ty30, ty34, ty64, Bool.not_true, Bool.not_false, decide_true, decide_false, if_true, if_false, st34, he]
    refine RunCall_of (checkTank30 I hv0) ?_
    simp -implicitDefEqProofs only [sB, Nat.reduceAdd, Nat.reduceSub, yieldL, popK, flat, nptr, Value.cells, H.new, eq_self, Int.reduceEq, Int.reduceLT, Int.reduceLE, Nat.reduceEqDiff, Nat.reduceLeDiff, thenQ, ContK, ty2, ty3, ty4, ty5, ty22, ty24, ty25, ty30, ty34, ty64, Bool.not_true, Bool.not_false, decide_true, decide_false, if_true, if_false, st34, he]
    first | exact ⟨⟨_, rfl⟩, rfl⟩ | exact ⟨_, rfl⟩

set_option maxRecDepth 100000 in
theorem inside33 (I : Nat → Option Obj) {h : H} {v : Value} {n : Nat} {D L U : Nat → Int} {pr dip : Int} (hv : Rows I v n D L U) (hn2 : 2 ≤ n ∧ n ≤ 16) :
    Snd Try.prog I (.func 33) [.agg #[v, .int .i64 pr], .int .i64 dip] h (.bool (decide (D 0 ≤ dip) && decide (dip ≤ D (n - 1)))) h := by
  obtain ⟨q, c, rfl, hn, hq⟩ := hv
  obtain ⟨id, off, rfl, hr⟩ := hq (by omega)
  have hw1 : IntKind.i64.wrap ((n : Int) - 1) = ((n - 1 : Nat) : Int) := by rw [wrap_i64 (by omega) (by omega)]; omega
  have h00 : (0 : Int) ≤ 0 ∧ (0 : Int) < (n : Int) := ⟨by omega, by omega⟩
  have h01 : (0 : Int) ≤ ((n - 1 : Nat) : Int) ∧ ((n - 1 : Nat) : Int) < (n : Int) := ⟨by omega, by omega⟩
  have r0 := fun h => row_D (hr h 0 (by omega))
  have r1 := fun h => row_D (hr h (n - 1) (by omega))
  simp only [Nat.zero_mul, Nat.add_zero] at r0
  refine Snd_run0 (rs := [.tmp 4]) 400 Try.func33 (by kernel_rfl) rfl Try.ntmps33 rfl rfl ?_
  by_cases c1 : D 0 ≤ dip
  · simp -implicitDefEqProofs only [sB, Nat.reduceAdd, Nat.reduceSub, yieldL, popK, flat, nptr, Value.cells, H.new, eq_self, Int.reduceEq, Int.reduceLT, Int.reduceLE, Nat.reduceEqDiff, Nat.reduceLeDiff, thenQ, ContK, ty2, ty3, ty4, ty22, ty24, ty64, Bool.not_true, Bool.not_false, decide_true, decide_false, if_true, if_false, st34, hw1, h00, h01, r0, r1, Int.toNat_zero, Nat.zero_mul, c1]
    exact ⟨⟨_, rfl⟩, by simp⟩
  · simp -implicitDefEqProofs only [sB, Nat.reduceAdd, Nat.reduceSub, yieldL, popK, flat, nptr, Value.cells, H.new, eq_self, Int.reduceEq, Int.reduceLT, Int.reduceLE, Nat.reduceEqDiff, Nat.reduceLeDiff, thenQ, ContK, ty2, ty3, ty4, ty22, ty24, ty64, Bool.not_true, Bool.not_false, decide_true, decide_false, if_true, if_false, st34, hw1, h00, h01, r0, r1, Int.toNat_zero, Nat.zero_mul, c1]
    exact ⟨⟨_, rfl⟩, by simp⟩
end Go.Proofs.Ytcocmbccfikmhaa
set_option linter.unusedSimpArgs false
set_option linter.unusedVariables false
namespace Go.Proofs.Ytcocmbccfikmhaa
open Go.Sym
def pIxF (n : Nat) (D : Nat → Int) (dip : Int) : Nat → Nat → Nat
  | 0, i => i
  | f + 1, i => if i + 2 < n ∧ D (i + 1) ≤ dip then pIxF n D dip f (i + 1) else i
/-- the row at, or before, a dip -/
def pIx (n : Nat) (D : Nat → Int) (dip : Int) : Nat := pIxF n D dip n 0
theorem pIxF_stop {n : Nat} {D : Nat → Int} {dip : Int} {i : Nat} (h : ¬ (i + 2 < n ∧ D (i + 1) ≤ dip)) : ∀ f, pIxF n D dip f i = i
  | 0 => rfl
  | f + 1 => by simp only [pIxF]; rw [if_neg h]
theorem pIxF_go {n : Nat} {D : Nat → Int} {dip : Int} {f i : Nat} (h : i + 2 < n ∧ D (i + 1) ≤ dip) (hf : 0 < f) : pIxF n D dip f i = pIxF n D dip (f - 1) (i + 1) := by
  obtain ⟨m, rfl⟩ : ∃ m, f = m + 1 := ⟨f - 1, by omega⟩
  simp only [pIxF]; rw [if_pos h]; rfl
theorem pIxF_spec {n : Nat} {D : Nat → Int} {dip : Int} : ∀ f i, n ≤ f + i + 1 → i + 2 ≤ n → i ≤ pIxF n D dip f i ∧ pIxF n D dip f i + 2 ≤ n ∧ (i < pIxF n D dip f i → D (pIxF n D dip f i) ≤ dip) ∧ (pIxF n D dip f i + 2 = n ∨ dip < D (pIxF n D dip f i + 1))
  | 0, i, hf, h => by omega
  | f + 1, i, hf, h => by
    simp only [pIxF]
    split
    · rename_i hc
      have := pIxF_spec (n := n) (D := D) (dip := dip) f (i + 1) (by omega) (by omega)
      refine ⟨by omega, this.2.1, fun _ => ?_, this.2.2.2⟩
      by_cases e : i + 1 < pIxF n D dip f (i + 1)
      · exact this.2.2.1 e
      · have e2 : pIxF n D dip f (i + 1) = i + 1 := by omega
        rw [e2]; exact hc.2
    · rename_i hc
      exact ⟨Nat.le_refl _, h, fun hh => absurd hh (Nat.lt_irrefl _), by omega⟩
theorem pIx_spec {n : Nat} {D : Nat → Int} {dip : Int} (hn : 2 ≤ n) : pIx n D dip + 2 ≤ n ∧ (0 < pIx n D dip → D (pIx n D dip) ≤ dip) ∧ (pIx n D dip + 2 = n ∨ dip < D (pIx n D dip + 1)) := by
  have := pIxF_spec (n := n) (D := D) (dip := dip) n 0 (by omega) hn
  exact this.2
def belR (n : Nat) (D x : Nat → Int) (dip : Int) : Int := x (pIx n D dip) * (D (pIx n D dip + 1) - dip) + x (pIx n D dip + 1) * (dip - D (pIx n D dip))
def belRd (n : Nat) (D : Nat → Int) (dip : Int) : Int := D (pIx n D dip + 1) - D (pIx n D dip)
theorem wrap_add2 {i : Nat} (h : i < 9223372036854775806) : IntKind.i64.wrap ((i : Int) + 2) = ((i + 2 : Nat) : Int) := by
  rw [wrap_i64 (by omega) (by omega)]; simp

set_option maxRecDepth 100000 in
theorem piece65 (I : Nat → Option Obj) {h : H} {v : Value} {n : Nat} {D L U : Nat → Int} {pr dip : Int} (hv : Rows I v n D L U) (hn2 : 2 ≤ n ∧ n ≤ 16) :
    Snd Try.prog I (.func 65) [.agg #[v, .int .i64 pr], .int .i64 dip] h (.int .i64 (pIx n D dip)) h := by
  obtain ⟨q, c, rfl, hn, hq⟩ := hv
  obtain ⟨id, off, rfl, hr⟩ := hq (by omega)
  refine Snd_run0 (rs := [.tmp 4]) 400 Try.func65 (by kernel_rfl) rfl Try.ntmps65 rfl rfl ?_
  simp -implicitDefEqProofs only [sB, Nat.reduceAdd, Nat.reduceSub, yieldL, popK, flat, nptr, Value.cells, H.new, eq_self, Int.reduceEq, Int.reduceLT, Int.reduceLE, Nat.reduceEqDiff, Nat.reduceLeDiff, thenQ, ContK, ty2, ty3, ty4, ty22, ty24, ty64, Bool.not_true, Bool.not_false, decide_true, decide_false, if_true, if_false, st34, st29, bl29_0, bl29]
  obtain ⟨Ja, hJa⟩ : ∃ J : St → Prop, J = fun s => ∃ (k : Nat), s.df = [] ∧ s.h = h ++ [.cells [.slice (some ⟨id, off, none⟩) n c, .int .i64 pr] 24] ∧ s.tm.length = 26 ∧ s.tm.getD 1 undef = .int .i64 dip ∧ s.tm.getD 2 undef = .pointer (some ⟨2 * h.length, 0, none⟩) ∧ s.tm.getD 4 undef = .int .i64 0 ∧ s.tm.getD 5 undef = .int .i64 k ∧ (k + 2 ≤ n) ∧ (pIx n D dip = pIxF n D dip (n - k) k) := ⟨_, rfl⟩
  refine Loop_run (by kernel_rfl) 400 Ja (muI 5 n) (by rw [hJa]; exact ⟨0, rfl, rfl, rfl, rfl, rfl, rfl, rfl, by omega, rfl⟩) ?_
  intro sa hsa
  rw [hJa] at hsa
  obtain ⟨tma, dfa, hha⟩ := sa
  obtain ⟨k, ea1, ea2, ea3, la1, la2, la4, la5, hk, hp⟩ := hsa
  simp only at ea1 ea2 ea3 la1 la2 la4 la5
  subst dfa; subst hha
  have elita : tma = [tma.getD 0 undef, .int .i64 dip, .pointer (some ⟨2 * h.length, 0, none⟩), tma.getD 3 undef, .int .i64 0, .int .i64 k, tma.getD 6 undef, tma.getD 7 undef, tma.getD 8 undef, tma.getD 9 undef, tma.getD 10 undef, tma.getD 11 undef, tma.getD 12 undef, tma.getD 13 undef, tma.getD 14 undef, tma.getD 15 undef, tma.getD 16 undef, tma.getD 17 undef, tma.getD 18 undef, tma.getD 19 undef, tma.getD 20 undef, tma.getD 21 undef, tma.getD 22 undef, tma.getD 23 undef, tma.getD 24 undef, tma.getD 25 undef] := by
    have e0 := lit_eq ea3
    have er : List.range 26 = [0, 1, 2, 3, 4, 5, 6, 7, 8, 9, 10, 11, 12, 13, 14, 15, 16, 17, 18, 19, 20, 21, 22, 23, 24, 25] := by rfl
    rw [er] at e0
    simp only [List.map_cons, List.map_nil, la1, la2, la4, la5] at e0
    exact e0
  rw [elita]
  clear la1
  clear la2
  clear la4
  clear la5
  clear elita ea3
  have h4 := wrap_add1 (i := k) (by omega)
  have h5 := wrap_add2 (i := k) (by omega)
  have h2 : (0 : Int) ≤ ((k + 1 : Nat) : Int) ∧ ((k + 1 : Nat) : Int) < (n : Int) := ⟨by omega, by omega⟩
  have h3 := fun h => hr h (k + 1) (by omega)
  by_cases c1 : k + 2 < n
  · have h1 : ((k + 2 : Nat) : Int) < (n : Int) := by omega
    by_cases c2 : D (k + 1) ≤ dip
    · simp -implicitDefEqProofs only [sB, Nat.reduceAdd, Nat.reduceSub, yieldL, popK, flat, nptr, Value.cells, H.new, eq_self, Int.reduceEq, Int.reduceLT, Int.reduceLE, Nat.reduceEqDiff, Nat.reduceLeDiff, thenQ, ContK, ty2, ty3, ty4, ty22, ty24, ty64, Bool.not_true, Bool.not_false, decide_true, decide_false, if_true, if_false, st34, st29, bl29_0, bl29, c2, h1, h2, h4, h5, row_D (h3 _)]
      refine ⟨by rw [hJa]; exact ⟨k + 1, rfl, rfl, rfl, rfl, rfl, rfl, rfl, by omega, by rw [hp, pIxF_go ⟨c1, c2⟩ (by omega)]; congr 1⟩, ?_⟩
      show n - ((k + 1 : Nat) : Int).toNat < n - (k : Int).toNat
      omega
    · have hs : pIx n D dip = k := by rw [hp]; exact pIxF_stop (by omega) _
      simp -implicitDefEqProofs only [sB, Nat.reduceAdd, Nat.reduceSub, yieldL, popK, flat, nptr, Value.cells, H.new, eq_self, Int.reduceEq, Int.reduceLT, Int.reduceLE, Nat.reduceEqDiff, Nat.reduceLeDiff, thenQ, ContK, ty2, ty3, ty4, ty22, ty24, ty64, Bool.not_true, Bool.not_false, decide_true, decide_false, if_true, if_false, st34, st29, bl29_0, bl29, c2, h1, h2, h4, h5, row_D (h3 _)]
      exact ⟨⟨_, rfl⟩, by rw [hs]⟩
  · have h1 : ¬ ((k + 2 : Nat) : Int) < (n : Int) := by omega
    have hs : pIx n D dip = k := by rw [hp]; exact pIxF_stop (by omega) _
    simp -implicitDefEqProofs only [sB, Nat.reduceAdd, Nat.reduceSub, yieldL, popK, flat, nptr, Value.cells, H.new, eq_self, Int.reduceEq, Int.reduceLT, Int.reduceLE, Nat.reduceEqDiff, Nat.reduceLeDiff, thenQ, ContK, ty2, ty3, ty4, ty22, ty24, ty64, Bool.not_true, Bool.not_false, decide_true, decide_false, if_true, if_false, st34, st29, bl29_0, bl29, h1, h2, h4, h5, row_D (h3 _)]
    exact ⟨⟨_, rfl⟩, by rw [hs]⟩

set_option maxRecDepth 100000 in
theorem below45 (I : Nat → Option Obj) {h : H} {v cv : Value} {n : Nat} {D L U x : Nat → Int} {pr dip : Int} (hv : Rows I v n D L U) (hx : Sees I h cv n x) (t : TankOk n D L U pr) (hd : D 0 ≤ dip ∧ dip ≤ D (n - 1)) (hx100 : ∀ k, k < n → 0 ≤ x k ∧ x k ≤ 100000) :
    Snd Try.prog I (.func 45) [.agg #[v, .int .i64 pr], cv, .int .i64 dip] h (.tuple #[.int .i64 (belR n D x dip), .int .i64 (belRd n D dip)]) h := by
  have n2 := t.n2
  have n16 := t.n16
  have hv0 := hv
  obtain ⟨q, c, rfl, hn, hq⟩ := hv
  obtain ⟨id, off, rfl, hr⟩ := hq (by omega)
  obtain ⟨q2, c2, rfl, hm, hq2⟩ := hx
  obtain ⟨id2, off2, rfl, hr2⟩ := hq2 (by omega)
  obtain ⟨p1, p2, p3⟩ := pIx_spec (n := n) (D := D) (dip := dip) n2
  have d0 := t.dip 0 (by omega)
  have d1 := t.dip (n - 1) (by omega)
  refine Snd_run0 (rs := [.tmp 6, .tmp 7]) 400 Try.func45 (by kernel_rfl) rfl Try.ntmps45 rfl rfl ?_
  simp -implicitDefEqProofs only [sB, Nat.reduceAdd, Nat.reduceSub, yieldL, popK, flat, nptr, Value.cells, H.new, eq_self, Int.reduceEq, Int.reduceLT, Int.reduceLE, Nat.reduceEqDiff, Nat.reduceLeDiff, thenQ, ContK, ty2, ty3, ty22, ty24, ty25, ty64, Bool.not_true, Bool.not_false, decide_true, decide_false, if_true, if_false, st34, st29, bl29_0, bl29]
  refine RunCall_of (piece65 I hv0 ⟨n2, n16⟩) ?_
  unfold belR belRd
  generalize pIx n D dip = k at *
  have h4 := wrap_add1 (i := k) (by omega)
  have h2 : (0 : Int) ≤ (k : Int) ∧ (k : Int) < (n : Int) := ⟨by omega, by omega⟩
  have h2' : (0 : Int) ≤ ((k + 1 : Nat) : Int) ∧ ((k + 1 : Nat) : Int) < (n : Int) := ⟨by omega, by omega⟩
  have h3 := fun h => hr h k (by omega)
  have h3' := fun h => hr h (k + 1) (by omega)
  have h6 := rdl_mono (hr2 k (by omega))
  have h6' := rdl_mono (hr2 (k + 1) (by omega))
  have e1 := t.dip k (by omega)
  have e2 := t.dip (k + 1) (by omega)
  have x1 := hx100 k (by omega)
  have x2 := hx100 (k + 1) (by omega)
  have m1 : -(100000 * 4000) ≤ x k * (D (k + 1) - dip) ∧ x k * (D (k + 1) - dip) ≤ 100000 * 4000 := by
    rcases Int.le_total 0 (D (k + 1) - dip) with hh | hh
    · have := mul_rng x1 ⟨hh, show D (k + 1) - dip ≤ 4000 by omega⟩; omega
    · have := mul_rng x1 ⟨show 0 ≤ -(D (k + 1) - dip) by omega, show -(D (k + 1) - dip) ≤ 4000 by omega⟩
      rw [Int.mul_neg] at this; omega
  have m2 : -(100000 * 4000) ≤ x (k + 1) * (dip - D k) ∧ x (k + 1) * (dip - D k) ≤ 100000 * 4000 := by
    rcases Int.le_total 0 (dip - D k) with hh | hh
    · have := mul_rng x2 ⟨hh, show dip - D k ≤ 4000 by omega⟩; omega
    · have := mul_rng x2 ⟨show 0 ≤ -(dip - D k) by omega, show -(dip - D k) ≤ 4000 by omega⟩
      rw [Int.mul_neg] at this; omega
  have w1 : IntKind.i64.wrap (D (k + 1) - dip) = D (k + 1) - dip := wrap_i64 (by omega) (by omega)
  have w2 : IntKind.i64.wrap (dip - D k) = dip - D k := wrap_i64 (by omega) (by omega)
  have w3 : IntKind.i64.wrap (D (k + 1) - D k) = D (k + 1) - D k := wrap_i64 (by omega) (by omega)
  have w4 : IntKind.i64.wrap (x k * (D (k + 1) - dip)) = x k * (D (k + 1) - dip) := wrap_i64 (by omega) (by omega)
  have w5 : IntKind.i64.wrap (x (k + 1) * (dip - D k)) = x (k + 1) * (dip - D k) := wrap_i64 (by omega) (by omega)
  have w6 : IntKind.i64.wrap (x k * (D (k + 1) - dip) + x (k + 1) * (dip - D k)) = x k * (D (k + 1) - dip) + x (k + 1) * (dip - D k) := wrap_i64 (by omega) (by omega)
  simp -implicitDefEqProofs only [sB, Nat.reduceAdd, Nat.reduceSub, yieldL, popK, flat, nptr, Value.cells, H.new, eq_self, Int.reduceEq, Int.reduceLT, Int.reduceLE, Nat.reduceEqDiff, Nat.reduceLeDiff, thenQ, ContK, ty2, ty3, ty22, ty24, ty25, ty64, sD, mixT, isAlloc, ridOf, blockOf, Bool.not_true, Bool.not_false, decide_true, decide_false, if_true, if_false, st34, st29, bl29_0, bl29, h2, h2', h4, row_D (h3 _), row_D (h3' _), h6, h6', w1, w2, w3, w4, w5, w6]
  exact ⟨drawOk_ren (fun _ => 0) rfl (by kernel_rfl), drawOk_ren (fun _ => 0) rfl (by kernel_rfl), _, rfl⟩
end Go.Proofs.Ytcocmbccfikmhaa
