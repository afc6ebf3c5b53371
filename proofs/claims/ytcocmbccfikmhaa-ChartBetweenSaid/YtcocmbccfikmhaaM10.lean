/- What a valid tank is; weights of a dip (own texts put together: C8 C9) -/
import Derived.Test.YtcocmbccfikmhaaM9
import Derived.Test.YtcocmbccfikmhaaM4
set_option linter.unusedSimpArgs false
set_option linter.unusedVariables false
namespace Go.Proofs.Ytcocmbccfikmhaa
open Go.Sym
/-- a valid tank -/
structure TankOk (n : Nat) (D L U : Nat → Int) (pr : Int) : Prop where
  n2 : 2 ≤ n
  n16 : n ≤ 16
  d0 : 0 ≤ D 0
  inc : ∀ i, i + 1 < n → D i < D (i + 1)
  top : ∀ i, i < n → D i ≤ 4000
  lit : ∀ i, i < n → 0 ≤ L i ∧ L i ≤ U i ∧ U i ≤ 100000
  pr0 : 0 ≤ pr ∧ pr ≤ 50
theorem any_false {p : Nat → Bool} {n : Nat} (h : anyN p n = false) : ∀ i, i < n → p i = false := by
  intro i hi
  cases hp : p i with
  | false => rfl
  | true => rw [anyN_iff.2 ⟨i, hi, hp⟩] at h; cases h
theorem tank_ok {n : Nat} {D L U : Nat → Int} {pr : Int} (h : tankE n D L U pr = 0) : TankOk n D L U pr := by
  obtain ⟨n2, n16⟩ := tankE_n h
  unfold tankE at h
  rw [if_neg (by omega)] at h
  split at h
  · cases h
  rename_i h1
  split at h
  · cases h
  rename_i h2
  simp only [Bool.not_eq_true] at h1
  simp only [Bool.or_eq_true, Bool.not_eq_true', not_or, Bool.not_eq_false] at h2
  have hd := any_false h1
  have hd' : ∀ i, i < n → prevD D i < D i ∧ D i ≤ 4000 := by
    intro i hi
    have := hd i hi
    unfold dipOk at this
    simp at this
    exact this
  have hr : ∀ i, i < n → rangeB (L i) (U i) 0 100000 = true := by
    intro i hi
    have := any_false (by simpa using h2.2) i hi
    simpa using this
  refine ⟨n2, n16, ?_, ?_, fun i hi => (hd' i hi).2, ?_, ?_⟩
  · have := (hd' 0 (by omega)).1
    simp only [prevD] at this; omega
  · intro i hi
    exact (hd' (i + 1) hi).1
  · intro i hi
    have := rangeB_iff.1 (hr i hi)
    omega
  · have := withinB_iff.1 h2.1 0 (by omega)
    exact this
theorem tank_err {n : Nat} {D L U : Nat → Int} {pr : Int} (t : TankOk n D L U pr) : tankE n D L U pr = 0 := by
  have h0 : ∀ i, i < n → dipOk D i = true := by
    intro i hi
    have h1 := t.top i hi
    unfold dipOk
    rw [Bool.and_eq_true, decide_eq_true_iff, decide_eq_true_iff]
    refine ⟨?_, h1⟩
    cases i with
    | zero => have := t.d0; show (-1 : Int) < D 0; omega
    | succ j => exact t.inc j hi
  rw [tankE_arg (by have := t.n2; have := t.n16; omega) h0, if_neg]
  simp only [Bool.or_eq_true, Bool.not_eq_true', not_or, Bool.not_eq_false, Bool.not_eq_true]
  refine ⟨withinB_iff.2 fun i _ => t.pr0, ?_⟩
  cases ha : anyN (fun i => !rangeB (L i) (U i) 0 100000) n with
  | false => rfl
  | true =>
    obtain ⟨i, hi, hb⟩ := anyN_iff.1 ha
    have := t.lit i hi
    rw [rangeB_iff.2 ⟨by omega, by omega, by omega⟩] at hb; cases hb
section
variable {n : Nat} {D L U : Nat → Int} {pr : Int}
theorem TankOk.mono (t : TankOk n D L U pr) : ∀ i j, i ≤ j → j < n → D i ≤ D j := by
  intro i j hij hj
  induction j with
  | zero => have : i = 0 := by omega
            subst this; exact Int.le_refl _
  | succ j ih =>
    by_cases e : i = j + 1
    · subst e; exact Int.le_refl _
    · have := ih (by omega) (by omega)
      have := t.inc j hj
      omega
theorem TankOk.lt (t : TankOk n D L U pr) : ∀ i j, i < j → j < n → D i < D j := by
  intro i j hij hj
  have h1 := t.inc i (by omega)
  have h2 := t.mono (i + 1) j hij hj
  omega
theorem TankOk.dip (t : TankOk n D L U pr) : ∀ i, i < n → 0 ≤ D i ∧ D i ≤ 4000 := fun i hi => by
  have := t.mono 0 i (by omega) hi
  have := t.d0
  have := t.top i hi
  omega
end
/-- a chart of a valid tank -/
structure ChartOk (n : Nat) (D L U : Nat → Int) (pr : Int) (m : Nat) (x : Nat → Int) : Prop where
  tank : TankOk n D L U pr
  len : m = n
  rng : ∀ i, i < n → L i ≤ x i ∧ x i ≤ U i
  inc : ∀ i, i + 1 < n → x i ≤ x (i + 1)
theorem chart_ok {n m : Nat} {D L U x : Nat → Int} {pr : Int} (h : chartE n D L U pr m x = 0) : ChartOk n D L U pr m x := by
  unfold chartE at h
  split at h
  · contradiction
  rename_i h1
  split at h
  · cases h
  rename_i h2
  split at h
  · cases h
  rename_i h3
  have t := tank_ok (by simpa using h1)
  have hx := any_false (by simpa using h3)
  have hx' : ∀ i, i < n → max (prevX x i) (L i) ≤ x i ∧ x i ≤ U i := by
    intro i hi
    have := hx i hi
    simp only [Bool.not_eq_false'] at this
    exact withinB_iff.1 this 0 (by omega)
  refine ⟨t, by omega, fun i hi => ?_, fun i hi => ?_⟩
  · have := hx' i hi; omega
  · have := hx' (i + 1) hi
    simp only [prevX] at this; omega
theorem chart_err {n m : Nat} {D L U x : Nat → Int} {pr : Int} (c : ChartOk n D L U pr m x) : chartE n D L U pr m x = 0 := by
  unfold chartE
  rw [if_neg (by rw [tank_err c.tank]; simp), if_neg (by have := c.len; omega), if_neg]
  rw [anyN_iff]
  rintro ⟨i, hi, hb⟩
  have h1 := c.rng i hi
  have h2 := c.tank.lit i hi
  have : numOk L U x i = true := by
    refine withinB_iff.2 fun j _ => ?_
    show max (prevX x i) (L i) ≤ x i ∧ x i ≤ U i
    cases i with
    | zero => simp only [prevX]; omega
    | succ k => have := c.inc k hi; simp only [prevX]; omega
  rw [this] at hb; cases hb

/-! the weights -/
theorem wIxF_spec {n : Nat} {D : Nat → Int} {dip : Int} : ∀ f i, n ≤ f + i → i + 1 ≤ n → (i < wIxF n D dip f i → D (wIxF n D dip f i - 1) < dip) ∧ (wIxF n D dip f i + 1 = n ∨ dip ≤ D (wIxF n D dip f i))
  | 0, i, hf, h => by omega
  | f + 1, i, hf, h => by
    simp only [wIxF]
    split
    · rename_i hc
      have := wIxF_spec (n := n) (D := D) (dip := dip) f (i + 1) (by omega) (by omega)
      refine ⟨fun _ => ?_, this.2⟩
      by_cases e : i + 1 < wIxF n D dip f (i + 1)
      · exact this.1 e
      · have := wIxF_rng (n := n) (D := D) (dip := dip) f (i + 1) (by omega)
        have e2 : wIxF n D dip f (i + 1) = i + 1 := by omega
        rw [e2]; exact hc.2
    · rename_i hc
      exact ⟨fun hh => absurd hh (Nat.lt_irrefl _), by omega⟩
/-- the dip lies between the rows -/
theorem wIx_between {n : Nat} {D L U : Nat → Int} {pr dip : Int} (t : TankOk n D L U pr) (h : D 0 ≤ dip ∧ dip ≤ D (n - 1)) : D (wIx n D dip - 1) ≤ dip ∧ dip ≤ D (wIx n D dip) := by
  obtain ⟨h1, h2⟩ := wIxF_spec (n := n) (D := D) (dip := dip) n 1 (by omega) (by have := t.n2; omega)
  obtain ⟨h3, h4⟩ := wIx_rng (n := n) (D := D) (dip := dip) t.n2
  change (1 < wIx n D dip → D (wIx n D dip - 1) < dip) at h1
  change (wIx n D dip + 1 = n ∨ dip ≤ D (wIx n D dip)) at h2
  constructor
  · by_cases e : 1 < wIx n D dip
    · exact Int.le_of_lt (h1 e)
    · have : wIx n D dip = 1 := by omega
      rw [this]; exact h.1
  · rcases h2 with e | e
    · have : wIx n D dip = n - 1 := by omega
      rw [this]; exact h.2
    · exact e
theorem sumTo_two {x : Nat → Int} {a : Nat} {p q : Int} : ∀ n, sumTo (upd (upd (fun _ => 0) a p) (a + 1) q) x n = (if a < n then p * x a else 0) + (if a + 1 < n then q * x (a + 1) else 0)
  | 0 => by simp [sumTo]
  | n + 1 => by
    simp only [sumTo]
    rw [sumTo_two n]
    by_cases h1 : n = a
    · subst h1
      rw [if_neg (Nat.lt_irrefl n), if_neg (by omega), if_pos (by omega), if_neg (by omega)]
      simp [upd]
    · by_cases h2 : n = a + 1
      · subst h2
        rw [if_pos (by omega), if_neg (by omega), if_pos (by omega), if_pos (by omega)]
        simp [upd]
      · have : upd (upd (fun _ => 0) a p) (a + 1) q n = 0 := by simp [upd, h1, h2]
        rw [this, Int.zero_mul, Int.add_zero]
        by_cases h3 : a < n
        · have h4 : a + 1 < n := by omega
          have h5 : a < n + 1 := by omega
          have h6 : a + 1 < n + 1 := by omega
          simp only [h3, h4, h5, h6, if_true]
        · rw [if_neg h3, if_neg (by omega), if_neg (by omega), if_neg (by omega)]
/-- the litres below a dip: a number, and by what it is divided -/
def belN (n : Nat) (D : Nat → Int) (x : Nat → Int) (dip : Int) : Int := (D (wIx n D dip) - dip) * x (wIx n D dip - 1) + (dip - D (wIx n D dip - 1)) * x (wIx n D dip)
theorem sum_weigh {n : Nat} {D x : Nat → Int} {dip : Int} (hn : 2 ≤ n) : sumTo (weighW n D dip) x n = belN n D x dip := by
  obtain ⟨h3, h4⟩ := wIx_rng (n := n) (D := D) (dip := dip) hn
  unfold weighW belN
  obtain ⟨a, ha⟩ : ∃ a, wIx n D dip = a + 1 := ⟨wIx n D dip - 1, by omega⟩
  rw [ha]
  have : a + 1 - 1 = a := by omega
  rw [this, sumTo_two, if_pos (by omega), if_pos (by omega)]
theorem weighW_rng {n : Nat} {D L U : Nat → Int} {pr dip : Int} (t : TankOk n D L U pr) (h : D 0 ≤ dip ∧ dip ≤ D (n - 1)) (k : Nat) : 0 ≤ weighW n D dip k ∧ weighW n D dip k ≤ 4000 := by
  obtain ⟨h1, h2⟩ := wIx_between t h
  obtain ⟨h3, h4⟩ := wIx_rng (n := n) (D := D) (dip := dip) t.n2
  have d1 := t.dip (wIx n D dip) (by omega)
  have d2 := t.dip (wIx n D dip - 1) (by omega)
  unfold weighW
  simp only [upd]
  split
  · omega
  · split
    · omega
    · omega
theorem weighD_rng {n : Nat} {D L U : Nat → Int} {pr dip : Int} (t : TankOk n D L U pr) : 0 < weighD n D dip ∧ weighD n D dip ≤ 4000 := by
  obtain ⟨h3, h4⟩ := wIx_rng (n := n) (D := D) (dip := dip) t.n2
  have d1 := t.dip (wIx n D dip) (by omega)
  have d2 := t.dip (wIx n D dip - 1) (by omega)
  have d3 := t.lt (wIx n D dip - 1) (wIx n D dip) (by omega) (by omega)
  unfold weighD
  omega
theorem mul_rng {a b A B : Int} (ha : 0 ≤ a ∧ a ≤ A) (hb : 0 ≤ b ∧ b ≤ B) : 0 ≤ a * b ∧ a * b ≤ A * B :=
  ⟨Int.mul_nonneg ha.1 hb.1, Int.mul_le_mul ha.2 hb.2 hb.1 (by omega)⟩
end Go.Proofs.Ytcocmbccfikmhaa
set_option linter.unusedSimpArgs false
set_option linter.unusedVariables false
namespace Go.Proofs.Ytcocmbccfikmhaa
open Go.Sym
/-- what Below answers -/
def belowV (n : Nat) (D L U : Nat → Int) (pr : Int) (m : Nat) (x : Nat → Int) (dip : Int) : Value :=
  if chartE n D L U pr m x ≠ 0 then .tuple #[.agg #[.int .i64 0, .int .i64 0], .int .i64 (chartE n D L U pr m x)]
  else if ¬ (D 0 ≤ dip ∧ dip ≤ D (n - 1)) then .tuple #[.agg #[.int .i64 0, .int .i64 0], .int .i64 3]
  else .tuple #[.agg (fracL (belN n D x dip) (weighD n D dip)).toArray, .int .i64 0]
theorem belowV_flat {n m : Nat} {D L U x : Nat → Int} {pr dip : Int} : flat (belowV n D L U pr m x dip) = true := by
  unfold belowV; split
  · rfl
  · split <;> rfl
theorem bl29_0 : abuild Try.prog 29 [] = some (.agg #[.int .i64 0, .int .i64 0]) := by kernel_rfl
theorem fracL_len {a b : Int} : (fracL a b).length = 2 := rfl

set_option maxRecDepth 100000 in
theorem below10 (I : Nat → Option Obj) {h : H} {v cv : Value} {n m : Nat} {D L U x : Nat → Int} {pr dip : Int} (hv : Rows I v n D L U) (hcv : ∀ N, closedV (okN N) v = true) (hx : Sees I h cv m x) :
    Snd Try.prog I (.func 10) [.agg #[v, .int .i64 pr], cv, .int .i64 dip] h (belowV n D L U pr m x dip) h := by
  have hv0 := hv
  obtain ⟨q, c, rfl, hn, hq⟩ := hv
  refine Snd_run0 (rs := [.cell 6 29, .tmp 7]) 600 Try.func10 (by kernel_rfl) rfl Try.ntmps10 rfl belowV_flat ?_
  simp -implicitDefEqProofs only [sB, Nat.reduceAdd, Nat.reduceSub, yieldL, popK, flat, nptr, Value.cells, H.new, eq_self, Int.reduceEq, Int.reduceLT, Int.reduceLE, Nat.reduceEqDiff, Nat.reduceLeDiff, thenQ, ContK, ty2, ty3, ty4, ty5, ty22, ty24, ty25, ty29, ty30, ty64, ty78, ty81, sl25_1, bs25_1, unk1, Bool.not_true, Bool.not_false, decide_true, decide_false, bl29, bl29_0, st29, st24, st81, fracL_len]
  refine RunCall_of (checkChart21 I hv0 (hx.app _)) ?_
  by_cases he : chartE n D L U pr m x = 0
  · have ch := chart_ok he
    have t := ch.tank
    have n2 := t.n2
    have n16 := t.n16
    obtain ⟨id, off, rfl, hr⟩ := hq (by omega)
    have hw1 : IntKind.i64.wrap ((n : Int) - 1) = ((n - 1 : Nat) : Int) := by rw [wrap_i64 (by omega) (by omega)]; omega
    have h00 : (0 : Int) ≤ 0 ∧ (0 : Int) < (n : Int) := ⟨by omega, by omega⟩
    have h01 : (0 : Int) ≤ ((n - 1 : Nat) : Int) ∧ ((n - 1 : Nat) : Int) < (n : Int) := ⟨by omega, by omega⟩
    have r0 := fun h => row_D (hr h 0 (by omega))
    have r1 := fun h => row_D (hr h (n - 1) (by omega))
    simp only [Nat.zero_mul, Nat.add_zero] at r0
    rw [he]
    simp -implicitDefEqProofs only [sB, Nat.reduceAdd, Nat.reduceSub, yieldL, popK, flat, nptr, Value.cells, H.new, eq_self, Int.reduceEq, Int.reduceLT, Int.reduceLE, Nat.reduceEqDiff, Nat.reduceLeDiff, thenQ, ContK, ty2, ty3, ty4, ty5, ty22, ty24, ty25, ty29, ty30, ty64, ty78, ty81, sD, mixT, isAlloc, ridOf, blockOf, sl25_1, bs25_1, unk1, Bool.not_true, Bool.not_false, decide_true, decide_false, bl29, bl29_0, st29, st24, st81, fracL_len, hw1, h00, h01, r0, r1, Int.toNat_zero, Nat.zero_mul]
    refine RunDC_quiet (within40 I (Sees.one (k := 2) (c := 1) (e := 2) (a := dip) rfl)) rfl ?_
    by_cases hw : D 0 ≤ dip ∧ dip ≤ D (n - 1)
    · have hw' : withinB (D 0) (D (n - 1)) 1 (one1 dip) = true := by rw [within_one]; simp [hw]
      simp -implicitDefEqProofs only [sB, Nat.reduceAdd, Nat.reduceSub, yieldL, popK, flat, nptr, Value.cells, H.new, eq_self, Int.reduceEq, Int.reduceLT, Int.reduceLE, Nat.reduceEqDiff, Nat.reduceLeDiff, thenQ, ContK, ty2, ty3, ty4, ty5, ty22, ty24, ty25, ty29, ty30, ty64, ty78, ty81, sD, mixT, isAlloc, ridOf, blockOf, sl25_1, bs25_1, unk1, Bool.not_true, Bool.not_false, decide_true, decide_false, bl29, bl29_0, st29, st24, st81, fracL_len, hw']
      refine ⟨drawOk_ren (fun _ => 0) rfl (by kernel_rfl), ?_⟩
      refine RunCall_of (newGauge41 I hv0 hcv n16) ?_
      simp -implicitDefEqProofs only [sB, Nat.reduceAdd, Nat.reduceSub, yieldL, popK, flat, nptr, Value.cells, H.new, eq_self, Int.reduceEq, Int.reduceLT, Int.reduceLE, Nat.reduceEqDiff, Nat.reduceLeDiff, thenQ, ContK, ty2, ty3, ty4, ty5, ty22, ty24, ty25, ty29, ty30, ty64, ty78, ty81, sl25_1, bs25_1, unk1, Bool.not_true, Bool.not_false, decide_true, decide_false, bl29, bl29_0, st29, st24, st81, fracL_len, len_assoc]
      have hm : m = n := ch.len
      subst hm
      have d0 := t.dip 0 (by omega)
      have d1 := t.dip (m - 1) (by omega)
      refine RunCall_of (weigh42 (lo := cut m L) (hi := cut m U) I hv0 ⟨n2, n16⟩ t.dip ⟨by omega, by omega⟩ (by rw [get_k]; rfl)) ?_
      have hx100 : ∀ k, k < m → 0 ≤ x k ∧ x k ≤ 100000 := fun k hk => by
        have := ch.rng k hk
        have := t.lit k hk
        omega
      have hprod : ∀ k, k < m → 0 ≤ weighW m D dip k * x k ∧ weighW m D dip k * x k ≤ 4000 * 100000 := fun k hk => mul_rng (weighW_rng t hw k) (hx100 k hk)
      have hsum := sumTo_le (w := weighW m D dip) (x := x) (B := 4000 * 100000) (n := m) (fun k hk => by have := hprod k hk; omega) m (Nat.le_refl _)
      have hpos : 0 ≤ sumTo (weighW m D dip) x m := by
        rw [sum_weigh n2]
        obtain ⟨b1, b2⟩ := wIx_between t hw
        obtain ⟨b3, b4⟩ := wIx_rng (n := m) (D := D) (dip := dip) n2
        unfold belN
        have := Int.mul_nonneg (show 0 ≤ D (wIx m D dip) - dip by omega) (hx100 (wIx m D dip - 1) (by omega)).1
        have := Int.mul_nonneg (show 0 ≤ dip - D (wIx m D dip - 1) by omega) (hx100 (wIx m D dip) (by omega)).1
        omega
      have hd := weighD_rng (dip := dip) t
      simp -implicitDefEqProofs only [sB, Nat.reduceAdd, Nat.reduceSub, yieldL, popK, flat, nptr, Value.cells, H.new, eq_self, Int.reduceEq, Int.reduceLT, Int.reduceLE, Nat.reduceEqDiff, Nat.reduceLeDiff, thenQ, ContK, ty2, ty3, ty4, ty5, ty22, ty24, ty25, ty29, ty30, ty64, ty78, ty81, sl25_1, bs25_1, unk1, Bool.not_true, Bool.not_false, decide_true, decide_false, bl29, bl29_0, st29, st24, st81, fracL_len, len_assoc, weighV]
      refine RunCall_of (sum44 I (hx.app _) n16 (fun k hk => by have := hprod k hk; omega)) ?_
      simp -implicitDefEqProofs only [sB, Nat.reduceAdd, Nat.reduceSub, yieldL, popK, flat, nptr, Value.cells, H.new, eq_self, Int.reduceEq, Int.reduceLT, Int.reduceLE, Nat.reduceEqDiff, Nat.reduceLeDiff, thenQ, ContK, ty2, ty3, ty4, ty5, ty22, ty24, ty25, ty29, ty30, ty64, ty78, ty81, sl25_1, bs25_1, unk1, Bool.not_true, Bool.not_false, decide_true, decide_false, bl29, bl29_0, st29, st24, st81, fracL_len, len_assoc]
      refine RunCall_of (least43 I ⟨hpos, by omega⟩ ⟨hd.1, by omega⟩) ?_
      simp -implicitDefEqProofs only [sB, Nat.reduceAdd, Nat.reduceSub, yieldL, popK, flat, nptr, Value.cells, H.new, eq_self, Int.reduceEq, Int.reduceLT, Int.reduceLE, Nat.reduceEqDiff, Nat.reduceLeDiff, thenQ, ContK, ty2, ty3, ty4, ty5, ty22, ty24, ty25, ty29, ty30, ty64, ty78, ty81, sl25_1, bs25_1, unk1, Bool.not_true, Bool.not_false, decide_true, decide_false, bl29, bl29_0, st29, st24, st81, fracL_len, len_assoc, fracL]
      refine ⟨⟨_, rfl⟩, ?_⟩
      unfold belowV
      rw [if_neg (by rw [he]; simp), if_neg (by simpa using hw), sum_weigh n2]; rfl
    · have hw' : withinB (D 0) (D (n - 1)) 1 (one1 dip) = false := by rw [within_one]; simp; omega
      simp -implicitDefEqProofs only [sB, Nat.reduceAdd, Nat.reduceSub, yieldL, popK, flat, nptr, Value.cells, H.new, eq_self, Int.reduceEq, Int.reduceLT, Int.reduceLE, Nat.reduceEqDiff, Nat.reduceLeDiff, thenQ, ContK, ty2, ty3, ty4, ty5, ty22, ty24, ty25, ty29, ty30, ty64, ty78, ty81, sD, mixT, isAlloc, ridOf, blockOf, sl25_1, bs25_1, unk1, Bool.not_true, Bool.not_false, decide_true, decide_false, bl29, bl29_0, st29, st24, st81, fracL_len, hw', belowV, he, hw, ne_eq, not_true_eq_false, not_false_eq_true]
      exact ⟨drawOk_ren (fun _ => 0) rfl (by kernel_rfl), _, rfl⟩
  · simp -implicitDefEqProofs only [sB, Nat.reduceAdd, Nat.reduceSub, yieldL, popK, flat, nptr, Value.cells, H.new, eq_self, Int.reduceEq, Int.reduceLT, Int.reduceLE, Nat.reduceEqDiff, Nat.reduceLeDiff, thenQ, ContK, ty2, ty3, ty4, ty5, ty22, ty24, ty25, ty29, ty30, ty64, ty78, ty81, sl25_1, bs25_1, unk1, Bool.not_true, Bool.not_false, decide_true, decide_false, bl29, bl29_0, st29, st24, st81, fracL_len, he, belowV, ne_eq, not_false_eq_true]
    first | exact ⟨⟨_, rfl⟩, rfl⟩ | exact ⟨_, rfl⟩
end Go.Proofs.Ytcocmbccfikmhaa
