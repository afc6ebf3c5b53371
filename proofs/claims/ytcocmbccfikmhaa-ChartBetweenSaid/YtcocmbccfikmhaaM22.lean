/- ChartBetween: plain facts (own texts put together: C40) -/
import Derived.Test.YtcocmbccfikmhaaM21
import Derived.Test.YtcocmbccfikmhaaM16
import Derived.Test.YtcocmbccfikmhaaM10
import Derived.Test.YtcocmbccfikmhaaM4
set_option linter.unusedSimpArgs false
set_option linter.unusedVariables false
namespace Go.Proofs.Ytcocmbccfikmhaa
open Go.Sym
theorem gcdI_dvd : ∀ (f : Nat) (a b : Int), b.natAbs < f → 0 ≤ a → 0 ≤ b → gcdI a b ∣ a ∧ gcdI a b ∣ b
  | 0, a, b, h, _, _ => by omega
  | f + 1, a, b, h, ha, hb => by
    by_cases hz : b = 0
    · subst hz
      rw [gcdI_zero]
      exact ⟨Int.dvd_refl a, Int.dvd_zero a⟩
    · rw [gcdI_step ha hb hz]
      obtain ⟨h1, h2⟩ := tmod_lt' ha hb hz
      obtain ⟨g1, g2⟩ := gcdI_dvd f b (a.tmod b) (by omega) hb h1
      refine ⟨?_, g1⟩
      have e := Int.mul_tdiv_add_tmod a b
      have h3 := Int.dvd_add (Int.dvd_trans g1 (Int.dvd_mul_right b (a.tdiv b))) g2
      rwa [e] at h3
/-- a fraction in least terms: its parts -/
theorem frac_parts {a b : Int} (ha : 0 ≤ a) (hb : 0 < b) : ∃ p q, a.tdiv (gcdI a b) = p ∧ b.tdiv (gcdI a b) = q ∧ 0 ≤ p ∧ 1 ≤ q ∧ (q = 1 → a = p * b) ∧ a = p * gcdI a b ∧ b = q * gcdI a b := by
  obtain ⟨g1, g2⟩ := gcdI_pos' ha hb
  obtain ⟨⟨p, hp⟩, ⟨q, hq⟩⟩ := gcdI_dvd _ a b (Nat.lt_succ_self _) ha (by omega)
  generalize hg : gcdI a b = g at *
  have e1 : a.tdiv g = p := by rw [hp]; exact Int.mul_tdiv_cancel_left p (by omega)
  have e2 : b.tdiv g = q := by rw [hq]; exact Int.mul_tdiv_cancel_left q (by omega)
  have hp0 : 0 ≤ p := by
    refine Classical.byContradiction fun hc => ?_
    have := Int.mul_neg_of_pos_of_neg g1 (show p < 0 by omega)
    omega
  have hq1 : 1 ≤ q := by
    refine Classical.byContradiction fun hc => ?_
    have := Int.mul_nonpos_of_nonneg_of_nonpos (show 0 ≤ g by omega) (show q ≤ 0 by omega)
    omega
  refine ⟨p, q, e1, e2, hp0, hq1, fun h => ?_, by rw [Int.mul_comm]; exact hp, by rw [Int.mul_comm]; exact hq⟩
  subst h
  rw [Int.mul_one] at hq
  rw [hq, Int.mul_comm]; exact hp
section
variable {n : Nat} {D L U x : Nat → Int} {pr : Int}
theorem chart_tight {m : Nat} (c : ChartOk n D L U pr m x) {i : Nat} (hi : i < n) : rmax L i ≤ x i ∧ x i ≤ rmin U n i := by
  obtain ⟨⟨j, h2, h3⟩, h4⟩ := rmax_spec L i
  obtain ⟨⟨k, g1, g2, g3⟩, g4⟩ := rmin_spec U n _ i rfl hi
  have := c.rng j (by omega)
  have := c.rng k g2
  have := mono_of c.inc j i h2 hi
  have := mono_of c.inc i k g1 g2
  omega
theorem belN_mono {y : Nat → Int} {d : Int} (t : TankOk n D L U pr) (hd : D 0 ≤ d ∧ d ≤ D (n - 1)) (h : ∀ i, i < n → x i ≤ y i) : belN n D x d ≤ belN n D y d := by
  obtain ⟨w1, w2⟩ := wIx_rng (n := n) (D := D) (dip := d) t.n2
  obtain ⟨w3, w4⟩ := wIx_between t hd
  unfold belN
  have h1 : (D (wIx n D d) - d) * x (wIx n D d - 1) ≤ (D (wIx n D d) - d) * y (wIx n D d - 1) := Int.mul_le_mul_of_nonneg_left (h _ (by omega)) (by omega)
  have h2 : (d - D (wIx n D d - 1)) * x (wIx n D d) ≤ (d - D (wIx n D d - 1)) * y (wIx n D d) := Int.mul_le_mul_of_nonneg_left (h _ (by omega)) (by omega)
  omega
theorem belN_const {d k : Int} : belN n D (fun _ => k) d = weighD n D d * k := by
  unfold belN weighD
  rw [← Int.add_mul]; congr 1; omega
theorem belN_rng {d : Int} (t : TankOk n D L U pr) (hd : D 0 ≤ d ∧ d ≤ D (n - 1)) (h : ∀ i, i < n → 0 ≤ x i ∧ x i ≤ 100000) : 0 ≤ belN n D x d ∧ belN n D x d ≤ weighD n D d * 100000 := by
  have h1 := belN_mono (x := fun _ => 0) (y := x) t hd (fun i hi => (h i hi).1)
  have h2 := belN_mono (x := x) (y := fun _ => 100000) t hd (fun i hi => (h i hi).2)
  rw [belN_const] at h1 h2
  omega
/-- more litres, no lesser dips -/
theorem over_less {A : Nat → Int} {l l' d : Int} (h : l ≤ l') (hW : 0 < weighD n D d) : overV n D A l' d ≤ overV n D A l d := by
  unfold overV
  have := Int.mul_le_mul_of_nonneg_left h (show 0 ≤ weighD n D d by omega)
  omega
theorem dFrom_mono {l l' : Int} (t : TankOk n D L U pr) (h : l ≤ l') : dFrom n D U l ≤ dFrom n D U l' := by
  have f1 := dFrom_rng (l := l) t
  have f2 := dFrom_rng (l := l') t
  by_cases e : dFrom n D U l' = D (n - 1) + 1
  · omega
  · have h1 := dFrom_iff (l := l') t (dFrom n D U l') (by omega) (by omega)
    have h2 := dFrom_iff (l := l) t (dFrom n D U l') (by omega) (by omega)
    rw [decide_eq_true (Int.le_refl _), okHi_iff] at h1
    have h3 : okHi n D U l (dFrom n D U l') = true := by
      rw [okHi_iff]
      have := over_less (A := fun j => rmin U n j) h (weighD_rng (dip := dFrom n D U l') t).1
      omega
    rw [h3] at h2
    exact of_decide_eq_true h2.symm
theorem dTo_mono {l l' : Int} (t : TankOk n D L U pr) (h : l ≤ l') : dTo n D L l ≤ dTo n D L l' := by
  have f1 := dTo_rng (l := l) t
  have f2 := dTo_rng (l := l') t
  by_cases e : dTo n D L l' = D (n - 1) + 1
  · omega
  · have h1 := dTo_iff (l := l') t (dTo n D L l') (by omega) (by omega)
    have h2 := dTo_iff (l := l) t (dTo n D L l') (by omega) (by omega)
    rw [decide_eq_true (Int.le_refl _), okLo_iff] at h1
    have h3 : okLo n D L l (dTo n D L l') = true := by
      rw [okLo_iff]
      have := over_less (A := fun j => rmax L j) h (weighD_rng (dip := dTo n D L l') t).1
      omega
    rw [h3] at h2
    exact of_decide_eq_true h2.symm
/-- a chart that has just l litres below a dip: the dip is in the range -/
theorem dips_has {m : Nat} {l d : Int} (c : ChartOk n D L U pr m x) (hd : D 0 ≤ d ∧ d ≤ D (n - 1)) (h : belN n D x d = l * weighD n D d) : dFrom n D U l ≤ d ∧ d < dTo n D L l := by
  have t := c.tank
  have h1 := belN_mono (x := fun j => rmax L j) (y := x) t hd (fun i hi => (chart_tight c hi).1)
  have h2 := belN_mono (x := x) (y := fun j => rmin U n j) t hd (fun i hi => (chart_tight c hi).2)
  have h3 := dFrom_iff (l := l) t d hd.1 hd.2
  have h4 := dTo_iff (l := l) t d hd.1 hd.2
  have hm := Int.mul_comm l (weighD n D d)
  have h5 : okHi n D U l d = true := by rw [okHi_iff]; unfold overV; omega
  have h6 : ¬ okLo n D L l d = true := by rw [okLo_iff]; unfold overV; omega
  rw [h5] at h3
  have h7 := of_decide_eq_true h3.symm
  refine ⟨h7, ?_⟩
  rw [h4, decide_eq_true_iff] at h6
  omega
theorem dipsV_fine {l : Int} (t : TankOk n D L U pr) (hc : clashP n L U = none) (hl : 0 ≤ l ∧ l ≤ 100000) : dipsV n D L U pr l = if dTo n D L l ≤ dFrom n D U l then rgV 0 0 17 else rgV (dFrom n D U l) (dTo n D L l - 1) 0 := by
  unfold dipsV
  rw [if_neg (by rw [tank_err t]; simp), if_neg (by omega), if_neg (by rw [tight_iff t, hc]; simp)]
end
end Go.Proofs.Ytcocmbccfikmhaa
