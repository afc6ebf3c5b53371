/- LeakTested: plain laws about tests (own texts put together: D15 D16 D17) -/
import Derived.Test.YtpgignenhiddkaaM12
import Derived.Test.YtpgignenhiddkaaM4
set_option linter.unusedSimpArgs false
set_option linter.unusedVariables false
namespace Go.Proofs.Ytpgignenhiddkaa
open Go.Sym
attribute [local irreducible] Run RunS RunG RunDG RunDS RunDE RunDA RunDC RunCall RunX RunB
/-- how many of the first k are so, and which -/
def cB (b : Nat → Bool) : Nat → Nat
  | 0 => 0
  | k + 1 => if b k then cB b k + 1 else cB b k
def fB (b : Nat → Bool) : Nat → Nat → Int
  | 0 => fun _ => 0
  | k + 1 => if b k then upd (fB b k) (cB b k) k else fB b k
theorem cB_yes {b : Nat → Bool} {k : Nat} (h : b k = true) : cB b (k + 1) = cB b k + 1 := by show (if b k then _ else _) = _; rw [h]; rfl
theorem cB_no {b : Nat → Bool} {k : Nat} (h : b k = false) : cB b (k + 1) = cB b k := by show (if b k then _ else _) = _; rw [h]; rfl
theorem fB_yes {b : Nat → Bool} {k : Nat} (h : b k = true) : fB b (k + 1) = upd (fB b k) (cB b k) k := by show (if b k then _ else _) = _; rw [h]; rfl
theorem fB_no {b : Nat → Bool} {k : Nat} (h : b k = false) : fB b (k + 1) = fB b k := by show (if b k then _ else _) = _; rw [h]; rfl
theorem cB_le (b : Nat → Bool) : ∀ k, cB b k ≤ k
  | 0 => Nat.le_refl _
  | k + 1 => by
    have := cB_le b k
    cases h : b k with
    | true => rw [cB_yes h]; omega
    | false => rw [cB_no h]; omega
theorem fB_row {b : Nat → Bool} {k : Nat} (h : b k = true) : arrL (cB b k) (fB b k) = arrL (cB b k) (fB b (k + 1)) := by
  refine arrL_ext fun i hi => ?_
  rw [fB_yes h]; unfold upd; rw [if_neg (by omega)]
theorem fB_at {b : Nat → Bool} {k : Nat} (h : b k = true) : fB b (k + 1) (cB b k) = k := by
  rw [fB_yes h]; unfold upd; rw [if_pos rfl]
theorem cS_cB (T : TD) : ∀ k, cS T k = cB (sus T) k
  | 0 => rfl
  | k + 1 => by show (if sus T k then _ else _) = (if sus T k then _ else _); rw [cS_cB T k]
theorem fS_fB (T : TD) : ∀ k, fS T k = fB (sus T) k
  | 0 => rfl
  | k + 1 => by show (if sus T k then _ else _) = (if sus T k then _ else _); rw [cS_cB T k, fS_fB T k]
theorem fB_in {b : Nat → Bool} : ∀ k j, j < cB b k → ∃ a : Nat, fB b k j = a ∧ a < k ∧ b a = true
  | 0, j, h => absurd h (Nat.not_lt_zero j)
  | k + 1, j, h => by
    cases hb : b k with
    | true =>
      rw [cB_yes hb] at h
      rw [fB_yes hb]
      unfold upd
      by_cases e : j = cB b k
      · rw [if_pos e]; exact ⟨k, rfl, by omega, hb⟩
      · rw [if_neg e]
        obtain ⟨a, h1, h2, h3⟩ := fB_in (b := b) k j (by omega)
        exact ⟨a, h1, by omega, h3⟩
    | false =>
      rw [cB_no hb] at h
      rw [fB_no hb]
      obtain ⟨a, h1, h2, h3⟩ := fB_in k j h
      exact ⟨a, h1, by omega, h3⟩
theorem fB_up {b : Nat → Bool} : ∀ k j, j < cB b k → prevI (fB b k) j < fB b k j
  | 0, j, h => absurd h (Nat.not_lt_zero j)
  | k + 1, j, h => by
    cases hb : b k with
    | true =>
      rw [cB_yes hb] at h
      rw [fB_yes hb]
      have hp : ∀ i, i ≤ cB b k → prevI (upd (fB b k) (cB b k) k) i = prevI (fB b k) i := by
        intro i hi
        cases i with
        | zero => rfl
        | succ i => show upd _ _ _ i = _; unfold upd; rw [if_neg (by omega)]; rfl
      rw [hp j (by omega)]
      unfold upd
      by_cases e : j = cB b k
      · rw [if_pos e]
        cases hj : j with
        | zero => show (-1 : Int) < (k : Int); omega
        | succ i =>
          show fB b k i < _
          obtain ⟨a, h1, h2, _⟩ := fB_in (b := b) k i (by omega)
          rw [h1]; omega
      · rw [if_neg e]; exact fB_up k j (by omega)
    | false =>
      rw [cB_no hb] at h
      rw [fB_no hb]
      exact fB_up k j h
theorem fB_sec {b : Nat → Bool} {pn : Nat} (h : cB b pn ≠ 0) : secB pn (cB b pn) (fB b pn) = true := by
  unfold secB
  rw [Bool.and_eq_true]
  refine ⟨decide_eq_true (by omega), namesB_ok fun i hi => decide_eq_true ⟨fB_up pn i hi, ?_⟩⟩
  obtain ⟨a, h1, h2, _⟩ := fB_in pn i hi
  rw [h1]; omega
theorem fB_has {b : Nat → Bool} : ∀ k a, a < k → b a = true → ∃ j, j < cB b k ∧ fB b k j = (a : Int)
  | 0, a, h, _ => by omega
  | k + 1, a, h, hba => by
    cases hb : b k with
    | true =>
      rw [cB_yes hb, fB_yes hb]
      unfold upd
      by_cases e : a = k
      · subst e; exact ⟨cB b a, by omega, by rw [if_pos rfl]⟩
      · obtain ⟨j, h1, h2⟩ := fB_has k a (by omega) hba
        exact ⟨j, by omega, by rw [if_neg (by omega)]; exact h2⟩
    | false =>
      rw [cB_no hb, fB_no hb]
      by_cases e : a = k
      · subst e; rw [hb] at hba; cases hba
      · exact fB_has k a (by omega) hba
theorem inB_iff {m : Nat} {x : Nat → Int} {a : Int} : inB m x a = true ↔ ∃ j, j < m ∧ x j = a := by
  unfold inB
  rw [anyN_iff]
  exact ⟨fun ⟨j, h1, h2⟩ => ⟨j, h1, of_decide_eq_true h2⟩, fun ⟨j, h1, h2⟩ => ⟨j, h1, decide_eq_true h2⟩⟩
theorem inB_fB {b : Nat → Bool} {k a : Nat} : inB (cB b k) (fB b k) a = true ↔ a < k ∧ b a = true := by
  rw [inB_iff]
  constructor
  · rintro ⟨j, h1, h2⟩
    obtain ⟨a', e, h3, h4⟩ := fB_in k j h1
    rw [h2] at e
    have : a' = a := by omega
    subst this; exact ⟨h3, h4⟩
  · rintro ⟨h1, h2⟩; exact fB_has k a h1 h2
theorem cB_mono {b b' : Nat → Bool} (h : ∀ a, b' a = true → b a = true) : ∀ k, cB b' k ≤ cB b k
  | 0 => Nat.le_refl _
  | k + 1 => by
    have ih := cB_mono h k
    cases hb : b' k with
    | true => rw [cB_yes hb, cB_yes (h k hb)]; omega
    | false =>
      rw [cB_no hb]
      cases hb2 : b k with
      | true => rw [cB_yes hb2]; omega
      | false => rw [cB_no hb2]; exact ih
theorem cB_all {b : Nat → Bool} (h : ∀ a, b a = true) : ∀ k, cB b k = k
  | 0 => rfl
  | k + 1 => by rw [cB_yes (h k), cB_all h k]
/-- one test more -/
def pushT (T : TD) (P : Option Addr) (m C : Nat) (x : Nat → Int) (lo hi : Int) : TD where
  n := T.n + 1
  P := fun i => if i = T.n then P else T.P i
  m := fun i => if i = T.n then m else T.m i
  C := fun i => if i = T.n then C else T.C i
  x := fun i => if i = T.n then x else T.x i
  lo := fun i => if i = T.n then lo else T.lo i
  hi := fun i => if i = T.n then hi else T.hi i
section
variable {T : TD} {P : Option Addr} {m C : Nat} {x : Nat → Int} {lo hi : Int}
theorem any_snoc {p : Nat → Bool} {n : Nat} : anyN p (n + 1) = true ↔ anyN p n = true ∨ p n = true := by
  rw [anyN_iff, anyN_iff]
  constructor
  · rintro ⟨i, h1, h2⟩
    by_cases e : i = n
    · subst e; exact .inr h2
    · exact .inl ⟨i, by omega, h2⟩
  · rintro (⟨i, h1, h2⟩ | h)
    · exact ⟨i, by omega, h2⟩
    · exact ⟨n, by omega, h⟩
theorem any_congr {p q : Nat → Bool} {n : Nat} (h : ∀ i, i < n → p i = q i) : anyN p n = anyN q n := by
  rw [Bool.eq_iff_iff, anyN_iff, anyN_iff]
  exact ⟨fun ⟨i, h1, h2⟩ => ⟨i, h1, by rw [← h i h1]; exact h2⟩, fun ⟨i, h1, h2⟩ => ⟨i, h1, by rw [h i h1]; exact h2⟩⟩
theorem push_inT {a i : Nat} (h : i < T.n) : inT (pushT T P m C x lo hi) a i = inT T a i := by
  unfold inT pushT; simp only; rw [if_neg (by omega), if_neg (by omega)]
theorem push_stop {a i : Nat} (h : i < T.n) : stopT (pushT T P m C x lo hi) a i = stopT T a i := by
  have e1 : (pushT T P m C x lo hi).lo i = T.lo i := by unfold pushT; simp only; rw [if_neg (by omega)]
  have e2 : (pushT T P m C x lo hi).hi i = T.hi i := by unfold pushT; simp only; rw [if_neg (by omega)]
  unfold stopT; rw [push_inT h, e1, e2]
theorem push_test {parts : Int} {i : Nat} (h : i < T.n) : testOk parts (pushT T P m C x lo hi) i = testOk parts T i := by
  unfold testOk pushT; simp only; rw [if_neg (by omega), if_neg (by omega), if_neg (by omega), if_neg (by omega)]
theorem push_cLo {a : Nat} : ∀ k, k ≤ T.n → cLo (pushT T P m C x lo hi) a k = cLo T a k
  | 0, _ => rfl
  | k + 1, h => by
    show (if inT (pushT T P m C x lo hi) a k then _ else _) = (if inT T a k then _ else _)
    rw [push_inT (by omega), push_cLo k (by omega)]
    have : (pushT T P m C x lo hi).lo k = T.lo k := by unfold pushT; simp only; rw [if_neg (by omega)]
    rw [this]
theorem push_cHi {a : Nat} : ∀ k, k ≤ T.n → cHi (pushT T P m C x lo hi) a k = cHi T a k
  | 0, _ => rfl
  | k + 1, h => by
    show (if inT (pushT T P m C x lo hi) a k then _ else _) = (if inT T a k then _ else _)
    rw [push_inT (by omega), push_cHi k (by omega)]
    have : (pushT T P m C x lo hi).hi k = T.hi k := by unfold pushT; simp only; rw [if_neg (by omega)]
    rw [this]
/-- with one test more, amounts become no more -/
theorem push_can {a : Nat} (h : canLo (pushT T P m C x lo hi) a ≤ canHi (pushT T P m C x lo hi) a) : canLo T a ≤ canLo (pushT T P m C x lo hi) a ∧ canHi (pushT T P m C x lo hi) a ≤ canHi T a := by
  unfold canLo canHi at h ⊢
  by_cases hs : anyN (stopT (pushT T P m C x lo hi) a) (pushT T P m C x lo hi).n = true
  · rw [if_pos hs, if_pos hs] at h; omega
  · rw [if_neg hs, if_neg hs]
    have hs' : ¬ anyN (stopT T a) T.n = true := by
      rw [← any_congr (fun i hi => push_stop (a := a) hi)]
      exact fun h1 => hs (any_snoc.2 (.inl h1))
    rw [if_neg hs', if_neg hs']
    show _ ≤ (if inT (pushT T P m C x lo hi) a T.n then max (cLo (pushT T P m C x lo hi) a T.n) _ else cLo (pushT T P m C x lo hi) a T.n) ∧ (if inT (pushT T P m C x lo hi) a T.n then min (cHi (pushT T P m C x lo hi) a T.n) _ else cHi (pushT T P m C x lo hi) a T.n) ≤ _
    rw [push_cLo _ (Nat.le_refl _), push_cHi _ (Nat.le_refl _)]
    constructor <;> split <;> omega
theorem push_sus {a : Nat} (h : sus (pushT T P m C x lo hi) a = true) : sus T a = true := by
  have h1 : canLo (pushT T P m C x lo hi) a ≤ canHi (pushT T P m C x lo hi) a := of_decide_eq_true h
  have h2 := push_can h1
  exact decide_eq_true (by omega)
theorem push_tests {pn : Nat} (h : testsE pn T = 0) (hn : T.n < 40) (hs : secB pn m x = true) (hl : lostB lo hi = true) : testsE pn (pushT T P m C x lo hi) = 0 := by
  have t := tests_ok h
  have h1 := t.p1
  have h2 := t.p12
  unfold testsE
  rw [if_neg (by omega), if_neg (show ¬ 40 < (pushT T P m C x lo hi).n by show ¬ 40 < T.n + 1; omega), any_none]
  · rfl
  intro i hik
  by_cases e : i < T.n
  · rw [push_test e, t.ok i e]; rfl
  · have e' : i = T.n := by have : i < T.n + 1 := hik; omega
    subst e'
    have : testOk pn (pushT T P m C x lo hi) T.n = true := by
      rw [testOk_iff]; unfold pushT; simp only [if_true]; exact ⟨hs, hl⟩
    rw [this]; rfl
/-- tests that agree with what one part loses -/
def Tr (T : TD) (who : Nat) (lost : Int) : Prop := ∀ i, i < T.n → T.lo i ≤ (if inT T who i then lost else 0) ∧ (if inT T who i then lost else 0) ≤ T.hi i
theorem Tr.push {who : Nat} {lost : Int} (t : Tr T who lost) (h : lo ≤ (if inB m x who then lost else 0) ∧ (if inB m x who then lost else 0) ≤ hi) : Tr (pushT T P m C x lo hi) who lost := by
  intro i hi'
  by_cases e : i < T.n
  · rw [push_inT e]
    have := t i e
    have e1 : (pushT T P m C x lo hi).lo i = T.lo i := by unfold pushT; simp only; rw [if_neg (by omega)]
    have e2 : (pushT T P m C x lo hi).hi i = T.hi i := by unfold pushT; simp only; rw [if_neg (by omega)]
    rw [e1, e2]; exact this
  · have e' : i = T.n := by have : i < T.n + 1 := hi'; omega
    subst e'
    unfold inT pushT; simp only [if_true]; exact h
theorem Tr.can {who : Nat} {lost : Int} (t : Tr T who lost) (h1 : 1 ≤ lost) (h2 : lost ≤ 10000000) : canLo T who ≤ lost ∧ lost ≤ canHi T who := by
  have hs : anyN (stopT T who) T.n = false := any_none fun i hi => by
    have := t i hi
    unfold stopT
    cases hb : inT T who i with
    | true => rfl
    | false =>
      rw [hb] at this
      simp only [Bool.false_eq_true, if_false] at this
      rw [Bool.not_false, Bool.true_and]
      exact decide_eq_false (by omega)
  unfold canLo canHi
  rw [hs]
  simp only [Bool.false_eq_true, if_false]
  have key : ∀ k, k ≤ T.n → cLo T who k ≤ lost ∧ lost ≤ cHi T who k := by
    intro k
    induction k with
    | zero => exact fun _ => ⟨h1, h2⟩
    | succ k ih =>
      intro hk
      have ih := ih (by omega)
      have := t k (by omega)
      show (if inT T who k then max (cLo T who k) _ else cLo T who k) ≤ _ ∧ _ ≤ (if inT T who k then min (cHi T who k) _ else cHi T who k)
      cases hb : inT T who k with
      | true => rw [hb] at this; simp only [if_true] at this ⊢; omega
      | false => simp only [Bool.false_eq_true, if_false]; exact ih
  exact key T.n (Nat.le_refl _)
end
/-- no test -/
def noT : TD := ⟨0, fun _ => none, fun _ => 0, fun _ => 0, fun _ _ => 0, fun _ => 0, fun _ => 0⟩
theorem noT_tests {pn : Nat} (h1 : 1 ≤ pn) (h2 : pn ≤ 12) : testsE pn noT = 0 := by
  unfold testsE
  rw [if_neg (by omega), if_neg (show ¬ 40 < noT.n by show ¬ 40 < 0; omega)]
  rfl
theorem noT_all {pn : Nat} : cS noT pn = pn := by
  rw [cS_cB]; exact cB_all (fun a => rfl) pn
theorem noT_tr {who : Nat} {lost : Int} : Tr noT who lost := fun i hi => absurd hi (Nat.not_lt_zero i)
/-- what Next leaves, for one section -/
theorem next_one {T : TD} {pn : Nat} {S : SD} (he : testsE pn T = 0) (hn : S.n = 1) (hs : secB pn (S.m 0) (S.x 0) = true) : nextV pn T S = tupI 0 (leftS T pn S 0) 0 := by
  unfold nextV
  rw [if_neg (by rw [he]; simp), if_neg (by omega), hn, any_none, if_neg (by simp), Int.toNat_natCast]
  · rfl
  · intro i hi
    have : i = 0 := by omega
    subst this
    unfold secOk; rw [hs]; rfl
end Go.Proofs.Ytpgignenhiddkaa
set_option linter.unusedSimpArgs false
set_option linter.unusedVariables false
namespace Go.Proofs.Ytpgignenhiddkaa
open Go.Sym
attribute [local irreducible] Run RunS RunG RunDG RunDS RunDE RunDA RunDC RunCall RunX RunB
/-- tests: cells -/
def tcells (T : TD) : Nat → List Value
  | 0 => []
  | i + 1 => tcells T i ++ [.slice (T.P i) (T.m i) (T.C i), .int .i64 (T.lo i), .int .i64 (T.hi i)]
theorem tcells_length (T : TD) : ∀ n, (tcells T n).length = n * 3
  | 0 => rfl
  | n + 1 => by simp [tcells, tcells_length T n]; omega
theorem rd_tcells {T : TD} {n sz j : Nat} {e : TypeId} (hj : j < n) : rdB (some (.row (tcells T n) e sz)) (j * 3) 3 = some [.slice (T.P j) (T.m j) (T.C j), .int .i64 (T.lo j), .int .i64 (T.hi j)] := by
  have hl := tcells_length T n
  rw [rdB_row (by omega)]
  congr 1
  have key : ∀ n, j < n → ((tcells T n).drop (j * 3)).take 3 = [.slice (T.P j) (T.m j) (T.C j), .int .i64 (T.lo j), .int .i64 (T.hi j)] := by
    intro n
    induction n with
    | zero => intro h; omega
    | succ n ih =>
      intro h
      have hl := tcells_length T n
      unfold tcells
      by_cases e : j = n
      · subst e
        rw [List.drop_append, List.drop_eq_nil_of_le (by omega), hl, Nat.sub_self]
        rfl
      · rw [List.drop_append_of_le_length (by omega), List.take_append_of_le_length (by rw [List.length_drop]; omega)]
        exact ih (by omega)
  exact key n hj
theorem push_cells {T : TD} {P : Option Addr} {m C : Nat} {x : Nat → Int} {lo hi : Int} : ∀ k, k ≤ T.n → tcells (pushT T P m C x lo hi) k = tcells T k
  | 0, _ => rfl
  | k + 1, h => by
    unfold tcells
    rw [push_cells k (by omega)]
    unfold pushT; simp only; rw [if_neg (by omega), if_neg (by omega), if_neg (by omega), if_neg (by omega), if_neg (by omega)]
theorem push_last {T : TD} {P : Option Addr} {m C : Nat} {x : Nat → Int} {lo hi : Int} : tcells (pushT T P m C x lo hi) (T.n + 1) = tcells T T.n ++ [.slice P m C, .int .i64 lo, .int .i64 hi] := by
  show tcells _ _ ++ _ = _
  rw [push_cells _ (Nat.le_refl _)]
  unfold pushT; simp only [if_true]
/-- tests that lie in the heap -/
structure TT (h X : H) (q : Nat) (T : TD) : Prop where
  row : T.n ≠ 0 → X[q]? = some (.row (tcells T T.n) 89 3)
  pt : ∀ i, i < T.n → ∃ r, r ≠ q ∧ T.P i = some ⟨2 * (h.length + r), 0, none⟩ ∧ X[r]? = some (.row (arrL (T.m i) (T.x i)) 3 1) ∧ T.m i ≤ 12
def keeps (X Y : H) : Prop := ∀ (r : Nat) (B : Blk), X[r]? = some B → Y[r]? = some B
theorem keeps.app {X Y l : H} (h : keeps X Y) : keeps X (Y ++ l) := fun r B hr => by
  have := h r B hr
  rw [List.getElem?_append_left (List.getElem?_eq_some_iff.1 this).1]; exact this
theorem keeps.refl (X : H) : keeps X X := fun _ _ h => h
theorem keeps.trans {X Y Z : H} (h : keeps X Y) (k : keeps Y Z) : keeps X Z := fun r B hr => k r B (h r B hr)
theorem keeps.len {X Y : H} (h : keeps X Y) : X.length ≤ Y.length := by
  by_cases h0 : X.length = 0
  · omega
  · have := (List.getElem?_eq_some_iff.1 (h (X.length - 1) _ (List.getElem?_eq_getElem (by omega)))).1
    omega
theorem TT.mono {h X Y : H} {q : Nat} {T : TD} (t : TT h X q T) (k : keeps X Y) : TT h Y q T where
  row := fun hn => k _ _ (t.row hn)
  pt := fun i hi => by
    obtain ⟨r, h1, h2, h3, h4⟩ := t.pt i hi
    exact ⟨r, h1, h2, k _ _ h3, h4⟩
theorem TT.tests {I : Nat → Option Obj} {h X : H} {q : Nat} {T : TD} (t : TT h X q T) (hn : T.n ≤ 40) : Tests I (h ++ X) (slA (2 * (h.length + q)) T.n) T where
  sl := by
    by_cases h0 : T.n = 0
    · rw [h0]; exact ⟨none, 0, rfl, by omega, fun hh => by omega⟩
    · exact ⟨_, _, slA_pos h0, by omega, fun _ => ⟨_, 0, rfl, fun i hi => by
        rw [rd_k, t.row h0, Nat.zero_add]; exact rd_tcells hi⟩⟩
  pt := fun i hi => by
    obtain ⟨r, _, h2, h3, h4⟩ := t.pt i hi
    rw [h2]
    exact ⟨_, _, rfl, by omega, fun _ => ⟨_, 0, rfl, fun k hk => by
      rw [Nat.zero_add]; exact rd_arrRow h3 hk⟩⟩
set_option maxRecDepth 100000 in
theorem app64 {I : Nat → Option Obj} {h X : H} {q p : Nat} {T : TD} {P : Option Addr} {m C : Nat} {x : Nat → Int} {lo hi : Int} (t : TT h X q T) (hp : X[p]? = some (.cells [.slice P m C, .int .i64 lo, .int .i64 hi] 89)) (hm : T.n ≤ 40) :
    abi2 Try.prog I .append #[64, 64] 64 [slA (2 * (h.length + q)) T.n, .slice (some ⟨2 * (h.length + p), 0, none⟩) 1 1] (h ++ X) = some (slA (2 * (h.length + X.length)) (T.n + 1), h ++ (killL T.n X q ++ [.row (tcells (pushT T P m C x lo hi) (T.n + 1)) 89 3])) := by
  have e3 : tbytes Try.prog 89 = some 40 := by kernel_rfl
  have e4 : tzero Try.prog 89 = some (.agg #[.slice none 0 0, .int .i64 0, .int .i64 0]) := by kernel_rfl
  have e5 : rdS I (h ++ X) 3 (.slice (some ⟨2 * (h.length + p), 0, none⟩) 1 1) = some (1, [.slice P m C, .int .i64 lo, .int .i64 hi]) := by
    unfold rdS; simp only; rw [rd_k, hp, rdB_cells (by simp)]; rfl
  rw [push_last]
  exact aappend_row un64 sz89 e3 e4 ⟨rfl, by omega, by omega⟩ t.row (fun h => by rw [h]; rfl) (tcells_length T _) e5 rfl (by omega)
theorem TT.push {h X : H} {q ro : Nat} {T : TD} {m : Nat} {x : Nat → Int} {lo hi : Int} {C : Nat} (t : TT h X q T) (ho : X[ro]? = some (.row (arrL m x) 3 1)) (hm : m ≤ 12) :
    TT h (killL T.n X q ++ [.row (tcells (pushT T (some ⟨2 * (h.length + ro), 0, none⟩) m C x lo hi) (T.n + 1)) 89 3]) X.length (pushT T (some ⟨2 * (h.length + ro), 0, none⟩) m C x lo hi) where
  row := fun _ => by
    rw [List.getElem?_append_right (by rw [killL_len]; omega), killL_len, Nat.sub_self]; rfl
  pt := fun i hik => by
    have keep : ∀ r e, X[r]? = some (.row e 3 1) → (killL T.n X q ++ [.row (tcells (pushT T (some ⟨2 * (h.length + ro), 0, none⟩) m C x lo hi) (T.n + 1)) 89 3] : H)[r]? = some (.row e 3 1) ∧ r ≠ X.length := by
      intro r e hr
      have hlt := (List.getElem?_eq_some_iff.1 hr).1
      refine ⟨?_, by omega⟩
      rw [List.getElem?_append_left (by rw [killL_len]; exact hlt)]
      by_cases h0 : T.n = 0
      · unfold killL; rw [if_pos h0]; exact hr
      · rw [killL_get]; · exact hr
        intro e1; subst e1
        rw [t.row h0] at hr; cases hr
    by_cases e : i < T.n
    · obtain ⟨r, h1, h2, h3, h4⟩ := t.pt i e
      obtain ⟨k1, k2⟩ := keep r _ h3
      refine ⟨r, k2, ?_⟩
      unfold pushT; simp only; rw [if_neg (by omega), if_neg (by omega), if_neg (by omega)]
      exact ⟨h2, k1, h4⟩
    · have e' : i = T.n := by have : i < T.n + 1 := hik; omega
      subst e'
      obtain ⟨k1, k2⟩ := keep ro _ ho
      refine ⟨ro, k2, ?_⟩
      unfold pushT; simp only [if_true, true_and]
      exact ⟨k1, hm⟩
theorem TT.none {h : H} {q : Nat} {X : H} : TT h X q noT where
  row := fun h => absurd rfl h
  pt := fun i hi => absurd hi (Nat.not_lt_zero i)
end Go.Proofs.Ytpgignenhiddkaa
set_option linter.unusedSimpArgs false
set_option linter.unusedVariables false
namespace Go.Proofs.Ytpgignenhiddkaa
open Go.Sym
attribute [local irreducible] Run RunS RunG RunDG RunDS RunDE RunDA RunDC RunCall RunX RunB
def shrI (k : IntKind) (a b : Int) : Int := a.fdiv (2 ^ (min b.toNat k.bits))
def andI (k : IntKind) (a b : Int) : Int := k.wrap (BitVec.ofInt k.bits a &&& BitVec.ofInt k.bits b).toNat
theorem bin_shr {P : Program} {k yk : IntKind} {t : TypeId} {x y : Operand} {a b : Int} (hb : 0 ≤ b) : abin P .shr t x y (.int k a) (.int yk b) = some (.int k (shrI k a b)) := by
  have e : eqGuard .shr t x y (.int k a) (.int yk b) = pure () := by simp [eqGuard]
  have hb' : ¬ b < 0 := by omega
  simp [abin, flat, binOp, Op.shift, e, hb', chk, shrI]
theorem bin_and {P : Program} {k : IntKind} {t : TypeId} {x y : Operand} {a b : Int} : abin P .and t x y (.int k a) (.int k b) = some (.int k (andI k a b)) := by
  have e : eqGuard .and t x y (.int k a) (.int k b) = pure () := by simp [eqGuard]
  simp [abin, flat, binOp, Op.intBits, e, chk, andI]
theorem free_eq_bool {P : Program} {d : Nat} {e : TypeId} {a b : Bool} (h : P.underlying e = some .bool) : free P (Op.equalIn (d + 1) e (.bool a) (.bool b)) = some (a == b) := by
  simp only [Op.equalIn]
  rw [free_bind, free_underlying h]
  rfl
theorem bin_neqb {P : Program} {t : TypeId} {x y : Operand} {a b : Bool} (h : P.underlying t = some .bool) : abin P .neq t x y (.bool a) (.bool b) = some (.bool !(a == b)) := by
  have e : eqGuard .neq t x y (.bool a) (.bool b) = pure () := by simp [eqGuard]
  unfold abin
  rw [if_pos ⟨rfl, rfl⟩, e, free_bind]
  have e1 : free P (pure () : Sem Unit) = some () := rfl
  rw [e1, Option.bind_some]
  have : free P (binOp .neq t (.bool a) (.bool b)) = some (.bool !(a == b)) := by
    have e : binOp .neq t (.bool a) (.bool b) = (do pure (.bool !(← Op.equal t (.bool a) (.bool b)))) := by rfl
    rw [e, free_bind]
    have e2 : Op.equal t (.bool a) (.bool b) = Op.equalIn (9999 + 1) t (.bool a) (.bool b) := rfl
    rw [e2, free_eq_bool h]; rfl
  rw [this]; rfl
/-- which parts a section has -/
def bitB (s : Int) (p : Nat) : Bool := decide (andI .u16 (shrI .u16 s (p : Int)) 1 = 1)
theorem un5 : Try.prog.underlying 5 = some (.int .u8) := by kernel_rfl
theorem un39 : Try.prog.underlying 39 = some (.int .u16) := by kernel_rfl
theorem un3i : Try.prog.underlying 3 = some (.int .i64) := by kernel_rfl
theorem un4 : Try.prog.underlying 4 = some .bool := by kernel_rfl
theorem cv5_3 {a : Int} : aconv Try.prog 5 3 (.int .u8 a) = some (.int .i64 (IntKind.i64.wrap a)) := by
  unfold aconv convert
  rw [free_bind, free_underlying un5, Option.bind_some, free_bind, free_underlying un3i]
  rfl
theorem cv5_2 {a : Int} : aconv Try.prog 5 2 (.int .u8 a) = some (.int .i64 (IntKind.i64.wrap a)) := by
  unfold aconv convert
  rw [free_bind, free_underlying un5, Option.bind_some, free_bind, free_underlying un2]
  rfl
theorem cv39_2 {a : Int} : aconv Try.prog 39 2 (.int .u16 a) = some (.int .i64 (IntKind.i64.wrap a)) := by
  unfold aconv convert
  rw [free_bind, free_underlying un39, Option.bind_some, free_bind, free_underlying un2]
  rfl
theorem cv3_2 {a : Int} : aconv Try.prog 3 2 (.int .i64 a) = some (.int .i64 (IntKind.i64.wrap a)) := by
  unfold aconv convert
  rw [free_bind, free_underlying un3i, Option.bind_some, free_bind, free_underlying un2]
  rfl
/-- a list of numbers of a kind -/
def SeesK (k : IntKind) (I : Nat → Option Obj) (h : H) (v : Value) (n : Nat) (x : Nat → Int) : Prop :=
  ∃ p c, v = .slice p n c ∧ n ≤ 9223372036854775807 ∧ (0 < n → ∃ id off, p = some ⟨id, off, none⟩ ∧ ∀ i, i < n → rdl I h id (off + i) 1 = some [.int k (x i)])
theorem bs77_1 {h : H} {P : Option Addr} {m C : Nat} : abuildSlice Try.prog 77 1 [(0, .slice P m C)] h = some (.slice (some ⟨h.new, 0, none⟩) 1 1, h ++ [.cells [.slice P m C] 79]) := by kernel_rfl
theorem bl89 {P : Option Addr} {m C : Nat} {a b : Int} : abuild Try.prog 89 [(0, .slice P m C), (1, .agg #[.int .i64 a, .int .i64 b])] = some (.agg #[.slice P m C, .int .i64 a, .int .i64 b]) := by kernel_rfl
theorem bs64_1 {h : H} {P : Option Addr} {m C : Nat} {a b : Int} : abuildSlice Try.prog 64 1 [(0, .agg #[.slice P m C, .int .i64 a, .int .i64 b])] h = some (.slice (some ⟨h.new, 0, none⟩) 1 1, h ++ [.cells [.slice P m C, .int .i64 a, .int .i64 b] 89]) := by kernel_rfl
/-- the ends of a test -/
def tLo (e wd : Int) (i : Nat) : Int := e - wd * (i % 3 : Nat)
def tHi (e wd : Int) (i : Nat) : Int := e + wd * (i % 2 : Nat)
theorem t_rng {e wd : Int} {i : Nat} (he : 0 ≤ e ∧ e ≤ 65536) (hw : 0 ≤ wd ∧ wd ≤ 255) : (0 ≤ wd * (i % 3 : Nat) ∧ wd * (i % 3 : Nat) ≤ 510) ∧ (0 ≤ wd * (i % 2 : Nat) ∧ wd * (i % 2 : Nat) ≤ 255) := by
  have h3 : i % 3 = 0 ∨ i % 3 = 1 ∨ i % 3 = 2 := by omega
  have h2 : i % 2 = 0 ∨ i % 2 = 1 := by omega
  constructor
  · rcases h3 with h | h | h <;> rw [h] <;> simp <;> omega
  · rcases h2 with h | h <;> rw [h] <;> simp <;> omega
theorem t_lost {e wd : Int} {i : Nat} (he : 0 ≤ e ∧ e ≤ 65536) (hw : 0 ≤ wd ∧ wd ≤ 255) : lostB (tLo e wd i) (tHi e wd i) = true ∧ tLo e wd i ≤ e ∧ e ≤ tHi e wd i := by
  have := t_rng (i := i) he hw
  unfold tLo tHi
  rw [lostB_iff]
  omega
theorem tmod3 {i : Nat} : (i : Int).tmod 3 = (i % 3 : Nat) := by
  rw [Int.tmod_eq_emod_of_nonneg (by omega)]; omega
theorem tmod2 {i : Nat} : (i : Int).tmod 2 = (i % 2 : Nat) := by
  rw [Int.tmod_eq_emod_of_nonneg (by omega)]; omega
theorem t_w {e wd : Int} {i : Nat} (he : 0 ≤ e ∧ e ≤ 65536) (hw : 0 ≤ wd ∧ wd ≤ 255) :
    IntKind.i64.wrap (e - IntKind.i64.wrap (wd * (i : Int).tmod 3)) = tLo e wd i ∧ IntKind.i64.wrap (e + IntKind.i64.wrap (wd * (i : Int).tmod 2)) = tHi e wd i := by
  have := t_rng (i := i) he hw
  rw [tmod3, tmod2]
  unfold tLo tHi
  rw [wrap_i64 (n := wd * (i % 3 : Nat)) (by omega) (by omega), wrap_i64 (n := wd * (i % 2 : Nat)) (by omega) (by omega), wrap_i64 (by omega) (by omega), wrap_i64 (by omega) (by omega)]
  exact ⟨rfl, rfl⟩
/-- the piece that a round leaves by its end, or early -/
theorem TC_body {P : Program} {I : Nat → Option Obj} {ro : Option Nat} {a b : Code} {i : Nat} {Q : Exit → St → Prop} {s : St} (h : ∀ Q' : Exit → St → Prop, (∀ s, TC P I ro b Q s → Q' .normal s) → (∀ s, TC P I ro b Q s → Q' (.exit i) s) → (∀ s, Q .ret s → Q' .ret s) → TC P I ro a Q' s) : TC P I ro (.seq (.block i a) b) Q s :=
  TC_seq (TC_block (h (blockQ i (thenQ Q (TC P I ro b Q))) (fun _ x => x) (fun _ x => by simp only [blockQ, if_true]; exact x) (fun _ x => x)))
/-- suspects, what was there being kept -/
theorem susK47 (I : Nat → Option Obj) {h X : H} {v : Value} {T : TD} {pn : Nat} (hv : Tests I (h ++ X) v T) (he : testsE pn T = 0) :
    ∃ Y r, keeps X Y ∧ Snd Try.prog I (.func 47) [.int .i64 pn, v] (h ++ X) (.tuple #[slA (2 * (h.length + r)) (cS T pn), .int .i64 0]) (h ++ Y) ∧ (cS T pn ≠ 0 → Y[r]? = some (.row (arrL (cS T pn) (fS T pn)) 3 1)) := by
  have k := suspects47 I hv he
  rw [List.length_append, List.append_assoc, Nat.add_assoc] at k
  refine ⟨_, _, (keeps.refl X).app, k, fun c0 => ?_⟩
  rw [List.getElem?_append_right (by omega), Nat.add_sub_cancel_left, deadBut_at (by omega)]
  unfold rowS; rw [if_neg c0]
theorem sees_at {I : Nat → Option Obj} {h Y : H} {r c : Nat} {f : Nat → Int} (hc : c ≤ 9223372036854775807) (hr : c ≠ 0 → Y[r]? = some (.row (arrL c f) 3 1)) : Sees I (h ++ Y) (slA (2 * (h.length + r)) c) c f := by
  by_cases c0 : c = 0
  · rw [c0]; exact Sees.nil
  · exact ⟨_, _, slA_pos c0, hc, fun _ => ⟨_, 0, rfl, fun k hk => by rw [Nat.zero_add]; exact rd_arrRow (hr c0) hk⟩⟩
theorem slA_form {q c : Nat} : ∃ p k, slA q c = .slice p c k := by
  by_cases c0 : c = 0
  · rw [c0]; exact ⟨_, _, rfl⟩
  · exact ⟨_, _, slA_pos c0⟩
theorem kill_keep {h V l : H} {q r : Nat} {T : TD} {B : Blk} (t : TT h V q T) (hr : V[r]? = some B) (hB : ∀ vs, B ≠ .row vs 89 3) : (killL T.n V q ++ l : H)[r]? = some B := by
  have hlt := (List.getElem?_eq_some_iff.1 hr).1
  rw [List.getElem?_append_left (by rw [killL_len]; exact hlt)]
  by_cases h0 : T.n = 0
  · unfold killL; rw [if_pos h0]; exact hr
  · rw [killL_get]; · exact hr
    intro e1; subst e1
    have := t.row h0
    rw [hr] at this
    cases this
    exact hB _ rfl
theorem keeps_kill {X Z l : H} {c qo : Nat} (k : keeps X Z) (hq : c ≠ 0 → X.length ≤ qo) : keeps X (killL c Z qo ++ l) := by
  intro r B hr
  have hlt := (List.getElem?_eq_some_iff.1 hr).1
  have hz := k r B hr
  rw [List.getElem?_append_left (by rw [killL_len]; exact (List.getElem?_eq_some_iff.1 hz).1)]
  by_cases h0 : c = 0
  · unfold killL; rw [if_pos h0]; exact hz
  · rw [killL_get]; · exact hz
    have := hq h0; omega
/-- what Amount answers for valid tests -/
theorem amt_at {T : TD} {pn k : Nat} (he : testsE pn T = 0) (hk : k < pn) : ∃ a b e, amtV pn T k = .tuple #[.agg #[.int .i64 a, .int .i64 b], .int .i64 e] ∧ ((e = 0 ∧ canLo T k ≤ canHi T k ∧ a = canLo T k ∧ b = canHi T k) ∨ (e = 5 ∧ canHi T k < canLo T k)) := by
  have t := tests_ok he
  have h1 := t.p1
  have h2 := t.p12
  unfold amtV
  rw [if_neg (by omega), if_neg (by rw [he]; simp), Int.toNat_natCast]
  by_cases c : canHi T k < canLo T k
  · rw [if_pos c]; exact ⟨_, _, _, rfl, .inr ⟨rfl, c⟩⟩
  · rw [if_neg c]; exact ⟨_, _, _, rfl, .inl ⟨rfl, by omega, rfl, rfl⟩⟩

theorem rg39 (I : Nat → Option Obj) {h : H} {a b : Int} : Snd Try.prog I (.func 39) [.int .i64 a, .int .i64 b] h (.agg #[.int .i64 a, .int .i64 b]) h := by
  refine Snd_run0 (rs := [.cell 4 43]) 400 Try.func39 (by kernel_rfl) rfl Try.ntmps39 rfl rfl ?_
  simp -implicitDefEqProofs only [sB, Nat.reduceAdd, Nat.reduceSub, yieldL, popK, flat, nptr, Value.cells, H.new, eq_self, Int.reduceEq, Int.reduceLT, Int.reduceLE, Nat.reduceEqDiff, Nat.reduceLeDiff, thenQ, ContK, ty2, ty43, Bool.not_true, Bool.not_false, decide_true, decide_false, if_true, if_false, unk1, unk2, z00, zn1, st89, st43, bl43]
  first | exact ⟨⟨_, rfl⟩, rfl⟩ | exact ⟨_, rfl⟩
end Go.Proofs.Ytpgignenhiddkaa
