/- Contracts: within, ContainsFunc, IndexFunc (own texts put together: D2 D3 D4 D5) -/
import Derived.Test.YtpgignenhiddkaaM7
import Derived.Test.YtpgignenhiddkaaM4
set_option linter.unusedSimpArgs false
set_option linter.unusedVariables false
namespace Go.Proofs.Ytpgignenhiddkaa
open Go.Sym
theorem wrap_add1 {i : Nat} (h : i < 9223372036854775807) : IntKind.i64.wrap ((i : Int) + 1) = ((i + 1 : Nat) : Int) := by
  rw [wrap_i64 (by omega) (by omega)]; simp
def muI (j n : Nat) (s : St) : Nat := match s.tm.getD j undef with | .int _ i => n - i.toNat | _ => 0
/-- the numbers of a slice of int64 can be read: on this heap -/
def Sees (I : Nat → Option Obj) (h : H) (v : Value) (n : Nat) (x : Nat → Int) : Prop :=
  ∃ p c, v = .slice p n c ∧ n ≤ 9223372036854775807 ∧ (0 < n → ∃ id off, p = some ⟨id, off, none⟩ ∧ ∀ i, i < n → rdl I h id (off + i) 1 = some [.int .i64 (x i)])
/-- the first place from i on, of n -/
def firstFrom (p : Nat → Bool) (n : Nat) : Nat → Nat → Int
  | 0, _ => -1
  | m + 1, i => if p i then (i : Int) else firstFrom p n m (i + 1)
def firstIx (p : Nat → Bool) (n : Nat) : Int := firstFrom p n n 0
theorem firstFrom_pos {p : Nat → Bool} {n k : Nat} (h : k < n) (hb : p k = true) : firstFrom p n (n - k) k = (k : Int) := by
  obtain ⟨m, hm⟩ : ∃ m, n - k = m + 1 := ⟨n - k - 1, by omega⟩
  rw [hm]; simp [firstFrom, hb]
theorem firstFrom_neg {p : Nat → Bool} {n k : Nat} (h : k < n) (hb : p k = false) : firstFrom p n (n - k) k = firstFrom p n (n - (k + 1)) (k + 1) := by
  obtain ⟨m, hm⟩ : ∃ m, n - k = m + 1 := ⟨n - k - 1, by omega⟩
  have hm2 : n - (k + 1) = m := by omega
  rw [hm, hm2]; simp [firstFrom, hb]
theorem firstFrom_end {p : Nat → Bool} {n k : Nat} (h : ¬ k < n) : firstFrom p n (n - k) k = -1 := by
  have : n - k = 0 := by omega
  rw [this]; rfl
/-- is there one of n? -/
def anyN (p : Nat → Bool) (n : Nat) : Bool := (List.range n).any p
theorem anyN_iff {p : Nat → Bool} {n : Nat} : anyN p n = true ↔ ∃ i, i < n ∧ p i = true := by
  simp [anyN]
theorem firstFrom_iff {p : Nat → Bool} {n : Nat} : ∀ m k, m + k = n → (0 ≤ firstFrom p n m k ↔ ∃ i, k ≤ i ∧ i < n ∧ p i = true)
  | 0, k, h => by
    refine ⟨fun h => by simp [firstFrom] at h, ?_⟩
    rintro ⟨i, h1, h2, _⟩; omega
  | m + 1, k, h => by
    simp only [firstFrom]
    split
    · rename_i hp
      exact ⟨fun _ => ⟨k, by omega, by omega, hp⟩, fun _ => by omega⟩
    · rename_i hp
      rw [firstFrom_iff m (k + 1) (by omega)]
      constructor
      · rintro ⟨i, h1, h2, h3⟩; exact ⟨i, by omega, h2, h3⟩
      · rintro ⟨i, h1, h2, h3⟩
        refine ⟨i, ?_, h2, h3⟩
        by_cases e : i = k
        · subst e; exact absurd h3 hp
        · omega
theorem firstIx_any {p : Nat → Bool} {n : Nat} : decide (0 ≤ firstIx p n) = anyN p n := by
  have h : (0 ≤ firstIx p n) ↔ anyN p n = true := by
    rw [anyN_iff]
    unfold firstIx
    rw [firstFrom_iff n 0 (by omega)]
    constructor
    · rintro ⟨i, _, h⟩; exact ⟨i, h⟩
    · rintro ⟨i, h⟩; exact ⟨i, by omega, h⟩
  cases hb : anyN p n with
  | true => simp [h.2 hb]
  | false =>
    have : ¬ 0 ≤ firstIx p n := fun hh => by rw [h.1 hh] at hb; cases hb
    simp [this]

set_option maxRecDepth 100000 in
theorem index112 (I : Nat → Option Obj) {h : H} {v : Value} {n : Nat} {x : Nat → Int} {g : FuncId} {cap : List Value} {p : Nat → Bool} (hv : Sees I h v n x)
    (hf : ∀ i, i < n → Snd Try.prog I (.func g) (.int .i64 (x i) :: cap) h (.bool (p i)) h) :
    Snd Try.prog I (.func 112) [v, .func (.func g) #[] cap.toArray] h (.int .i64 (firstIx p n)) h := by
  obtain ⟨q, c, rfl, hn, hq⟩ := hv
  refine Snd_run (rs := [.tmp 4]) 400 Try.func112 (by kernel_rfl) rfl Try.ntmps112 rfl ?_
  simp -implicitDefEqProofs only [sB, Nat.reduceAdd, Nat.reduceSub, yieldL, popK, flat, nptr, Value.cells, H.new, eq_self, Int.reduceEq, Int.reduceLT, Int.reduceLE, Nat.reduceEqDiff, Nat.reduceLeDiff, thenQ, ContK, ty2, ty3, ty4, ty5, ty136, ty138]
  obtain ⟨Ja, hJa⟩ : ∃ J : St → Prop, J = fun s => ∃ (k : Nat), s.df = [] ∧ s.h = h ∧ s.tm.length = 19 ∧ s.tm.getD 0 undef = .slice q n c ∧ s.tm.getD 1 undef = .func (.func g) #[] cap.toArray ∧ s.tm.getD 4 undef = .int .i64 0 ∧ s.tm.getD 7 undef = .int .i64 n ∧ s.tm.getD 8 undef = .int .i64 k ∧ (k ≤ n) ∧ (firstIx p n = firstFrom p n (n - k) k) := ⟨_, rfl⟩
  refine Loop_run (by kernel_rfl) 400 Ja (muI 8 n) (by rw [hJa]; exact ⟨0, rfl, rfl, rfl, rfl, rfl, rfl, rfl, rfl, Nat.zero_le _, rfl⟩) ?_
  intro sa hsa
  rw [hJa] at hsa
  obtain ⟨tma, dfa, hha⟩ := sa
  obtain ⟨k, ea1, ea2, ea3, la0, la1, la4, la7, la8, hk, hp⟩ := hsa
  simp only at ea1 ea2 ea3 la0 la1 la4 la7 la8
  subst dfa; subst hha
  have elita : tma = [.slice q n c, .func (.func g) #[] cap.toArray, tma.getD 2 undef, tma.getD 3 undef, .int .i64 0, tma.getD 5 undef, tma.getD 6 undef, .int .i64 n, .int .i64 k, tma.getD 9 undef, tma.getD 10 undef, tma.getD 11 undef, tma.getD 12 undef, tma.getD 13 undef, tma.getD 14 undef, tma.getD 15 undef, tma.getD 16 undef, tma.getD 17 undef, tma.getD 18 undef] := by
    have e0 := lit_eq ea3
    have er : List.range 19 = [0, 1, 2, 3, 4, 5, 6, 7, 8, 9, 10, 11, 12, 13, 14, 15, 16, 17, 18] := by rfl
    rw [er] at e0
    simp only [List.map_cons, List.map_nil, la0, la1, la4, la7, la8] at e0
    exact e0
  rw [elita]
  clear la0
  clear la1
  clear la4
  clear la7
  clear la8
  clear elita ea3
  by_cases hkn : k < n
  · obtain ⟨id, off, rfl, hr⟩ := hq (by omega)
    have h1 : (k : Int) < (n : Int) := by omega
    have h2 : (0 : Int) ≤ (k : Int) ∧ (k : Int) < (n : Int) := ⟨by omega, h1⟩
    have h3 := hr k hkn
    have h4 := wrap_add1 (i := k) (by omega)
    simp -implicitDefEqProofs only [sB, Nat.reduceAdd, Nat.reduceSub, yieldL, popK, flat, nptr, Value.cells, H.new, eq_self, Int.reduceEq, Int.reduceLT, Int.reduceLE, Nat.reduceEqDiff, Nat.reduceLeDiff, thenQ, ContK, ty2, ty3, ty4, ty5, ty136, ty138, h1, h2, h3]
    refine RunCall_of (hf k hkn) ?_
    simp -implicitDefEqProofs only [sB, Nat.reduceAdd, Nat.reduceSub, yieldL, popK, flat, nptr, Value.cells, H.new, eq_self, Int.reduceEq, Int.reduceLT, Int.reduceLE, Nat.reduceEqDiff, Nat.reduceLeDiff, thenQ, ContK, ty2, ty3, ty4, ty5, ty136, ty138, h4]
    refine RunB_of (fun hb => ?_) (fun hb => ?_)
    · simp -implicitDefEqProofs only [sB, Nat.reduceAdd, Nat.reduceSub, yieldL, popK, flat, nptr, Value.cells, H.new, eq_self, Int.reduceEq, Int.reduceLT, Int.reduceLE, Nat.reduceEqDiff, Nat.reduceLeDiff, thenQ, ContK, ty2, ty3, ty4, ty5, ty136, ty138, h4]
      rw [hp, firstFrom_pos hkn hb]
    · simp -implicitDefEqProofs only [sB, Nat.reduceAdd, Nat.reduceSub, yieldL, popK, flat, nptr, Value.cells, H.new, eq_self, Int.reduceEq, Int.reduceLT, Int.reduceLE, Nat.reduceEqDiff, Nat.reduceLeDiff, thenQ, ContK, ty2, ty3, ty4, ty5, ty136, ty138, h4]
      refine ⟨by rw [hJa]; exact ⟨k + 1, rfl, rfl, rfl, rfl, rfl, rfl, rfl, rfl, by omega, by rw [hp, firstFrom_neg hkn hb]⟩, ?_⟩
      show n - ((k + 1 : Nat) : Int).toNat < n - (k : Int).toNat
      omega
  · have h1 : ¬ (k : Int) < (n : Int) := by omega
    simp -implicitDefEqProofs only [sB, Nat.reduceAdd, Nat.reduceSub, yieldL, popK, flat, nptr, Value.cells, H.new, eq_self, Int.reduceEq, Int.reduceLT, Int.reduceLE, Nat.reduceEqDiff, Nat.reduceLeDiff, thenQ, ContK, ty2, ty3, ty4, ty5, ty136, ty138, h1]
    rw [hp, firstFrom_end hkn]

set_option maxRecDepth 100000 in
theorem contains98 (I : Nat → Option Obj) {h : H} {v : Value} {n : Nat} {x : Nat → Int} {g : FuncId} {cap : List Value} {p : Nat → Bool} (hv : Sees I h v n x)
    (hf : ∀ i, i < n → Snd Try.prog I (.func g) (.int .i64 (x i) :: cap) h (.bool (p i)) h) :
    Snd Try.prog I (.func 98) [v, .func (.func g) #[] cap.toArray] h (.bool (anyN p n)) h := by
  refine Snd_run (rs := [.tmp 4]) 400 Try.func98 (by kernel_rfl) rfl Try.ntmps98 rfl ?_
  simp -implicitDefEqProofs only [sB, Nat.reduceAdd, Nat.reduceSub, yieldL, popK, flat, nptr, Value.cells, H.new, eq_self, Int.reduceEq, Int.reduceLT, Int.reduceLE, Nat.reduceEqDiff, Nat.reduceLeDiff, thenQ, ContK, ty3, ty4, ty136, ty138]
  refine RunCall_of (index112 I hv hf) ?_
  simp -implicitDefEqProofs only [sB, Nat.reduceAdd, Nat.reduceSub, yieldL, popK, flat, nptr, Value.cells, H.new, eq_self, Int.reduceEq, Int.reduceLT, Int.reduceLE, Nat.reduceEqDiff, Nat.reduceLeDiff, thenQ, ContK, ty3, ty4, ty136, ty138, firstIx_any]

set_option maxRecDepth 100000 in
theorem closure99 (I : Nat → Option Obj) {h : H} {n lo hi : Int} {p q : Nat} (hlo : rdl I h p 0 1 = some [.int .i64 lo]) (hhi : rdl I h q 0 1 = some [.int .i64 hi]) :
    Snd Try.prog I (.func 99) [.int .i64 n, .pointer (some ⟨p, 0, none⟩), .pointer (some ⟨q, 0, none⟩)] h (.bool (decide (n < lo) || decide (hi < n))) h := by
  refine Snd_run (rs := [.tmp 4]) 400 Try.func99 (by kernel_rfl) rfl Try.ntmps99 rfl ?_
  by_cases h1 : n < lo
  · simp -implicitDefEqProofs only [sB, Nat.reduceAdd, Nat.reduceSub, yieldL, popK, flat, nptr, Value.cells, H.new, eq_self, Int.reduceEq, Int.reduceLT, Int.reduceLE, Nat.reduceEqDiff, Nat.reduceLeDiff, thenQ, ContK, ty2, ty4, h1, hlo, hhi]
    simp
  · simp -implicitDefEqProofs only [sB, Nat.reduceAdd, Nat.reduceSub, yieldL, popK, flat, nptr, Value.cells, H.new, eq_self, Int.reduceEq, Int.reduceLT, Int.reduceLE, Nat.reduceEqDiff, Nat.reduceLeDiff, thenQ, ContK, ty2, ty4, h1, hlo, hhi]
    simp

theorem Sees.app {I : Nat → Option Obj} {h : H} {v : Value} {n : Nat} {x : Nat → Int} (hs : Sees I h v n x) (l : H) : Sees I (h ++ l) v n x := by
  obtain ⟨p, c, e, hn, hq⟩ := hs
  refine ⟨p, c, e, hn, fun h0 => ?_⟩
  obtain ⟨id, off, e1, hr⟩ := hq h0
  exact ⟨id, off, e1, fun i hi => rdl_mono (hr i hi) l⟩
theorem Sees.nil {I : Nat → Option Obj} {h : H} {x : Nat → Int} : Sees I h (.slice none 0 0) 0 x := ⟨none, 0, rfl, by omega, fun h => by omega⟩
theorem Sees.of_row {I : Nat → Option Obj} {h : H} {id n c : Nat} {e : TypeId} {x : Nat → Int} (hn : n ≤ 9223372036854775807) (hg : h.get id = some (.cells (arrL n x) e)) : Sees I h (.slice (some ⟨id, 0, none⟩) n c) n x := by
  refine ⟨_, _, rfl, hn, fun h0 => ⟨id, 0, rfl, fun i hi => ?_⟩⟩
  rw [rd_at hg, rdB_cells (by rw [arrL_length]; omega), Nat.zero_add, arrL_part n x hi]
/-- a literal of one number, two numbers -/
def one1 (a : Int) : Nat → Int := fun _ => a
def two2 (a b : Int) : Nat → Int := fun i => if i = 0 then a else b
theorem arrL_one1 (a : Int) : arrL 1 (one1 a) = [.int .i64 a] := rfl
theorem arrL_two2 (a b : Int) : arrL 2 (two2 a b) = [.int .i64 a, .int .i64 b] := rfl
theorem Sees.one {I : Nat → Option Obj} {h l : H} {k c : Nat} {e : TypeId} {a : Int} (hg : l[k]? = some (.cells [.int .i64 a] e)) : Sees I (h ++ l) (.slice (some ⟨2 * (h.length + k), 0, none⟩) 1 c) 1 (one1 a) :=
  Sees.of_row (by omega) (by rw [get_k, hg]; rfl)
theorem Sees.two {I : Nat → Option Obj} {h l : H} {k c : Nat} {e : TypeId} {a b : Int} (hg : l[k]? = some (.cells [.int .i64 a, .int .i64 b] e)) : Sees I (h ++ l) (.slice (some ⟨2 * (h.length + k), 0, none⟩) 2 c) 2 (two2 a b) :=
  Sees.of_row (by omega) (by rw [get_k, hg]; rfl)
def withinB (lo hi : Int) (n : Nat) (x : Nat → Int) : Bool := !anyN (fun i => decide (x i < lo) || decide (hi < x i)) n
theorem withinB_iff {lo hi : Int} {n : Nat} {x : Nat → Int} : withinB lo hi n x = true ↔ ∀ i, i < n → lo ≤ x i ∧ x i ≤ hi := by
  unfold withinB
  rw [Bool.not_eq_true', ← Bool.not_eq_true, anyN_iff]
  constructor
  · intro h i hi
    refine Classical.byContradiction fun hc => h ⟨i, hi, ?_⟩
    simp; omega
  · rintro h ⟨i, hi, hb⟩
    have := h i hi
    simp at hb; omega
theorem within_one {lo hi a : Int} : withinB lo hi 1 (one1 a) = (decide (lo ≤ a) && decide (a ≤ hi)) := by
  rw [Bool.eq_iff_iff, withinB_iff]; simp [one1]
theorem within_two {lo hi a b : Int} : withinB lo hi 2 (two2 a b) = ((decide (lo ≤ a) && decide (a ≤ hi)) && (decide (lo ≤ b) && decide (b ≤ hi))) := by
  rw [Bool.eq_iff_iff, withinB_iff]; simp [two2]
  constructor
  · intro h; exact ⟨by simpa using h 0 (by omega), by simpa using h 1 (by omega)⟩
  · rintro ⟨h1, h2⟩ i hi; by_cases e : i = 0 <;> simp [e, h1, h2]

set_option maxRecDepth 100000 in
theorem within57 (I : Nat → Option Obj) {h : H} {v : Value} {n : Nat} {lo hi : Int} {x : Nat → Int} (hv : Sees I h v n x) :
    Snd Try.prog I (.func 57) [.int .i64 lo, .int .i64 hi, v] h (.bool (withinB lo hi n x)) h := by
  refine Snd_run0 (rs := [.tmp 6]) 400 Try.func57 (by kernel_rfl) rfl Try.ntmps57 rfl rfl ?_
  simp -implicitDefEqProofs only [sB, Nat.reduceAdd, Nat.reduceSub, yieldL, popK, flat, nptr, Value.cells, H.new, eq_self, Int.reduceEq, Int.reduceLT, Int.reduceLE, Nat.reduceEqDiff, Nat.reduceLeDiff, thenQ, ContK, ty2, ty4, ty136, ty138]
  refine RunCall_of (contains98 I (cap := [.pointer (some ⟨2 * h.length, 0, none⟩), .pointer (some ⟨2 * (h.length + 1), 0, none⟩)]) (p := fun i => decide (x i < lo) || decide (hi < x i)) (hv.app _) (fun i hi => closure99 I (by rw [rd_z]; rfl) (by rw [rd_k]; rfl))) ?_
  simp -implicitDefEqProofs only [sB, Nat.reduceAdd, Nat.reduceSub, yieldL, popK, flat, nptr, Value.cells, H.new, eq_self, Int.reduceEq, Int.reduceLT, Int.reduceLE, Nat.reduceEqDiff, Nat.reduceLeDiff, thenQ, ContK, ty2, ty4, ty136, ty138]
  exact ⟨⟨_, rfl⟩, rfl⟩
end Go.Proofs.Ytpgignenhiddkaa
set_option linter.unusedSimpArgs false
set_option linter.unusedVariables false
namespace Go.Proofs.Ytpgignenhiddkaa
open Go.Sym
attribute [local irreducible] Run RunS RunG RunDG RunDS RunDE RunDA RunDC RunCall RunX RunB
theorem unk2 : (2 < UNK) = True := by simp [UNK]
theorem z00 : ((0 : Nat) : Int) = 0 := rfl
theorem zn1 : (-1 : Int) = Int.negSucc 0 := rfl
/-- the number before -/
def prevI (x : Nat → Int) : Nat → Int
  | 0 => -1
  | i + 1 => x i
def nameOk (many : Int) (x : Nat → Int) (i : Nat) : Bool := decide (prevI x i < x i ∧ x i < many)
/-- strictly increasing names of so many things -/
def namesB (many : Int) (n : Nat) (x : Nat → Int) : Bool := !anyN (fun i => !nameOk many x i) n
theorem namesB_bad {many : Int} {n k : Nat} {x : Nat → Int} (hk : k < n) (h : nameOk many x k = false) : namesB many n x = false := by
  unfold namesB
  rw [anyN_iff.2 ⟨k, hk, by rw [h]; rfl⟩]; rfl
theorem namesB_ok {many : Int} {n : Nat} {x : Nat → Int} (h : ∀ i, i < n → nameOk many x i = true) : namesB many n x = true := by
  unfold namesB
  rw [Bool.not_eq_true', ← Bool.not_eq_true, anyN_iff]
  rintro ⟨i, hi, hb⟩
  rw [h i hi] at hb; cases hb
theorem namesB_at {many : Int} {n : Nat} {x : Nat → Int} (h : namesB many n x = true) {i : Nat} (hi : i < n) : nameOk many x i = true := by
  cases hb : nameOk many x i with
  | true => rfl
  | false => rw [namesB_bad hi hb] at h; cases h
theorem names_rng {many : Int} {x : Nat → Int} : ∀ k, (∀ j, j < k → nameOk many x j = true) → -1 ≤ prevI x k
  | 0, _ => by show (-1 : Int) ≤ -1; omega
  | k + 1, h => by
    have h1 := names_rng k (fun j hj => h j (by omega))
    have h2 := of_decide_eq_true (h k (by omega))
    show -1 ≤ x k
    omega
theorem names_in {many : Int} {n : Nat} {x : Nat → Int} (h : namesB many n x = true) {i : Nat} (hi : i < n) : 0 ≤ x i ∧ x i < many := by
  have h1 := of_decide_eq_true (namesB_at h hi)
  have h2 := names_rng i (fun j hj => namesB_at h (show j < n by omega))
  omega
def lostB (a b : Int) : Bool := decide (-10000000 ≤ a ∧ a ≤ b ∧ b ≤ 10000000)
theorem lostB_iff {a b : Int} : lostB a b = true ↔ -10000000 ≤ a ∧ a ≤ b ∧ b ≤ 10000000 := decide_eq_true_iff
def secB (parts : Int) (n : Nat) (x : Nat → Int) : Bool := decide (0 < n) && namesB parts n x
theorem bs136_2 {h : H} {k k' : IntKind} {a b : Int} : abuildSlice Try.prog 136 2 [(0, .int k a), (1, .int k' b)] h = some (.slice (some ⟨h.new, 0, none⟩) 2 2, h ++ [.cells [.int k a, .int k' b] 2]) := by kernel_rfl
theorem bs136_1 {h : H} {k : IntKind} {a : Int} : abuildSlice Try.prog 136 1 [(0, .int k a)] h = some (.slice (some ⟨h.new, 0, none⟩) 1 1, h ++ [.cells [.int k a] 2]) := by kernel_rfl

set_option maxRecDepth 100000 in
theorem names77 (I : Nat → Option Obj) {h : H} {v : Value} {n : Nat} {x : Nat → Int} {many : Int} (hv : Sees I h v n x) :
    Snd Try.prog I (.func 77) [.int .i64 many, v] h (.bool (namesB many n x)) h := by
  obtain ⟨q, c, rfl, hn, hq⟩ := hv
  refine Snd_run0 (rs := [.tmp 4]) 400 Try.func77 (by kernel_rfl) rfl Try.ntmps77 rfl rfl ?_
  simp -implicitDefEqProofs only [sB, Nat.reduceAdd, Nat.reduceSub, yieldL, popK, flat, nptr, Value.cells, H.new, eq_self, Int.reduceEq, Int.reduceLT, Int.reduceLE, Nat.reduceEqDiff, Nat.reduceLeDiff, thenQ, ContK, ty2, ty3, ty4, ty5, ty79, Bool.not_true, Bool.not_false, decide_true, decide_false, if_true, if_false, unk1, unk2, z00, zn1]
  obtain ⟨Ja, hJa⟩ : ∃ J : St → Prop, J = fun s => ∃ (k : Nat), s.df = [] ∧ s.h = h ∧ s.tm.length = 24 ∧ s.tm.getD 0 undef = .int .i64 many ∧ s.tm.getD 5 undef = .int .i64 (prevI x k) ∧ s.tm.getD 8 undef = .slice q n c ∧ s.tm.getD 9 undef = .int .i64 n ∧ s.tm.getD 10 undef = .int .i64 k ∧ (k ≤ n) ∧ (∀ j, j < k → nameOk many x j = true) := ⟨_, rfl⟩
  refine Loop_run (by kernel_rfl) 400 Ja (muI 10 n) (by rw [hJa]; exact ⟨0, rfl, rfl, rfl, rfl, rfl, rfl, rfl, rfl, Nat.zero_le _, fun j hj => by omega⟩) ?_
  intro sa hsa
  rw [hJa] at hsa
  obtain ⟨tma, dfa, hha⟩ := sa
  obtain ⟨k, ea1, ea2, ea3, la0, la5, la8, la9, la10, hk, hp⟩ := hsa
  simp only at ea1 ea2 ea3 la0 la5 la8 la9 la10
  subst dfa; subst hha
  have elita : tma = [.int .i64 many, tma.getD 1 undef, tma.getD 2 undef, tma.getD 3 undef, tma.getD 4 undef, .int .i64 (prevI x k), tma.getD 6 undef, tma.getD 7 undef, .slice q n c, .int .i64 n, .int .i64 k, tma.getD 11 undef, tma.getD 12 undef, tma.getD 13 undef, tma.getD 14 undef, tma.getD 15 undef, tma.getD 16 undef, tma.getD 17 undef, tma.getD 18 undef, tma.getD 19 undef, tma.getD 20 undef, tma.getD 21 undef, tma.getD 22 undef, tma.getD 23 undef] := by
    have e0 := lit_eq ea3
    have er : List.range 24 = [0, 1, 2, 3, 4, 5, 6, 7, 8, 9, 10, 11, 12, 13, 14, 15, 16, 17, 18, 19, 20, 21, 22, 23] := by rfl
    rw [er] at e0
    simp only [List.map_cons, List.map_nil, la0, la5, la8, la9, la10] at e0
    exact e0
  rw [elita]
  clear la0
  clear la5
  clear la8
  clear la9
  clear la10
  clear elita ea3
  by_cases hkn : k < n
  · obtain ⟨id, off, rfl, hr⟩ := hq (by omega)
    have h1 : (k : Int) < (n : Int) := by omega
    have h2 : (0 : Int) ≤ (k : Int) ∧ (k : Int) < (n : Int) := ⟨by omega, h1⟩
    have h3 := hr k hkn
    have h4 := wrap_add1 (i := k) (by omega)
    by_cases c1 : x k ≤ prevI x k
    · have hb : nameOk many x k = false := decide_eq_false (by omega)
      simp -implicitDefEqProofs only [sB, Nat.reduceAdd, Nat.reduceSub, yieldL, popK, flat, nptr, Value.cells, H.new, eq_self, Int.reduceEq, Int.reduceLT, Int.reduceLE, Nat.reduceEqDiff, Nat.reduceLeDiff, thenQ, ContK, ty2, ty3, ty4, ty5, ty79, Bool.not_true, Bool.not_false, decide_true, decide_false, if_true, if_false, unk1, unk2, z00, zn1, h1, h2, h3, c1]
      exact ⟨⟨[], by simp⟩, by rw [namesB_bad hkn hb]⟩
    · by_cases c2 : many ≤ x k
      · have hb : nameOk many x k = false := decide_eq_false (by omega)
        simp -implicitDefEqProofs only [sB, Nat.reduceAdd, Nat.reduceSub, yieldL, popK, flat, nptr, Value.cells, H.new, eq_self, Int.reduceEq, Int.reduceLT, Int.reduceLE, Nat.reduceEqDiff, Nat.reduceLeDiff, thenQ, ContK, ty2, ty3, ty4, ty5, ty79, Bool.not_true, Bool.not_false, decide_true, decide_false, if_true, if_false, unk1, unk2, z00, zn1, h1, h2, h3, c1, c2]
        exact ⟨⟨[], by simp⟩, by rw [namesB_bad hkn hb]⟩
      · have hok : nameOk many x k = true := decide_eq_true ⟨by omega, by omega⟩
        have e3 : prevI x (k + 1) = x k := rfl
        simp -implicitDefEqProofs only [sB, Nat.reduceAdd, Nat.reduceSub, yieldL, popK, flat, nptr, Value.cells, H.new, eq_self, Int.reduceEq, Int.reduceLT, Int.reduceLE, Nat.reduceEqDiff, Nat.reduceLeDiff, thenQ, ContK, ty2, ty3, ty4, ty5, ty79, Bool.not_true, Bool.not_false, decide_true, decide_false, if_true, if_false, unk1, unk2, z00, zn1, h1, h2, h3, h4, c1, c2]
        refine ⟨by rw [hJa]; exact ⟨k + 1, rfl, rfl, rfl, rfl, rfl, rfl, rfl, rfl, by omega, fun j hj => by by_cases e : j = k; (subst e; exact hok); exact hp j (by omega)⟩, ?_⟩
        show n - ((k + 1 : Nat) : Int).toNat < n - (k : Int).toNat
        omega
  · have h1 : ¬ (k : Int) < (n : Int) := by omega
    simp -implicitDefEqProofs only [sB, Nat.reduceAdd, Nat.reduceSub, yieldL, popK, flat, nptr, Value.cells, H.new, eq_self, Int.reduceEq, Int.reduceLT, Int.reduceLE, Nat.reduceEqDiff, Nat.reduceLeDiff, thenQ, ContK, ty2, ty3, ty4, ty5, ty79, Bool.not_true, Bool.not_false, decide_true, decide_false, if_true, if_false, unk1, unk2, z00, zn1, h1]
    exact ⟨⟨[], by simp⟩, by rw [namesB_ok (fun i hi => hp i (by omega))]⟩
set_option maxRecDepth 100000 in
theorem rising81 (I : Nat → Option Obj) {h : H} {v : Value} {n : Nat} {x : Nat → Int} {many : Int} (hv : Sees I h v n x) :
    Snd Try.prog I (.func 81) [v, .int .i64 many] h (.bool (namesB many n x)) h := by
  obtain ⟨q, c, rfl, hn, hq⟩ := hv
  refine Snd_run0 (rs := [.tmp 4]) 400 Try.func81 (by kernel_rfl) rfl Try.ntmps81 rfl rfl ?_
  simp -implicitDefEqProofs only [sB, Nat.reduceAdd, Nat.reduceSub, yieldL, popK, flat, nptr, Value.cells, H.new, eq_self, Int.reduceEq, Int.reduceLT, Int.reduceLE, Nat.reduceEqDiff, Nat.reduceLeDiff, thenQ, ContK, ty2, ty3, ty4, ty5, ty79, Bool.not_true, Bool.not_false, decide_true, decide_false, if_true, if_false, unk1, unk2, z00, zn1]
  obtain ⟨Ja, hJa⟩ : ∃ J : St → Prop, J = fun s => ∃ (k : Nat), s.df = [] ∧ s.h = h ∧ s.tm.length = 41 ∧ s.tm.getD 0 undef = .slice q n c ∧ s.tm.getD 1 undef = .int .i64 many ∧ s.tm.getD 5 undef = .int .i64 k ∧ (k ≤ n) ∧ (∀ j, j < k → nameOk many x j = true) := ⟨_, rfl⟩
  refine Loop_run (by kernel_rfl) 400 Ja (muI 5 n) (by rw [hJa]; exact ⟨0, rfl, rfl, rfl, rfl, rfl, rfl, Nat.zero_le _, fun j hj => by omega⟩) ?_
  intro sa hsa
  rw [hJa] at hsa
  obtain ⟨tma, dfa, hha⟩ := sa
  obtain ⟨k, ea1, ea2, ea3, la0, la1, la5, hk, hp⟩ := hsa
  simp only at ea1 ea2 ea3 la0 la1 la5
  subst dfa; subst hha
  have elita : tma = [.slice q n c, .int .i64 many, tma.getD 2 undef, tma.getD 3 undef, tma.getD 4 undef, .int .i64 k, tma.getD 6 undef, tma.getD 7 undef, tma.getD 8 undef, tma.getD 9 undef, tma.getD 10 undef, tma.getD 11 undef, tma.getD 12 undef, tma.getD 13 undef, tma.getD 14 undef, tma.getD 15 undef, tma.getD 16 undef, tma.getD 17 undef, tma.getD 18 undef, tma.getD 19 undef, tma.getD 20 undef, tma.getD 21 undef, tma.getD 22 undef, tma.getD 23 undef, tma.getD 24 undef, tma.getD 25 undef, tma.getD 26 undef, tma.getD 27 undef, tma.getD 28 undef, tma.getD 29 undef, tma.getD 30 undef, tma.getD 31 undef, tma.getD 32 undef, tma.getD 33 undef, tma.getD 34 undef, tma.getD 35 undef, tma.getD 36 undef, tma.getD 37 undef, tma.getD 38 undef, tma.getD 39 undef, tma.getD 40 undef] := by
    have e0 := lit_eq ea3
    have er : List.range 41 = [0, 1, 2, 3, 4, 5, 6, 7, 8, 9, 10, 11, 12, 13, 14, 15, 16, 17, 18, 19, 20, 21, 22, 23, 24, 25, 26, 27, 28, 29, 30, 31, 32, 33, 34, 35, 36, 37, 38, 39, 40] := by rfl
    rw [er] at e0
    simp only [List.map_cons, List.map_nil, la0, la1, la5] at e0
    exact e0
  rw [elita]
  clear la0
  clear la1
  clear la5
  clear elita ea3
  by_cases hkn : k < n
  · obtain ⟨id, off, rfl, hr⟩ := hq (by omega)
    have h1 : (k : Int) < (n : Int) := by omega
    have h2 : (0 : Int) ≤ (k : Int) ∧ (k : Int) < (n : Int) := ⟨by omega, h1⟩
    have h3 := hr k hkn
    have h4 := wrap_add1 (i := k) (by omega)
    have hpv := names_rng k hp
    by_cases c1 : x k < 0
    · have hb : nameOk many x k = false := decide_eq_false (by omega)
      simp -implicitDefEqProofs only [sB, Nat.reduceAdd, Nat.reduceSub, yieldL, popK, flat, nptr, Value.cells, H.new, eq_self, Int.reduceEq, Int.reduceLT, Int.reduceLE, Nat.reduceEqDiff, Nat.reduceLeDiff, thenQ, ContK, ty2, ty3, ty4, ty5, ty79, sD, mixT, isAlloc, ridOf, blockOf, Bool.not_true, Bool.not_false, decide_true, decide_false, if_true, if_false, unk1, unk2, z00, zn1, h1, h2, h3, c1]
      exact ⟨drawOk_ren (fun _ => 0) rfl (by kernel_rfl), ⟨[], by simp⟩, by rw [namesB_bad hkn hb]⟩
    by_cases c2 : many ≤ x k
    · have hb : nameOk many x k = false := decide_eq_false (by omega)
      simp -implicitDefEqProofs only [sB, Nat.reduceAdd, Nat.reduceSub, yieldL, popK, flat, nptr, Value.cells, H.new, eq_self, Int.reduceEq, Int.reduceLT, Int.reduceLE, Nat.reduceEqDiff, Nat.reduceLeDiff, thenQ, ContK, ty2, ty3, ty4, ty5, ty79, sD, mixT, isAlloc, ridOf, blockOf, Bool.not_true, Bool.not_false, decide_true, decide_false, if_true, if_false, unk1, unk2, z00, zn1, h1, h2, h3, c1, c2]
      exact ⟨drawOk_ren (fun _ => 0) rfl (by kernel_rfl), ⟨[], by simp⟩, by rw [namesB_bad hkn hb]⟩
    by_cases c3 : 0 < k
    · have c3' : (0 : Int) < (k : Int) := by omega
      have w1 : IntKind.i64.wrap ((k : Int) - 1) = ((k - 1 : Nat) : Int) := by rw [wrap_i64 (by omega) (by omega)]; omega
      have h2' : (0 : Int) ≤ ((k - 1 : Nat) : Int) ∧ ((k - 1 : Nat) : Int) < (n : Int) := ⟨by omega, by omega⟩
      have h3' := hr (k - 1) (by omega)
      have e3 : prevI x k = x (k - 1) := by
        obtain ⟨j, rfl⟩ : ∃ j, k = j + 1 := ⟨k - 1, by omega⟩
        rfl
      by_cases c4 : x k ≤ x (k - 1)
      · have hb : nameOk many x k = false := decide_eq_false (by omega)
        simp -implicitDefEqProofs only [sB, Nat.reduceAdd, Nat.reduceSub, yieldL, popK, flat, nptr, Value.cells, H.new, eq_self, Int.reduceEq, Int.reduceLT, Int.reduceLE, Nat.reduceEqDiff, Nat.reduceLeDiff, thenQ, ContK, ty2, ty3, ty4, ty5, ty79, sD, mixT, isAlloc, ridOf, blockOf, Bool.not_true, Bool.not_false, decide_true, decide_false, if_true, if_false, unk1, unk2, z00, zn1, h1, h2, h3, c1, c2, c3', w1, h2', h3', c4]
        exact ⟨drawOk_ren (fun _ => 0) rfl (by kernel_rfl), ⟨[], by simp⟩, by rw [namesB_bad hkn hb]⟩
      · have hok : nameOk many x k = true := decide_eq_true ⟨by omega, by omega⟩
        simp -implicitDefEqProofs only [sB, Nat.reduceAdd, Nat.reduceSub, yieldL, popK, flat, nptr, Value.cells, H.new, eq_self, Int.reduceEq, Int.reduceLT, Int.reduceLE, Nat.reduceEqDiff, Nat.reduceLeDiff, thenQ, ContK, ty2, ty3, ty4, ty5, ty79, sD, mixT, isAlloc, ridOf, blockOf, Bool.not_true, Bool.not_false, decide_true, decide_false, if_true, if_false, unk1, unk2, z00, zn1, h1, h2, h3, h4, c1, c2, c3', w1, h2', h3', c4]
        refine ⟨drawOk_ren (fun _ => 0) rfl (by kernel_rfl), by rw [hJa]; exact ⟨k + 1, rfl, rfl, rfl, rfl, rfl, rfl, by omega, fun j hj => by by_cases e : j = k; (subst e; exact hok); exact hp j (by omega)⟩, ?_⟩
        show n - ((k + 1 : Nat) : Int).toNat < n - (k : Int).toNat
        omega
    · have c3' : ¬ (0 : Int) < (k : Int) := by omega
      have hk0 : k = 0 := by omega
      have hok : nameOk many x k = true := decide_eq_true ⟨by subst hk0; show (-1 : Int) < _; omega, by omega⟩
      simp -implicitDefEqProofs only [sB, Nat.reduceAdd, Nat.reduceSub, yieldL, popK, flat, nptr, Value.cells, H.new, eq_self, Int.reduceEq, Int.reduceLT, Int.reduceLE, Nat.reduceEqDiff, Nat.reduceLeDiff, thenQ, ContK, ty2, ty3, ty4, ty5, ty79, sD, mixT, isAlloc, ridOf, blockOf, Bool.not_true, Bool.not_false, decide_true, decide_false, if_true, if_false, unk1, unk2, z00, zn1, h1, h2, h3, h4, c1, c2, c3']
      refine ⟨drawOk_ren (fun _ => 0) rfl (by kernel_rfl), by rw [hJa]; exact ⟨k + 1, rfl, rfl, rfl, rfl, rfl, rfl, by omega, fun j hj => by by_cases e : j = k; (subst e; exact hok); exact hp j (by omega)⟩, ?_⟩
      show n - ((k + 1 : Nat) : Int).toNat < n - (k : Int).toNat
      omega
  · have h1 : ¬ (k : Int) < (n : Int) := by omega
    simp -implicitDefEqProofs only [sB, Nat.reduceAdd, Nat.reduceSub, yieldL, popK, flat, nptr, Value.cells, H.new, eq_self, Int.reduceEq, Int.reduceLT, Int.reduceLE, Nat.reduceEqDiff, Nat.reduceLeDiff, thenQ, ContK, ty2, ty3, ty4, ty5, ty79, Bool.not_true, Bool.not_false, decide_true, decide_false, if_true, if_false, unk1, unk2, z00, zn1, h1]
    exact ⟨⟨[], by simp⟩, by rw [namesB_ok (fun i hi => hp i (by omega))]⟩
set_option maxRecDepth 100000 in
theorem isLost97 (I : Nat → Option Obj) {h : H} {a b : Int} : Snd Try.prog I (.func 97) [.agg #[.int .i64 a, .int .i64 b]] h (.bool (lostB a b)) h := by
  refine Snd_run0 (rs := [.tmp 2]) 400 Try.func97 (by kernel_rfl) rfl Try.ntmps97 rfl rfl ?_
  by_cases c1 : a ≤ b
  · simp -implicitDefEqProofs only [sB, Nat.reduceAdd, Nat.reduceSub, yieldL, popK, flat, nptr, Value.cells, H.new, eq_self, Int.reduceEq, Int.reduceLT, Int.reduceLE, Nat.reduceEqDiff, Nat.reduceLeDiff, thenQ, ContK, ty2, ty4, ty43, ty136, Bool.not_true, Bool.not_false, decide_true, decide_false, if_true, if_false, unk1, unk2, z00, zn1, c1, bs136_2]
    refine RunCall_of (within57 I (Sees.two (k := 1) rfl)) ?_
    cases hw : withinB (-10000000) 10000000 2 (two2 a b) with
    | true =>
      simp -implicitDefEqProofs only [sB, Nat.reduceAdd, Nat.reduceSub, yieldL, popK, flat, nptr, Value.cells, H.new, eq_self, Int.reduceEq, Int.reduceLT, Int.reduceLE, Nat.reduceEqDiff, Nat.reduceLeDiff, thenQ, ContK, ty2, ty4, ty43, ty136, Bool.not_true, Bool.not_false, decide_true, decide_false, if_true, if_false, unk1, unk2, z00, zn1]
      refine ⟨⟨_, rfl⟩, ?_⟩
      rw [within_two] at hw
      simp at hw
      rw [lostB_iff.2 (by omega)]
    | false =>
      simp -implicitDefEqProofs only [sB, Nat.reduceAdd, Nat.reduceSub, yieldL, popK, flat, nptr, Value.cells, H.new, eq_self, Int.reduceEq, Int.reduceLT, Int.reduceLE, Nat.reduceEqDiff, Nat.reduceLeDiff, thenQ, ContK, ty2, ty4, ty43, ty136, Bool.not_true, Bool.not_false, decide_true, decide_false, if_true, if_false, unk1, unk2, z00, zn1]
      refine ⟨⟨_, rfl⟩, ?_⟩
      rw [within_two] at hw
      simp at hw
      have : lostB a b = false := decide_eq_false (by omega)
      rw [this]
  · have : lostB a b = false := decide_eq_false (by omega)
    rw [this]
    simp -implicitDefEqProofs only [sB, Nat.reduceAdd, Nat.reduceSub, yieldL, popK, flat, nptr, Value.cells, H.new, eq_self, Int.reduceEq, Int.reduceLT, Int.reduceLE, Nat.reduceEqDiff, Nat.reduceLeDiff, thenQ, ContK, ty2, ty4, ty43, ty136, Bool.not_true, Bool.not_false, decide_true, decide_false, if_true, if_false, unk1, unk2, z00, zn1, c1]
    first | exact ⟨⟨_, rfl⟩, rfl⟩ | exact ⟨_, rfl⟩
set_option maxRecDepth 100000 in
theorem isLost70 (I : Nat → Option Obj) {h : H} {a b : Int} : Snd Try.prog I (.func 70) [.agg #[.int .i64 a, .int .i64 b]] h (.bool (lostB a b)) h := by
  refine Snd_run0 (rs := [.tmp 2]) 400 Try.func70 (by kernel_rfl) rfl Try.ntmps70 rfl rfl ?_
  by_cases c1 : -10000000 ≤ a
  · by_cases c2 : a ≤ b
    · by_cases c3 : b ≤ 10000000
      · rw [lostB_iff.2 ⟨c1, c2, c3⟩]
        simp -implicitDefEqProofs only [sB, Nat.reduceAdd, Nat.reduceSub, yieldL, popK, flat, nptr, Value.cells, H.new, eq_self, Int.reduceEq, Int.reduceLT, Int.reduceLE, Nat.reduceEqDiff, Nat.reduceLeDiff, thenQ, ContK, ty2, ty4, ty43, Bool.not_true, Bool.not_false, decide_true, decide_false, if_true, if_false, unk1, unk2, z00, zn1, c1, c2, c3]
        first | exact ⟨⟨_, rfl⟩, rfl⟩ | exact ⟨_, rfl⟩
      · have : lostB a b = false := decide_eq_false (by omega)
        rw [this]
        simp -implicitDefEqProofs only [sB, Nat.reduceAdd, Nat.reduceSub, yieldL, popK, flat, nptr, Value.cells, H.new, eq_self, Int.reduceEq, Int.reduceLT, Int.reduceLE, Nat.reduceEqDiff, Nat.reduceLeDiff, thenQ, ContK, ty2, ty4, ty43, Bool.not_true, Bool.not_false, decide_true, decide_false, if_true, if_false, unk1, unk2, z00, zn1, c1, c2, c3]
        first | exact ⟨⟨_, rfl⟩, rfl⟩ | exact ⟨_, rfl⟩
    · have : lostB a b = false := decide_eq_false (by omega)
      rw [this]
      simp -implicitDefEqProofs only [sB, Nat.reduceAdd, Nat.reduceSub, yieldL, popK, flat, nptr, Value.cells, H.new, eq_self, Int.reduceEq, Int.reduceLT, Int.reduceLE, Nat.reduceEqDiff, Nat.reduceLeDiff, thenQ, ContK, ty2, ty4, ty43, Bool.not_true, Bool.not_false, decide_true, decide_false, if_true, if_false, unk1, unk2, z00, zn1, c1, c2]
      first | exact ⟨⟨_, rfl⟩, rfl⟩ | exact ⟨_, rfl⟩
  · have : lostB a b = false := decide_eq_false (by omega)
    rw [this]
    simp -implicitDefEqProofs only [sB, Nat.reduceAdd, Nat.reduceSub, yieldL, popK, flat, nptr, Value.cells, H.new, eq_self, Int.reduceEq, Int.reduceLT, Int.reduceLE, Nat.reduceEqDiff, Nat.reduceLeDiff, thenQ, ContK, ty2, ty4, ty43, Bool.not_true, Bool.not_false, decide_true, decide_false, if_true, if_false, unk1, unk2, z00, zn1, c1]
    first | exact ⟨⟨_, rfl⟩, rfl⟩ | exact ⟨_, rfl⟩

set_option maxRecDepth 100000 in
theorem isSection88 (I : Nat → Option Obj) {h : H} {v : Value} {n : Nat} {x : Nat → Int} {parts : Int} (hv : Sees I h v n x) :
    Snd Try.prog I (.func 88) [v, .int .i64 parts] h (.bool (secB parts n x)) h := by
  have hv0 := hv
  obtain ⟨q, c, rfl, hn, hq⟩ := hv
  refine Snd_run0 (rs := [.tmp 4]) 400 Try.func88 (by kernel_rfl) rfl Try.ntmps88 rfl rfl ?_
  by_cases c1 : 0 < n
  · have c1' : (0 : Int) < (n : Int) := by omega
    simp -implicitDefEqProofs only [sB, Nat.reduceAdd, Nat.reduceSub, yieldL, popK, flat, nptr, Value.cells, H.new, eq_self, Int.reduceEq, Int.reduceLT, Int.reduceLE, Nat.reduceEqDiff, Nat.reduceLeDiff, thenQ, ContK, ty3, ty4, ty79, Bool.not_true, Bool.not_false, decide_true, decide_false, if_true, if_false, unk1, unk2, z00, zn1, c1']
    refine RunCall_of (names77 I hv0) ?_
    simp -implicitDefEqProofs only [sB, Nat.reduceAdd, Nat.reduceSub, yieldL, popK, flat, nptr, Value.cells, H.new, eq_self, Int.reduceEq, Int.reduceLT, Int.reduceLE, Nat.reduceEqDiff, Nat.reduceLeDiff, thenQ, ContK, ty3, ty4, ty79, Bool.not_true, Bool.not_false, decide_true, decide_false, if_true, if_false, unk1, unk2, z00, zn1, c1']
    exact ⟨⟨[], by simp⟩, by unfold secB; rw [decide_eq_true c1, Bool.true_and]⟩
  · have c1' : ¬ (0 : Int) < (n : Int) := by omega
    simp -implicitDefEqProofs only [sB, Nat.reduceAdd, Nat.reduceSub, yieldL, popK, flat, nptr, Value.cells, H.new, eq_self, Int.reduceEq, Int.reduceLT, Int.reduceLE, Nat.reduceEqDiff, Nat.reduceLeDiff, thenQ, ContK, ty3, ty4, ty79, Bool.not_true, Bool.not_false, decide_true, decide_false, if_true, if_false, unk1, unk2, z00, zn1, c1']
    exact ⟨⟨[], by simp⟩, by unfold secB; rw [decide_eq_false c1, Bool.false_and]⟩

set_option maxRecDepth 100000 in
theorem isSection92 (I : Nat → Option Obj) {h : H} {v : Value} {n : Nat} {x : Nat → Int} {parts : Int} (hv : Sees I h v n x) :
    Snd Try.prog I (.func 92) [v, .int .i64 parts] h (.bool (secB parts n x)) h := by
  have hv0 := hv
  obtain ⟨q, c, rfl, hn, hq⟩ := hv
  refine Snd_run0 (rs := [.tmp 4]) 400 Try.func92 (by kernel_rfl) rfl Try.ntmps92 rfl rfl ?_
  by_cases c1 : 0 < n
  · have c1' : (0 : Int) < (n : Int) := by omega
    simp -implicitDefEqProofs only [sB, Nat.reduceAdd, Nat.reduceSub, yieldL, popK, flat, nptr, Value.cells, H.new, eq_self, Int.reduceEq, Int.reduceLT, Int.reduceLE, Nat.reduceEqDiff, Nat.reduceLeDiff, thenQ, ContK, ty3, ty4, ty79, Bool.not_true, Bool.not_false, decide_true, decide_false, if_true, if_false, unk1, unk2, z00, zn1, c1']
    refine RunCall_of (rising81 I hv0) ?_
    simp -implicitDefEqProofs only [sB, Nat.reduceAdd, Nat.reduceSub, yieldL, popK, flat, nptr, Value.cells, H.new, eq_self, Int.reduceEq, Int.reduceLT, Int.reduceLE, Nat.reduceEqDiff, Nat.reduceLeDiff, thenQ, ContK, ty3, ty4, ty79, Bool.not_true, Bool.not_false, decide_true, decide_false, if_true, if_false, unk1, unk2, z00, zn1, c1']
    exact ⟨⟨[], by simp⟩, by unfold secB; rw [decide_eq_true c1, Bool.true_and]⟩
  · have c1' : ¬ (0 : Int) < (n : Int) := by omega
    simp -implicitDefEqProofs only [sB, Nat.reduceAdd, Nat.reduceSub, yieldL, popK, flat, nptr, Value.cells, H.new, eq_self, Int.reduceEq, Int.reduceLT, Int.reduceLE, Nat.reduceEqDiff, Nat.reduceLeDiff, thenQ, ContK, ty3, ty4, ty79, Bool.not_true, Bool.not_false, decide_true, decide_false, if_true, if_false, unk1, unk2, z00, zn1, c1']
    exact ⟨⟨[], by simp⟩, by unfold secB; rw [decide_eq_false c1, Bool.false_and]⟩
end Go.Proofs.Ytpgignenhiddkaa
set_option linter.unusedSimpArgs false
set_option linter.unusedVariables false
namespace Go.Proofs.Ytpgignenhiddkaa
open Go.Sym
attribute [local irreducible] Run RunS RunG RunDG RunDS RunDE RunDA RunDC RunCall RunX RunB
/-- what tests are -/
structure TD where
  n : Nat
  P : Nat → Option Addr
  m : Nat → Nat
  C : Nat → Nat
  x : Nat → Nat → Int
  lo : Nat → Int
  hi : Nat → Int
/-- tests that can be read -/
structure Tests (I : Nat → Option Obj) (h : H) (v : Value) (T : TD) : Prop where
  sl : ∃ p c, v = .slice p T.n c ∧ T.n ≤ 9223372036854775807 ∧ (0 < T.n → ∃ id off, p = some ⟨id, off, none⟩ ∧ ∀ i, i < T.n → rdl I h id (off + i * 3) 3 = some [.slice (T.P i) (T.m i) (T.C i), .int .i64 (T.lo i), .int .i64 (T.hi i)])
  pt : ∀ i, i < T.n → Sees I h (.slice (T.P i) (T.m i) (T.C i)) (T.m i) (T.x i)
theorem Tests.app {I : Nat → Option Obj} {h : H} {v : Value} {T : TD} (t : Tests I h v T) (l : H) : Tests I (h ++ l) v T where
  sl := by
    obtain ⟨p, c, e, hn, hq⟩ := t.sl
    refine ⟨p, c, e, hn, fun h0 => ?_⟩
    obtain ⟨id, off, e1, hr⟩ := hq h0
    exact ⟨id, off, e1, fun i hi => rdl_mono (hr i hi) l⟩
  pt := fun i hi => (t.pt i hi).app l
theorem trow_P {I : Nat → Option Obj} {h : H} {id off i : Nat} {a b c : Value} (hr : rdl I h id (off + i * 3) 3 = some [a, b, c]) : rdl I h id (off + i * 3) 1 = some [a] := rdl_part hr 0 1 (by omega)
theorem trow_L {I : Nat → Option Obj} {h : H} {id off i : Nat} {a b c : Value} (hr : rdl I h id (off + i * 3) 3 = some [a, b, c]) : rdl I h id (off + i * 3 + 1) 2 = some [b, c] := rdl_part hr 1 2 (by omega)
def testOk (parts : Int) (T : TD) (i : Nat) : Bool := secB parts (T.m i) (T.x i) && lostB (T.lo i) (T.hi i)
def testsE (parts : Int) (T : TD) : Int := if parts < 1 ∨ 12 < parts then 2 else if 40 < T.n then 6 else if anyN (fun i => !testOk parts T i) T.n then 3 else 0
theorem any_false {p : Nat → Bool} {n : Nat} (h : anyN p n = false) : ∀ i, i < n → p i = false := by
  intro i hi
  cases hb : p i with
  | false => rfl
  | true => rw [anyN_iff.2 ⟨i, hi, hb⟩] at h; cases h
theorem any_none {p : Nat → Bool} {n : Nat} (h : ∀ i, i < n → p i = false) : anyN p n = false := by
  rw [← Bool.not_eq_true, anyN_iff]
  rintro ⟨i, hi, hb⟩
  rw [h i hi] at hb; cases hb
structure TestsOk (parts : Int) (T : TD) : Prop where
  p1 : 1 ≤ parts
  p12 : parts ≤ 12
  n40 : T.n ≤ 40
  ok : ∀ i, i < T.n → testOk parts T i = true
theorem tests_ok {parts : Int} {T : TD} (h : testsE parts T = 0) : TestsOk parts T := by
  unfold testsE at h
  split at h
  · cases h
  · split at h
    · cases h
    · split at h
      · cases h
      · rename_i h1 h2 h3
        refine ⟨by omega, by omega, by omega, fun i hi => ?_⟩
        simp only [Bool.not_eq_true] at h3
        have := any_false h3 i hi
        simpa using this
theorem testOk_iff {parts : Int} {T : TD} {i : Nat} : testOk parts T i = true ↔ secB parts (T.m i) (T.x i) = true ∧ lostB (T.lo i) (T.hi i) = true := by unfold testOk; rw [Bool.and_eq_true]
def inB (m : Nat) (x : Nat → Int) (a : Int) : Bool := anyN (fun j => decide (x j = a)) m
theorem wrArr {N i : Nat} {w : Nat → Int} {x : Int} {e : TypeId} (h : i < N) : wrB (some (.cells (arrL N w) e)) i [.int .i64 x] = some (.cells (arrL N (upd w i x)) e) := by
  rw [wrB_cells (by rw [arrL_length]; simp; omega) rfl, splice_cons, splice_nil, arrL_set]
/-- which of twelve are marked, by the first k -/
def markF (x : Nat → Int) : Nat → Nat → Int
  | 0 => fun _ => 0
  | k + 1 => upd (markF x k) (x k).toNat 1
theorem markF_in {x : Nat → Int} : ∀ k, (∀ j, j < k → 0 ≤ x j) → ∀ a : Nat, markF x k a = if inB k x a then 1 else 0
  | 0, _, a => rfl
  | k + 1, h, a => by
    have ih := markF_in k (fun j hj => h j (by omega)) a
    have hk := h k (by omega)
    show upd (markF x k) (x k).toNat 1 a = _
    unfold upd
    by_cases e : a = (x k).toNat
    · rw [if_pos e, if_pos]
      unfold inB
      exact anyN_iff.2 ⟨k, by omega, decide_eq_true (by omega)⟩
    · rw [if_neg e, ih]
      have e2 : inB (k + 1) x a = inB k x a := by
        rw [Bool.eq_iff_iff]
        unfold inB
        rw [anyN_iff, anyN_iff]
        constructor
        · rintro ⟨j, hj, hb⟩
          refine ⟨j, ?_, hb⟩
          by_cases ej : j = k
          · subst ej; have := of_decide_eq_true hb; omega
          · omega
        · rintro ⟨j, hj, hb⟩; exact ⟨j, by omega, hb⟩
      rw [e2]

set_option maxRecDepth 100000 in
theorem closure108 (I : Nat → Option Obj) {h : H} {p : Option Addr} {m c pp : Nat} {x : Nat → Int} {a b parts : Int} (hx : Sees I h (.slice p m c) m x) (hp : rdl I h pp 0 1 = some [.int .i64 parts]) :
    Snd Try.prog I (.func 108) [.agg #[.slice p m c, .int .i64 a, .int .i64 b], .pointer (some ⟨pp, 0, none⟩)] h (.bool (!(secB parts m x && lostB a b))) h := by
  have hp' := rdl_mono hp
  refine Snd_run0 (rs := [.tmp 3]) 400 Try.func108 (by kernel_rfl) rfl Try.ntmps108 rfl rfl ?_
  simp -implicitDefEqProofs only [sB, Nat.reduceAdd, Nat.reduceSub, yieldL, popK, flat, nptr, Value.cells, H.new, eq_self, Int.reduceEq, Int.reduceLT, Int.reduceLE, Nat.reduceEqDiff, Nat.reduceLeDiff, thenQ, ContK, ty3, ty4, ty43, ty79, ty89, Bool.not_true, Bool.not_false, decide_true, decide_false, if_true, if_false, unk1, unk2, z00, zn1, st89, st43, st123, hp']
  refine RunCall_of (isSection88 I (hx.app _)) ?_
  cases h1 : secB parts m x with
  | false =>
    simp -implicitDefEqProofs only [sB, Nat.reduceAdd, Nat.reduceSub, yieldL, popK, flat, nptr, Value.cells, H.new, eq_self, Int.reduceEq, Int.reduceLT, Int.reduceLE, Nat.reduceEqDiff, Nat.reduceLeDiff, thenQ, ContK, ty3, ty4, ty43, ty79, ty89, Bool.not_true, Bool.not_false, decide_true, decide_false, if_true, if_false, unk1, unk2, z00, zn1, st89, st43, st123]
    first | exact ⟨⟨_, rfl⟩, rfl⟩ | exact ⟨_, rfl⟩
  | true =>
    simp -implicitDefEqProofs only [sB, Nat.reduceAdd, Nat.reduceSub, yieldL, popK, flat, nptr, Value.cells, H.new, eq_self, Int.reduceEq, Int.reduceLT, Int.reduceLE, Nat.reduceEqDiff, Nat.reduceLeDiff, thenQ, ContK, ty3, ty4, ty43, ty79, ty89, Bool.not_true, Bool.not_false, decide_true, decide_false, if_true, if_false, unk1, unk2, z00, zn1, st89, st43, st123]
    refine RunCall_of (isLost97 I) ?_
    simp -implicitDefEqProofs only [sB, Nat.reduceAdd, Nat.reduceSub, yieldL, popK, flat, nptr, Value.cells, H.new, eq_self, Int.reduceEq, Int.reduceLT, Int.reduceLE, Nat.reduceEqDiff, Nat.reduceLeDiff, thenQ, ContK, ty3, ty4, ty43, ty79, ty89, Bool.not_true, Bool.not_false, decide_true, decide_false, if_true, if_false, unk1, unk2, z00, zn1, st89, st43, st123]
    exact ⟨⟨_, rfl⟩, by rw [Bool.true_and]⟩

set_option maxRecDepth 100000 in
theorem index116 (I : Nat → Option Obj) {h : H} {v : Value} {T : TD} {g : FuncId} {cap : List Value} {p : Nat → Bool} (hv : Tests I h v T)
    (hf : ∀ i, i < T.n → Snd Try.prog I (.func g) (.agg #[.slice (T.P i) (T.m i) (T.C i), .int .i64 (T.lo i), .int .i64 (T.hi i)] :: cap) h (.bool (p i)) h) :
    Snd Try.prog I (.func 116) [v, .func (.func g) #[] cap.toArray] h (.int .i64 (firstIx p T.n)) h := by
  obtain ⟨q, c, rfl, hn, hq⟩ := hv.sl
  refine Snd_run (rs := [.tmp 4]) 400 Try.func116 (by kernel_rfl) rfl Try.ntmps116 rfl ?_
  simp -implicitDefEqProofs only [sB, Nat.reduceAdd, Nat.reduceSub, yieldL, popK, flat, nptr, Value.cells, H.new, eq_self, Int.reduceEq, Int.reduceLT, Int.reduceLE, Nat.reduceEqDiff, Nat.reduceLeDiff, thenQ, ContK, ty2, ty3, ty4, ty5, ty64, ty89, ty155]
  obtain ⟨Ja, hJa⟩ : ∃ J : St → Prop, J = fun s => ∃ (k : Nat), s.df = [] ∧ s.h = h ∧ s.tm.length = 19 ∧ s.tm.getD 0 undef = .slice q T.n c ∧ s.tm.getD 1 undef = .func (.func g) #[] cap.toArray ∧ s.tm.getD 4 undef = .int .i64 0 ∧ s.tm.getD 7 undef = .int .i64 T.n ∧ s.tm.getD 8 undef = .int .i64 k ∧ (k ≤ T.n) ∧ (firstIx p T.n = firstFrom p T.n (T.n - k) k) := ⟨_, rfl⟩
  refine Loop_run (by kernel_rfl) 400 Ja (muI 8 T.n) (by rw [hJa]; exact ⟨0, rfl, rfl, rfl, rfl, rfl, rfl, rfl, rfl, Nat.zero_le _, rfl⟩) ?_
  intro sa hsa
  rw [hJa] at hsa
  obtain ⟨tma, dfa, hha⟩ := sa
  obtain ⟨k, ea1, ea2, ea3, la0, la1, la4, la7, la8, hk, hp⟩ := hsa
  simp only at ea1 ea2 ea3 la0 la1 la4 la7 la8
  subst dfa; subst hha
  have elita : tma = [.slice q T.n c, .func (.func g) #[] cap.toArray, tma.getD 2 undef, tma.getD 3 undef, .int .i64 0, tma.getD 5 undef, tma.getD 6 undef, .int .i64 T.n, .int .i64 k, tma.getD 9 undef, tma.getD 10 undef, tma.getD 11 undef, tma.getD 12 undef, tma.getD 13 undef, tma.getD 14 undef, tma.getD 15 undef, tma.getD 16 undef, tma.getD 17 undef, tma.getD 18 undef] := by
    have e0 := lit_eq ea3
    have er : List.range 19 = [0, 1, 2, 3, 4, 5, 6, 7, 8, 9, 10, 11, 12, 13, 14, 15, 16, 17, 18] := by rfl
    rw [er] at e0
    simp only [List.map_cons, List.map_nil, la0, la1, la4, la7, la8] at e0
    exact e0
  rw [elita]
  clear la0
  clear la1
  clear la4
  clear la7
  clear la8
  clear elita ea3
  by_cases hkn : k < T.n
  · obtain ⟨id, off, rfl, hr⟩ := hq (by omega)
    have h1 : (k : Int) < (T.n : Int) := by omega
    have h2 : (0 : Int) ≤ (k : Int) ∧ (k : Int) < (T.n : Int) := ⟨by omega, h1⟩
    have h3 := hr k hkn
    have h4 := wrap_add1 (i := k) (by omega)
    simp -implicitDefEqProofs only [sB, Nat.reduceAdd, Nat.reduceSub, yieldL, popK, flat, nptr, Value.cells, H.new, eq_self, Int.reduceEq, Int.reduceLT, Int.reduceLE, Nat.reduceEqDiff, Nat.reduceLeDiff, thenQ, ContK, ty2, ty3, ty4, ty5, ty64, ty89, ty155, h1, h2, h3]
    refine RunCall_of (hf k hkn) ?_
    simp -implicitDefEqProofs only [sB, Nat.reduceAdd, Nat.reduceSub, yieldL, popK, flat, nptr, Value.cells, H.new, eq_self, Int.reduceEq, Int.reduceLT, Int.reduceLE, Nat.reduceEqDiff, Nat.reduceLeDiff, thenQ, ContK, ty2, ty3, ty4, ty5, ty64, ty89, ty155, h4]
    refine RunB_of (fun hb => ?_) (fun hb => ?_)
    · simp -implicitDefEqProofs only [sB, Nat.reduceAdd, Nat.reduceSub, yieldL, popK, flat, nptr, Value.cells, H.new, eq_self, Int.reduceEq, Int.reduceLT, Int.reduceLE, Nat.reduceEqDiff, Nat.reduceLeDiff, thenQ, ContK, ty2, ty3, ty4, ty5, ty64, ty89, ty155, h4]
      rw [hp, firstFrom_pos hkn hb]
    · simp -implicitDefEqProofs only [sB, Nat.reduceAdd, Nat.reduceSub, yieldL, popK, flat, nptr, Value.cells, H.new, eq_self, Int.reduceEq, Int.reduceLT, Int.reduceLE, Nat.reduceEqDiff, Nat.reduceLeDiff, thenQ, ContK, ty2, ty3, ty4, ty5, ty64, ty89, ty155, h4]
      refine ⟨by rw [hJa]; exact ⟨k + 1, rfl, rfl, rfl, rfl, rfl, rfl, rfl, rfl, by omega, by rw [hp, firstFrom_neg hkn hb]⟩, ?_⟩
      show T.n - ((k + 1 : Nat) : Int).toNat < T.n - (k : Int).toNat
      omega
  · have h1 : ¬ (k : Int) < (T.n : Int) := by omega
    simp -implicitDefEqProofs only [sB, Nat.reduceAdd, Nat.reduceSub, yieldL, popK, flat, nptr, Value.cells, H.new, eq_self, Int.reduceEq, Int.reduceLT, Int.reduceLE, Nat.reduceEqDiff, Nat.reduceLeDiff, thenQ, ContK, ty2, ty3, ty4, ty5, ty64, ty89, ty155, h1]
    rw [hp, firstFrom_end hkn]
set_option maxRecDepth 100000 in
theorem contains107 (I : Nat → Option Obj) {h : H} {v : Value} {T : TD} {g : FuncId} {cap : List Value} {p : Nat → Bool} (hv : Tests I h v T)
    (hf : ∀ i, i < T.n → Snd Try.prog I (.func g) (.agg #[.slice (T.P i) (T.m i) (T.C i), .int .i64 (T.lo i), .int .i64 (T.hi i)] :: cap) h (.bool (p i)) h) :
    Snd Try.prog I (.func 107) [v, .func (.func g) #[] cap.toArray] h (.bool (anyN p T.n)) h := by
  refine Snd_run (rs := [.tmp 4]) 400 Try.func107 (by kernel_rfl) rfl Try.ntmps107 rfl ?_
  simp -implicitDefEqProofs only [sB, Nat.reduceAdd, Nat.reduceSub, yieldL, popK, flat, nptr, Value.cells, H.new, eq_self, Int.reduceEq, Int.reduceLT, Int.reduceLE, Nat.reduceEqDiff, Nat.reduceLeDiff, thenQ, ContK, ty3, ty4, ty64, ty155]
  refine RunCall_of (index116 I hv hf) ?_
  simp -implicitDefEqProofs only [sB, Nat.reduceAdd, Nat.reduceSub, yieldL, popK, flat, nptr, Value.cells, H.new, eq_self, Int.reduceEq, Int.reduceLT, Int.reduceLE, Nat.reduceEqDiff, Nat.reduceLeDiff, thenQ, ContK, ty3, ty4, ty64, ty155, firstIx_any]
set_option maxRecDepth 100000 in
theorem checkTests79 (I : Nat → Option Obj) {h : H} {v : Value} {T : TD} {parts : Int} (hv : Tests I h v T) :
    Snd Try.prog I (.func 79) [.int .i64 parts, v] h (.int .i64 (testsE parts T)) h := by
  have hv0 := hv
  obtain ⟨q, c, rfl, hn, _⟩ := hv.sl
  refine Snd_run0 (rs := [.tmp 4]) 400 Try.func79 (by kernel_rfl) rfl Try.ntmps79 rfl rfl ?_
  by_cases c1 : parts < 1
  · simp -implicitDefEqProofs only [sB, Nat.reduceAdd, Nat.reduceSub, yieldL, popK, flat, nptr, Value.cells, H.new, eq_self, Int.reduceEq, Int.reduceLT, Int.reduceLE, Nat.reduceEqDiff, Nat.reduceLeDiff, thenQ, ContK, ty2, ty3, ty4, ty5, ty27, ty64, ty155, Bool.not_true, Bool.not_false, decide_true, decide_false, if_true, if_false, unk1, unk2, z00, zn1, st89, st43, st123, c1]
    exact ⟨⟨_, rfl⟩, by unfold testsE; rw [if_pos (.inl c1)]⟩
  by_cases c2 : 12 < parts
  · simp -implicitDefEqProofs only [sB, Nat.reduceAdd, Nat.reduceSub, yieldL, popK, flat, nptr, Value.cells, H.new, eq_self, Int.reduceEq, Int.reduceLT, Int.reduceLE, Nat.reduceEqDiff, Nat.reduceLeDiff, thenQ, ContK, ty2, ty3, ty4, ty5, ty27, ty64, ty155, Bool.not_true, Bool.not_false, decide_true, decide_false, if_true, if_false, unk1, unk2, z00, zn1, st89, st43, st123, c1, c2]
    exact ⟨⟨_, rfl⟩, by unfold testsE; rw [if_pos (.inr c2)]⟩
  by_cases c3 : (40 : Int) < (T.n : Int)
  · simp -implicitDefEqProofs only [sB, Nat.reduceAdd, Nat.reduceSub, yieldL, popK, flat, nptr, Value.cells, H.new, eq_self, Int.reduceEq, Int.reduceLT, Int.reduceLE, Nat.reduceEqDiff, Nat.reduceLeDiff, thenQ, ContK, ty2, ty3, ty4, ty5, ty27, ty64, ty155, Bool.not_true, Bool.not_false, decide_true, decide_false, if_true, if_false, unk1, unk2, z00, zn1, st89, st43, st123, c1, c2, c3]
    exact ⟨⟨_, rfl⟩, by unfold testsE; rw [if_neg (by omega), if_pos (by omega)]⟩
  simp -implicitDefEqProofs only [sB, Nat.reduceAdd, Nat.reduceSub, yieldL, popK, flat, nptr, Value.cells, H.new, eq_self, Int.reduceEq, Int.reduceLT, Int.reduceLE, Nat.reduceEqDiff, Nat.reduceLeDiff, thenQ, ContK, ty2, ty3, ty4, ty5, ty27, ty64, ty155, Bool.not_true, Bool.not_false, decide_true, decide_false, if_true, if_false, unk1, unk2, z00, zn1, st89, st43, st123, c1, c2, c3]
  refine RunCall_of (contains107 I (g := 108) (cap := [.pointer (some ⟨2 * h.length, 0, none⟩)]) (p := fun i => !testOk parts T i) (hv0.app _) (fun i hi => closure108 I ((hv0.pt i hi).app _) (by rw [rd_z]; rfl))) ?_
  cases ha : anyN (fun i => !testOk parts T i) T.n with
  | true =>
    simp -implicitDefEqProofs only [sB, Nat.reduceAdd, Nat.reduceSub, yieldL, popK, flat, nptr, Value.cells, H.new, eq_self, Int.reduceEq, Int.reduceLT, Int.reduceLE, Nat.reduceEqDiff, Nat.reduceLeDiff, thenQ, ContK, ty2, ty3, ty4, ty5, ty27, ty64, ty155, Bool.not_true, Bool.not_false, decide_true, decide_false, if_true, if_false, unk1, unk2, z00, zn1, st89, st43, st123]
    exact ⟨⟨_, rfl⟩, by unfold testsE; rw [if_neg (by omega), if_neg (by omega), if_pos ha]⟩
  | false =>
    simp -implicitDefEqProofs only [sB, Nat.reduceAdd, Nat.reduceSub, yieldL, popK, flat, nptr, Value.cells, H.new, eq_self, Int.reduceEq, Int.reduceLT, Int.reduceLE, Nat.reduceEqDiff, Nat.reduceLeDiff, thenQ, ContK, ty2, ty3, ty4, ty5, ty27, ty64, ty155, Bool.not_true, Bool.not_false, decide_true, decide_false, if_true, if_false, unk1, unk2, z00, zn1, st89, st43, st123]
    exact ⟨⟨_, rfl⟩, by unfold testsE; rw [if_neg (by omega), if_neg (by omega), if_neg (by rw [ha]; simp)]⟩

set_option maxRecDepth 100000 in
theorem checkTests84 (I : Nat → Option Obj) {h : H} {v : Value} {T : TD} {parts : Int} (hv : Tests I h v T) :
    Snd Try.prog I (.func 84) [.int .i64 parts, v] h (.int .i64 (testsE parts T)) h := by
  have hv0 := hv
  obtain ⟨q, c, rfl, hn, hq⟩ := hv.sl
  refine Snd_run0 (rs := [.tmp 4]) 400 Try.func84 (by kernel_rfl) rfl Try.ntmps84 rfl rfl ?_
  by_cases c1 : parts < 1
  · simp -implicitDefEqProofs only [sB, Nat.reduceAdd, Nat.reduceSub, yieldL, popK, flat, nptr, Value.cells, H.new, eq_self, Int.reduceEq, Int.reduceLT, Int.reduceLE, Nat.reduceEqDiff, Nat.reduceLeDiff, thenQ, ContK, ty2, ty3, ty4, ty5, ty27, ty43, ty64, ty79, ty89, Bool.not_true, Bool.not_false, decide_true, decide_false, if_true, if_false, unk1, unk2, z00, zn1, st89, st43, st123, c1]
    exact ⟨⟨[], by simp⟩, by unfold testsE; rw [if_pos (.inl c1)]⟩
  by_cases c2 : 12 < parts
  · simp -implicitDefEqProofs only [sB, Nat.reduceAdd, Nat.reduceSub, yieldL, popK, flat, nptr, Value.cells, H.new, eq_self, Int.reduceEq, Int.reduceLT, Int.reduceLE, Nat.reduceEqDiff, Nat.reduceLeDiff, thenQ, ContK, ty2, ty3, ty4, ty5, ty27, ty43, ty64, ty79, ty89, Bool.not_true, Bool.not_false, decide_true, decide_false, if_true, if_false, unk1, unk2, z00, zn1, st89, st43, st123, c1, c2]
    exact ⟨⟨[], by simp⟩, by unfold testsE; rw [if_pos (.inr c2)]⟩
  by_cases c3 : (40 : Int) < (T.n : Int)
  · simp -implicitDefEqProofs only [sB, Nat.reduceAdd, Nat.reduceSub, yieldL, popK, flat, nptr, Value.cells, H.new, eq_self, Int.reduceEq, Int.reduceLT, Int.reduceLE, Nat.reduceEqDiff, Nat.reduceLeDiff, thenQ, ContK, ty2, ty3, ty4, ty5, ty27, ty43, ty64, ty79, ty89, Bool.not_true, Bool.not_false, decide_true, decide_false, if_true, if_false, unk1, unk2, z00, zn1, st89, st43, st123, c1, c2, c3]
    exact ⟨⟨[], by simp⟩, by unfold testsE; rw [if_neg (by omega), if_pos (by omega)]⟩
  simp -implicitDefEqProofs only [sB, Nat.reduceAdd, Nat.reduceSub, yieldL, popK, flat, nptr, Value.cells, H.new, eq_self, Int.reduceEq, Int.reduceLT, Int.reduceLE, Nat.reduceEqDiff, Nat.reduceLeDiff, thenQ, ContK, ty2, ty3, ty4, ty5, ty27, ty43, ty64, ty79, ty89, Bool.not_true, Bool.not_false, decide_true, decide_false, if_true, if_false, unk1, unk2, z00, zn1, st89, st43, st123, c1, c2, c3]
  obtain ⟨Ja, hJa⟩ : ∃ J : St → Prop, J = fun s => ∃ (k : Nat), s.df = [] ∧ s.h = h ∧ s.tm.length = 38 ∧ s.tm.getD 0 undef = .int .i64 parts ∧ s.tm.getD 1 undef = .slice q T.n c ∧ s.tm.getD 5 undef = .int .i64 k ∧ (k ≤ T.n) ∧ (∀ j, j < k → testOk parts T j = true) := ⟨_, rfl⟩
  refine Loop_run (by kernel_rfl) 400 Ja (muI 5 T.n) (by rw [hJa]; exact ⟨0, rfl, rfl, rfl, rfl, rfl, rfl, Nat.zero_le _, fun j hj => by omega⟩) ?_
  intro sa hsa
  rw [hJa] at hsa
  obtain ⟨tma, dfa, hha⟩ := sa
  obtain ⟨k, ea1, ea2, ea3, la0, la1, la5, hk, hp⟩ := hsa
  simp only at ea1 ea2 ea3 la0 la1 la5
  subst dfa; subst hha
  have elita : tma = [.int .i64 parts, .slice q T.n c, tma.getD 2 undef, tma.getD 3 undef, tma.getD 4 undef, .int .i64 k, tma.getD 6 undef, tma.getD 7 undef, tma.getD 8 undef, tma.getD 9 undef, tma.getD 10 undef, tma.getD 11 undef, tma.getD 12 undef, tma.getD 13 undef, tma.getD 14 undef, tma.getD 15 undef, tma.getD 16 undef, tma.getD 17 undef, tma.getD 18 undef, tma.getD 19 undef, tma.getD 20 undef, tma.getD 21 undef, tma.getD 22 undef, tma.getD 23 undef, tma.getD 24 undef, tma.getD 25 undef, tma.getD 26 undef, tma.getD 27 undef, tma.getD 28 undef, tma.getD 29 undef, tma.getD 30 undef, tma.getD 31 undef, tma.getD 32 undef, tma.getD 33 undef, tma.getD 34 undef, tma.getD 35 undef, tma.getD 36 undef, tma.getD 37 undef] := by
    have e0 := lit_eq ea3
    have er : List.range 38 = [0, 1, 2, 3, 4, 5, 6, 7, 8, 9, 10, 11, 12, 13, 14, 15, 16, 17, 18, 19, 20, 21, 22, 23, 24, 25, 26, 27, 28, 29, 30, 31, 32, 33, 34, 35, 36, 37] := by rfl
    rw [er] at e0
    simp only [List.map_cons, List.map_nil, la0, la1, la5] at e0
    exact e0
  rw [elita]
  clear la0
  clear la1
  clear la5
  clear elita ea3
  by_cases hkn : k < T.n
  · obtain ⟨id, off, rfl, hr⟩ := hq (by omega)
    have h1 : (k : Int) < (T.n : Int) := by omega
    have h2 : (0 : Int) ≤ (k : Int) ∧ (k : Int) < (T.n : Int) := ⟨by omega, h1⟩
    have h3 := hr k hkn
    have h4 := wrap_add1 (i := k) (by omega)
    have bad : testOk parts T k = false → testsE parts T = 3 := fun hb => by
      unfold testsE; rw [if_neg (by omega), if_neg (by omega), if_pos (anyN_iff.2 ⟨k, hkn, by rw [hb]; rfl⟩)]
    simp -implicitDefEqProofs only [sB, Nat.reduceAdd, Nat.reduceSub, yieldL, popK, flat, nptr, Value.cells, H.new, eq_self, Int.reduceEq, Int.reduceLT, Int.reduceLE, Nat.reduceEqDiff, Nat.reduceLeDiff, thenQ, ContK, ty2, ty3, ty4, ty5, ty27, ty43, ty64, ty79, ty89, Bool.not_true, Bool.not_false, decide_true, decide_false, if_true, if_false, unk1, unk2, z00, zn1, st89, st43, st123, h1, h2, trow_P h3]
    refine RunCall_of (isSection92 I (hv0.pt k hkn)) ?_
    cases hs : secB parts (T.m k) (T.x k) with
    | false =>
      have hb : testOk parts T k = false := by unfold testOk; rw [hs]; rfl
      simp -implicitDefEqProofs only [sB, Nat.reduceAdd, Nat.reduceSub, yieldL, popK, flat, nptr, Value.cells, H.new, eq_self, Int.reduceEq, Int.reduceLT, Int.reduceLE, Nat.reduceEqDiff, Nat.reduceLeDiff, thenQ, ContK, ty2, ty3, ty4, ty5, ty27, ty43, ty64, ty79, ty89, Bool.not_true, Bool.not_false, decide_true, decide_false, if_true, if_false, unk1, unk2, z00, zn1, st89, st43, st123]
      exact ⟨⟨[], by simp⟩, by rw [bad hb]⟩
    | true =>
      simp -implicitDefEqProofs only [sB, Nat.reduceAdd, Nat.reduceSub, yieldL, popK, flat, nptr, Value.cells, H.new, eq_self, Int.reduceEq, Int.reduceLT, Int.reduceLE, Nat.reduceEqDiff, Nat.reduceLeDiff, thenQ, ContK, ty2, ty3, ty4, ty5, ty27, ty43, ty64, ty79, ty89, Bool.not_true, Bool.not_false, decide_true, decide_false, if_true, if_false, unk1, unk2, z00, zn1, st89, st43, st123, h2, trow_L h3]
      refine RunCall_of (isLost70 I) ?_
      cases hl : lostB (T.lo k) (T.hi k) with
      | false =>
        have hb : testOk parts T k = false := by unfold testOk; rw [hs, hl]; rfl
        simp -implicitDefEqProofs only [sB, Nat.reduceAdd, Nat.reduceSub, yieldL, popK, flat, nptr, Value.cells, H.new, eq_self, Int.reduceEq, Int.reduceLT, Int.reduceLE, Nat.reduceEqDiff, Nat.reduceLeDiff, thenQ, ContK, ty2, ty3, ty4, ty5, ty27, ty43, ty64, ty79, ty89, Bool.not_true, Bool.not_false, decide_true, decide_false, if_true, if_false, unk1, unk2, z00, zn1, st89, st43, st123]
        exact ⟨⟨[], by simp⟩, by rw [bad hb]⟩
      | true =>
        have hok : testOk parts T k = true := by unfold testOk; rw [hs, hl]; rfl
        simp -implicitDefEqProofs only [sB, Nat.reduceAdd, Nat.reduceSub, yieldL, popK, flat, nptr, Value.cells, H.new, eq_self, Int.reduceEq, Int.reduceLT, Int.reduceLE, Nat.reduceEqDiff, Nat.reduceLeDiff, thenQ, ContK, ty2, ty3, ty4, ty5, ty27, ty43, ty64, ty79, ty89, Bool.not_true, Bool.not_false, decide_true, decide_false, if_true, if_false, unk1, unk2, z00, zn1, st89, st43, st123, h4]
        refine ⟨by rw [hJa]; exact ⟨k + 1, rfl, rfl, rfl, rfl, rfl, rfl, by omega, fun j hj => by by_cases e : j = k; (subst e; exact hok); exact hp j (by omega)⟩, ?_⟩
        show T.n - ((k + 1 : Nat) : Int).toNat < T.n - (k : Int).toNat
        omega
  · have h1 : ¬ (k : Int) < (T.n : Int) := by omega
    simp -implicitDefEqProofs only [sB, Nat.reduceAdd, Nat.reduceSub, yieldL, popK, flat, nptr, Value.cells, H.new, eq_self, Int.reduceEq, Int.reduceLT, Int.reduceLE, Nat.reduceEqDiff, Nat.reduceLeDiff, thenQ, ContK, ty2, ty3, ty4, ty5, ty27, ty43, ty64, ty79, ty89, Bool.not_true, Bool.not_false, decide_true, decide_false, if_true, if_false, unk1, unk2, z00, zn1, st89, st43, st123, h1]
    exact ⟨⟨[], by simp⟩, by unfold testsE; rw [if_neg (by omega), if_neg (by omega), if_neg (by rw [any_none (fun i hi => by rw [hp i (by omega)]; rfl)]; simp)]⟩

set_option maxRecDepth 100000 in
theorem in53 (I : Nat → Option Obj) {h : H} {v : Value} {m : Nat} {x : Nat → Int} {a : Int} (hv : Sees I h v m x) :
    Snd Try.prog I (.func 53) [v, .int .i64 a] h (.bool (inB m x a)) h := by
  obtain ⟨q, c, rfl, hn, hq⟩ := hv
  refine Snd_run0 (rs := [.tmp 4]) 400 Try.func53 (by kernel_rfl) rfl Try.ntmps53 rfl rfl ?_
  simp -implicitDefEqProofs only [sB, Nat.reduceAdd, Nat.reduceSub, yieldL, popK, flat, nptr, Value.cells, H.new, eq_self, Int.reduceEq, Int.reduceLT, Int.reduceLE, Nat.reduceEqDiff, Nat.reduceLeDiff, thenQ, ContK, ty2, ty3, ty4, ty5, ty79, Bool.not_true, Bool.not_false, decide_true, decide_false, if_true, if_false, unk1, unk2, z00, zn1, st89, st43, st123]
  obtain ⟨Ja, hJa⟩ : ∃ J : St → Prop, J = fun s => ∃ (k : Nat), s.df = [] ∧ s.h = h ∧ s.tm.length = 18 ∧ s.tm.getD 0 undef = .slice q m c ∧ s.tm.getD 1 undef = .int .i64 a ∧ s.tm.getD 5 undef = .int .i64 k ∧ (k ≤ m) ∧ (∀ j, j < k → x j ≠ a) := ⟨_, rfl⟩
  refine Loop_run (by kernel_rfl) 400 Ja (muI 5 m) (by rw [hJa]; exact ⟨0, rfl, rfl, rfl, rfl, rfl, rfl, Nat.zero_le _, fun j hj => by omega⟩) ?_
  intro sa hsa
  rw [hJa] at hsa
  obtain ⟨tma, dfa, hha⟩ := sa
  obtain ⟨k, ea1, ea2, ea3, la0, la1, la5, hk, hp⟩ := hsa
  simp only at ea1 ea2 ea3 la0 la1 la5
  subst dfa; subst hha
  have elita : tma = [.slice q m c, .int .i64 a, tma.getD 2 undef, tma.getD 3 undef, tma.getD 4 undef, .int .i64 k, tma.getD 6 undef, tma.getD 7 undef, tma.getD 8 undef, tma.getD 9 undef, tma.getD 10 undef, tma.getD 11 undef, tma.getD 12 undef, tma.getD 13 undef, tma.getD 14 undef, tma.getD 15 undef, tma.getD 16 undef, tma.getD 17 undef] := by
    have e0 := lit_eq ea3
    have er : List.range 18 = [0, 1, 2, 3, 4, 5, 6, 7, 8, 9, 10, 11, 12, 13, 14, 15, 16, 17] := by rfl
    rw [er] at e0
    simp only [List.map_cons, List.map_nil, la0, la1, la5] at e0
    exact e0
  rw [elita]
  clear la0
  clear la1
  clear la5
  clear elita ea3
  by_cases hkn : k < m
  · obtain ⟨id, off, rfl, hr⟩ := hq (by omega)
    have h1 : (k : Int) < (m : Int) := by omega
    have h2 : (0 : Int) ≤ (k : Int) ∧ (k : Int) < (m : Int) := ⟨by omega, h1⟩
    have h3 := hr k hkn
    have h4 := wrap_add1 (i := k) (by omega)
    by_cases c1 : x k = a
    · simp -implicitDefEqProofs only [sB, Nat.reduceAdd, Nat.reduceSub, yieldL, popK, flat, nptr, Value.cells, H.new, eq_self, Int.reduceEq, Int.reduceLT, Int.reduceLE, Nat.reduceEqDiff, Nat.reduceLeDiff, thenQ, ContK, ty2, ty3, ty4, ty5, ty79, Bool.not_true, Bool.not_false, decide_true, decide_false, if_true, if_false, unk1, unk2, z00, zn1, st89, st43, st123, h1, h2, h3, c1]
      exact ⟨⟨[], by simp⟩, by unfold inB; rw [anyN_iff.2 ⟨k, hkn, decide_eq_true c1⟩]⟩
    · simp -implicitDefEqProofs only [sB, Nat.reduceAdd, Nat.reduceSub, yieldL, popK, flat, nptr, Value.cells, H.new, eq_self, Int.reduceEq, Int.reduceLT, Int.reduceLE, Nat.reduceEqDiff, Nat.reduceLeDiff, thenQ, ContK, ty2, ty3, ty4, ty5, ty79, Bool.not_true, Bool.not_false, decide_true, decide_false, if_true, if_false, unk1, unk2, z00, zn1, st89, st43, st123, h1, h2, h3, h4, c1]
      refine ⟨by rw [hJa]; exact ⟨k + 1, rfl, rfl, rfl, rfl, rfl, rfl, by omega, fun j hj => by by_cases e : j = k; (subst e; exact c1); exact hp j (by omega)⟩, ?_⟩
      show m - ((k + 1 : Nat) : Int).toNat < m - (k : Int).toNat
      omega
  · have h1 : ¬ (k : Int) < (m : Int) := by omega
    simp -implicitDefEqProofs only [sB, Nat.reduceAdd, Nat.reduceSub, yieldL, popK, flat, nptr, Value.cells, H.new, eq_self, Int.reduceEq, Int.reduceLT, Int.reduceLE, Nat.reduceEqDiff, Nat.reduceLeDiff, thenQ, ContK, ty2, ty3, ty4, ty5, ty79, Bool.not_true, Bool.not_false, decide_true, decide_false, if_true, if_false, unk1, unk2, z00, zn1, st89, st43, st123, h1]
    exact ⟨⟨[], by simp⟩, by unfold inB; rw [any_none (fun i hi => decide_eq_false (hp i (by omega)))]⟩

set_option maxRecDepth 100000 in
theorem mark89 (I : Nat → Option Obj) {h : H} {v : Value} {m : Nat} {x : Nat → Int} (hv : Sees I h v m x) (hr12 : ∀ j, j < m → 0 ≤ x j ∧ x j < 12) :
    Snd Try.prog I (.func 89) [v] h (.agg (arrL 12 (markF x m)).toArray) h := by
  obtain ⟨q, c, rfl, hn, hq⟩ := hv
  refine Snd_run0 (rs := [.cell 2 123]) 400 Try.func89 (by kernel_rfl) rfl Try.ntmps89 rfl (by simp only [flat, flatA]; exact arrL_flat 12 _) ?_
  simp -implicitDefEqProofs only [sB, Nat.reduceAdd, Nat.reduceSub, yieldL, popK, flat, nptr, Value.cells, H.new, eq_self, Int.reduceEq, Int.reduceLT, Int.reduceLE, Nat.reduceEqDiff, Nat.reduceLeDiff, thenQ, ContK, ty2, ty3, ty4, ty5, ty79, ty123, Bool.not_true, Bool.not_false, decide_true, decide_false, if_true, if_false, unk1, unk2, z00, zn1, st89, st43, st123]
  obtain ⟨Ja, hJa⟩ : ∃ J : St → Prop, J = fun s => ∃ (k : Nat), s.df = [] ∧ s.h = h ++ [.cells (arrL 12 (fun _ => 0)) 123, .cells (arrL 12 (markF x k)) 123] ∧ s.tm.length = 16 ∧ s.tm.getD 2 undef = .pointer (some ⟨2 * h.length, 0, none⟩) ∧ s.tm.getD 3 undef = .pointer (some ⟨2 * (h.length + 1), 0, none⟩) ∧ s.tm.getD 6 undef = .slice q m c ∧ s.tm.getD 7 undef = .int .i64 m ∧ s.tm.getD 8 undef = .int .i64 k ∧ (k ≤ m) := ⟨_, rfl⟩
  refine Loop_run (by kernel_rfl) 400 Ja (muI 8 m) (by rw [hJa]; exact ⟨0, rfl, rfl, rfl, rfl, rfl, rfl, rfl, rfl, Nat.zero_le _⟩) ?_
  intro sa hsa
  rw [hJa] at hsa
  obtain ⟨tma, dfa, hha⟩ := sa
  obtain ⟨k, ea1, ea2, ea3, la2, la3, la6, la7, la8, hk⟩ := hsa
  simp only at ea1 ea2 ea3 la2 la3 la6 la7 la8
  subst dfa; subst hha
  have elita : tma = [tma.getD 0 undef, tma.getD 1 undef, .pointer (some ⟨2 * h.length, 0, none⟩), .pointer (some ⟨2 * (h.length + 1), 0, none⟩), tma.getD 4 undef, tma.getD 5 undef, .slice q m c, .int .i64 m, .int .i64 k, tma.getD 9 undef, tma.getD 10 undef, tma.getD 11 undef, tma.getD 12 undef, tma.getD 13 undef, tma.getD 14 undef, tma.getD 15 undef] := by
    have e0 := lit_eq ea3
    have er : List.range 16 = [0, 1, 2, 3, 4, 5, 6, 7, 8, 9, 10, 11, 12, 13, 14, 15] := by rfl
    rw [er] at e0
    simp only [List.map_cons, List.map_nil, la2, la3, la6, la7, la8] at e0
    exact e0
  rw [elita]
  clear la2
  clear la3
  clear la6
  clear la7
  clear la8
  clear elita ea3
  by_cases hkn : k < m
  · obtain ⟨id, off, rfl, hr⟩ := hq (by omega)
    have h1 : (k : Int) < (m : Int) := by omega
    have h2 : (0 : Int) ≤ (k : Int) ∧ (k : Int) < (m : Int) := ⟨by omega, h1⟩
    have h3 := rdl_mono (hr k hkn)
    have h4 := wrap_add1 (i := k) (by omega)
    have hx := hr12 k hkn
    have h5 : (0 : Int) ≤ x k ∧ x k < ((12 : Nat) : Int) := ⟨hx.1, by omega⟩
    have h6 := wrArr (N := 12) (i := (x k).toNat) (w := markF x k) (x := 1) (e := 123) (by omega)
    have e : markF x (k + 1) = upd (markF x k) (x k).toNat 1 := rfl
    simp -implicitDefEqProofs only [sB, Nat.reduceAdd, Nat.reduceSub, yieldL, popK, flat, nptr, Value.cells, H.new, eq_self, Int.reduceEq, Int.reduceLT, Int.reduceLE, Nat.reduceEqDiff, Nat.reduceLeDiff, thenQ, ContK, ty2, ty3, ty4, ty5, ty79, ty123, Bool.not_true, Bool.not_false, decide_true, decide_false, if_true, if_false, unk1, unk2, z00, zn1, st89, st43, st123, h1, h2, h3, h4, h5, h6]
    refine ⟨by rw [hJa]; exact ⟨k + 1, rfl, rfl, rfl, rfl, rfl, rfl, rfl, rfl, by omega⟩, ?_⟩
    show m - ((k + 1 : Nat) : Int).toNat < m - (k : Int).toNat
    omega
  · have h1 : ¬ (k : Int) < (m : Int) := by omega
    have e : k = m := by omega
    subst e
    simp -implicitDefEqProofs only [sB, Nat.reduceAdd, Nat.reduceSub, yieldL, popK, flat, nptr, Value.cells, H.new, eq_self, Int.reduceEq, Int.reduceLT, Int.reduceLE, Nat.reduceEqDiff, Nat.reduceLeDiff, thenQ, ContK, ty2, ty3, ty4, ty5, ty79, ty123, Bool.not_true, Bool.not_false, decide_true, decide_false, if_true, if_false, unk1, unk2, z00, zn1, st89, st43, st123, h1]
    first | exact ⟨⟨_, rfl⟩, rfl⟩ | exact ⟨_, rfl⟩
end Go.Proofs.Ytpgignenhiddkaa
set_option linter.unusedSimpArgs false
set_option linter.unusedVariables false
namespace Go.Proofs.Ytpgignenhiddkaa
open Go.Sym
attribute [local irreducible] Run RunS RunG RunDG RunDS RunDE RunDA RunDC RunCall RunX RunB
theorem bl43 {a b : Int} : abuild Try.prog 43 [(0, .int .i64 a), (1, .int .i64 b)] = some (.agg #[.int .i64 a, .int .i64 b]) := by kernel_rfl
theorem bl43_1 {a : Int} : abuild Try.prog 43 [(0, .int .i64 a)] = some (.agg #[.int .i64 a, .int .i64 0]) := by kernel_rfl
theorem ax123 {f : Nat → Int} {k : IntKind} {a : Nat} (ha : a < 12) : aidx Try.prog 123 (.agg (arrL 12 f).toArray) (.int k a) = some (.int .i64 (f a)) := by
  have e1 : Try.prog.underlying 123 = some (.array 12 3) := by kernel_rfl
  have hf : flat (.agg (arrL 12 f).toArray) = true := by simp only [flat, flatA]; exact arrL_flat 12 f
  have hp : partV Try.prog 3 (arrL 12 f) (a * 1) = some (.int .i64 (f a)) := by
    unfold partV; simp only [tg3]; rw [Nat.mul_one]; exact arrL_get 12 f ha
  have key : free Try.prog (Instr.index 123 (.agg (arrL 12 f).toArray) (.int k a)) = some (.int .i64 (f a)) := by
    unfold Instr.index
    rw [free_bind, show free Try.prog (asIntOf (.int k a)) = some (k, (a : Int)) from rfl, Option.bind_some]
    simp only
    rw [free_bind, free_underlying e1, Option.bind_some]
    simp only
    rw [if_pos (by omega), free_bind, free_sizeOf sz3, Option.bind_some]
    exact free_part (by simpa using hp)
  unfold aidx
  rw [if_pos ⟨hf, rfl⟩, key]; rfl
def inT (T : TD) (a : Nat) (i : Nat) : Bool := inB (T.m i) (T.x i) a
def stopT (T : TD) (a : Nat) (i : Nat) : Bool := !inT T a i && decide (0 < T.lo i ∨ T.hi i < 0)
def cLo (T : TD) (a : Nat) : Nat → Int
  | 0 => 1
  | k + 1 => if inT T a k then max (cLo T a k) (T.lo k) else cLo T a k
def cHi (T : TD) (a : Nat) : Nat → Int
  | 0 => 10000000
  | k + 1 => if inT T a k then min (cHi T a k) (T.hi k) else cHi T a k
/-- the amounts that a part can lose -/
def canLo (T : TD) (a : Nat) : Int := if anyN (stopT T a) T.n then 1 else cLo T a T.n
def canHi (T : TD) (a : Nat) : Int := if anyN (stopT T a) T.n then 0 else cHi T a T.n

set_option maxRecDepth 100000 in
set_option maxHeartbeats 1000000 in
theorem can80 (I : Nat → Option Obj) {h : H} {v : Value} {T : TD} {parts : Int} {a : Nat} (hv : Tests I h v T) (t : TestsOk parts T) (ha : a < 12) :
    Snd Try.prog I (.func 80) [v, .int .i64 a] h (.agg #[.int .i64 (canLo T a), .int .i64 (canHi T a)]) h := by
  have hv0 := hv
  obtain ⟨q, c, rfl, hn, hq⟩ := hv.sl
  refine Snd_run0 (rs := [.cell 4 43]) 500 Try.func80 (by kernel_rfl) rfl Try.ntmps80 rfl rfl ?_
  simp -implicitDefEqProofs only [sB, Nat.reduceAdd, Nat.reduceSub, yieldL, popK, flat, nptr, Value.cells, H.new, eq_self, Int.reduceEq, Int.reduceLT, Int.reduceLE, Nat.reduceEqDiff, Nat.reduceLeDiff, thenQ, ContK, ty2, ty3, ty4, ty5, ty43, ty64, ty79, ty89, ty123, ty136, Bool.not_true, Bool.not_false, decide_true, decide_false, if_true, if_false, unk1, unk2, z00, zn1, st89, st43, st123, bs136_1, bl43, bl43_1, getElem?_app_z, getElem?_app_k]
  obtain ⟨Ja, hJa⟩ : ∃ J : St → Prop, J = fun s => ∃ (k : Nat) (Lx : H), s.df = [] ∧ s.h = h ++ (.cells [.int .i64 0, .int .i64 0] 43 :: .cells [.int .i64 (cLo T a k), .int .i64 (cHi T a k)] 43 :: Lx) ∧ s.tm.length = 46 ∧ s.tm.getD 1 undef = .int .i64 a ∧ s.tm.getD 4 undef = .pointer (some ⟨2 * h.length, 0, none⟩) ∧ s.tm.getD 5 undef = .pointer (some ⟨2 * (h.length + 1), 0, none⟩) ∧ s.tm.getD 9 undef = .slice q T.n c ∧ s.tm.getD 10 undef = .int .i64 T.n ∧ s.tm.getD 11 undef = .int .i64 k ∧ (k ≤ T.n) ∧ (∀ j, j < k → stopT T a j = false) := ⟨_, rfl⟩
  refine Loop_run (by kernel_rfl) 500 Ja (muI 11 T.n) (by rw [hJa]; exact ⟨0, [], rfl, rfl, rfl, rfl, rfl, rfl, rfl, rfl, rfl, Nat.zero_le _, fun j hj => by omega⟩) ?_
  intro sa hsa
  rw [hJa] at hsa
  obtain ⟨tma, dfa, hha⟩ := sa
  obtain ⟨k, Lx, ea1, ea2, ea3, la1, la4, la5, la9, la10, la11, hk, hp⟩ := hsa
  simp only at ea1 ea2 ea3 la1 la4 la5 la9 la10 la11
  subst dfa; subst hha
  have elita : tma = [tma.getD 0 undef, .int .i64 a, tma.getD 2 undef, tma.getD 3 undef, .pointer (some ⟨2 * h.length, 0, none⟩), .pointer (some ⟨2 * (h.length + 1), 0, none⟩), tma.getD 6 undef, tma.getD 7 undef, tma.getD 8 undef, .slice q T.n c, .int .i64 T.n, .int .i64 k, tma.getD 12 undef, tma.getD 13 undef, tma.getD 14 undef, tma.getD 15 undef, tma.getD 16 undef, tma.getD 17 undef, tma.getD 18 undef, tma.getD 19 undef, tma.getD 20 undef, tma.getD 21 undef, tma.getD 22 undef, tma.getD 23 undef, tma.getD 24 undef, tma.getD 25 undef, tma.getD 26 undef, tma.getD 27 undef, tma.getD 28 undef, tma.getD 29 undef, tma.getD 30 undef, tma.getD 31 undef, tma.getD 32 undef, tma.getD 33 undef, tma.getD 34 undef, tma.getD 35 undef, tma.getD 36 undef, tma.getD 37 undef, tma.getD 38 undef, tma.getD 39 undef, tma.getD 40 undef, tma.getD 41 undef, tma.getD 42 undef, tma.getD 43 undef, tma.getD 44 undef, tma.getD 45 undef] := by
    have e0 := lit_eq ea3
    have er : List.range 46 = [0, 1, 2, 3, 4, 5, 6, 7, 8, 9, 10, 11, 12, 13, 14, 15, 16, 17, 18, 19, 20, 21, 22, 23, 24, 25, 26, 27, 28, 29, 30, 31, 32, 33, 34, 35, 36, 37, 38, 39, 40, 41, 42, 43, 44, 45] := by rfl
    rw [er] at e0
    simp only [List.map_cons, List.map_nil, la1, la4, la5, la9, la10, la11] at e0
    exact e0
  rw [elita]
  clear la1
  clear la4
  clear la5
  clear la9
  clear la10
  clear la11
  clear elita ea3
  by_cases hkn : k < T.n
  · skip
    obtain ⟨id, off, rfl, hr⟩ := hq (by omega)
    have h1 : (k : Int) < (T.n : Int) := by omega
    have h2 : (0 : Int) ≤ (k : Int) ∧ (k : Int) < (T.n : Int) := ⟨by omega, h1⟩
    have h3 := rdl_mono (hr k hkn)
    have h4 := wrap_add1 (i := k) (by omega)
    obtain ⟨hsec, hlost⟩ := testOk_iff.1 (t.ok k hkn)
    have hs0 := hv0.pt k hkn
    obtain ⟨pp, cc, hsl, _, _⟩ := hs0
    have hname : namesB parts (T.m k) (T.x k) = true := by unfold secB at hsec; rw [Bool.and_eq_true] at hsec; exact hsec.2
    have hx12 : ∀ j, j < T.m k → 0 ≤ T.x k j ∧ T.x k j < 12 := fun j hj => by
      have := names_in hname hj
      have := t.p12
      omega
    have hmk := markF_in (x := T.x k) (T.m k) (fun j hj => (hx12 j hj).1) a
    simp -implicitDefEqProofs only [sB, Nat.reduceAdd, Nat.reduceSub, yieldL, popK, flat, nptr, Value.cells, H.new, eq_self, Int.reduceEq, Int.reduceLT, Int.reduceLE, Nat.reduceEqDiff, Nat.reduceLeDiff, thenQ, ContK, ty2, ty3, ty4, ty5, ty43, ty64, ty79, ty89, ty123, ty136, Bool.not_true, Bool.not_false, decide_true, decide_false, if_true, if_false, unk1, unk2, z00, zn1, st89, st43, st123, bs136_1, bl43, bl43_1, getElem?_app_z, getElem?_app_k, h1, h2, h3]
    refine RunCall_of (mark89 I ((hv0.pt k hkn).app _) hx12) ?_
    cases hin : inT T a k with
    | true =>
      have e1 : markF (T.x k) (T.m k) a = 1 := by rw [hmk]; unfold inT at hin; rw [hin]; rfl
      have hok : stopT T a k = false := by unfold stopT; rw [hin]; rfl
      have e2 : cLo T a (k + 1) = max (cLo T a k) (T.lo k) := by show (if inT T a k then _ else _) = _; rw [hin]; rfl
      have e3 : cHi T a (k + 1) = min (cHi T a k) (T.hi k) := by show (if inT T a k then _ else _) = _; rw [hin]; rfl
      simp -implicitDefEqProofs only [sB, Nat.reduceAdd, Nat.reduceSub, yieldL, popK, flat, nptr, Value.cells, H.new, eq_self, Int.reduceEq, Int.reduceLT, Int.reduceLE, Nat.reduceEqDiff, Nat.reduceLeDiff, thenQ, ContK, ty2, ty3, ty4, ty5, ty43, ty64, ty79, ty89, ty123, ty136, Bool.not_true, Bool.not_false, decide_true, decide_false, if_true, if_false, unk1, unk2, z00, zn1, st89, st43, st123, bs136_1, bl43, bl43_1, getElem?_app_z, getElem?_app_k, ax123 ha, e1, h4, ← e2, ← e3]
      refine ⟨by rw [hJa]; exact ⟨k + 1, _, rfl, rfl, rfl, rfl, rfl, rfl, rfl, rfl, rfl, by omega, fun j hj => by by_cases e : j = k; (subst e; exact hok); exact hp j (by omega)⟩, ?_⟩
      show T.n - ((k + 1 : Nat) : Int).toNat < T.n - (k : Int).toNat
      omega
    | false =>
      have e1 : markF (T.x k) (T.m k) a = 0 := by rw [hmk]; unfold inT at hin; rw [hin]; rfl
      have e01 : ¬ (0 : Int) = 1 := by omega
      have e2 : cLo T a (k + 1) = cLo T a k := by show (if inT T a k then _ else _) = _; rw [hin]; rfl
      have e3 : cHi T a (k + 1) = cHi T a k := by show (if inT T a k then _ else _) = _; rw [hin]; rfl
      simp -implicitDefEqProofs only [sB, Nat.reduceAdd, Nat.reduceSub, yieldL, popK, flat, nptr, Value.cells, H.new, eq_self, Int.reduceEq, Int.reduceLT, Int.reduceLE, Nat.reduceEqDiff, Nat.reduceLeDiff, thenQ, ContK, ty2, ty3, ty4, ty5, ty43, ty64, ty79, ty89, ty123, ty136, Bool.not_true, Bool.not_false, decide_true, decide_false, if_true, if_false, unk1, unk2, z00, zn1, st89, st43, st123, bs136_1, bl43, bl43_1, getElem?_app_z, getElem?_app_k, ax123 ha, e1, e01]
      refine RunCall_of (within57 I (Sees.one (k := Lx.length + 1 + 1 + 1) (c := 1) (e := 2) (a := 0) (by simp))) ?_
      by_cases c1 : T.lo k ≤ 0 ∧ 0 ≤ T.hi k
      · have hw : withinB (T.lo k) (T.hi k) 1 (one1 0) = true := by rw [within_one]; simp [c1]
        have hok : stopT T a k = false := by unfold stopT; rw [hin, Bool.not_false, Bool.true_and]; exact decide_eq_false (by omega)
        simp -implicitDefEqProofs only [sB, Nat.reduceAdd, Nat.reduceSub, yieldL, popK, flat, nptr, Value.cells, H.new, eq_self, Int.reduceEq, Int.reduceLT, Int.reduceLE, Nat.reduceEqDiff, Nat.reduceLeDiff, thenQ, ContK, ty2, ty3, ty4, ty5, ty43, ty64, ty79, ty89, ty123, ty136, Bool.not_true, Bool.not_false, decide_true, decide_false, if_true, if_false, unk1, unk2, z00, zn1, st89, st43, st123, bs136_1, bl43, bl43_1, getElem?_app_z, getElem?_app_k, hw, h4, ← e2, ← e3]
        refine ⟨by rw [hJa]; exact ⟨k + 1, _, rfl, rfl, rfl, rfl, rfl, rfl, rfl, rfl, rfl, by omega, fun j hj => by by_cases e : j = k; (subst e; exact hok); exact hp j (by omega)⟩, ?_⟩
        show T.n - ((k + 1 : Nat) : Int).toNat < T.n - (k : Int).toNat
        omega
      · have hw : withinB (T.lo k) (T.hi k) 1 (one1 0) = false := by rw [within_one]; simp; omega
        have hst : stopT T a k = true := by unfold stopT; rw [hin, Bool.not_false, Bool.true_and]; exact decide_eq_true (by omega)
        simp -implicitDefEqProofs only [sB, Nat.reduceAdd, Nat.reduceSub, yieldL, popK, flat, nptr, Value.cells, H.new, eq_self, Int.reduceEq, Int.reduceLT, Int.reduceLE, Nat.reduceEqDiff, Nat.reduceLeDiff, thenQ, ContK, ty2, ty3, ty4, ty5, ty43, ty64, ty79, ty89, ty123, ty136, Bool.not_true, Bool.not_false, decide_true, decide_false, if_true, if_false, unk1, unk2, z00, zn1, st89, st43, st123, bs136_1, bl43, bl43_1, getElem?_app_z, getElem?_app_k, hw]
        exact ⟨⟨_, rfl⟩, by unfold canLo canHi; rw [if_pos (anyN_iff.2 ⟨k, hkn, hst⟩), if_pos (anyN_iff.2 ⟨k, hkn, hst⟩)]⟩
  · have h1 : ¬ (k : Int) < (T.n : Int) := by omega
    have hkn' : k = T.n := by omega
    simp -implicitDefEqProofs only [sB, Nat.reduceAdd, Nat.reduceSub, yieldL, popK, flat, nptr, Value.cells, H.new, eq_self, Int.reduceEq, Int.reduceLT, Int.reduceLE, Nat.reduceEqDiff, Nat.reduceLeDiff, thenQ, ContK, ty2, ty3, ty4, ty5, ty43, ty64, ty79, ty89, ty123, ty136, Bool.not_true, Bool.not_false, decide_true, decide_false, if_true, if_false, unk1, unk2, z00, zn1, st89, st43, st123, bs136_1, bl43, bl43_1, getElem?_app_z, getElem?_app_k, h1]
    refine ⟨⟨_, rfl⟩, ?_⟩
    rw [hkn']
    unfold canLo canHi
    rw [if_neg (by rw [any_none (fun i hi => hp i (by omega))]; simp), if_neg (by rw [any_none (fun i hi => hp i (by omega))]; simp)]

set_option maxRecDepth 100000 in
set_option maxHeartbeats 1000000 in
theorem can85 (I : Nat → Option Obj) {h : H} {v : Value} {T : TD} {parts : Int} {a : Nat} (hv : Tests I h v T) (t : TestsOk parts T) :
    Snd Try.prog I (.func 85) [v, .int .i64 a] h (.agg #[.int .i64 (canLo T a), .int .i64 (canHi T a)]) h := by
  have hv0 := hv
  obtain ⟨q, c, rfl, hn, hq⟩ := hv.sl
  refine Snd_run0 (rs := [.cell 4 43]) 500 Try.func85 (by kernel_rfl) rfl Try.ntmps85 rfl rfl ?_
  simp -implicitDefEqProofs only [sB, Nat.reduceAdd, Nat.reduceSub, yieldL, popK, flat, nptr, Value.cells, H.new, eq_self, Int.reduceEq, Int.reduceLT, Int.reduceLE, Nat.reduceEqDiff, Nat.reduceLeDiff, thenQ, ContK, ty2, ty3, ty4, ty5, ty43, ty64, ty79, ty89, Bool.not_true, Bool.not_false, decide_true, decide_false, if_true, if_false, unk1, unk2, z00, zn1, st89, st43, st123, bs136_1, bl43, bl43_1, getElem?_app_z, getElem?_app_k]
  obtain ⟨Ja, hJa⟩ : ∃ J : St → Prop, J = fun s => ∃ (k : Nat) (Lx : H), s.df = [] ∧ s.h = h ++ (.cells [.int .i64 0, .int .i64 0] 43 :: .cells [.int .i64 (cLo T a k), .int .i64 (cHi T a k)] 43 :: Lx) ∧ s.tm.length = 49 ∧ s.tm.getD 0 undef = .slice q T.n c ∧ s.tm.getD 1 undef = .int .i64 a ∧ s.tm.getD 4 undef = .pointer (some ⟨2 * h.length, 0, none⟩) ∧ s.tm.getD 5 undef = .pointer (some ⟨2 * (h.length + 1), 0, none⟩) ∧ s.tm.getD 6 undef = .int .i64 k ∧ (k ≤ T.n) ∧ (∀ j, j < k → stopT T a j = false) := ⟨_, rfl⟩
  refine Loop_run (by kernel_rfl) 500 Ja (muI 6 T.n) (by rw [hJa]; exact ⟨0, [], rfl, rfl, rfl, rfl, rfl, rfl, rfl, rfl, Nat.zero_le _, fun j hj => by omega⟩) ?_
  intro sa hsa
  rw [hJa] at hsa
  obtain ⟨tma, dfa, hha⟩ := sa
  obtain ⟨k, Lx, ea1, ea2, ea3, la0, la1, la4, la5, la6, hk, hp⟩ := hsa
  simp only at ea1 ea2 ea3 la0 la1 la4 la5 la6
  subst dfa; subst hha
  have elita : tma = [.slice q T.n c, .int .i64 a, tma.getD 2 undef, tma.getD 3 undef, .pointer (some ⟨2 * h.length, 0, none⟩), .pointer (some ⟨2 * (h.length + 1), 0, none⟩), .int .i64 k, tma.getD 7 undef, tma.getD 8 undef, tma.getD 9 undef, tma.getD 10 undef, tma.getD 11 undef, tma.getD 12 undef, tma.getD 13 undef, tma.getD 14 undef, tma.getD 15 undef, tma.getD 16 undef, tma.getD 17 undef, tma.getD 18 undef, tma.getD 19 undef, tma.getD 20 undef, tma.getD 21 undef, tma.getD 22 undef, tma.getD 23 undef, tma.getD 24 undef, tma.getD 25 undef, tma.getD 26 undef, tma.getD 27 undef, tma.getD 28 undef, tma.getD 29 undef, tma.getD 30 undef, tma.getD 31 undef, tma.getD 32 undef, tma.getD 33 undef, tma.getD 34 undef, tma.getD 35 undef, tma.getD 36 undef, tma.getD 37 undef, tma.getD 38 undef, tma.getD 39 undef, tma.getD 40 undef, tma.getD 41 undef, tma.getD 42 undef, tma.getD 43 undef, tma.getD 44 undef, tma.getD 45 undef, tma.getD 46 undef, tma.getD 47 undef, tma.getD 48 undef] := by
    have e0 := lit_eq ea3
    have er : List.range 49 = [0, 1, 2, 3, 4, 5, 6, 7, 8, 9, 10, 11, 12, 13, 14, 15, 16, 17, 18, 19, 20, 21, 22, 23, 24, 25, 26, 27, 28, 29, 30, 31, 32, 33, 34, 35, 36, 37, 38, 39, 40, 41, 42, 43, 44, 45, 46, 47, 48] := by rfl
    rw [er] at e0
    simp only [List.map_cons, List.map_nil, la0, la1, la4, la5, la6] at e0
    exact e0
  rw [elita]
  clear la0
  clear la1
  clear la4
  clear la5
  clear la6
  clear elita ea3
  by_cases hkn : k < T.n
  · skip
    obtain ⟨id, off, rfl, hr⟩ := hq (by omega)
    have h1 : (k : Int) < (T.n : Int) := by omega
    have h2 : (0 : Int) ≤ (k : Int) ∧ (k : Int) < (T.n : Int) := ⟨by omega, h1⟩
    have h3 := rdl_mono (hr k hkn)
    have h4 := wrap_add1 (i := k) (by omega)
    obtain ⟨hsec, hlost⟩ := testOk_iff.1 (t.ok k hkn)
    have hs0 := hv0.pt k hkn
    obtain ⟨pp, cc, hsl, _, _⟩ := hs0
    have hname : namesB parts (T.m k) (T.x k) = true := by unfold secB at hsec; rw [Bool.and_eq_true] at hsec; exact hsec.2
    simp -implicitDefEqProofs only [sB, Nat.reduceAdd, Nat.reduceSub, yieldL, popK, flat, nptr, Value.cells, H.new, eq_self, Int.reduceEq, Int.reduceLT, Int.reduceLE, Nat.reduceEqDiff, Nat.reduceLeDiff, thenQ, ContK, ty2, ty3, ty4, ty5, ty43, ty64, ty79, ty89, Bool.not_true, Bool.not_false, decide_true, decide_false, if_true, if_false, unk1, unk2, z00, zn1, st89, st43, st123, bs136_1, bl43, bl43_1, getElem?_app_z, getElem?_app_k, h1, h2, h3]
    refine RunCall_of (in53 I ((hv0.pt k hkn).app _)) ?_
    cases hin : inT T a k with
    | true =>
      have hok : stopT T a k = false := by unfold stopT; rw [hin]; rfl
      have e2 : cLo T a (k + 1) = max (cLo T a k) (T.lo k) := by show (if inT T a k then _ else _) = _; rw [hin]; rfl
      have e3 : cHi T a (k + 1) = min (cHi T a k) (T.hi k) := by show (if inT T a k then _ else _) = _; rw [hin]; rfl
      unfold inT at hin
      rw [hin]
      simp -implicitDefEqProofs only [sB, Nat.reduceAdd, Nat.reduceSub, yieldL, popK, flat, nptr, Value.cells, H.new, eq_self, Int.reduceEq, Int.reduceLT, Int.reduceLE, Nat.reduceEqDiff, Nat.reduceLeDiff, thenQ, ContK, ty2, ty3, ty4, ty5, ty43, ty64, ty79, ty89, sD, mixT, isAlloc, ridOf, blockOf, Bool.not_true, Bool.not_false, decide_true, decide_false, if_true, if_false, unk1, unk2, z00, zn1, st89, st43, st123, bs136_1, bl43, bl43_1, getElem?_app_z, getElem?_app_k, h4, ← e2, ← e3]
      obtain ⟨fr, fr1, fr2⟩ := ren2 (a := 2 * (h.length + 1)) (b := 2 * (h.length + (Lx.length + 1 + 1))) (by omega)
      refine ⟨effOk_of (by kernel_rfl) (by simp), effOk_of (by kernel_rfl) (by simp), drawOk_ren fr (by simp only [List.reverse_cons, List.reverse_nil, List.nil_append, List.cons_append, List.map_cons, List.map_nil, Ct.ren, Option.map_some, Option.map_none, fr1, fr2]; rfl) (by kernel_rfl), by rw [hJa]; exact ⟨k + 1, _, rfl, rfl, rfl, rfl, rfl, rfl, rfl, rfl, by omega, fun j hj => by by_cases e : j = k; (subst e; exact hok); exact hp j (by omega)⟩, ?_⟩
      show T.n - ((k + 1 : Nat) : Int).toNat < T.n - (k : Int).toNat
      omega
    | false =>
      have e2 : cLo T a (k + 1) = cLo T a k := by show (if inT T a k then _ else _) = _; rw [hin]; rfl
      have e3 : cHi T a (k + 1) = cHi T a k := by show (if inT T a k then _ else _) = _; rw [hin]; rfl
      have hin2 := hin
      unfold inT at hin2
      rw [hin2]
      by_cases c1 : 0 < T.lo k
      · have hst : stopT T a k = true := by unfold stopT; rw [hin, Bool.not_false, Bool.true_and]; exact decide_eq_true (by omega)
        simp -implicitDefEqProofs only [sB, Nat.reduceAdd, Nat.reduceSub, yieldL, popK, flat, nptr, Value.cells, H.new, eq_self, Int.reduceEq, Int.reduceLT, Int.reduceLE, Nat.reduceEqDiff, Nat.reduceLeDiff, thenQ, ContK, ty2, ty3, ty4, ty5, ty43, ty64, ty79, ty89, Bool.not_true, Bool.not_false, decide_true, decide_false, if_true, if_false, unk1, unk2, z00, zn1, st89, st43, st123, bs136_1, bl43, bl43_1, getElem?_app_z, getElem?_app_k, c1]
        exact ⟨⟨_, rfl⟩, by unfold canLo canHi; rw [if_pos (anyN_iff.2 ⟨k, hkn, hst⟩), if_pos (anyN_iff.2 ⟨k, hkn, hst⟩)]⟩
      · by_cases c2 : T.hi k < 0
        · have hst : stopT T a k = true := by unfold stopT; rw [hin, Bool.not_false, Bool.true_and]; exact decide_eq_true (by omega)
          simp -implicitDefEqProofs only [sB, Nat.reduceAdd, Nat.reduceSub, yieldL, popK, flat, nptr, Value.cells, H.new, eq_self, Int.reduceEq, Int.reduceLT, Int.reduceLE, Nat.reduceEqDiff, Nat.reduceLeDiff, thenQ, ContK, ty2, ty3, ty4, ty5, ty43, ty64, ty79, ty89, Bool.not_true, Bool.not_false, decide_true, decide_false, if_true, if_false, unk1, unk2, z00, zn1, st89, st43, st123, bs136_1, bl43, bl43_1, getElem?_app_z, getElem?_app_k, c1, c2]
          exact ⟨⟨_, rfl⟩, by unfold canLo canHi; rw [if_pos (anyN_iff.2 ⟨k, hkn, hst⟩), if_pos (anyN_iff.2 ⟨k, hkn, hst⟩)]⟩
        · have hok : stopT T a k = false := by unfold stopT; rw [hin, Bool.not_false, Bool.true_and]; exact decide_eq_false (by omega)
          simp -implicitDefEqProofs only [sB, Nat.reduceAdd, Nat.reduceSub, yieldL, popK, flat, nptr, Value.cells, H.new, eq_self, Int.reduceEq, Int.reduceLT, Int.reduceLE, Nat.reduceEqDiff, Nat.reduceLeDiff, thenQ, ContK, ty2, ty3, ty4, ty5, ty43, ty64, ty79, ty89, Bool.not_true, Bool.not_false, decide_true, decide_false, if_true, if_false, unk1, unk2, z00, zn1, st89, st43, st123, bs136_1, bl43, bl43_1, getElem?_app_z, getElem?_app_k, c1, c2, h4, ← e2, ← e3]
          refine ⟨by rw [hJa]; exact ⟨k + 1, _, rfl, rfl, rfl, rfl, rfl, rfl, rfl, rfl, by omega, fun j hj => by by_cases e : j = k; (subst e; exact hok); exact hp j (by omega)⟩, ?_⟩
          show T.n - ((k + 1 : Nat) : Int).toNat < T.n - (k : Int).toNat
          omega
  · have h1 : ¬ (k : Int) < (T.n : Int) := by omega
    have hkn' : k = T.n := by omega
    simp -implicitDefEqProofs only [sB, Nat.reduceAdd, Nat.reduceSub, yieldL, popK, flat, nptr, Value.cells, H.new, eq_self, Int.reduceEq, Int.reduceLT, Int.reduceLE, Nat.reduceEqDiff, Nat.reduceLeDiff, thenQ, ContK, ty2, ty3, ty4, ty5, ty43, ty64, ty79, ty89, Bool.not_true, Bool.not_false, decide_true, decide_false, if_true, if_false, unk1, unk2, z00, zn1, st89, st43, st123, bs136_1, bl43, bl43_1, getElem?_app_z, getElem?_app_k, h1]
    refine ⟨⟨_, rfl⟩, ?_⟩
    rw [hkn']
    unfold canLo canHi
    rw [if_neg (by rw [any_none (fun i hi => hp i (by omega))]; simp), if_neg (by rw [any_none (fun i hi => hp i (by omega))]; simp)]
end Go.Proofs.Ytpgignenhiddkaa
