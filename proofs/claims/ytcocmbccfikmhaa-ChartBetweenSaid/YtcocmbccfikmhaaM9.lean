/- Contracts: within, ContainsFunc, IndexFunc (own texts put together: C1 C2 C3 C4 C5 C6 C7) -/
import Derived.Test.YtcocmbccfikmhaaM6
import Derived.Test.YtcocmbccfikmhaaM4
set_option linter.unusedSimpArgs false
set_option linter.unusedVariables false
namespace Go.Proofs.Ytcocmbccfikmhaa
open Go.Sym
theorem wrap_add1 {i : Nat} (h : i < 9223372036854775807) : IntKind.i64.wrap ((i : Int) + 1) = ((i + 1 : Nat) : Int) := by
  rw [wrap_i64 (by omega) (by omega)]; simp
def muI (j n : Nat) (s : St) : Nat := match s.tm.getD j undef with | .int _ i => n - i.toNat | _ => 0
/-- the numbers of a slice of int64 can be read: on this heap -/
def Sees (I : Nat → Option Obj) (h : H) (v : Value) (n : Nat) (x : Nat → Int) : Prop :=
  ∃ p c, v = .slice p n c ∧ n ≤ 9223372036854775807 ∧ (0 < n → ∃ id off, p = some ⟨id, off, none⟩ ∧ ∀ i, i < n → rdl I h id (off + i) 1 = some [.int .i64 (x i)])
/-- the first place from i on, of n -/
def firstFrom (p : Nat → Bool) (n : Nat) : Nat → Nat → Int
  | 0, _ => -1
  | m + 1, i => if p i then (i : Int) else firstFrom p n m (i + 1)
def firstIx (p : Nat → Bool) (n : Nat) : Int := firstFrom p n n 0
theorem firstFrom_pos {p : Nat → Bool} {n k : Nat} (h : k < n) (hb : p k = true) : firstFrom p n (n - k) k = (k : Int) := by
  obtain ⟨m, hm⟩ : ∃ m, n - k = m + 1 := ⟨n - k - 1, by omega⟩
  rw [hm]; simp [firstFrom, hb]
theorem firstFrom_neg {p : Nat → Bool} {n k : Nat} (h : k < n) (hb : p k = false) : firstFrom p n (n - k) k = firstFrom p n (n - (k + 1)) (k + 1) := by
  obtain ⟨m, hm⟩ : ∃ m, n - k = m + 1 := ⟨n - k - 1, by omega⟩
  have hm2 : n - (k + 1) = m := by omega
  rw [hm, hm2]; simp [firstFrom, hb]
theorem firstFrom_end {p : Nat → Bool} {n k : Nat} (h : ¬ k < n) : firstFrom p n (n - k) k = -1 := by
  have : n - k = 0 := by omega
  rw [this]; rfl
/-- is there one of n? -/
def anyN (p : Nat → Bool) (n : Nat) : Bool := (List.range n).any p
theorem anyN_iff {p : Nat → Bool} {n : Nat} : anyN p n = true ↔ ∃ i, i < n ∧ p i = true := by
  simp [anyN]
theorem firstFrom_iff {p : Nat → Bool} {n : Nat} : ∀ m k, m + k = n → (0 ≤ firstFrom p n m k ↔ ∃ i, k ≤ i ∧ i < n ∧ p i = true)
  | 0, k, h => by
    refine ⟨fun h => by simp [firstFrom] at h, ?_⟩
    rintro ⟨i, h1, h2, _⟩; omega
  | m + 1, k, h => by
    simp only [firstFrom]
    split
    · rename_i hp
      exact ⟨fun _ => ⟨k, by omega, by omega, hp⟩, fun _ => by omega⟩
    · rename_i hp
      rw [firstFrom_iff m (k + 1) (by omega)]
      constructor
      · rintro ⟨i, h1, h2, h3⟩; exact ⟨i, by omega, h2, h3⟩
      · rintro ⟨i, h1, h2, h3⟩
        refine ⟨i, ?_, h2, h3⟩
        by_cases e : i = k
        · subst e; exact absurd h3 hp
        · omega
theorem firstIx_any {p : Nat → Bool} {n : Nat} : decide (0 ≤ firstIx p n) = anyN p n := by
  have h : (0 ≤ firstIx p n) ↔ anyN p n = true := by
    rw [anyN_iff]
    unfold firstIx
    rw [firstFrom_iff n 0 (by omega)]
    constructor
    · rintro ⟨i, _, h⟩; exact ⟨i, h⟩
    · rintro ⟨i, h⟩; exact ⟨i, by omega, h⟩
  cases hb : anyN p n with
  | true => simp [h.2 hb]
  | false =>
    have : ¬ 0 ≤ firstIx p n := fun hh => by rw [h.1 hh] at hb; cases hb
    simp [this]

set_option maxRecDepth 100000 in
theorem index74 (I : Nat → Option Obj) {h : H} {v : Value} {n : Nat} {x : Nat → Int} {g : FuncId} {cap : List Value} {p : Nat → Bool} (hv : Sees I h v n x)
    (hf : ∀ i, i < n → Snd Try.prog I (.func g) (.int .i64 (x i) :: cap) h (.bool (p i)) h) :
    Snd Try.prog I (.func 74) [v, .func (.func g) #[] cap.toArray] h (.int .i64 (firstIx p n)) h := by
  obtain ⟨q, c, rfl, hn, hq⟩ := hv
  refine Snd_run (rs := [.tmp 4]) 400 Try.func74 (by kernel_rfl) rfl Try.ntmps74 rfl ?_
  simp -implicitDefEqProofs only [sB, Nat.reduceAdd, Nat.reduceSub, yieldL, popK, flat, nptr, Value.cells, H.new, eq_self, Int.reduceEq, Int.reduceLT, Int.reduceLE, Nat.reduceEqDiff, Nat.reduceLeDiff, thenQ, ContK, ty2, ty3, ty4, ty5, ty25, ty94]
  obtain ⟨Ja, hJa⟩ : ∃ J : St → Prop, J = fun s => ∃ (k : Nat), s.df = [] ∧ s.h = h ∧ s.tm.length = 19 ∧ s.tm.getD 0 undef = .slice q n c ∧ s.tm.getD 1 undef = .func (.func g) #[] cap.toArray ∧ s.tm.getD 4 undef = .int .i64 0 ∧ s.tm.getD 7 undef = .int .i64 n ∧ s.tm.getD 8 undef = .int .i64 k ∧ (k ≤ n) ∧ (firstIx p n = firstFrom p n (n - k) k) := ⟨_, rfl⟩
  refine Loop_run (by kernel_rfl) 400 Ja (muI 8 n) (by rw [hJa]; exact ⟨0, rfl, rfl, rfl, rfl, rfl, rfl, rfl, rfl, Nat.zero_le _, rfl⟩) ?_
  intro sa hsa
  rw [hJa] at hsa
  obtain ⟨tma, dfa, hha⟩ := sa
  obtain ⟨k, ea1, ea2, ea3, la0, la1, la4, la7, la8, hk, hp⟩ := hsa
  simp only at ea1 ea2 ea3 la0 la1 la4 la7 la8
  subst dfa; subst hha
  have elita : tma = [.slice q n c, .func (.func g) #[] cap.toArray, tma.getD 2 undef, tma.getD 3 undef, .int .i64 0, tma.getD 5 undef, tma.getD 6 undef, .int .i64 n, .int .i64 k, tma.getD 9 undef, tma.getD 10 undef, tma.getD 11 undef, tma.getD 12 undef, tma.getD 13 undef, tma.getD 14 undef, tma.getD 15 undef, tma.getD 16 undef, tma.getD 17 undef, tma.getD 18 undef] := by
    have e0 := lit_eq ea3
    have er : List.range 19 = [0, 1, 2, 3, 4, 5, 6, 7, 8, 9, 10, 11, 12, 13, 14, 15, 16, 17, 18] := by rfl
    rw [er] at e0
    simp only [List.map_cons, List.map_nil, la0, la1, la4, la7, la8] at e0
    exact e0
  rw [elita]
  clear la0
  clear la1
  clear la4
  clear la7
  clear la8
  clear elita ea3
  by_cases hkn : k < n
  · obtain ⟨id, off, rfl, hr⟩ := hq (by omega)
    have h1 : (k : Int) < (n : Int) := by omega
    have h2 : (0 : Int) ≤ (k : Int) ∧ (k : Int) < (n : Int) := ⟨by omega, h1⟩
    have h3 := hr k hkn
    have h4 := wrap_add1 (i := k) (by omega)
    simp -implicitDefEqProofs only [sB, Nat.reduceAdd, Nat.reduceSub, yieldL, popK, flat, nptr, Value.cells, H.new, eq_self, Int.reduceEq, Int.reduceLT, Int.reduceLE, Nat.reduceEqDiff, Nat.reduceLeDiff, thenQ, ContK, ty2, ty3, ty4, ty5, ty25, ty94, h1, h2, h3]
    refine RunCall_of (hf k hkn) ?_
    simp -implicitDefEqProofs only [sB, Nat.reduceAdd, Nat.reduceSub, yieldL, popK, flat, nptr, Value.cells, H.new, eq_self, Int.reduceEq, Int.reduceLT, Int.reduceLE, Nat.reduceEqDiff, Nat.reduceLeDiff, thenQ, ContK, ty2, ty3, ty4, ty5, ty25, ty94, h4]
    refine RunB_of (fun hb => ?_) (fun hb => ?_)
    · simp -implicitDefEqProofs only [sB, Nat.reduceAdd, Nat.reduceSub, yieldL, popK, flat, nptr, Value.cells, H.new, eq_self, Int.reduceEq, Int.reduceLT, Int.reduceLE, Nat.reduceEqDiff, Nat.reduceLeDiff, thenQ, ContK, ty2, ty3, ty4, ty5, ty25, ty94, h4]
      rw [hp, firstFrom_pos hkn hb]
    · simp -implicitDefEqProofs only [sB, Nat.reduceAdd, Nat.reduceSub, yieldL, popK, flat, nptr, Value.cells, H.new, eq_self, Int.reduceEq, Int.reduceLT, Int.reduceLE, Nat.reduceEqDiff, Nat.reduceLeDiff, thenQ, ContK, ty2, ty3, ty4, ty5, ty25, ty94, h4]
      refine ⟨by rw [hJa]; exact ⟨k + 1, rfl, rfl, rfl, rfl, rfl, rfl, rfl, rfl, by omega, by rw [hp, firstFrom_neg hkn hb]⟩, ?_⟩
      show n - ((k + 1 : Nat) : Int).toNat < n - (k : Int).toNat
      omega
  · have h1 : ¬ (k : Int) < (n : Int) := by omega
    simp -implicitDefEqProofs only [sB, Nat.reduceAdd, Nat.reduceSub, yieldL, popK, flat, nptr, Value.cells, H.new, eq_self, Int.reduceEq, Int.reduceLT, Int.reduceLE, Nat.reduceEqDiff, Nat.reduceLeDiff, thenQ, ContK, ty2, ty3, ty4, ty5, ty25, ty94, h1]
    rw [hp, firstFrom_end hkn]

set_option maxRecDepth 100000 in
theorem contains62 (I : Nat → Option Obj) {h : H} {v : Value} {n : Nat} {x : Nat → Int} {g : FuncId} {cap : List Value} {p : Nat → Bool} (hv : Sees I h v n x)
    (hf : ∀ i, i < n → Snd Try.prog I (.func g) (.int .i64 (x i) :: cap) h (.bool (p i)) h) :
    Snd Try.prog I (.func 62) [v, .func (.func g) #[] cap.toArray] h (.bool (anyN p n)) h := by
  refine Snd_run (rs := [.tmp 4]) 400 Try.func62 (by kernel_rfl) rfl Try.ntmps62 rfl ?_
  simp -implicitDefEqProofs only [sB, Nat.reduceAdd, Nat.reduceSub, yieldL, popK, flat, nptr, Value.cells, H.new, eq_self, Int.reduceEq, Int.reduceLT, Int.reduceLE, Nat.reduceEqDiff, Nat.reduceLeDiff, thenQ, ContK, ty3, ty4, ty25, ty94]
  refine RunCall_of (index74 I hv hf) ?_
  simp -implicitDefEqProofs only [sB, Nat.reduceAdd, Nat.reduceSub, yieldL, popK, flat, nptr, Value.cells, H.new, eq_self, Int.reduceEq, Int.reduceLT, Int.reduceLE, Nat.reduceEqDiff, Nat.reduceLeDiff, thenQ, ContK, ty3, ty4, ty25, ty94, firstIx_any]

set_option maxRecDepth 100000 in
theorem closure63 (I : Nat → Option Obj) {h : H} {n lo hi : Int} {p q : Nat} (hlo : rdl I h p 0 1 = some [.int .i64 lo]) (hhi : rdl I h q 0 1 = some [.int .i64 hi]) :
    Snd Try.prog I (.func 63) [.int .i64 n, .pointer (some ⟨p, 0, none⟩), .pointer (some ⟨q, 0, none⟩)] h (.bool (decide (n < lo) || decide (hi < n))) h := by
  refine Snd_run (rs := [.tmp 4]) 400 Try.func63 (by kernel_rfl) rfl Try.ntmps63 rfl ?_
  by_cases h1 : n < lo
  · simp -implicitDefEqProofs only [sB, Nat.reduceAdd, Nat.reduceSub, yieldL, popK, flat, nptr, Value.cells, H.new, eq_self, Int.reduceEq, Int.reduceLT, Int.reduceLE, Nat.reduceEqDiff, Nat.reduceLeDiff, thenQ, ContK, ty2, ty4, h1, hlo, hhi]
    simp
  · simp -implicitDefEqProofs only [sB, Nat.reduceAdd, Nat.reduceSub, yieldL, popK, flat, nptr, Value.cells, H.new, eq_self, Int.reduceEq, Int.reduceLT, Int.reduceLE, Nat.reduceEqDiff, Nat.reduceLeDiff, thenQ, ContK, ty2, ty4, h1, hlo, hhi]
    simp

theorem Sees.app {I : Nat → Option Obj} {h : H} {v : Value} {n : Nat} {x : Nat → Int} (hs : Sees I h v n x) (l : H) : Sees I (h ++ l) v n x := by
  obtain ⟨p, c, e, hn, hq⟩ := hs
  refine ⟨p, c, e, hn, fun h0 => ?_⟩
  obtain ⟨id, off, e1, hr⟩ := hq h0
  exact ⟨id, off, e1, fun i hi => rdl_mono (hr i hi) l⟩
theorem Sees.nil {I : Nat → Option Obj} {h : H} {x : Nat → Int} : Sees I h (.slice none 0 0) 0 x := ⟨none, 0, rfl, by omega, fun h => by omega⟩
theorem Sees.of_row {I : Nat → Option Obj} {h : H} {id n c : Nat} {e : TypeId} {x : Nat → Int} (hn : n ≤ 9223372036854775807) (hg : h.get id = some (.cells (arrL n x) e)) : Sees I h (.slice (some ⟨id, 0, none⟩) n c) n x := by
  refine ⟨_, _, rfl, hn, fun h0 => ⟨id, 0, rfl, fun i hi => ?_⟩⟩
  rw [rd_at hg, rdB_cells (by rw [arrL_length]; omega), Nat.zero_add, arrL_part n x hi]
/-- a literal of one number, two numbers -/
def one1 (a : Int) : Nat → Int := fun _ => a
def two2 (a b : Int) : Nat → Int := fun i => if i = 0 then a else b
theorem arrL_one1 (a : Int) : arrL 1 (one1 a) = [.int .i64 a] := rfl
theorem arrL_two2 (a b : Int) : arrL 2 (two2 a b) = [.int .i64 a, .int .i64 b] := rfl
theorem Sees.one {I : Nat → Option Obj} {h l : H} {k c : Nat} {e : TypeId} {a : Int} (hg : l[k]? = some (.cells [.int .i64 a] e)) : Sees I (h ++ l) (.slice (some ⟨2 * (h.length + k), 0, none⟩) 1 c) 1 (one1 a) :=
  Sees.of_row (by omega) (by rw [get_k, hg]; rfl)
theorem Sees.two {I : Nat → Option Obj} {h l : H} {k c : Nat} {e : TypeId} {a b : Int} (hg : l[k]? = some (.cells [.int .i64 a, .int .i64 b] e)) : Sees I (h ++ l) (.slice (some ⟨2 * (h.length + k), 0, none⟩) 2 c) 2 (two2 a b) :=
  Sees.of_row (by omega) (by rw [get_k, hg]; rfl)
def withinB (lo hi : Int) (n : Nat) (x : Nat → Int) : Bool := !anyN (fun i => decide (x i < lo) || decide (hi < x i)) n
theorem withinB_iff {lo hi : Int} {n : Nat} {x : Nat → Int} : withinB lo hi n x = true ↔ ∀ i, i < n → lo ≤ x i ∧ x i ≤ hi := by
  unfold withinB
  rw [Bool.not_eq_true', ← Bool.not_eq_true, anyN_iff]
  constructor
  · intro h i hi
    refine Classical.byContradiction fun hc => h ⟨i, hi, ?_⟩
    simp; omega
  · rintro h ⟨i, hi, hb⟩
    have := h i hi
    simp at hb; omega
theorem within_one {lo hi a : Int} : withinB lo hi 1 (one1 a) = (decide (lo ≤ a) && decide (a ≤ hi)) := by
  rw [Bool.eq_iff_iff, withinB_iff]; simp [one1]
theorem within_two {lo hi a b : Int} : withinB lo hi 2 (two2 a b) = ((decide (lo ≤ a) && decide (a ≤ hi)) && (decide (lo ≤ b) && decide (b ≤ hi))) := by
  rw [Bool.eq_iff_iff, withinB_iff]; simp [two2]
  constructor
  · intro h; exact ⟨by simpa using h 0 (by omega), by simpa using h 1 (by omega)⟩
  · rintro ⟨h1, h2⟩ i hi; by_cases e : i = 0 <;> simp [e, h1, h2]

set_option maxRecDepth 100000 in
theorem within40 (I : Nat → Option Obj) {h : H} {v : Value} {n : Nat} {lo hi : Int} {x : Nat → Int} (hv : Sees I h v n x) :
    Snd Try.prog I (.func 40) [.int .i64 lo, .int .i64 hi, v] h (.bool (withinB lo hi n x)) h := by
  refine Snd_run0 (rs := [.tmp 6]) 400 Try.func40 (by kernel_rfl) rfl Try.ntmps40 rfl rfl ?_
  simp -implicitDefEqProofs only [sB, Nat.reduceAdd, Nat.reduceSub, yieldL, popK, flat, nptr, Value.cells, H.new, eq_self, Int.reduceEq, Int.reduceLT, Int.reduceLE, Nat.reduceEqDiff, Nat.reduceLeDiff, thenQ, ContK, ty2, ty4, ty25, ty94]
  refine RunCall_of (contains62 I (cap := [.pointer (some ⟨2 * h.length, 0, none⟩), .pointer (some ⟨2 * (h.length + 1), 0, none⟩)]) (p := fun i => decide (x i < lo) || decide (hi < x i)) (hv.app _) (fun i hi => closure63 I (by rw [rd_z]; rfl) (by rw [rd_k]; rfl))) ?_
  simp -implicitDefEqProofs only [sB, Nat.reduceAdd, Nat.reduceSub, yieldL, popK, flat, nptr, Value.cells, H.new, eq_self, Int.reduceEq, Int.reduceLT, Int.reduceLE, Nat.reduceEqDiff, Nat.reduceLeDiff, thenQ, ContK, ty2, ty4, ty25, ty94]
  exact ⟨⟨_, rfl⟩, rfl⟩
end Go.Proofs.Ytcocmbccfikmhaa
set_option linter.unusedSimpArgs false
set_option linter.unusedVariables false
namespace Go.Proofs.Ytcocmbccfikmhaa
open Go.Sym
/-- rows of a chart, an input -/
def Rows (I : Nat → Option Obj) (v : Value) (n : Nat) (D L U : Nat → Int) : Prop :=
  ∃ p c, v = .slice p n c ∧ n ≤ 9223372036854775807 ∧ (0 < n → ∃ id off, p = some ⟨id, off, none⟩ ∧ ∀ (h : H) i, i < n → rdl I h id (off + i * 3) 3 = some [.int .i64 (D i), .int .i64 (L i), .int .i64 (U i)])
theorem row_D {I : Nat → Option Obj} {h : H} {id off i : Nat} {a b c : Value} (hr : rdl I h id (off + i * 3) 3 = some [a, b, c]) : rdl I h id (off + i * 3) 1 = some [a] := rdl_part hr 0 1 (by omega)
theorem row_L {I : Nat → Option Obj} {h : H} {id off i : Nat} {a b c : Value} (hr : rdl I h id (off + i * 3) 3 = some [a, b, c]) : rdl I h id (off + i * 3 + 1) 1 = some [b] := rdl_part hr 1 1 (by omega)
theorem row_U {I : Nat → Option Obj} {h : H} {id off i : Nat} {a b c : Value} (hr : rdl I h id (off + i * 3) 3 = some [a, b, c]) : rdl I h id (off + i * 3 + 1 + 1) 1 = some [c] := rdl_part hr 2 1 (by omega)
theorem row_R {I : Nat → Option Obj} {h : H} {id off i : Nat} {a b c : Value} (hr : rdl I h id (off + i * 3) 3 = some [a, b, c]) : rdl I h id (off + i * 3 + 1) 2 = some [b, c] := rdl_part hr 1 2 (by omega)
theorem bs25_1 {h : H} {k : IntKind} {a : Int} : abuildSlice Try.prog 25 1 [(0, .int k a)] h = some (.slice (some ⟨h.new, 0, none⟩) 1 1, h ++ [.cells [.int k a] 2]) := by kernel_rfl
theorem bs25_2 {h : H} {k k' : IntKind} {a b : Int} : abuildSlice Try.prog 25 2 [(0, .int k a), (1, .int k' b)] h = some (.slice (some ⟨h.new, 0, none⟩) 2 2, h ++ [.cells [.int k a, .int k' b] 2]) := by kernel_rfl
theorem unk1 : (1 < UNK) = True := by simp [UNK]
theorem unk2 : (2 < UNK) = True := by simp [UNK]
def rangeB (a b lo hi : Int) : Bool := withinB lo hi 2 (two2 a b) && decide (a ≤ b)
theorem rangeB_iff {a b lo hi : Int} : rangeB a b lo hi = true ↔ lo ≤ a ∧ a ≤ b ∧ b ≤ hi := by
  unfold rangeB; rw [within_two]; simp; omega

set_option maxRecDepth 100000 in
theorem index75 (I : Nat → Option Obj) {h : H} {v : Value} {n : Nat} {D L U : Nat → Int} {g : FuncId} {p : Nat → Bool} (hv : Rows I v n D L U)
    (hf : ∀ i, i < n → Snd Try.prog I (.func g) [.agg #[.int .i64 (D i), .int .i64 (L i), .int .i64 (U i)]] h (.bool (p i)) h) :
    Snd Try.prog I (.func 75) [v, .func (.func g) #[] #[]] h (.int .i64 (firstIx p n)) h := by
  obtain ⟨q, c, rfl, hn, hq⟩ := hv
  refine Snd_run (rs := [.tmp 4]) 400 Try.func75 (by kernel_rfl) rfl Try.ntmps75 rfl ?_
  simp -implicitDefEqProofs only [sB, Nat.reduceAdd, Nat.reduceSub, yieldL, popK, flat, nptr, Value.cells, H.new, eq_self, Int.reduceEq, Int.reduceLT, Int.reduceLE, Nat.reduceEqDiff, Nat.reduceLeDiff, thenQ, ContK, ty2, ty3, ty4, ty5, ty22, ty64]
  obtain ⟨Ja, hJa⟩ : ∃ J : St → Prop, J = fun s => ∃ (k : Nat), s.df = [] ∧ s.h = h ∧ s.tm.length = 19 ∧ s.tm.getD 0 undef = .slice q n c ∧ s.tm.getD 1 undef = .func (.func g) #[] #[] ∧ s.tm.getD 4 undef = .int .i64 0 ∧ s.tm.getD 7 undef = .int .i64 n ∧ s.tm.getD 8 undef = .int .i64 k ∧ (k ≤ n) ∧ (firstIx p n = firstFrom p n (n - k) k) := ⟨_, rfl⟩
  refine Loop_run (by kernel_rfl) 400 Ja (muI 8 n) (by rw [hJa]; exact ⟨0, rfl, rfl, rfl, rfl, rfl, rfl, rfl, rfl, Nat.zero_le _, rfl⟩) ?_
  intro sa hsa
  rw [hJa] at hsa
  obtain ⟨tma, dfa, hha⟩ := sa
  obtain ⟨k, ea1, ea2, ea3, la0, la1, la4, la7, la8, hk, hp⟩ := hsa
  simp only at ea1 ea2 ea3 la0 la1 la4 la7 la8
  subst dfa; subst hha
  have elita : tma = [.slice q n c, .func (.func g) #[] #[], tma.getD 2 undef, tma.getD 3 undef, .int .i64 0, tma.getD 5 undef, tma.getD 6 undef, .int .i64 n, .int .i64 k, tma.getD 9 undef, tma.getD 10 undef, tma.getD 11 undef, tma.getD 12 undef, tma.getD 13 undef, tma.getD 14 undef, tma.getD 15 undef, tma.getD 16 undef, tma.getD 17 undef, tma.getD 18 undef] := by
    have e0 := lit_eq ea3
    have er : List.range 19 = [0, 1, 2, 3, 4, 5, 6, 7, 8, 9, 10, 11, 12, 13, 14, 15, 16, 17, 18] := by rfl
    rw [er] at e0
    simp only [List.map_cons, List.map_nil, la0, la1, la4, la7, la8] at e0
    exact e0
  rw [elita]
  clear la0
  clear la1
  clear la4
  clear la7
  clear la8
  clear elita ea3
  by_cases hkn : k < n
  · obtain ⟨id, off, rfl, hr⟩ := hq (by omega)
    have h1 : (k : Int) < (n : Int) := by omega
    have h2 : (0 : Int) ≤ (k : Int) ∧ (k : Int) < (n : Int) := ⟨by omega, h1⟩
    have h3 := hr h k hkn
    have h4 := wrap_add1 (i := k) (by omega)
    simp -implicitDefEqProofs only [sB, Nat.reduceAdd, Nat.reduceSub, yieldL, popK, flat, nptr, Value.cells, H.new, eq_self, Int.reduceEq, Int.reduceLT, Int.reduceLE, Nat.reduceEqDiff, Nat.reduceLeDiff, thenQ, ContK, ty2, ty3, ty4, ty5, ty22, ty64, h1, h2, h3]
    refine RunCall_of (hf k hkn) ?_
    simp -implicitDefEqProofs only [sB, Nat.reduceAdd, Nat.reduceSub, yieldL, popK, flat, nptr, Value.cells, H.new, eq_self, Int.reduceEq, Int.reduceLT, Int.reduceLE, Nat.reduceEqDiff, Nat.reduceLeDiff, thenQ, ContK, ty2, ty3, ty4, ty5, ty22, ty64, h4]
    refine RunB_of (fun hb => ?_) (fun hb => ?_)
    · simp -implicitDefEqProofs only [sB, Nat.reduceAdd, Nat.reduceSub, yieldL, popK, flat, nptr, Value.cells, H.new, eq_self, Int.reduceEq, Int.reduceLT, Int.reduceLE, Nat.reduceEqDiff, Nat.reduceLeDiff, thenQ, ContK, ty2, ty3, ty4, ty5, ty22, ty64, h4]
      rw [hp, firstFrom_pos hkn hb]
    · simp -implicitDefEqProofs only [sB, Nat.reduceAdd, Nat.reduceSub, yieldL, popK, flat, nptr, Value.cells, H.new, eq_self, Int.reduceEq, Int.reduceLT, Int.reduceLE, Nat.reduceEqDiff, Nat.reduceLeDiff, thenQ, ContK, ty2, ty3, ty4, ty5, ty22, ty64, h4]
      refine ⟨by rw [hJa]; exact ⟨k + 1, rfl, rfl, rfl, rfl, rfl, rfl, rfl, rfl, by omega, by rw [hp, firstFrom_neg hkn hb]⟩, ?_⟩
      show n - ((k + 1 : Nat) : Int).toNat < n - (k : Int).toNat
      omega
  · have h1 : ¬ (k : Int) < (n : Int) := by omega
    simp -implicitDefEqProofs only [sB, Nat.reduceAdd, Nat.reduceSub, yieldL, popK, flat, nptr, Value.cells, H.new, eq_self, Int.reduceEq, Int.reduceLT, Int.reduceLE, Nat.reduceEqDiff, Nat.reduceLeDiff, thenQ, ContK, ty2, ty3, ty4, ty5, ty22, ty64, h1]
    rw [hp, firstFrom_end hkn]

set_option maxRecDepth 100000 in
theorem contains66 (I : Nat → Option Obj) {h : H} {v : Value} {n : Nat} {D L U : Nat → Int} {g : FuncId} {p : Nat → Bool} (hv : Rows I v n D L U)
    (hf : ∀ i, i < n → Snd Try.prog I (.func g) [.agg #[.int .i64 (D i), .int .i64 (L i), .int .i64 (U i)]] h (.bool (p i)) h) :
    Snd Try.prog I (.func 66) [v, .func (.func g) #[] #[]] h (.bool (anyN p n)) h := by
  refine Snd_run (rs := [.tmp 4]) 400 Try.func66 (by kernel_rfl) rfl Try.ntmps66 rfl ?_
  simp -implicitDefEqProofs only [sB, Nat.reduceAdd, Nat.reduceSub, yieldL, popK, flat, nptr, Value.cells, H.new, eq_self, Int.reduceEq, Int.reduceLT, Int.reduceLE, Nat.reduceEqDiff, Nat.reduceLeDiff, thenQ, ContK, ty3, ty4, ty22]
  refine RunCall_of (index75 I hv hf) ?_
  simp -implicitDefEqProofs only [sB, Nat.reduceAdd, Nat.reduceSub, yieldL, popK, flat, nptr, Value.cells, H.new, eq_self, Int.reduceEq, Int.reduceLT, Int.reduceLE, Nat.reduceEqDiff, Nat.reduceLeDiff, thenQ, ContK, ty3, ty4, ty22, firstIx_any]

set_option maxRecDepth 100000 in
theorem isRange55 (I : Nat → Option Obj) {h : H} {a b lo hi : Int} :
    Snd Try.prog I (.func 55) [.agg #[.int .i64 a, .int .i64 b], .int .i64 lo, .int .i64 hi] h (.bool (rangeB a b lo hi)) h := by
  refine Snd_run0 (rs := [.tmp 6]) 400 Try.func55 (by kernel_rfl) rfl Try.ntmps55 rfl rfl ?_
  simp -implicitDefEqProofs only [sB, Nat.reduceAdd, Nat.reduceSub, yieldL, popK, flat, nptr, Value.cells, H.new, eq_self, Int.reduceEq, Int.reduceLT, Int.reduceLE, Nat.reduceEqDiff, Nat.reduceLeDiff, thenQ, ContK, ty2, ty4, ty25, ty34, bs25_1, bs25_2, unk1, unk2]
  refine RunCall_of (within40 I (Sees.two (k := 1) rfl)) ?_
  by_cases hw : withinB lo hi 2 (two2 a b) = true
  · simp -implicitDefEqProofs only [sB, Nat.reduceAdd, Nat.reduceSub, yieldL, popK, flat, nptr, Value.cells, H.new, eq_self, Int.reduceEq, Int.reduceLT, Int.reduceLE, Nat.reduceEqDiff, Nat.reduceLeDiff, thenQ, ContK, ty2, ty4, ty25, ty34, bs25_1, bs25_2, unk1, unk2, hw]
    exact ⟨⟨_, rfl⟩, by unfold rangeB; rw [hw, Bool.true_and]⟩
  · simp only [Bool.not_eq_true] at hw
    simp -implicitDefEqProofs only [sB, Nat.reduceAdd, Nat.reduceSub, yieldL, popK, flat, nptr, Value.cells, H.new, eq_self, Int.reduceEq, Int.reduceLT, Int.reduceLE, Nat.reduceEqDiff, Nat.reduceLeDiff, thenQ, ContK, ty2, ty4, ty25, ty34, bs25_1, bs25_2, unk1, unk2, hw]
    exact ⟨⟨_, rfl⟩, by unfold rangeB; rw [hw, Bool.false_and]⟩

set_option maxRecDepth 100000 in
theorem closure67 (I : Nat → Option Obj) {h : H} {d a b : Int} :
    Snd Try.prog I (.func 67) [.agg #[.int .i64 d, .int .i64 a, .int .i64 b]] h (.bool (!rangeB a b 0 100000)) h := by
  refine Snd_run0 (rs := [.tmp 2]) 400 Try.func67 (by kernel_rfl) rfl Try.ntmps67 rfl rfl ?_
  simp -implicitDefEqProofs only [sB, Nat.reduceAdd, Nat.reduceSub, yieldL, popK, flat, nptr, Value.cells, H.new, eq_self, Int.reduceEq, Int.reduceLT, Int.reduceLE, Nat.reduceEqDiff, Nat.reduceLeDiff, thenQ, ContK, ty2, ty4, ty34, ty64, bs25_1, bs25_2, unk1, unk2]
  refine RunCall_of (isRange55 I) ?_
  simp -implicitDefEqProofs only [sB, Nat.reduceAdd, Nat.reduceSub, yieldL, popK, flat, nptr, Value.cells, H.new, eq_self, Int.reduceEq, Int.reduceLT, Int.reduceLE, Nat.reduceEqDiff, Nat.reduceLeDiff, thenQ, ContK, ty2, ty4, ty34, ty64, bs25_1, bs25_2, unk1, unk2]
  exact ⟨_, rfl⟩
end Go.Proofs.Ytcocmbccfikmhaa
set_option linter.unusedSimpArgs false
set_option linter.unusedVariables false
namespace Go.Proofs.Ytcocmbccfikmhaa
open Go.Sym
/-- the dip before -/
def prevD (D : Nat → Int) (i : Nat) : Int := match i with | 0 => -1 | j + 1 => D j
def dipOk (D : Nat → Int) (i : Nat) : Bool := decide (prevD D i < D i) && decide (D i ≤ 4000)
/-- the error of a tank -/
def tankE (n : Nat) (D L U : Nat → Int) (pr : Int) : Int :=
  if n < 2 ∨ 16 < n then 6 else if anyN (fun i => !dipOk D i) n then 3 else if !withinB 0 50 1 (one1 pr) || anyN (fun i => !rangeB (L i) (U i) 0 100000) n then 2 else 0
theorem tankE_many {n : Nat} {D L U : Nat → Int} {pr : Int} (h : n < 2 ∨ 16 < n) : tankE n D L U pr = 6 := by unfold tankE; rw [if_pos h]
theorem tankE_dip {n k : Nat} {D L U : Nat → Int} {pr : Int} (h : ¬ (n < 2 ∨ 16 < n)) (hk : k < n) (hb : dipOk D k = false) : tankE n D L U pr = 3 := by
  unfold tankE; rw [if_neg h, if_pos (anyN_iff.2 ⟨k, hk, by simp [hb]⟩)]
theorem tankE_arg {n : Nat} {D L U : Nat → Int} {pr : Int} (h : ¬ (n < 2 ∨ 16 < n)) (hd : ∀ i, i < n → dipOk D i = true) : tankE n D L U pr = if (!withinB 0 50 1 (one1 pr) || anyN (fun i => !rangeB (L i) (U i) 0 100000) n) = true then 2 else 0 := by
  unfold tankE; rw [if_neg h, if_neg]
  rw [anyN_iff]
  rintro ⟨i, hi, hb⟩
  rw [hd i hi] at hb; cases hb

set_option maxRecDepth 100000 in
theorem checkTank47 (I : Nat → Option Obj) {h : H} {v : Value} {n : Nat} {D L U : Nat → Int} {pr : Int} (hv : Rows I v n D L U) :
    Snd Try.prog I (.func 47) [.agg #[v, .int .i64 pr]] h (.int .i64 (tankE n D L U pr)) h := by
  have hv0 := hv
  obtain ⟨q, c, rfl, hn, hq⟩ := hv
  refine Snd_run0 (rs := [.tmp 2]) 400 Try.func47 (by kernel_rfl) rfl Try.ntmps47 rfl rfl ?_
  by_cases hm1 : n < 2
  · have h1 : (n : Int) < 2 := by omega
    simp -implicitDefEqProofs only [sB, Nat.reduceAdd, Nat.reduceSub, yieldL, popK, flat, nptr, Value.cells, H.new, eq_self, Int.reduceEq, Int.reduceLT, Int.reduceLE, Nat.reduceEqDiff, Nat.reduceLeDiff, thenQ, ContK, ty2, ty3, ty4, ty5, ty22, ty24, ty25, ty30, ty64, bs25_1, bs25_2, unk1, unk2, st64, st24, st34, h1]
    exact ⟨⟨_, rfl⟩, by rw [tankE_many (.inl hm1)]⟩
  by_cases hm2 : 16 < n
  · have h1 : ¬ (n : Int) < 2 := by omega
    have h2 : (16 : Int) < (n : Int) := by omega
    simp -implicitDefEqProofs only [sB, Nat.reduceAdd, Nat.reduceSub, yieldL, popK, flat, nptr, Value.cells, H.new, eq_self, Int.reduceEq, Int.reduceLT, Int.reduceLE, Nat.reduceEqDiff, Nat.reduceLeDiff, thenQ, ContK, ty2, ty3, ty4, ty5, ty22, ty24, ty25, ty30, ty64, bs25_1, bs25_2, unk1, unk2, st64, st24, st34, h1, h2]
    exact ⟨⟨_, rfl⟩, by rw [tankE_many (.inr hm2)]⟩
  have h1 : ¬ (n : Int) < 2 := by omega
  have h2 : ¬ (16 : Int) < (n : Int) := by omega
  simp -implicitDefEqProofs only [sB, Nat.reduceAdd, Nat.reduceSub, yieldL, popK, flat, nptr, Value.cells, H.new, eq_self, Int.reduceEq, Int.reduceLT, Int.reduceLE, Nat.reduceEqDiff, Nat.reduceLeDiff, thenQ, ContK, ty2, ty3, ty4, ty5, ty22, ty24, ty25, ty30, ty64, bs25_1, bs25_2, unk1, unk2, st64, st24, st34, h1, h2]
  obtain ⟨Ja, hJa⟩ : ∃ J : St → Prop, J = fun s => ∃ (k : Nat) (Lx : H), s.df = [] ∧ s.h = h ++ (.cells [.slice q n c, .int .i64 pr] 24 :: Lx) ∧ s.tm.length = 45 ∧ s.tm.getD 1 undef = .pointer (some ⟨2 * h.length, 0, none⟩) ∧ s.tm.getD 2 undef = .int .i64 0 ∧ s.tm.getD 3 undef = .int .i64 (prevD D k) ∧ s.tm.getD 17 undef = .slice q n c ∧ s.tm.getD 18 undef = .int .i64 n ∧ s.tm.getD 19 undef = .int .i64 k ∧ (k ≤ n) ∧ (∀ i, i < k → dipOk D i = true) := ⟨_, rfl⟩
  refine Loop_run (by kernel_rfl) 400 Ja (muI 19 n) (by rw [hJa]; exact ⟨0, [], rfl, rfl, rfl, rfl, rfl, rfl, rfl, rfl, rfl, Nat.zero_le _, fun i hi => absurd hi (Nat.not_lt_zero i)⟩) ?_
  intro sa hsa
  rw [hJa] at hsa
  obtain ⟨tma, dfa, hha⟩ := sa
  obtain ⟨k, Lx, ea1, ea2, ea3, la1, la2, la3, la17, la18, la19, hk, hp⟩ := hsa
  simp only at ea1 ea2 ea3 la1 la2 la3 la17 la18 la19
  subst dfa; subst hha
  have elita : tma = [tma.getD 0 undef, .pointer (some ⟨2 * h.length, 0, none⟩), .int .i64 0, .int .i64 (prevD D k), tma.getD 4 undef, tma.getD 5 undef, tma.getD 6 undef, tma.getD 7 undef, tma.getD 8 undef, tma.getD 9 undef, tma.getD 10 undef, tma.getD 11 undef, tma.getD 12 undef, tma.getD 13 undef, tma.getD 14 undef, tma.getD 15 undef, tma.getD 16 undef, .slice q n c, .int .i64 n, .int .i64 k, tma.getD 20 undef, tma.getD 21 undef, tma.getD 22 undef, tma.getD 23 undef, tma.getD 24 undef, tma.getD 25 undef, tma.getD 26 undef, tma.getD 27 undef, tma.getD 28 undef, tma.getD 29 undef, tma.getD 30 undef, tma.getD 31 undef, tma.getD 32 undef, tma.getD 33 undef, tma.getD 34 undef, tma.getD 35 undef, tma.getD 36 undef, tma.getD 37 undef, tma.getD 38 undef, tma.getD 39 undef, tma.getD 40 undef, tma.getD 41 undef, tma.getD 42 undef, tma.getD 43 undef, tma.getD 44 undef] := by
    have e0 := lit_eq ea3
    have er : List.range 45 = [0, 1, 2, 3, 4, 5, 6, 7, 8, 9, 10, 11, 12, 13, 14, 15, 16, 17, 18, 19, 20, 21, 22, 23, 24, 25, 26, 27, 28, 29, 30, 31, 32, 33, 34, 35, 36, 37, 38, 39, 40, 41, 42, 43, 44] := by rfl
    rw [er] at e0
    simp only [List.map_cons, List.map_nil, la1, la2, la3, la17, la18, la19] at e0
    exact e0
  rw [elita]
  clear la1
  clear la2
  clear la3
  clear la17
  clear la18
  clear la19
  clear elita ea3
  by_cases hkn : k < n
  · obtain ⟨id, off, rfl, hr⟩ := hq (by omega)
    have h1 : (k : Int) < (n : Int) := by omega
    have h2 : (0 : Int) ≤ (k : Int) ∧ (k : Int) < (n : Int) := ⟨by omega, h1⟩
    have h3 := fun h => hr h k hkn
    have h4 := wrap_add1 (i := k) (by omega)
    have hm : ¬ (n < 2 ∨ 16 < n) := by omega
    by_cases ha : D k ≤ prevD D k
    · simp -implicitDefEqProofs only [sB, Nat.reduceAdd, Nat.reduceSub, yieldL, popK, flat, nptr, Value.cells, H.new, eq_self, Int.reduceEq, Int.reduceLT, Int.reduceLE, Nat.reduceEqDiff, Nat.reduceLeDiff, thenQ, ContK, ty2, ty3, ty4, ty5, ty22, ty24, ty25, ty30, ty64, bs25_1, bs25_2, unk1, unk2, st64, st24, st34, h1, h2, h3, h4, ha]
      exact ⟨⟨_, rfl⟩, by rw [tankE_dip hm hkn (by unfold dipOk; simp; omega)]⟩
    by_cases hb : 4000 < D k
    · simp -implicitDefEqProofs only [sB, Nat.reduceAdd, Nat.reduceSub, yieldL, popK, flat, nptr, Value.cells, H.new, eq_self, Int.reduceEq, Int.reduceLT, Int.reduceLE, Nat.reduceEqDiff, Nat.reduceLeDiff, thenQ, ContK, ty2, ty3, ty4, ty5, ty22, ty24, ty25, ty30, ty64, bs25_1, bs25_2, unk1, unk2, st64, st24, st34, h1, h2, h3, h4, ha, hb]
      exact ⟨⟨_, rfl⟩, by rw [tankE_dip hm hkn (by unfold dipOk; simp; omega)]⟩
    simp -implicitDefEqProofs only [sB, Nat.reduceAdd, Nat.reduceSub, yieldL, popK, flat, nptr, Value.cells, H.new, eq_self, Int.reduceEq, Int.reduceLT, Int.reduceLE, Nat.reduceEqDiff, Nat.reduceLeDiff, thenQ, ContK, ty2, ty3, ty4, ty5, ty22, ty24, ty25, ty30, ty64, bs25_1, bs25_2, unk1, unk2, st64, st24, st34, h1, h2, h3, h4, ha, hb]
    refine ⟨by rw [hJa]; exact ⟨k + 1, Lx ++ [.cells [.int .i64 (D k), .int .i64 (L k), .int .i64 (U k)] 64], rfl, rfl, rfl, rfl, rfl, rfl, rfl, rfl, rfl, by omega, fun i hi => by rcases Nat.lt_succ_iff_lt_or_eq.1 hi with h | rfl; exact hp i h; unfold dipOk; simp; omega⟩, ?_⟩
    show n - ((k + 1 : Nat) : Int).toNat < n - (k : Int).toNat
    omega
  · have h1 : ¬ (k : Int) < (n : Int) := by omega
    have hm : ¬ (n < 2 ∨ 16 < n) := by omega
    have hkn' : k = n := by omega
    subst hkn'
    rw [tankE_arg hm hp]
    simp -implicitDefEqProofs only [sB, Nat.reduceAdd, Nat.reduceSub, yieldL, popK, flat, nptr, Value.cells, H.new, eq_self, Int.reduceEq, Int.reduceLT, Int.reduceLE, Nat.reduceEqDiff, Nat.reduceLeDiff, thenQ, ContK, ty2, ty3, ty4, ty5, ty22, ty24, ty25, ty30, ty64, bs25_1, bs25_2, unk1, unk2, st64, st24, st34, h1]
    refine RunCall_of (within40 I (Sees.one (k := Lx.length + 1) (c := 1) (e := 2) (a := pr) (by simp))) ?_
    by_cases hw : withinB 0 50 1 (one1 pr) = true
    · simp -implicitDefEqProofs only [sB, Nat.reduceAdd, Nat.reduceSub, yieldL, popK, flat, nptr, Value.cells, H.new, eq_self, Int.reduceEq, Int.reduceLT, Int.reduceLE, Nat.reduceEqDiff, Nat.reduceLeDiff, thenQ, ContK, ty2, ty3, ty4, ty5, ty22, ty24, ty25, ty30, ty64, bs25_1, bs25_2, unk1, unk2, st64, st24, st34, h1, hw]
      refine RunCall_of (contains66 I hv0 (fun i hi => closure67 I)) ?_
      by_cases hx : anyN (fun i => !rangeB (L i) (U i) 0 100000) k = true
      · simp -implicitDefEqProofs only [sB, Nat.reduceAdd, Nat.reduceSub, yieldL, popK, flat, nptr, Value.cells, H.new, eq_self, Int.reduceEq, Int.reduceLT, Int.reduceLE, Nat.reduceEqDiff, Nat.reduceLeDiff, thenQ, ContK, ty2, ty3, ty4, ty5, ty22, ty24, ty25, ty30, ty64, bs25_1, bs25_2, unk1, unk2, st64, st24, st34, h1, hw, hx]
        exact ⟨⟨_, rfl⟩, rfl⟩
      · simp only [Bool.not_eq_true] at hx
        simp -implicitDefEqProofs only [sB, Nat.reduceAdd, Nat.reduceSub, yieldL, popK, flat, nptr, Value.cells, H.new, eq_self, Int.reduceEq, Int.reduceLT, Int.reduceLE, Nat.reduceEqDiff, Nat.reduceLeDiff, thenQ, ContK, ty2, ty3, ty4, ty5, ty22, ty24, ty25, ty30, ty64, bs25_1, bs25_2, unk1, unk2, st64, st24, st34, h1, hw, hx]
        exact ⟨⟨_, rfl⟩, rfl⟩
    · simp only [Bool.not_eq_true] at hw
      simp -implicitDefEqProofs only [sB, Nat.reduceAdd, Nat.reduceSub, yieldL, popK, flat, nptr, Value.cells, H.new, eq_self, Int.reduceEq, Int.reduceLT, Int.reduceLE, Nat.reduceEqDiff, Nat.reduceLeDiff, thenQ, ContK, ty2, ty3, ty4, ty5, ty22, ty24, ty25, ty30, ty64, bs25_1, bs25_2, unk1, unk2, st64, st24, st34, h1, hw]
      exact ⟨⟨_, rfl⟩, rfl⟩
end Go.Proofs.Ytcocmbccfikmhaa
set_option linter.unusedSimpArgs false
set_option linter.unusedVariables false
namespace Go.Proofs.Ytcocmbccfikmhaa
open Go.Sym
theorem tmod_lt' {a b : Int} (ha : 0 ≤ a) (hb : 0 ≤ b) (h : b ≠ 0) : 0 ≤ a.tmod b ∧ a.tmod b < b := by
  rw [Int.tmod_eq_emod_of_nonneg ha]
  exact ⟨Int.emod_nonneg _ h, Int.emod_lt_of_pos _ (by omega)⟩
/-- Euclid's way -/
def euc : Nat → Int → Int → Int
  | 0, a, _ => a
  | f + 1, a, b => if b = 0 then a else euc f b (a.tmod b)
def gcdI (a b : Int) : Int := euc (b.natAbs + 1) a b
theorem euc_more : ∀ (f : Nat) (a b : Int), 0 ≤ a → 0 ≤ b → b.natAbs < f → euc f a b = gcdI a b
  | 0, a, b, _, _, h => by omega
  | f + 1, a, b, ha, hb, h => by
    unfold gcdI
    simp only [euc]
    by_cases hz : b = 0
    · simp [hz]
    · rw [if_neg hz, if_neg hz]
      obtain ⟨h1, h2⟩ := tmod_lt' ha hb hz
      rw [euc_more f b _ hb h1 (by omega)]
      have : b.natAbs = (b.natAbs - 1) + 1 := by omega
      rw [euc_more b.natAbs b _ hb h1 (by omega)]
theorem gcdI_zero (a : Int) : gcdI a 0 = a := rfl
theorem gcdI_step {a b : Int} (ha : 0 ≤ a) (hb : 0 ≤ b) (h : b ≠ 0) : gcdI a b = gcdI b (a.tmod b) := by
  obtain ⟨h1, h2⟩ := tmod_lt' ha hb h
  conv => lhs; unfold gcdI
  simp only [euc]
  rw [if_neg h, euc_more _ _ _ hb h1 (by omega)]
def muZ (j : Nat) (s : St) : Nat := match s.tm.getD j undef with | .int _ i => i.natAbs | _ => 0

set_option maxRecDepth 100000 in
theorem common64 (I : Nat → Option Obj) {h : H} {a0 b0 : Int} (ha0 : 0 ≤ a0 ∧ a0 < 9223372036854775808) (hb0 : 0 ≤ b0 ∧ b0 < 9223372036854775808) :
    Snd Try.prog I (.func 64) [.int .i64 a0, .int .i64 b0] h (.int .i64 (gcdI a0 b0)) h := by
  refine Snd_run (rs := [.tmp 4]) 400 Try.func64 (by kernel_rfl) rfl Try.ntmps64 rfl ?_
  simp -implicitDefEqProofs only [sB, Nat.reduceAdd, Nat.reduceSub, yieldL, popK, flat, nptr, Value.cells, H.new, eq_self, Int.reduceEq, Int.reduceLT, Int.reduceLE, Nat.reduceEqDiff, Nat.reduceLeDiff, thenQ, ContK, ty2, ty3, ty4]
  obtain ⟨Ja, hJa⟩ : ∃ J : St → Prop, J = fun s => ∃ (a : Int) (b : Int), s.df = [] ∧ s.h = h ∧ s.tm.length = 12 ∧ s.tm.getD 0 undef = .int .i64 a ∧ s.tm.getD 1 undef = .int .i64 b ∧ s.tm.getD 4 undef = .int .i64 0 ∧ (0 ≤ a ∧ a < 9223372036854775808) ∧ (0 ≤ b ∧ b < 9223372036854775808) ∧ (gcdI a0 b0 = gcdI a b) := ⟨_, rfl⟩
  refine Loop_run (by kernel_rfl) 400 Ja (muZ 1) (by rw [hJa]; exact ⟨a0, b0, rfl, rfl, rfl, rfl, rfl, rfl, ha0, hb0, rfl⟩) ?_
  intro sa hsa
  rw [hJa] at hsa
  obtain ⟨tma, dfa, hha⟩ := sa
  obtain ⟨a, b, ea1, ea2, ea3, la0, la1, la4, ha, hb, hp⟩ := hsa
  simp only at ea1 ea2 ea3 la0 la1 la4
  subst dfa; subst hha
  have elita : tma = [.int .i64 a, .int .i64 b, tma.getD 2 undef, tma.getD 3 undef, .int .i64 0, tma.getD 5 undef, tma.getD 6 undef, tma.getD 7 undef, tma.getD 8 undef, tma.getD 9 undef, tma.getD 10 undef, tma.getD 11 undef] := by
    have e0 := lit_eq ea3
    have er : List.range 12 = [0, 1, 2, 3, 4, 5, 6, 7, 8, 9, 10, 11] := by rfl
    rw [er] at e0
    simp only [List.map_cons, List.map_nil, la0, la1, la4] at e0
    exact e0
  rw [elita]
  clear la0
  clear la1
  clear la4
  clear elita ea3
  by_cases hz : b = 0
  · subst hz
    simp -implicitDefEqProofs only [sB, Nat.reduceAdd, Nat.reduceSub, yieldL, popK, flat, nptr, Value.cells, H.new, eq_self, Int.reduceEq, Int.reduceLT, Int.reduceLE, Nat.reduceEqDiff, Nat.reduceLeDiff, thenQ, ContK, ty2, ty3, ty4, decide_true, Bool.not_true]
    rw [hp, gcdI_zero]
  · obtain ⟨h1, h2⟩ := tmod_lt' ha.1 hb.1 hz
    simp -implicitDefEqProofs only [sB, Nat.reduceAdd, Nat.reduceSub, yieldL, popK, flat, nptr, Value.cells, H.new, eq_self, Int.reduceEq, Int.reduceLT, Int.reduceLE, Nat.reduceEqDiff, Nat.reduceLeDiff, thenQ, ContK, ty2, ty3, ty4, sD, mixT, isAlloc, ridOf, blockOf, hz, bin_rem, ne_eq, not_false_eq_true, decide_false, Bool.not_false]
    refine ⟨by kernel_rfl, by rw [hJa]; exact ⟨b, a.tmod b, rfl, rfl, rfl, rfl, rfl, rfl, hb, ⟨h1, by omega⟩, by rw [hp, gcdI_step ha.1 hb.1 hz]⟩, ?_⟩
    show (a.tmod b).natAbs < b.natAbs
    omega

theorem gcdI_pos : ∀ (n : Nat) (a b : Int), b.natAbs < n → 0 ≤ a → 0 ≤ b → (a ≠ 0 ∨ b ≠ 0) → 0 < gcdI a b ∧ gcdI a b ≤ max a b
  | 0, a, b, h, _, _, _ => by omega
  | n + 1, a, b, hn, ha, hb, h => by
    by_cases hz : b = 0
    · subst hz; rw [gcdI_zero]; omega
    · obtain ⟨h1, h2⟩ := tmod_lt' ha hb hz
      rw [gcdI_step ha hb hz]
      have := gcdI_pos n b (a.tmod b) (by omega) hb h1 (.inl hz)
      omega
theorem gcdI_pos' {a b : Int} (ha : 0 ≤ a) (hb : 0 < b) : 0 < gcdI a b ∧ gcdI a b ≤ max a b := gcdI_pos _ a b (Nat.lt_succ_self _) ha (by omega) (.inr (by omega))
/-- a fraction in least terms, as two cells -/
def fracL (a b : Int) : List Value := [.int .i64 (a.tdiv (gcdI a b)), .int .i64 (b.tdiv (gcdI a b))]
theorem tdiv_rng {a g : Int} (ha : 0 ≤ a ∧ a < 9223372036854775808) (hg : 0 < g) : IntKind.i64.wrap (a.tdiv g) = a.tdiv g := by
  rw [Int.tdiv_eq_ediv_of_nonneg ha.1]
  have h1 := Int.ediv_nonneg ha.1 (Int.le_of_lt hg)
  have h2 := Int.ediv_le_self g ha.1
  exact wrap_i64 (by omega) (by omega)
theorem bl29 {a b : Int} : abuild Try.prog 29 [(0, .int .i64 a), (1, .int .i64 b)] = some (.agg #[.int .i64 a, .int .i64 b]) := by kernel_rfl
theorem bl34 {a b : Int} : abuild Try.prog 34 [(0, .int .i64 a), (1, .int .i64 b)] = some (.agg #[.int .i64 a, .int .i64 b]) := by kernel_rfl

set_option maxRecDepth 100000 in
theorem least43 (I : Nat → Option Obj) {h : H} {a b : Int} (ha : 0 ≤ a ∧ a < 9223372036854775808) (hb : 0 < b ∧ b < 9223372036854775808) :
    Snd Try.prog I (.func 43) [.int .i64 a, .int .i64 b] h (.agg (fracL a b).toArray) h := by
  obtain ⟨g1, g2⟩ := gcdI_pos' ha.1 hb.1
  have hg0 : gcdI a b ≠ 0 := by omega
  have w1 := tdiv_rng ha g1
  have w2 := tdiv_rng ⟨by omega, hb.2⟩ g1 (a := b)
  refine Snd_run0 (rs := [.cell 4 29]) 400 Try.func43 (by kernel_rfl) rfl Try.ntmps43 rfl rfl ?_
  simp -implicitDefEqProofs only [sB, Nat.reduceAdd, Nat.reduceSub, yieldL, popK, flat, nptr, Value.cells, H.new, eq_self, Int.reduceEq, Int.reduceLT, Int.reduceLE, Nat.reduceEqDiff, Nat.reduceLeDiff, thenQ, ContK, ty2, ty29]
  refine RunCall_of (common64 I ha ⟨by omega, hb.2⟩) ?_
  simp -implicitDefEqProofs only [sB, Nat.reduceAdd, Nat.reduceSub, yieldL, popK, flat, nptr, Value.cells, H.new, eq_self, Int.reduceEq, Int.reduceLT, Int.reduceLE, Nat.reduceEqDiff, Nat.reduceLeDiff, thenQ, ContK, ty2, ty29, sD, mixT, isAlloc, ridOf, blockOf, hg0, bin_quo, ne_eq, not_false_eq_true, w1, w2, bl29, st29]
  exact ⟨effOk_of (by kernel_rfl) (by simp), drawOk_ren (fun _ => 0) rfl (by kernel_rfl), ⟨_, rfl⟩, rfl⟩

set_option maxRecDepth 100000 in
theorem fraction46 (I : Nat → Option Obj) {h : H} {a0 b0 : Int} (ha0 : 0 ≤ a0 ∧ a0 < 9223372036854775808) (hb0 : 0 < b0 ∧ b0 < 9223372036854775808) :
    Snd Try.prog I (.func 46) [.int .i64 a0, .int .i64 b0] h (.agg (fracL a0 b0).toArray) h := by
  obtain ⟨g1, g2⟩ := gcdI_pos' ha0.1 hb0.1
  have hg0 : gcdI a0 b0 ≠ 0 := by omega
  have w1 := tdiv_rng ha0 g1
  have w2 := tdiv_rng ⟨by omega, hb0.2⟩ g1 (a := b0)
  refine Snd_run0 (rs := [.cell 4 29]) 400 Try.func46 (by kernel_rfl) rfl Try.ntmps46 rfl rfl ?_
  simp -implicitDefEqProofs only [sB, Nat.reduceAdd, Nat.reduceSub, yieldL, popK, flat, nptr, Value.cells, H.new, eq_self, Int.reduceEq, Int.reduceLT, Int.reduceLE, Nat.reduceEqDiff, Nat.reduceLeDiff, thenQ, ContK, ty2, ty3, ty4, ty29]
  obtain ⟨Jb, hJb⟩ : ∃ J : St → Prop, J = fun s => ∃ (a : Int) (b : Int), s.df = [] ∧ s.h = h ++ [.cells [.int .i64 0, .int .i64 0] 29] ∧ s.tm.length = 22 ∧ s.tm.getD 0 undef = .int .i64 a0 ∧ s.tm.getD 1 undef = .int .i64 b0 ∧ s.tm.getD 4 undef = .pointer (some ⟨2 * h.length, 0, none⟩) ∧ s.tm.getD 5 undef = .int .i64 a ∧ s.tm.getD 6 undef = .int .i64 b ∧ (0 ≤ a ∧ a < 9223372036854775808) ∧ (0 ≤ b ∧ b < 9223372036854775808) ∧ (gcdI a0 b0 = gcdI a b) := ⟨_, rfl⟩
  refine Loop_run (by kernel_rfl) 400 Jb (muZ 6) (by rw [hJb]; exact ⟨a0, b0, rfl, rfl, rfl, rfl, rfl, rfl, rfl, rfl, ha0, ⟨by omega, hb0.2⟩, rfl⟩) ?_
  intro sb hsb
  rw [hJb] at hsb
  obtain ⟨tmb, dfb, hhb⟩ := sb
  obtain ⟨a, b, eb1, eb2, eb3, lb0, lb1, lb4, lb5, lb6, ha, hb, hp⟩ := hsb
  simp only at eb1 eb2 eb3 lb0 lb1 lb4 lb5 lb6
  subst dfb; subst hhb
  have elitb : tmb = [.int .i64 a0, .int .i64 b0, tmb.getD 2 undef, tmb.getD 3 undef, .pointer (some ⟨2 * h.length, 0, none⟩), .int .i64 a, .int .i64 b, tmb.getD 7 undef, tmb.getD 8 undef, tmb.getD 9 undef, tmb.getD 10 undef, tmb.getD 11 undef, tmb.getD 12 undef, tmb.getD 13 undef, tmb.getD 14 undef, tmb.getD 15 undef, tmb.getD 16 undef, tmb.getD 17 undef, tmb.getD 18 undef, tmb.getD 19 undef, tmb.getD 20 undef, tmb.getD 21 undef] := by
    have e0 := lit_eq eb3
    have er : List.range 22 = [0, 1, 2, 3, 4, 5, 6, 7, 8, 9, 10, 11, 12, 13, 14, 15, 16, 17, 18, 19, 20, 21] := by rfl
    rw [er] at e0
    simp only [List.map_cons, List.map_nil, lb0, lb1, lb4, lb5, lb6] at e0
    exact e0
  rw [elitb]
  clear lb0
  clear lb1
  clear lb4
  clear lb5
  clear lb6
  clear elitb eb3
  by_cases hz : b = 0
  · subst hz
    rw [gcdI_zero] at hp
    subst hp
    simp -implicitDefEqProofs only [sB, Nat.reduceAdd, Nat.reduceSub, yieldL, popK, flat, nptr, Value.cells, H.new, eq_self, Int.reduceEq, Int.reduceLT, Int.reduceLE, Nat.reduceEqDiff, Nat.reduceLeDiff, thenQ, ContK, ty2, ty3, ty4, ty29, sD, mixT, isAlloc, ridOf, blockOf, decide_true, Bool.not_true, hg0, bin_quo, ne_eq, not_false_eq_true, w1, w2, bl29, st29]
    exact ⟨effOk_of (by kernel_rfl) (by simp), drawOk_ren (fun _ => 0) rfl (by kernel_rfl), ⟨_, rfl⟩, rfl⟩
  · obtain ⟨h1, h2⟩ := tmod_lt' ha.1 hb.1 hz
    simp -implicitDefEqProofs only [sB, Nat.reduceAdd, Nat.reduceSub, yieldL, popK, flat, nptr, Value.cells, H.new, eq_self, Int.reduceEq, Int.reduceLT, Int.reduceLE, Nat.reduceEqDiff, Nat.reduceLeDiff, thenQ, ContK, ty2, ty3, ty4, ty29, sD, mixT, isAlloc, ridOf, blockOf, hz, bin_rem, ne_eq, not_false_eq_true, decide_false, Bool.not_false]
    refine ⟨by kernel_rfl, by rw [hJb]; exact ⟨b, a.tmod b, rfl, rfl, rfl, rfl, rfl, rfl, rfl, rfl, hb, ⟨h1, by omega⟩, by rw [hp, gcdI_step ha.1 hb.1 hz]⟩, ?_⟩
    show (a.tmod b).natAbs < b.natAbs
    omega

theorem rdArr {N k : Nat} {w : Nat → Int} {e : TypeId} (hk : k < N) : rdB (some (.cells (arrL N w) e)) k 1 = some [.int .i64 (w k)] := by
  rw [rdB_cells (by rw [arrL_length]; omega), arrL_part N w hk]
def sumTo (w x : Nat → Int) : Nat → Int
  | 0 => 0
  | k + 1 => sumTo w x k + w k * x k
theorem sumTo_le {w x : Nat → Int} {B : Int} {n : Nat} (hb : ∀ k, k < n → -B ≤ w k * x k ∧ w k * x k ≤ B) : ∀ k, k ≤ n → -(k * B) ≤ sumTo w x k ∧ sumTo w x k ≤ k * B
  | 0, _ => by simp [sumTo]
  | k + 1, hk => by
    have h1 := sumTo_le hb k (by omega)
    have h2 := hb k (by omega)
    have e : ((k + 1 : Nat) : Int) * B = k * B + B := by rw [Int.natCast_succ, Int.add_mul, Int.one_mul]
    simp only [sumTo]
    omega

set_option maxRecDepth 100000 in
theorem sum44 (I : Nat → Option Obj) {h : H} {v : Value} {n : Nat} {w x : Nat → Int} (hv : Sees I h v n x) (hn : n ≤ 16) (hb : ∀ k, k < n → -288230376151711744 ≤ w k * x k ∧ w k * x k ≤ 288230376151711744) :
    Snd Try.prog I (.func 44) [.agg (arrL 16 w).toArray, v] h (.int .i64 (sumTo w x n)) h := by
  have hv1 := hv.app [.cells (arrL 16 w) 81]
  obtain ⟨q, c, rfl, _, hq⟩ := hv1
  have hs := sumTo_le hb
  refine Snd_run0 (rs := [.tmp 4]) 400 Try.func44 (by kernel_rfl) rfl Try.ntmps44 rfl rfl ?_
  simp -implicitDefEqProofs only [sB, Nat.reduceAdd, Nat.reduceSub, yieldL, popK, flat, nptr, Value.cells, H.new, eq_self, Int.reduceEq, Int.reduceLT, Int.reduceLE, Nat.reduceEqDiff, Nat.reduceLeDiff, thenQ, ContK, ty2, ty3, ty4, ty5, ty25, ty81]
  obtain ⟨Jc, hJc⟩ : ∃ J : St → Prop, J = fun s => ∃ (k : Nat), s.df = [] ∧ s.h = h ++ [.cells (arrL 16 w) 81] ∧ s.tm.length = 24 ∧ s.tm.getD 1 undef = .slice q n c ∧ s.tm.getD 2 undef = .pointer (some ⟨2 * h.length, 0, none⟩) ∧ s.tm.getD 4 undef = .int .i64 0 ∧ s.tm.getD 5 undef = .int .i64 (sumTo w x k) ∧ s.tm.getD 8 undef = .slice q n c ∧ s.tm.getD 9 undef = .int .i64 n ∧ s.tm.getD 10 undef = .int .i64 k ∧ (k ≤ n) := ⟨_, rfl⟩
  refine Loop_run (by kernel_rfl) 400 Jc (muI 10 n) (by rw [hJc]; exact ⟨0, rfl, rfl, rfl, rfl, rfl, rfl, rfl, rfl, rfl, rfl, Nat.zero_le _⟩) ?_
  intro sc hsc
  rw [hJc] at hsc
  obtain ⟨tmc, dfc, hhc⟩ := sc
  obtain ⟨k, ec1, ec2, ec3, lc1, lc2, lc4, lc5, lc8, lc9, lc10, hk⟩ := hsc
  simp only at ec1 ec2 ec3 lc1 lc2 lc4 lc5 lc8 lc9 lc10
  subst dfc; subst hhc
  have elitc : tmc = [tmc.getD 0 undef, .slice q n c, .pointer (some ⟨2 * h.length, 0, none⟩), tmc.getD 3 undef, .int .i64 0, .int .i64 (sumTo w x k), tmc.getD 6 undef, tmc.getD 7 undef, .slice q n c, .int .i64 n, .int .i64 k, tmc.getD 11 undef, tmc.getD 12 undef, tmc.getD 13 undef, tmc.getD 14 undef, tmc.getD 15 undef, tmc.getD 16 undef, tmc.getD 17 undef, tmc.getD 18 undef, tmc.getD 19 undef, tmc.getD 20 undef, tmc.getD 21 undef, tmc.getD 22 undef, tmc.getD 23 undef] := by
    have e0 := lit_eq ec3
    have er : List.range 24 = [0, 1, 2, 3, 4, 5, 6, 7, 8, 9, 10, 11, 12, 13, 14, 15, 16, 17, 18, 19, 20, 21, 22, 23] := by rfl
    rw [er] at e0
    simp only [List.map_cons, List.map_nil, lc1, lc2, lc4, lc5, lc8, lc9, lc10] at e0
    exact e0
  rw [elitc]
  clear lc1
  clear lc2
  clear lc4
  clear lc5
  clear lc8
  clear lc9
  clear lc10
  clear elitc ec3
  by_cases hkn : k < n
  · obtain ⟨id, off, rfl, hr⟩ := hq (by omega)
    have h1 : (k : Int) < (n : Int) := by omega
    have h2 : (0 : Int) ≤ (k : Int) ∧ (k : Int) < (n : Int) := ⟨by omega, h1⟩
    have h2b : (0 : Int) ≤ (k : Int) ∧ (k : Int) < ((16 : Nat) : Int) := ⟨by omega, by omega⟩
    have h3 := hr k hkn
    have h4 := wrap_add1 (i := k) (by omega)
    have h5 := rdArr (w := w) (e := 81) (show k < 16 by omega)
    have h6 := hb k hkn
    have h7 := hs k (by omega)
    have h8 := hs (k + 1) (by omega)
    have w1 : IntKind.i64.wrap (w k * x k) = w k * x k := wrap_i64 (by omega) (by omega)
    have w2 : IntKind.i64.wrap (sumTo w x k + w k * x k) = sumTo w x (k + 1) := by
      show IntKind.i64.wrap (sumTo w x (k + 1)) = sumTo w x (k + 1)
      exact wrap_i64 (by omega) (by omega)
    simp -implicitDefEqProofs only [sB, Nat.reduceAdd, Nat.reduceSub, yieldL, popK, flat, nptr, Value.cells, H.new, eq_self, Int.reduceEq, Int.reduceLT, Int.reduceLE, Nat.reduceEqDiff, Nat.reduceLeDiff, thenQ, ContK, ty2, ty3, ty4, ty5, ty25, ty81, h1, h2, h2b, h3, h4, h5, w1, w2]
    refine ⟨by rw [hJc]; exact ⟨k + 1, rfl, rfl, rfl, rfl, rfl, rfl, rfl, rfl, rfl, rfl, by omega⟩, ?_⟩
    show n - ((k + 1 : Nat) : Int).toNat < n - (k : Int).toNat
    omega
  · have h1 : ¬ (k : Int) < (n : Int) := by omega
    have hkn' : k = n := by omega
    subst hkn'
    simp -implicitDefEqProofs only [sB, Nat.reduceAdd, Nat.reduceSub, yieldL, popK, flat, nptr, Value.cells, H.new, eq_self, Int.reduceEq, Int.reduceLT, Int.reduceLE, Nat.reduceEqDiff, Nat.reduceLeDiff, thenQ, ContK, ty2, ty3, ty4, ty5, ty25, ty81, h1]
    first | exact ⟨⟨_, rfl⟩, rfl⟩ | exact ⟨_, rfl⟩
end Go.Proofs.Ytcocmbccfikmhaa
set_option linter.unusedSimpArgs false
set_option linter.unusedVariables false
namespace Go.Proofs.Ytcocmbccfikmhaa
open Go.Sym
/-- the cells of a tank with its ranges -/
def gaugeL (v : Value) (pr : Int) (lo hi : Nat → Int) : List Value := v :: .int .i64 pr :: (arrL 16 lo ++ arrL 16 hi)
theorem gaugeL_length {v : Value} {pr : Int} {lo hi : Nat → Int} : (gaugeL v pr lo hi).length = 34 := by simp [gaugeL, arrL_length]
section
variable {v : Value} {pr : Int} {lo hi : Nat → Int} {e : TypeId} {i : Nat}
theorem rdG_rows : rdB (some (.cells (gaugeL v pr lo hi) e)) 0 1 = some [v] := by rw [rdB_cells (by rw [gaugeL_length]; omega)]; rfl
theorem rdG_pr : rdB (some (.cells (gaugeL v pr lo hi) e)) 1 1 = some [.int .i64 pr] := by rw [rdB_cells (by rw [gaugeL_length]; omega)]; rfl
theorem rdG_tank : rdB (some (.cells (gaugeL v pr lo hi) e)) 0 2 = some [v, .int .i64 pr] := by rw [rdB_cells (by rw [gaugeL_length]; omega)]; rfl
theorem rdG_lo (h : i < 16) : rdB (some (.cells (gaugeL v pr lo hi) e)) (2 + i) 1 = some [.int .i64 (lo i)] := by
  rw [rdB_cells (by rw [gaugeL_length]; omega), ← List.drop_drop]
  show some (((arrL 16 lo ++ arrL 16 hi).drop i).take 1) = _
  rw [List.drop_append_of_le_length (by rw [arrL_length]; omega), List.take_append_of_le_length (by rw [List.length_drop, arrL_length]; omega), arrL_part 16 lo h]
theorem rdG_hi (h : i < 16) : rdB (some (.cells (gaugeL v pr lo hi) e)) (18 + i) 1 = some [.int .i64 (hi i)] := by
  rw [rdB_cells (by rw [gaugeL_length]; omega), ← List.drop_drop]
  have : (gaugeL v pr lo hi).drop 18 = arrL 16 hi := by
    show (arrL 16 lo ++ arrL 16 hi).drop 16 = _
    rw [List.drop_left' (arrL_length 16 lo)]
  rw [this, arrL_part 16 hi h]
theorem rdG_los : rdB (some (.cells (gaugeL v pr lo hi) e)) 2 16 = some (arrL 16 lo) := by
  rw [rdB_cells (by rw [gaugeL_length]; omega)]
  show some ((arrL 16 lo ++ arrL 16 hi).take 16) = _
  rw [List.take_left' (arrL_length 16 lo)]
theorem rdG_his : rdB (some (.cells (gaugeL v pr lo hi) e)) 18 16 = some (arrL 16 hi) := by
  rw [rdB_cells (by rw [gaugeL_length]; omega)]
  have : (gaugeL v pr lo hi).drop 18 = arrL 16 hi := by
    show (arrL 16 lo ++ arrL 16 hi).drop 16 = _
    rw [List.drop_left' (arrL_length 16 lo)]
  rw [this, List.take_of_length_le (by rw [arrL_length]; omega)]
theorem wrG_lo {x : Int} (h : i < 16) : wrB (some (.cells (gaugeL v pr lo hi) e)) (2 + i) [.int .i64 x] = some (.cells (gaugeL v pr (upd lo i x) hi) e) := by
  rw [wrB_cells (by rw [gaugeL_length]; simp; omega) rfl, splice_cons, splice_nil]
  have e2 : 2 + i = i + 2 := by omega
  unfold gaugeL
  rw [e2, List.set_cons_succ, List.set_cons_succ, List.set_append_left _ _ (by rw [arrL_length]; omega), arrL_set]
theorem wrG_hi {x : Int} (h : i < 16) : wrB (some (.cells (gaugeL v pr lo hi) e)) (18 + i) [.int .i64 x] = some (.cells (gaugeL v pr lo (upd hi i x)) e) := by
  rw [wrB_cells (by rw [gaugeL_length]; simp; omega) rfl, splice_cons, splice_nil]
  have e2 : 18 + i = (i + 16) + 2 := by omega
  unfold gaugeL
  rw [e2, List.set_cons_succ, List.set_cons_succ, List.set_append_right _ _ (by rw [arrL_length]; omega), arrL_length]
  have : i + 16 - 16 = i := by omega
  rw [this, arrL_set]
theorem wrArr {N : Nat} {w : Nat → Int} {x : Int} (h : i < N) : wrB (some (.cells (arrL N w) e)) i [.int .i64 x] = some (.cells (arrL N (upd w i x)) e) := by
  rw [wrB_cells (by rw [arrL_length]; simp; omega) rfl, splice_cons, splice_nil, arrL_set]
end
theorem closed_gauge {ok : Nat → Bool} {v : Value} {pr : Int} {lo hi : Nat → Int} {e : TypeId} (hv : closedV ok v = true) : closedB ok (.cells (gaugeL v pr lo hi) e) = true := by
  unfold closedB gaugeL
  simp only [closedL, hv, closedV, Bool.true_and]
  exact closedL_flat ok _ (by
    have h1 := arrL_flat 16 lo
    have h2 := arrL_flat 16 hi
    have app : ∀ a b : List Value, flatL a = true → flatL b = true → flatL (a ++ b) = true := by
      intro a b ha hb
      induction a with
      | nil => exact hb
      | cons x l ih => simp only [flatL, Bool.and_eq_true] at ha; simp only [List.cons_append, flatL, ha.1, ih ha.2, Bool.and_self]
    exact app _ _ h1 h2)
def cut (n : Nat) (f : Nat → Int) : Nat → Int := fun i => if i < n then f i else 0
theorem cut_zero (f : Nat → Int) : cut 0 f = fun _ => 0 := by funext i; simp [cut]
theorem cut_upd (k : Nat) (f : Nat → Int) : upd (cut k f) k (f k) = cut (k + 1) f := by
  funext i
  unfold upd cut
  by_cases h : i = k
  · subst h; simp
  · by_cases h2 : i < k
    · simp [h, h2, Nat.lt_succ_of_lt h2]
    · have : ¬ i < k + 1 := by omega
      simp [h, h2, this]
theorem bl90 {v : Value} {pr : Int} : abuild Try.prog 90 [(0, .agg #[v, .int .i64 pr])] = some (.agg (gaugeL v pr (fun _ => 0) (fun _ => 0)).toArray) := by kernel_rfl
theorem bl90' (L U : Nat → Int) {v : Value} {pr : Int} : abuild Try.prog 90 [(0, .agg #[v, .int .i64 pr])] = some (.agg (gaugeL v pr (cut 0 L) (cut 0 U)).toArray) := by rw [cut_zero, cut_zero]; exact bl90

set_option maxRecDepth 100000 in
theorem newGauge41 (I : Nat → Option Obj) {h : H} {v : Value} {n : Nat} {D L U : Nat → Int} {pr : Int} (hv : Rows I v n D L U) (hcv : ∀ N, closedV (okN N) v = true) (hn : n ≤ 16) :
    Snd Try.prog I (.func 41) [.agg #[v, .int .i64 pr]] h (.pointer (some ⟨2 * (h.length + 1), 0, none⟩)) (h ++ [.cells [v, .int .i64 pr] 24, .cells (gaugeL v pr (cut n L) (cut n U)) 90]) := by
  obtain ⟨q, c, rfl, _, hq⟩ := hv
  refine Snd_runS (rs := [.tmp 2]) 400 Try.func41 (by kernel_rfl) rfl Try.ntmps41 rfl (by simp) ?_ ?_ ?_
  · intro id B hg
    by_cases hid : id < h.new
    · right
      have : (h ++ [Blk.cells [.slice q n c, .int .i64 pr] 24, .cells (gaugeL (.slice q n c) pr (cut n L) (cut n U)) 90] : H).get id = h.get id := by
        unfold H.get; unfold H.new at hid
        split
        · rw [List.getElem?_append_left (by omega)]
        · rfl
      rw [← this]; exact hg
    · left
      have h1 := H.get_lt hg
      have h2 : (h ++ [Blk.cells [.slice q n c, .int .i64 pr] 24, .cells (gaugeL (.slice q n c) pr (cut n L) (cut n U)) 90] : H).new = 2 * (h.length + 2) := by simp [H.new]
      unfold H.new at hid
      have h3 : id = 2 * (h.length + 0) ∨ id = 2 * (h.length + 1) := by omega
      rcases h3 with rfl | rfl
      · rw [get_k] at hg
        cases hg
        simp only [closedB, closedL, hcv, closedV, Bool.and_self]
      · rw [get_k] at hg
        cases hg
        exact closed_gauge (hcv _)
  · simp [closedV, okN]
  simp -implicitDefEqProofs only [sB, Nat.reduceAdd, Nat.reduceSub, yieldL, popK, flat, nptr, Value.cells, H.new, eq_self, Int.reduceEq, Int.reduceLT, Int.reduceLE, Nat.reduceEqDiff, Nat.reduceLeDiff, thenQ, ContK, ty2, ty3, ty4, ty5, ty22, ty24, ty34, ty64, ty78, ty81, ty90, bl90' L U]
  obtain ⟨Ja, hJa⟩ : ∃ J : St → Prop, J = fun s => ∃ (k : Nat) (Lx : H), s.df = [] ∧ s.h = h ++ (.cells [.slice q n c, .int .i64 pr] 24 :: .cells (gaugeL (.slice q n c) pr (cut k L) (cut k U)) 90 :: Lx) ∧ s.tm.length = 35 ∧ s.tm.getD 1 undef = .pointer (some ⟨2 * h.length, 0, none⟩) ∧ s.tm.getD 2 undef = .pointer none ∧ s.tm.getD 3 undef = .pointer (some ⟨2 * (h.length + 1), 0, none⟩) ∧ s.tm.getD 10 undef = .slice q n c ∧ s.tm.getD 11 undef = .int .i64 n ∧ s.tm.getD 12 undef = .int .i64 k ∧ (k ≤ n) := ⟨_, rfl⟩
  refine Loop_run (by kernel_rfl) 400 Ja (muI 12 n) (by rw [hJa]; exact ⟨0, [], rfl, rfl, rfl, rfl, rfl, rfl, rfl, rfl, rfl, Nat.zero_le _⟩) ?_
  intro sa hsa
  rw [hJa] at hsa
  obtain ⟨tma, dfa, hha⟩ := sa
  obtain ⟨k, Lx, ea1, ea2, ea3, la1, la2, la3, la10, la11, la12, hk⟩ := hsa
  simp only at ea1 ea2 ea3 la1 la2 la3 la10 la11 la12
  subst dfa; subst hha
  have elita : tma = [tma.getD 0 undef, .pointer (some ⟨2 * h.length, 0, none⟩), .pointer none, .pointer (some ⟨2 * (h.length + 1), 0, none⟩), tma.getD 4 undef, tma.getD 5 undef, tma.getD 6 undef, tma.getD 7 undef, tma.getD 8 undef, tma.getD 9 undef, .slice q n c, .int .i64 n, .int .i64 k, tma.getD 13 undef, tma.getD 14 undef, tma.getD 15 undef, tma.getD 16 undef, tma.getD 17 undef, tma.getD 18 undef, tma.getD 19 undef, tma.getD 20 undef, tma.getD 21 undef, tma.getD 22 undef, tma.getD 23 undef, tma.getD 24 undef, tma.getD 25 undef, tma.getD 26 undef, tma.getD 27 undef, tma.getD 28 undef, tma.getD 29 undef, tma.getD 30 undef, tma.getD 31 undef, tma.getD 32 undef, tma.getD 33 undef, tma.getD 34 undef] := by
    have e0 := lit_eq ea3
    have er : List.range 35 = [0, 1, 2, 3, 4, 5, 6, 7, 8, 9, 10, 11, 12, 13, 14, 15, 16, 17, 18, 19, 20, 21, 22, 23, 24, 25, 26, 27, 28, 29, 30, 31, 32, 33, 34] := by rfl
    rw [er] at e0
    simp only [List.map_cons, List.map_nil, la1, la2, la3, la10, la11, la12] at e0
    exact e0
  rw [elita]
  clear la1
  clear la2
  clear la3
  clear la10
  clear la11
  clear la12
  clear elita ea3
  by_cases hkn : k < n
  · obtain ⟨id, off, rfl, hr⟩ := hq (by omega)
    have h1 : (k : Int) < (n : Int) := by omega
    have h2 : (0 : Int) ≤ (k : Int) ∧ (k : Int) < (n : Int) := ⟨by omega, h1⟩
    have h2b : (0 : Int) ≤ (k : Int) ∧ (k : Int) < ((16 : Nat) : Int) := ⟨by omega, by omega⟩
    have h3 := fun h => hr h k hkn
    have h4 := wrap_add1 (i := k) (by omega)
    simp -implicitDefEqProofs only [sB, Nat.reduceAdd, Nat.reduceSub, yieldL, popK, flat, nptr, Value.cells, H.new, eq_self, Int.reduceEq, Int.reduceLT, Int.reduceLE, Nat.reduceEqDiff, Nat.reduceLeDiff, thenQ, ContK, ty2, ty3, ty4, ty5, ty22, ty24, ty34, ty64, ty78, ty81, ty90, sD, mixT, isAlloc, ridOf, blockOf, h1, h2, h2b, h3, h4, st64, wrG_lo (show k < 16 by omega), wrG_hi (show k < 16 by omega)]
    obtain ⟨fr, fr1, fr2⟩ := ren2 (a := 2 * (h.length + 1)) (b := 2 * (h.length + (Lx.length + 1 + 1))) (by omega)
    refine ⟨effOk_of (by kernel_rfl) (by simp), effOk_of (by kernel_rfl) (by simp), drawOk_ren fr (by simp only [List.reverse_cons, List.reverse_nil, List.nil_append, List.cons_append, List.map_cons, List.map_nil, Ct.ren, Option.map_some, Option.map_none, fr1, fr2]; rfl) (by kernel_rfl), by rw [cut_upd, cut_upd]; rw [hJa]; exact ⟨k + 1, Lx ++ [.cells [.int .i64 (D k), .int .i64 (L k), .int .i64 (U k)] 64], rfl, rfl, rfl, rfl, rfl, rfl, rfl, rfl, rfl, by omega⟩, ?_⟩
    show n - ((k + 1 : Nat) : Int).toNat < n - (k : Int).toNat
    omega
  · have h1 : ¬ (k : Int) < (n : Int) := by omega
    have hkn' : k = n := by omega
    subst hkn'
    simp -implicitDefEqProofs only [sB, Nat.reduceAdd, Nat.reduceSub, yieldL, popK, flat, nptr, Value.cells, H.new, eq_self, Int.reduceEq, Int.reduceLT, Int.reduceLE, Nat.reduceEqDiff, Nat.reduceLeDiff, thenQ, ContK, ty2, ty3, ty4, ty5, ty22, ty24, ty34, ty64, ty78, ty81, ty90, h1]
    first | exact ⟨⟨_, rfl⟩, rfl⟩ | exact ⟨_, rfl⟩
end Go.Proofs.Ytcocmbccfikmhaa
set_option linter.unusedSimpArgs false
set_option linter.unusedVariables false
namespace Go.Proofs.Ytcocmbccfikmhaa
open Go.Sym
def wIxF (n : Nat) (D : Nat → Int) (dip : Int) : Nat → Nat → Nat
  | 0, i => i
  | f + 1, i => if i + 1 < n ∧ D i < dip then wIxF n D dip f (i + 1) else i
/-- the row behind a dip -/
def wIx (n : Nat) (D : Nat → Int) (dip : Int) : Nat := wIxF n D dip n 1
theorem wIxF_stop {n : Nat} {D : Nat → Int} {dip : Int} {i : Nat} (h : ¬ (i + 1 < n ∧ D i < dip)) : ∀ f, wIxF n D dip f i = i
  | 0 => rfl
  | f + 1 => by simp only [wIxF]; rw [if_neg h]
theorem wIxF_go {n : Nat} {D : Nat → Int} {dip : Int} {f i : Nat} (h : i + 1 < n ∧ D i < dip) (hf : 0 < f) : wIxF n D dip f i = wIxF n D dip (f - 1) (i + 1) := by
  obtain ⟨m, rfl⟩ : ∃ m, f = m + 1 := ⟨f - 1, by omega⟩
  simp only [wIxF]; rw [if_pos h]; rfl
theorem wIxF_rng {n : Nat} {D : Nat → Int} {dip : Int} : ∀ f i, i + 1 ≤ n → i ≤ wIxF n D dip f i ∧ wIxF n D dip f i + 1 ≤ n
  | 0, i, h => by simp only [wIxF]; omega
  | f + 1, i, h => by
    simp only [wIxF]
    split
    · rename_i hc
      have := wIxF_rng (n := n) (D := D) (dip := dip) f (i + 1) (by omega)
      exact ⟨by omega, this.2⟩
    · omega
theorem wIx_rng {n : Nat} {D : Nat → Int} {dip : Int} (hn : 2 ≤ n) : 1 ≤ wIx n D dip ∧ wIx n D dip + 1 ≤ n := wIxF_rng n 1 (by omega)
def weighW (n : Nat) (D : Nat → Int) (dip : Int) : Nat → Int :=
  upd (upd (fun _ => 0) (wIx n D dip - 1) (D (wIx n D dip) - dip)) (wIx n D dip) (dip - D (wIx n D dip - 1))
def weighD (n : Nat) (D : Nat → Int) (dip : Int) : Int := D (wIx n D dip) - D (wIx n D dip - 1)
def weighV (n : Nat) (D : Nat → Int) (dip : Int) : Value := .tuple #[.agg (arrL 16 (weighW n D dip)).toArray, .int .i64 (weighD n D dip)]
theorem weighV_flat {n : Nat} {D : Nat → Int} {dip : Int} : flat (weighV n D dip) = true := by
  unfold weighV
  simp only [flat, flatA, flatL, arrL_flat, Bool.and_self]

set_option maxRecDepth 100000 in
theorem weigh42 (I : Nat → Option Obj) {h : H} {v : Value} {n pg : Nat} {D L U : Nat → Int} {pr dip : Int} {lo hi : Nat → Int} (hv : Rows I v n D L U) (hn : 2 ≤ n ∧ n ≤ 16) (hD : ∀ i, i < n → 0 ≤ D i ∧ D i ≤ 4000) (hdip : 0 ≤ dip ∧ dip ≤ 4000)
    (hg : h.get pg = some (.cells (gaugeL v pr lo hi) 90)) :
    Snd Try.prog I (.func 42) [.pointer (some ⟨pg, 0, none⟩), .int .i64 dip] h (weighV n D dip) h := by
  obtain ⟨q, c, rfl, _, hq⟩ := hv
  obtain ⟨id, off, rfl, hr⟩ := hq (by omega)
  refine Snd_run0 (rs := [.cell 4 81, .tmp 5]) 600 Try.func42 (by kernel_rfl) rfl Try.ntmps42 rfl weighV_flat ?_
  simp -implicitDefEqProofs only [sB, Nat.reduceAdd, Nat.reduceSub, yieldL, popK, flat, nptr, Value.cells, H.new, eq_self, Int.reduceEq, Int.reduceLT, Int.reduceLE, Nat.reduceEqDiff, Nat.reduceLeDiff, thenQ, ContK, ty2, ty3, ty4, ty5, ty22, ty24, ty64, ty78, ty81, ty90]
  obtain ⟨Ja, hJa⟩ : ∃ J : St → Prop, J = fun s => ∃ (k : Nat), s.df = [] ∧ s.h = h ++ [.cells (arrL 16 fun _ => 0) 81] ∧ s.tm.length = 68 ∧ s.tm.getD 0 undef = .pointer (some ⟨pg, 0, none⟩) ∧ s.tm.getD 1 undef = .int .i64 dip ∧ s.tm.getD 4 undef = .pointer (some ⟨2 * h.length, 0, none⟩) ∧ s.tm.getD 5 undef = .int .i64 0 ∧ s.tm.getD 6 undef = .int .i64 k ∧ (1 ≤ k ∧ k + 1 ≤ n) ∧ (wIx n D dip = wIxF n D dip (n + 1 - k) k) := ⟨_, rfl⟩
  refine Loop_run (by kernel_rfl) 400 Ja (muI 6 n) (by rw [hJa]; exact ⟨1, rfl, rfl, rfl, rfl, rfl, rfl, rfl, rfl, ⟨by omega, by omega⟩, rfl⟩) ?_
  intro sa hsa
  rw [hJa] at hsa
  obtain ⟨tma, dfa, hha⟩ := sa
  obtain ⟨k, ea1, ea2, ea3, la0, la1, la4, la5, la6, hk, hp⟩ := hsa
  simp only at ea1 ea2 ea3 la0 la1 la4 la5 la6
  subst dfa; subst hha
  have elita : tma = [.pointer (some ⟨pg, 0, none⟩), .int .i64 dip, tma.getD 2 undef, tma.getD 3 undef, .pointer (some ⟨2 * h.length, 0, none⟩), .int .i64 0, .int .i64 k, tma.getD 7 undef, tma.getD 8 undef, tma.getD 9 undef, tma.getD 10 undef, tma.getD 11 undef, tma.getD 12 undef, tma.getD 13 undef, tma.getD 14 undef, tma.getD 15 undef, tma.getD 16 undef, tma.getD 17 undef, tma.getD 18 undef, tma.getD 19 undef, tma.getD 20 undef, tma.getD 21 undef, tma.getD 22 undef, tma.getD 23 undef, tma.getD 24 undef, tma.getD 25 undef, tma.getD 26 undef, tma.getD 27 undef, tma.getD 28 undef, tma.getD 29 undef, tma.getD 30 undef, tma.getD 31 undef, tma.getD 32 undef, tma.getD 33 undef, tma.getD 34 undef, tma.getD 35 undef, tma.getD 36 undef, tma.getD 37 undef, tma.getD 38 undef, tma.getD 39 undef, tma.getD 40 undef, tma.getD 41 undef, tma.getD 42 undef, tma.getD 43 undef, tma.getD 44 undef, tma.getD 45 undef, tma.getD 46 undef, tma.getD 47 undef, tma.getD 48 undef, tma.getD 49 undef, tma.getD 50 undef, tma.getD 51 undef, tma.getD 52 undef, tma.getD 53 undef, tma.getD 54 undef, tma.getD 55 undef, tma.getD 56 undef, tma.getD 57 undef, tma.getD 58 undef, tma.getD 59 undef, tma.getD 60 undef, tma.getD 61 undef, tma.getD 62 undef, tma.getD 63 undef, tma.getD 64 undef, tma.getD 65 undef, tma.getD 66 undef, tma.getD 67 undef] := by
    have e0 := lit_eq ea3
    have er : List.range 68 = [0, 1, 2, 3, 4, 5, 6, 7, 8, 9, 10, 11, 12, 13, 14, 15, 16, 17, 18, 19, 20, 21, 22, 23, 24, 25, 26, 27, 28, 29, 30, 31, 32, 33, 34, 35, 36, 37, 38, 39, 40, 41, 42, 43, 44, 45, 46, 47, 48, 49, 50, 51, 52, 53, 54, 55, 56, 57, 58, 59, 60, 61, 62, 63, 64, 65, 66, 67] := by rfl
    rw [er] at e0
    simp only [List.map_cons, List.map_nil, la0, la1, la4, la5, la6] at e0
    exact e0
  rw [elita]
  clear la0
  clear la1
  clear la4
  clear la5
  clear la6
  clear elita ea3
  have h3 := fun h => hr h k (by omega)
  have hw : IntKind.i64.wrap ((n : Int) - 1) = (n : Int) - 1 := wrap_i64 (by omega) (by omega)
  have h2 : (0 : Int) ≤ (k : Int) ∧ (k : Int) < (n : Int) := ⟨by omega, by omega⟩
  have h4 := wrap_add1 (i := k) (by omega)
  have hk' : IntKind.i64.wrap ((k : Int) - 1) = ((k - 1 : Nat) : Int) := by rw [wrap_i64 (by omega) (by omega)]; omega
  have h2' : (0 : Int) ≤ ((k - 1 : Nat) : Int) ∧ ((k - 1 : Nat) : Int) < (n : Int) := ⟨by omega, by omega⟩
  have h2a : (0 : Int) ≤ ((k - 1 : Nat) : Int) ∧ ((k - 1 : Nat) : Int) < ((16 : Nat) : Int) := ⟨by omega, by omega⟩
  have h2b : (0 : Int) ≤ (k : Int) ∧ (k : Int) < ((16 : Nat) : Int) := ⟨by omega, by omega⟩
  have h3' := fun h => hr h (k - 1) (by omega)
  have d1 := hD k (by omega)
  have d2 := hD (k - 1) (by omega)
  have w1 : IntKind.i64.wrap (D k - dip) = D k - dip := wrap_i64 (by omega) (by omega)
  have w2 : IntKind.i64.wrap (dip - D (k - 1)) = dip - D (k - 1) := wrap_i64 (by omega) (by omega)
  have w3 : IntKind.i64.wrap (D k - D (k - 1)) = D k - D (k - 1) := wrap_i64 (by omega) (by omega)
  by_cases hk1 : (k : Int) < (n : Int) - 1
  · by_cases hk2 : D k < dip
    · simp -implicitDefEqProofs only [sB, Nat.reduceAdd, Nat.reduceSub, yieldL, popK, flat, nptr, Value.cells, H.new, eq_self, Int.reduceEq, Int.reduceLT, Int.reduceLE, Nat.reduceEqDiff, Nat.reduceLeDiff, thenQ, ContK, ty2, ty3, ty4, ty5, ty22, ty24, ty64, ty78, ty81, ty90, rd_at_app hg, rdG_rows, hw, hk1, hk2, h2, row_D (h3 _), h4]
      refine ⟨by rw [hJa]; exact ⟨k + 1, rfl, rfl, rfl, rfl, rfl, rfl, rfl, rfl, ⟨by omega, by omega⟩, by rw [hp, wIxF_go ⟨by omega, hk2⟩ (by omega)]; congr 1⟩, ?_⟩
      show n - ((k + 1 : Nat) : Int).toNat < n - (k : Int).toNat
      omega
    · have hs : wIx n D dip = k := by rw [hp]; exact wIxF_stop (by omega) _
      simp -implicitDefEqProofs only [sB, Nat.reduceAdd, Nat.reduceSub, yieldL, popK, flat, nptr, Value.cells, H.new, eq_self, Int.reduceEq, Int.reduceLT, Int.reduceLE, Nat.reduceEqDiff, Nat.reduceLeDiff, thenQ, ContK, ty2, ty3, ty4, ty5, ty22, ty24, ty64, ty78, ty81, ty90, sD, mixT, isAlloc, ridOf, blockOf, rd_at_app hg, rdG_rows, hw, hk1, hk2, h2, row_D (h3 _), h4, hk', h2', h2a, h2b, row_D (h3' _), w1, w2, w3, wrArr (show k < 16 by omega), wrArr (show k - 1 < 16 by omega), st81, hs, weighV, weighW, weighD]
      exact ⟨drawOk_ren (fun _ => 0) rfl (by kernel_rfl), _, rfl⟩
  · have hs : wIx n D dip = k := by rw [hp]; exact wIxF_stop (by omega) _
    simp -implicitDefEqProofs only [sB, Nat.reduceAdd, Nat.reduceSub, yieldL, popK, flat, nptr, Value.cells, H.new, eq_self, Int.reduceEq, Int.reduceLT, Int.reduceLE, Nat.reduceEqDiff, Nat.reduceLeDiff, thenQ, ContK, ty2, ty3, ty4, ty5, ty22, ty24, ty64, ty78, ty81, ty90, sD, mixT, isAlloc, ridOf, blockOf, rd_at_app hg, rdG_rows, hw, hk1, h2, row_D (h3 _), h4, hk', h2', h2a, h2b, row_D (h3' _), w1, w2, w3, wrArr (show k < 16 by omega), wrArr (show k - 1 < 16 by omega), st81, hs, weighV, weighW, weighD]
    exact ⟨drawOk_ren (fun _ => 0) rfl (by kernel_rfl), _, rfl⟩
end Go.Proofs.Ytcocmbccfikmhaa
set_option linter.unusedSimpArgs false
set_option linter.unusedVariables false
namespace Go.Proofs.Ytcocmbccfikmhaa
open Go.Sym
theorem sl25_1 {k : IntKind} {a : Int} : sliceLit Try.prog 25 1 [(0, .int k a)] = some ([.int k a], 2) := by kernel_rfl
def prevX (x : Nat → Int) (i : Nat) : Int := match i with | 0 => 0 | j + 1 => x j
def numOk (L U x : Nat → Int) (i : Nat) : Bool := withinB (max (prevX x i) (L i)) (U i) 1 (one1 (x i))
/-- the error of a chart -/
def chartE (n : Nat) (D L U : Nat → Int) (pr : Int) (m : Nat) (x : Nat → Int) : Int :=
  if tankE n D L U pr ≠ 0 then tankE n D L U pr else if m ≠ n then 15 else if anyN (fun i => !numOk L U x i) n then 21 else 0
theorem tankE_n {n : Nat} {D L U : Nat → Int} {pr : Int} (h : tankE n D L U pr = 0) : 2 ≤ n ∧ n ≤ 16 := by
  refine Classical.byContradiction fun hc => ?_
  rw [tankE_many (by omega)] at h; cases h

set_option maxRecDepth 100000 in
theorem checkChart21 (I : Nat → Option Obj) {h : H} {v cv : Value} {n m : Nat} {D L U x : Nat → Int} {pr : Int} (hv : Rows I v n D L U) (hx : Sees I h cv m x) :
    Snd Try.prog I (.func 21) [.agg #[v, .int .i64 pr], cv] h (.int .i64 (chartE n D L U pr m x)) h := by
  have hv0 := hv
  obtain ⟨q, c, rfl, hn, hq⟩ := hv
  have hx0 := hx
  obtain ⟨q2, c2, rfl, hm, hq2⟩ := hx
  refine Snd_run0 (rs := [.tmp 4]) 600 Try.func21 (by kernel_rfl) rfl Try.ntmps21 rfl rfl ?_
  simp -implicitDefEqProofs only [sB, Nat.reduceAdd, Nat.reduceSub, yieldL, popK, flat, nptr, Value.cells, H.new, eq_self, Int.reduceEq, Int.reduceLT, Int.reduceLE, Nat.reduceEqDiff, Nat.reduceLeDiff, thenQ, ContK, ty2, ty3, ty4, ty5, ty22, ty24, ty25, ty30, ty34, ty64, sl25_1, bs25_1, unk1, Bool.not_true, Bool.not_false, decide_true, decide_false]
  refine RunCall_of (checkTank47 I hv0) ?_
  by_cases he : tankE n D L U pr = 0
  · rw [he]
    obtain ⟨hn2, hn16⟩ := tankE_n he
    have hchE : chartE n D L U pr m x = if m ≠ n then 15 else if anyN (fun i => !numOk L U x i) n then 21 else 0 := by unfold chartE; rw [if_neg (by omega)]
    rw [hchE]
    by_cases hmn : m = n
    · subst hmn
      simp -implicitDefEqProofs only [sB, Nat.reduceAdd, Nat.reduceSub, yieldL, popK, flat, nptr, Value.cells, H.new, eq_self, Int.reduceEq, Int.reduceLT, Int.reduceLE, Nat.reduceEqDiff, Nat.reduceLeDiff, thenQ, ContK, ty2, ty3, ty4, ty5, ty22, ty24, ty25, ty30, ty34, ty64, sl25_1, bs25_1, unk1, Bool.not_true, Bool.not_false, decide_true, decide_false]
      obtain ⟨Ja, hJa⟩ : ∃ J : St → Prop, J = fun s => ∃ (k : Nat) (Lx : H), s.df = [] ∧ s.h = h ++ (.cells [.slice q m c, .int .i64 pr] 24 :: Lx) ∧ s.tm.length = 49 ∧ s.tm.getD 2 undef = .pointer (some ⟨2 * h.length, 0, none⟩) ∧ s.tm.getD 4 undef = .int .i64 0 ∧ s.tm.getD 6 undef = .int .i64 (prevX x k) ∧ s.tm.getD 20 undef = .slice q2 m c2 ∧ s.tm.getD 21 undef = .int .i64 m ∧ s.tm.getD 22 undef = .int .i64 k ∧ (k ≤ m) ∧ (∀ i, i < k → numOk L U x i = true) := ⟨_, rfl⟩
      refine Loop_run (by kernel_rfl) 400 Ja (muI 22 m) (by rw [hJa]; exact ⟨0, [], rfl, rfl, rfl, rfl, rfl, rfl, rfl, rfl, rfl, Nat.zero_le _, fun i hi => absurd hi (Nat.not_lt_zero i)⟩) ?_
      intro sa hsa
      rw [hJa] at hsa
      obtain ⟨tma, dfa, hha⟩ := sa
      obtain ⟨k, Lx, ea1, ea2, ea3, la2, la4, la6, la20, la21, la22, hk, hp⟩ := hsa
      simp only at ea1 ea2 ea3 la2 la4 la6 la20 la21 la22
      subst dfa; subst hha
      have elita : tma = [tma.getD 0 undef, tma.getD 1 undef, .pointer (some ⟨2 * h.length, 0, none⟩), tma.getD 3 undef, .int .i64 0, tma.getD 5 undef, .int .i64 (prevX x k), tma.getD 7 undef, tma.getD 8 undef, tma.getD 9 undef, tma.getD 10 undef, tma.getD 11 undef, tma.getD 12 undef, tma.getD 13 undef, tma.getD 14 undef, tma.getD 15 undef, tma.getD 16 undef, tma.getD 17 undef, tma.getD 18 undef, tma.getD 19 undef, .slice q2 m c2, .int .i64 m, .int .i64 k, tma.getD 23 undef, tma.getD 24 undef, tma.getD 25 undef, tma.getD 26 undef, tma.getD 27 undef, tma.getD 28 undef, tma.getD 29 undef, tma.getD 30 undef, tma.getD 31 undef, tma.getD 32 undef, tma.getD 33 undef, tma.getD 34 undef, tma.getD 35 undef, tma.getD 36 undef, tma.getD 37 undef, tma.getD 38 undef, tma.getD 39 undef, tma.getD 40 undef, tma.getD 41 undef, tma.getD 42 undef, tma.getD 43 undef, tma.getD 44 undef, tma.getD 45 undef, tma.getD 46 undef, tma.getD 47 undef, tma.getD 48 undef] := by
        have e0 := lit_eq ea3
        have er : List.range 49 = [0, 1, 2, 3, 4, 5, 6, 7, 8, 9, 10, 11, 12, 13, 14, 15, 16, 17, 18, 19, 20, 21, 22, 23, 24, 25, 26, 27, 28, 29, 30, 31, 32, 33, 34, 35, 36, 37, 38, 39, 40, 41, 42, 43, 44, 45, 46, 47, 48] := by rfl
        rw [er] at e0
        simp only [List.map_cons, List.map_nil, la2, la4, la6, la20, la21, la22] at e0
        exact e0
      rw [elita]
      clear la2
      clear la4
      clear la6
      clear la20
      clear la21
      clear la22
      clear elita ea3
      by_cases hkn : k < m
      · obtain ⟨id, off, rfl, hr⟩ := hq (by omega)
        obtain ⟨id2, off2, rfl, hr2⟩ := hq2 (by omega)
        have h1 : (k : Int) < (m : Int) := by omega
        have h2 : (0 : Int) ≤ (k : Int) ∧ (k : Int) < (m : Int) := ⟨by omega, h1⟩
        have h3 := fun h => hr h k hkn
        have h3b := rdl_mono (hr2 k hkn)
        have h4 := wrap_add1 (i := k) (by omega)
        simp -implicitDefEqProofs only [sB, Nat.reduceAdd, Nat.reduceSub, yieldL, popK, flat, nptr, Value.cells, H.new, eq_self, Int.reduceEq, Int.reduceLT, Int.reduceLE, Nat.reduceEqDiff, Nat.reduceLeDiff, thenQ, ContK, ty2, ty3, ty4, ty5, ty22, ty24, ty25, ty30, ty34, ty64, sD, mixT, isAlloc, ridOf, blockOf, sl25_1, bs25_1, unk1, Bool.not_true, Bool.not_false, decide_true, decide_false, h1, h2, row_L (h3 _), row_U (h3 _), h3b, h4]
        refine RunDC_quiet (within40 I (Sees.one (k := Lx.length + 1) (c := 1) (e := 2) (a := x k) (by simp))) rfl ?_
        by_cases hw : numOk L U x k = true
        · have hw' : withinB (max (prevX x k) (L k)) (U k) 1 (one1 (x k)) = true := hw
          simp -implicitDefEqProofs only [sB, Nat.reduceAdd, Nat.reduceSub, yieldL, popK, flat, nptr, Value.cells, H.new, eq_self, Int.reduceEq, Int.reduceLT, Int.reduceLE, Nat.reduceEqDiff, Nat.reduceLeDiff, thenQ, ContK, ty2, ty3, ty4, ty5, ty22, ty24, ty25, ty30, ty34, ty64, sD, mixT, isAlloc, ridOf, blockOf, sl25_1, bs25_1, unk1, Bool.not_true, Bool.not_false, decide_true, decide_false, hw', h4]
          refine ⟨drawOk_ren (fun _ => 0) rfl (by kernel_rfl), by rw [hJa]; exact ⟨k + 1, Lx ++ [.cells [.int .i64 (x k)] 2], rfl, rfl, rfl, rfl, rfl, rfl, rfl, rfl, rfl, by omega, fun i hi => by rcases Nat.lt_succ_iff_lt_or_eq.1 hi with h | rfl; exact hp i h; exact hw⟩, ?_⟩
          show m - ((k + 1 : Nat) : Int).toNat < m - (k : Int).toNat
          omega
        · simp only [Bool.not_eq_true] at hw
          have hw' : withinB (max (prevX x k) (L k)) (U k) 1 (one1 (x k)) = false := hw
          simp -implicitDefEqProofs only [sB, Nat.reduceAdd, Nat.reduceSub, yieldL, popK, flat, nptr, Value.cells, H.new, eq_self, Int.reduceEq, Int.reduceLT, Int.reduceLE, Nat.reduceEqDiff, Nat.reduceLeDiff, thenQ, ContK, ty2, ty3, ty4, ty5, ty22, ty24, ty25, ty30, ty34, ty64, sD, mixT, isAlloc, ridOf, blockOf, sl25_1, bs25_1, unk1, Bool.not_true, Bool.not_false, decide_true, decide_false, hw', h4]
          have ha : anyN (fun i => !numOk L U x i) m = true := anyN_iff.2 ⟨k, hkn, by simp [hw]⟩
          rw [if_neg (by omega), if_pos ha]
          exact ⟨drawOk_ren (fun _ => 0) rfl (by kernel_rfl), ⟨_, rfl⟩, rfl⟩
      · have h1 : ¬ (k : Int) < (m : Int) := by omega
        have hkn' : k = m := by omega
        subst hkn'
        have ha : ¬ anyN (fun i => !numOk L U x i) k = true := by
          rw [anyN_iff]; rintro ⟨i, hi, hb⟩; rw [hp i hi] at hb; cases hb
        rw [if_neg (by omega), if_neg ha]
        simp -implicitDefEqProofs only [sB, Nat.reduceAdd, Nat.reduceSub, yieldL, popK, flat, nptr, Value.cells, H.new, eq_self, Int.reduceEq, Int.reduceLT, Int.reduceLE, Nat.reduceEqDiff, Nat.reduceLeDiff, thenQ, ContK, ty2, ty3, ty4, ty5, ty22, ty24, ty25, ty30, ty34, ty64, sl25_1, bs25_1, unk1, Bool.not_true, Bool.not_false, decide_true, decide_false, h1]
        first | exact ⟨⟨_, rfl⟩, rfl⟩ | exact ⟨_, rfl⟩
    · have hmn' : ¬ ((m : Int) = (n : Int)) := by omega
      simp -implicitDefEqProofs only [sB, Nat.reduceAdd, Nat.reduceSub, yieldL, popK, flat, nptr, Value.cells, H.new, eq_self, Int.reduceEq, Int.reduceLT, Int.reduceLE, Nat.reduceEqDiff, Nat.reduceLeDiff, thenQ, ContK, ty2, ty3, ty4, ty5, ty22, ty24, ty25, ty30, ty34, ty64, sl25_1, bs25_1, unk1, Bool.not_true, Bool.not_false, decide_true, decide_false, hmn']
      rw [if_pos hmn]
      first | exact ⟨⟨_, rfl⟩, rfl⟩ | exact ⟨_, rfl⟩
  · have hchE : chartE n D L U pr m x = tankE n D L U pr := by unfold chartE; rw [if_pos he]
    rw [hchE]
    simp -implicitDefEqProofs only [sB, Nat.reduceAdd, Nat.reduceSub, yieldL, popK, flat, nptr, Value.cells, H.new, eq_self, Int.reduceEq, Int.reduceLT, Int.reduceLE, Nat.reduceEqDiff, Nat.reduceLeDiff, thenQ, ContK, ty2, ty3, ty4, ty5, ty22, ty24, ty25, ty30, ty34, ty64, sl25_1, bs25_1, unk1, Bool.not_true, Bool.not_false, decide_true, decide_false, he]
    first | exact ⟨⟨_, rfl⟩, rfl⟩ | exact ⟨_, rfl⟩
end Go.Proofs.Ytcocmbccfikmhaa
