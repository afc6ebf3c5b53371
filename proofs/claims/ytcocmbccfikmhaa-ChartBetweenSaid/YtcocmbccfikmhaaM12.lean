/- Contracts: rows and its loop (own texts put together: C14 C15 C16) -/
import Derived.Test.YtcocmbccfikmhaaM10
import Derived.Test.YtcocmbccfikmhaaM4
set_option linter.unusedSimpArgs false
set_option linter.unusedVariables false
namespace Go.Proofs.Ytcocmbccfikmhaa
open Go.Sym
/-- the row that comes in round k -/
def ixR (bk : Bool) (n k : Nat) : Nat := if bk then n - 1 - k else k

set_option maxRecDepth 100000 in
theorem rows70 (I : Nat → Option Obj) {Hs : Nat → H} {Hf : H} {n st l pn pb : Nat} {bk : Bool} (hn : n ≤ 1000) (hst : st ≤ n) (hpn : ∀ k, k ≤ st → rdl I (Hs k) pn 0 1 = some [.int .i64 n]) (hpb : ∀ k, k ≤ st → rdl I (Hs k) pb 0 1 = some [.bool bk])
    (hstep : ∀ k, k < st → Snd Try.prog I (.yield l) [.int .i64 (ixR bk n k)] (Hs k) (.bool true) (Hs (k + 1)))
    (hend : (st = n ∧ Hf = Hs n) ∨ (st < n ∧ Snd Try.prog I (.yield l) [.int .i64 (ixR bk n st)] (Hs st) (.bool false) Hf)) :
    Snd Try.prog I (.func 70) [.func (.yield l) #[] #[], .pointer (some ⟨pn, 0, none⟩), .pointer (some ⟨pb, 0, none⟩)] (Hs 0) (.tuple #[]) Hf := by
  refine Snd_run (rs := []) 400 Try.func70 (by kernel_rfl) rfl Try.ntmps70 rfl ?_
  have hp0 := hpn 0 (Nat.zero_le _)
  simp -implicitDefEqProofs only [sB, Nat.reduceAdd, Nat.reduceSub, yieldL, popK, flat, nptr, Value.cells, H.new, eq_self, Int.reduceEq, Int.reduceLT, Int.reduceLE, Nat.reduceEqDiff, Nat.reduceLeDiff, thenQ, ContK, ty2, ty3, ty4, ty5, ty111, Bool.not_true, Bool.not_false, decide_true, decide_false, if_true, if_false, hp0]
  obtain ⟨Ja, hJa⟩ : ∃ J : St → Prop, J = fun s => ∃ (k : Nat), s.df = [] ∧ s.h = Hs k ∧ s.tm.length = 21 ∧ s.tm.getD 0 undef = .func (.yield l) #[] #[] ∧ s.tm.getD 1 undef = .pointer (some ⟨pn, 0, none⟩) ∧ s.tm.getD 2 undef = .pointer (some ⟨pb, 0, none⟩) ∧ s.tm.getD 6 undef = .int .i64 n ∧ s.tm.getD 7 undef = .int .i64 k ∧ (k ≤ st) := ⟨_, rfl⟩
  refine Loop_run (by kernel_rfl) 400 Ja (muI 7 n) (by rw [hJa]; exact ⟨0, rfl, rfl, rfl, rfl, rfl, rfl, rfl, rfl, Nat.zero_le _⟩) ?_
  intro sa hsa
  rw [hJa] at hsa
  obtain ⟨tma, dfa, hha⟩ := sa
  obtain ⟨k, ea1, ea2, ea3, la0, la1, la2, la6, la7, hk⟩ := hsa
  simp only at ea1 ea2 ea3 la0 la1 la2 la6 la7
  subst dfa; subst hha
  have elita : tma = [.func (.yield l) #[] #[], .pointer (some ⟨pn, 0, none⟩), .pointer (some ⟨pb, 0, none⟩), tma.getD 3 undef, tma.getD 4 undef, tma.getD 5 undef, .int .i64 n, .int .i64 k, tma.getD 8 undef, tma.getD 9 undef, tma.getD 10 undef, tma.getD 11 undef, tma.getD 12 undef, tma.getD 13 undef, tma.getD 14 undef, tma.getD 15 undef, tma.getD 16 undef, tma.getD 17 undef, tma.getD 18 undef, tma.getD 19 undef, tma.getD 20 undef] := by
    have e0 := lit_eq ea3
    have er : List.range 21 = [0, 1, 2, 3, 4, 5, 6, 7, 8, 9, 10, 11, 12, 13, 14, 15, 16, 17, 18, 19, 20] := by rfl
    rw [er] at e0
    simp only [List.map_cons, List.map_nil, la0, la1, la2, la6, la7] at e0
    exact e0
  rw [elita]
  clear la0
  clear la1
  clear la2
  clear la6
  clear la7
  clear elita ea3
  have h4 := wrap_add1 (i := k) (by omega)
  have hp1 := hpn k hk
  have hp2 := hpb k hk
  by_cases hkn : k < n
  · have h1 : (k : Int) < (n : Int) := by omega
    cases bk with
    | false =>
      simp -implicitDefEqProofs only [sB, Nat.reduceAdd, Nat.reduceSub, yieldL, popK, flat, nptr, Value.cells, H.new, eq_self, Int.reduceEq, Int.reduceLT, Int.reduceLE, Nat.reduceEqDiff, Nat.reduceLeDiff, thenQ, ContK, ty2, ty3, ty4, ty5, ty111, Bool.not_true, Bool.not_false, decide_true, decide_false, if_true, if_false, h1, hp1, hp2]
      by_cases hks : k < st
      · have hs := hstep k hks
        simp only [ixR, Bool.false_eq_true, if_false] at hs
        refine RunCall_of hs ?_
        simp -implicitDefEqProofs only [sB, Nat.reduceAdd, Nat.reduceSub, yieldL, popK, flat, nptr, Value.cells, H.new, eq_self, Int.reduceEq, Int.reduceLT, Int.reduceLE, Nat.reduceEqDiff, Nat.reduceLeDiff, thenQ, ContK, ty2, ty3, ty4, ty5, ty111, Bool.not_true, Bool.not_false, decide_true, decide_false, if_true, if_false, h1, h4]
        refine ⟨by rw [hJa]; exact ⟨k + 1, rfl, rfl, rfl, rfl, rfl, rfl, rfl, rfl, by omega⟩, ?_⟩
        show n - ((k + 1 : Nat) : Int).toNat < n - (k : Int).toNat
        omega
      · have hks' : k = st := by omega
        subst hks'
        rcases hend with ⟨e, _⟩ | ⟨_, hs⟩
        · omega
        simp only [ixR, Bool.false_eq_true, if_false] at hs
        refine RunCall_of hs ?_
        simp -implicitDefEqProofs only [sB, Nat.reduceAdd, Nat.reduceSub, yieldL, popK, flat, nptr, Value.cells, H.new, eq_self, Int.reduceEq, Int.reduceLT, Int.reduceLE, Nat.reduceEqDiff, Nat.reduceLeDiff, thenQ, ContK, ty2, ty3, ty4, ty5, ty111, Bool.not_true, Bool.not_false, decide_true, decide_false, if_true, if_false, h1, h4]
        try trivial
    | true =>
      have w1 : IntKind.i64.wrap ((n : Int) - 1) = (n : Int) - 1 := wrap_i64 (by omega) (by omega)
      have w2 : IntKind.i64.wrap ((n : Int) - 1 - (k : Int)) = ((n - 1 - k : Nat) : Int) := by rw [wrap_i64 (by omega) (by omega)]; omega
      simp -implicitDefEqProofs only [sB, Nat.reduceAdd, Nat.reduceSub, yieldL, popK, flat, nptr, Value.cells, H.new, eq_self, Int.reduceEq, Int.reduceLT, Int.reduceLE, Nat.reduceEqDiff, Nat.reduceLeDiff, thenQ, ContK, ty2, ty3, ty4, ty5, ty111, Bool.not_true, Bool.not_false, decide_true, decide_false, if_true, if_false, h1, hp1, hp2, w1, w2]
      by_cases hks : k < st
      · have hs := hstep k hks
        simp only [ixR, if_true] at hs
        refine RunCall_of hs ?_
        simp -implicitDefEqProofs only [sB, Nat.reduceAdd, Nat.reduceSub, yieldL, popK, flat, nptr, Value.cells, H.new, eq_self, Int.reduceEq, Int.reduceLT, Int.reduceLE, Nat.reduceEqDiff, Nat.reduceLeDiff, thenQ, ContK, ty2, ty3, ty4, ty5, ty111, Bool.not_true, Bool.not_false, decide_true, decide_false, if_true, if_false, h1, h4]
        refine ⟨by rw [hJa]; exact ⟨k + 1, rfl, rfl, rfl, rfl, rfl, rfl, rfl, rfl, by omega⟩, ?_⟩
        show n - ((k + 1 : Nat) : Int).toNat < n - (k : Int).toNat
        omega
      · have hks' : k = st := by omega
        subst hks'
        rcases hend with ⟨e, _⟩ | ⟨_, hs⟩
        · omega
        simp only [ixR, if_true] at hs
        refine RunCall_of hs ?_
        simp -implicitDefEqProofs only [sB, Nat.reduceAdd, Nat.reduceSub, yieldL, popK, flat, nptr, Value.cells, H.new, eq_self, Int.reduceEq, Int.reduceLT, Int.reduceLE, Nat.reduceEqDiff, Nat.reduceLeDiff, thenQ, ContK, ty2, ty3, ty4, ty5, ty111, Bool.not_true, Bool.not_false, decide_true, decide_false, if_true, if_false, h1, h4]
        try trivial
  · have h1 : ¬ (k : Int) < (n : Int) := by omega
    simp -implicitDefEqProofs only [sB, Nat.reduceAdd, Nat.reduceSub, yieldL, popK, flat, nptr, Value.cells, H.new, eq_self, Int.reduceEq, Int.reduceLT, Int.reduceLE, Nat.reduceEqDiff, Nat.reduceLeDiff, thenQ, ContK, ty2, ty3, ty4, ty5, ty111, Bool.not_true, Bool.not_false, decide_true, decide_false, if_true, if_false, h1]
    have hkn' : k = n := by omega
    subst hkn'
    rcases hend with ⟨e, e2⟩ | ⟨e, _⟩
    · rw [e2]
      first | exact ⟨rfl, rfl⟩ | trivial
    · omega

set_option maxRecDepth 100000 in
theorem rows58 (I : Nat → Option Obj) {h : H} {pg n c : Nat} {q : Option Addr} {pr : Int} {lo hi : Nat → Int} {bk : Bool} (hr : rdl I h pg 0 1 = some [.slice q n c]) :
    Snd Try.prog I (.func 58) [.pointer (some ⟨pg, 0, none⟩), .bool bk] h (.func (.func 70) #[] #[.pointer (some ⟨2 * (h.length + 1), 0, none⟩), .pointer (some ⟨2 * h.length, 0, none⟩)]) (h ++ [.cells [.bool bk] 4, .cells [.int .i64 n] 3]) := by
  have hr' := rdl_mono hr
  refine Snd_run (rs := [.tmp 4]) 400 Try.func58 (by kernel_rfl) rfl Try.ntmps58 rfl ?_
  simp -implicitDefEqProofs only [sB, Nat.reduceAdd, Nat.reduceSub, yieldL, popK, flat, nptr, Value.cells, H.new, eq_self, Int.reduceEq, Int.reduceLT, Int.reduceLE, Nat.reduceEqDiff, Nat.reduceLeDiff, thenQ, ContK, ty2, ty3, ty4, ty22, ty24, ty78, ty90, ty97, Bool.not_true, Bool.not_false, decide_true, decide_false, if_true, if_false, hr']
end Go.Proofs.Ytcocmbccfikmhaa
set_option linter.unusedSimpArgs false
set_option linter.unusedVariables false
namespace Go.Proofs.Ytcocmbccfikmhaa
open Go.Sym
def rmax (f : Nat → Int) : Nat → Int
  | 0 => f 0
  | i + 1 => max (f (i + 1)) (rmax f i)
def fwd (f : Nat → Int) (k : Nat) : Nat → Int := fun i => if i < k then rmax f i else f i
def rminB (f : Nat → Int) (n : Nat) : Nat → Int
  | 0 => f (n - 1)
  | j + 1 => min (f (n - 1 - (j + 1))) (rminB f n j)
/-- the least one from row i on -/
def rmin (f : Nat → Int) (n i : Nat) : Int := rminB f n (n - 1 - i)
def bwd (f : Nat → Int) (n k : Nat) : Nat → Int := fun i => if n - k ≤ i ∧ i < n then rmin f n i else f i
theorem fwd_in {f : Nat → Int} {k i : Nat} (h : i < k) : fwd f k i = rmax f i := if_pos h
theorem fwd_out {f : Nat → Int} {k i : Nat} (h : ¬ i < k) : fwd f k i = f i := if_neg h
theorem bwd_in {f : Nat → Int} {n k i : Nat} (h : n - k ≤ i ∧ i < n) : bwd f n k i = rmin f n i := if_pos h
theorem bwd_out {f : Nat → Int} {n k i : Nat} (h : ¬ (n - k ≤ i ∧ i < n)) : bwd f n k i = f i := if_neg h
theorem fwd_zero (f : Nat → Int) : fwd f 0 = f := by funext i; simp [fwd]
theorem fwd_one (f : Nat → Int) : fwd f 1 = f := by
  funext i; unfold fwd; split
  · have : i = 0 := by omega
    subst this; rfl
  · rfl
theorem fwd_step (f : Nat → Int) {k : Nat} (hk : 0 < k) : upd (fwd f k) k (max (fwd f k k) (fwd f k (k - 1))) = fwd f (k + 1) := by
  obtain ⟨j, rfl⟩ : ∃ j, k = j + 1 := ⟨k - 1, by omega⟩
  funext i
  unfold upd fwd
  by_cases h : i = j + 1
  · subst h
    have e : j + 1 - 1 = j := by omega
    rw [if_pos rfl, if_neg (Nat.lt_irrefl _), e, if_pos (by omega), if_pos (by omega)]
    rfl
  · rw [if_neg h]
    by_cases h2 : i < j + 1
    · rw [if_pos h2, if_pos (by omega)]
    · rw [if_neg h2, if_neg (by omega)]
theorem rmax_fwd (f : Nat → Int) (n : Nat) : ∀ i, i < n → rmax (fwd f n) i = rmax f i
  | 0, h => by show fwd f n 0 = f 0; unfold fwd; rw [if_pos h]; rfl
  | i + 1, h => by
    show max (fwd f n (i + 1)) (rmax (fwd f n) i) = max (f (i + 1)) (rmax f i)
    rw [rmax_fwd f n i (by omega)]
    unfold fwd; rw [if_pos h]
    show max (max (f (i + 1)) (rmax f i)) (rmax f i) = _
    omega
theorem fwd_again (f : Nat → Int) (n : Nat) : fwd (fwd f n) n = fwd f n := by
  funext i
  by_cases h : i < n
  · rw [fwd_in h, rmax_fwd f n i h, fwd_in h]
  · rw [fwd_out h]
theorem rmin_last (f : Nat → Int) {n : Nat} (h : 0 < n) : rmin f n (n - 1) = f (n - 1) := by
  unfold rmin
  have : n - 1 - (n - 1) = 0 := by omega
  rw [this]; rfl
theorem rmin_step (f : Nat → Int) {n i : Nat} (h : i + 1 < n) : rmin f n i = min (f i) (rmin f n (i + 1)) := by
  unfold rmin
  have e1 : n - 1 - i = (n - 1 - (i + 1)) + 1 := by omega
  rw [e1]
  show min (f (n - 1 - ((n - 1 - (i + 1)) + 1))) _ = _
  have e2 : n - 1 - ((n - 1 - (i + 1)) + 1) = i := by omega
  rw [e2]
theorem bwd_zero (f : Nat → Int) (n : Nat) : bwd f n 0 = f := by
  funext i; unfold bwd; rw [if_neg (by omega)]
theorem bwd_one (f : Nat → Int) {n : Nat} (h : 0 < n) : bwd f n 1 = f := by
  funext i; unfold bwd; split
  · have : i = n - 1 := by omega
    subst this; exact rmin_last f h
  · rfl
theorem bwd_step (f : Nat → Int) {n k : Nat} (hk : 0 < k) (hn : k < n) : upd (bwd f n k) (n - 1 - k) (min (bwd f n k (n - 1 - k)) (bwd f n k (n - 1 - k + 1))) = bwd f n (k + 1) := by
  funext i
  unfold upd bwd
  by_cases h : i = n - 1 - k
  · subst h
    rw [if_pos rfl, if_neg (by omega), if_pos (by omega), if_pos (by omega)]
    exact (rmin_step f (by omega)).symm
  · rw [if_neg h]
    by_cases h2 : n - k ≤ i ∧ i < n
    · rw [if_pos h2, if_pos (by omega)]
    · rw [if_neg h2, if_neg (by omega)]
theorem rmin_bwd (f : Nat → Int) {n : Nat} : ∀ j, j < n → rmin (bwd f n n) n (n - 1 - j) = rmin f n (n - 1 - j)
  | 0, h => by
    have e : n - 1 - 0 = n - 1 := by omega
    rw [e, rmin_last _ (by omega)]
    unfold bwd; rw [if_pos (by omega)]
  | j + 1, h => by
    rw [rmin_step _ (by omega), rmin_step f (by omega)]
    have e : n - 1 - (j + 1) + 1 = n - 1 - j := by omega
    rw [e, rmin_bwd f j (by omega)]
    have e3 : bwd f n n (n - 1 - (j + 1)) = rmin f n (n - 1 - (j + 1)) := by unfold bwd; rw [if_pos (by omega)]
    rw [e3, rmin_step f (by omega), e]
    omega
theorem bwd_again (f : Nat → Int) (n : Nat) : bwd (bwd f n n) n n = bwd f n n := by
  funext i
  by_cases h : i < n
  · rw [bwd_in (by omega)]
    have := rmin_bwd f (n - 1 - i) (n := n) (by omega)
    have e : n - 1 - (n - 1 - i) = i := by omega
    rw [e] at this
    rw [this, bwd_in (by omega)]
  · rw [bwd_out (by omega)]
abbrev AA := (Nat → Int) × (Nat → Int)
def gBl (v : Value) (pr : Int) (a : AA) : Blk := .cells (gaugeL v pr a.1 a.2) 90
theorem bl116 {a b : Nat → Int} : abuild Try.prog 116 [(0, .agg (arrL 16 a).toArray), (1, .agg (arrL 16 b).toArray)] = some (.agg (arrL 16 a ++ arrL 16 b).toArray) := by kernel_rfl
theorem two_len {a b : Nat → Int} : (arrL 16 a ++ arrL 16 b).length = 32 := by simp [arrL_length]
theorem two_one {a b : Nat → Int} : (arrL 16 a ++ arrL 16 b).all (·.oneCell') = true := by rw [List.all_append, arrL_one, arrL_one]; rfl
theorem two_splice {a b c d : Nat → Int} : splice (arrL 16 a ++ arrL 16 b) 0 (arrL 16 c ++ arrL 16 d) = arrL 16 c ++ arrL 16 d := splice_full (by rw [two_len, two_len])
theorem two_take {a b : Nat → Int} : (arrL 16 a ++ arrL 16 b).take 32 = arrL 16 a ++ arrL 16 b := List.take_of_length_le (by rw [two_len]; omega)
theorem two_flat {a b : Nat → Int} : flatL (arrL 16 a ++ arrL 16 b) = true := by
  have app : ∀ x y : List Value, flatL x = true → flatL y = true → flatL (x ++ y) = true := by
    intro x y hx hy
    induction x with
    | nil => exact hy
    | cons u l ih => simp only [flatL, Bool.and_eq_true] at hx; simp only [List.cons_append, flatL, hx.1, ih hx.2, Bool.and_self]
  exact app _ _ (arrL_flat _ _) (arrL_flat _ _)
theorem eql116 {a b c d : Nat → Int} {x y : Operand} : abin Try.prog .eql 116 x y (.agg (arrL 16 a ++ arrL 16 b).toArray) (.agg (arrL 16 c ++ arrL 16 d).toArray) = some (.bool (eqN 16 a c && eqN 16 b d)) := by
  refine bin_eql_agg two_flat two_flat (by kernel_rfl) ?_
  have u2 : Try.prog.underlying 2 = some (.int .i64) := by kernel_rfl
  rw [free_eq_array (r := fun i => if i = 0 then eqN 16 a c else eqN 16 b d) un116 sz81 (fun i hi => ?_)]
  · simp [List.range_succ]
  · have h2 : i = 0 ∨ i = 1 := by omega
    rcases h2 with rfl | rfl
    · refine ⟨.agg (arrL 16 a).toArray, .agg (arrL 16 c).toArray, ?_, ?_, free_eq_arrL un81 sz2 tg2 u2⟩
      · unfold partV; rw [tg81]; simp only [sz81, Option.map_some]
        rw [Nat.zero_mul, List.drop_zero, List.take_left' (arrL_length 16 a)]
      · unfold partV; rw [tg81]; simp only [sz81, Option.map_some]
        rw [Nat.zero_mul, List.drop_zero, List.take_left' (arrL_length 16 c)]
    · refine ⟨.agg (arrL 16 b).toArray, .agg (arrL 16 d).toArray, ?_, ?_, free_eq_arrL un81 sz2 tg2 u2⟩
      · unfold partV; rw [tg81]; simp only [sz81, Option.map_some]
        rw [Nat.one_mul, List.drop_left' (arrL_length 16 a), take_arrL]
      · unfold partV; rw [tg81]; simp only [sz81, Option.map_some]
        rw [Nat.one_mul, List.drop_left' (arrL_length 16 c), take_arrL]
end Go.Proofs.Ytcocmbccfikmhaa
set_option linter.unusedSimpArgs false
set_option linter.unusedVariables false
namespace Go.Proofs.Ytcocmbccfikmhaa
open Go.Sym

theorem first_of {p : Nat → Bool} : ∀ n, anyN p n = true → ∃ st, st < n ∧ p st = true ∧ ∀ j, j < st → p j = false
  | 0, h => by obtain ⟨i, hi, _⟩ := anyN_iff.1 h; omega
  | n + 1, h => by
    cases hb : anyN p n with
    | true =>
      obtain ⟨st, h1, h2, h3⟩ := first_of n hb
      exact ⟨st, by omega, h2, h3⟩
    | false =>
      obtain ⟨i, hi, hp⟩ := anyN_iff.1 h
      have hin : i = n := by
        refine Classical.byContradiction fun hc => ?_
        have := any_false hb i (by omega)
        rw [this] at hp; cases hp
      subst hin
      exact ⟨i, by omega, hp, fun j hj => any_false hb j hj⟩
theorem finS_G {I : Nat → Option Obj} {A : Type} {M pg : Nat} {bl : A → Blk} {G : A → H} (gh : GHeap M pg bl G) {a : A} {r : Bool} {tm : List Value} {df : List Nat} {B1 : Blk} {L : H} (ht : tm.getD 2 undef = .pointer (some ⟨2 * (M + 1), 0, none⟩)) (hnd : df.Nodup)
    (hdf : ∀ id ∈ df, ∃ k, id = 2 * (M + 2 + k) ∧ L[k]? = some (.obj (.deferred (some [])))) :
    finS Try.prog I [.cell 2 4] (.bool r) (G a) .ret ⟨tm, df, G a ++ ([B1, .cells [.bool r] 4] ++ L)⟩ := by
  obtain ⟨l', h1, h2, h3⟩ := leave_app (hb := G a) df ([B1, .cells [.bool r] 4] ++ L) hnd (fun id hid => by
    obtain ⟨k, rfl, hk⟩ := hdf id hid
    exact ⟨k + 2, by rw [gh.len]; omega, by simpa using hk⟩)
  refine ⟨.inr rfl, G a ++ l', h1, ⟨l', rfl⟩, ?_⟩
  have hn : 2 * ((G a).length + 1) ∉ df := by
    intro hm
    obtain ⟨k, e, _⟩ := hdf _ hm
    rw [gh.len] at e
    omega
  have h4 := h3 1 hn
  have h5 : rdl I (G a ++ l') (2 * (M + 1)) 0 1 = some [.bool r] := by
    rw [gh.rd_k, h4]; rfl
  simp only [aresL, ht, ld4, h5, ld1_some, Option.bind_some, Option.map_some, one]
def tightA (n : Nat) (a : AA) : AA := (fwd a.1 n, bwd a.2 n n)
theorem tightA_again (n : Nat) (a : AA) : tightA n (tightA n a) = tightA n a := by
  unfold tightA; simp only [fwd_again, bwd_again]
/-- there is a chart -/
def tightOk (n : Nat) (a : AA) : Bool := !anyN (fun i => decide ((tightA n a).2 i < (tightA n a).1 i)) n
section
variable {v : Value} {pr : Int} {a : AA} {i : Nat}
theorem gb_rows : rdB (some (gBl v pr a)) 0 1 = some [v] := rdG_rows
theorem gb_los : rdB (some (gBl v pr a)) 2 16 = some (arrL 16 a.1) := rdG_los
theorem gb_his : rdB (some (gBl v pr a)) 18 16 = some (arrL 16 a.2) := rdG_his
theorem gb_lo (h : i < 16) : rdB (some (gBl v pr a)) (2 + i) 1 = some [.int .i64 (a.1 i)] := rdG_lo h
theorem gb_hi (h : i < 16) : rdB (some (gBl v pr a)) (18 + i) 1 = some [.int .i64 (a.2 i)] := rdG_hi h
theorem gw_lo {x : Int} (h : i < 16) : wrB (some (gBl v pr a)) (2 + i) [.int .i64 x] = some (gBl v pr (upd a.1 i x, a.2)) := wrG_lo h
theorem gw_hi {x : Int} (h : i < 16) : wrB (some (gBl v pr a)) (18 + i) [.int .i64 x] = some (gBl v pr (a.1, upd a.2 i x)) := wrG_hi h
end
theorem gBl_eqN {v : Value} {pr : Int} {a b : AA} (h : gBl v pr a = gBl v pr b) : (eqN 16 a.1 b.1 && eqN 16 a.2 b.2) = true := by
  unfold gBl gaugeL at h
  simp only [Blk.cells.injEq, List.cons.injEq, true_and, and_true] at h
  have hl : (arrL 16 a.1).length = (arrL 16 b.1).length := by rw [arrL_length, arrL_length]
  obtain ⟨h1, h2⟩ := List.append_inj h hl
  have key : ∀ f g : Nat → Int, arrL 16 f = arrL 16 g → eqN 16 f g = true := by
    intro f g e
    rw [eqN_iff]
    intro i hi
    have e2 : (arrL 16 f)[i]? = (arrL 16 g)[i]? := by rw [e]
    rw [arrL_get 16 f hi, arrL_get 16 g hi] at e2
    simpa using e2
  rw [key _ _ h1, key _ _ h2]; rfl
open Classical in
noncomputable def muG (pg : Nat) (B : Blk) (s : St) : Nat := if s.h.get pg = some B then 0 else 1
theorem muG_yes {pg : Nat} {B : Blk} {s : St} (h : s.h.get pg = some B) : muG pg B s = 0 := if_pos h
theorem muG_no {pg : Nat} {B : Blk} {s : St} (h : s.h.get pg ≠ some B) : muG pg B s = 1 := if_neg h

set_option maxRecDepth 100000 in
set_option maxHeartbeats 4000000 in
theorem tighten68 (I : Nat → Option Obj) {M pg n : Nat} {v : Value} {D L U : Nat → Int} {pr : Int} {G : AA → H} (gh : GHeap M pg (gBl v pr) G) (hv : Rows I v n D L U) (hcv : ∀ N, closedV (okN N) v = true) (hn2 : 2 ≤ n ∧ n ≤ 16) (a0 : AA) :
    Snd Try.prog I (.func 68) [.pointer (some ⟨pg, 0, none⟩)] (G a0) (.bool (tightOk n a0)) (G (tightA n a0)) := by
  obtain ⟨q, c, rfl, hn, hq⟩ := hv
  obtain ⟨id, off, rfl, hr⟩ := hq (by omega)
  have hq := hq (by omega)
  refine Snd_runS (rs := [.cell 2 4]) 600 Try.func68 (by kernel_rfl) rfl Try.ntmps68 rfl (by rw [gh.len, gh.len]; exact Nat.le_refl _) ?_ rfl ?_
  · intro id' B hg
    rw [gh.len]
    by_cases hid : id' = pg
    · subst hid
      rw [gh.get] at hg; cases hg
      exact .inl (closed_gauge (hcv _))
    · right
      rw [← gh.put a0 (tightA n a0), H.get_put_ne _ hid] at hg
      exact hg
  simp -implicitDefEqProofs only [sB, Nat.reduceAdd, Nat.reduceSub, yieldL, popK, flat, nptr, Value.cells, H.new, eq_self, Int.reduceEq, Int.reduceLT, Int.reduceLE, Nat.reduceEqDiff, Nat.reduceLeDiff, thenQ, ContK, ty2, ty3, ty4, ty5, ty22, ty24, ty78, ty81, ty90, ty97, ty116, Bool.not_true, Bool.not_false, decide_true, decide_false, if_true, if_false, bl116, two_len, two_one, two_splice, two_take, st116, gh.len, gh.rd, gh.rd_z, gh.rd_k, gh.wr_z, gh.wr_k]
  obtain ⟨M2, hM2⟩ : ∃ x, x = M + 2 := ⟨_, rfl⟩
  obtain ⟨G2, hG2⟩ : ∃ G2 : AA → H, ∀ a, G a ++ [Blk.cells [.pointer (some ⟨pg, 0, none⟩)] 78, Blk.cells [.bool false] 4] = G2 a := ⟨_, fun _ => rfl⟩
  have gh2 : GHeap M2 pg (gBl (.slice (some ⟨id, off, none⟩) n c) pr) G2 := by
    have e : G2 = fun a => G a ++ [Blk.cells [.pointer (some ⟨pg, 0, none⟩)] 78, Blk.cells [.bool false] 4] := by funext a; exact (hG2 a).symm
    rw [e, hM2]
    exact gh.app [Blk.cells [.pointer (some ⟨pg, 0, none⟩)] 78, Blk.cells [.bool false] 4]
  have hB1 : ∀ (a : AA) (l : H), rdl I (G2 a ++ l) (2 * M) 0 1 = some [.pointer (some ⟨pg, 0, none⟩)] := by
    intro a l
    rw [← hG2 a, List.append_assoc, gh.rd_z]; rfl
  have hB2 : ∀ (a : AA) (l : H) (b : Bool), wrl (G2 a ++ l) (2 * (M + 1)) 0 [.bool b] = some (G a ++ ([Blk.cells [.pointer (some ⟨pg, 0, none⟩)] 78, Blk.cells [.bool b] 4] ++ l)) := by
    intro a l b
    rw [← hG2 a, List.append_assoc, gh.wr_k]; rfl
  have hMa : ∀ x y : Nat, M2 + x + y = M2 + (x + y) := fun x y => Nat.add_assoc _ _ _
  rw [hG2 a0, ← List.append_nil (G2 a0)]
  obtain ⟨Ja, hJa⟩ : ∃ J : St → Prop, J = fun s => ∃ (a : AA) (Lx : H) (dfx : List Nat), s.df = dfx ∧ s.h = G2 a ++ Lx ∧ s.tm.length = 98 ∧ s.tm.getD 1 undef = .pointer (some ⟨2 * M, 0, none⟩) ∧ s.tm.getD 2 undef = .pointer (some ⟨2 * (M + 1), 0, none⟩) ∧ (a = a0 ∨ a = tightA n a0) ∧ (dfx.Nodup) ∧ (∀ id ∈ dfx, ∃ k, id = 2 * (M2 + k) ∧ Lx[k]? = some (.obj (.deferred (some [])))) := ⟨_, rfl⟩
  refine Loop_run (by kernel_rfl) 600 Ja (muG pg (gBl (.slice (some ⟨id, off, none⟩) n c) pr (tightA n a0))) (by rw [hJa]; exact ⟨a0, [], [], rfl, rfl, rfl, rfl, rfl, Or.inl rfl, List.nodup_nil, fun i hi => absurd hi (List.not_mem_nil)⟩) ?_
  intro sa hsa
  rw [hJa] at hsa
  obtain ⟨tma, dfa, hha⟩ := sa
  obtain ⟨a, Lx, dfx, ea1, ea2, ea3, la1, la2, ha, hnd, hdf⟩ := hsa
  simp only at ea1 ea2 ea3 la1 la2
  subst dfa; subst hha
  have elita : tma = [tma.getD 0 undef, .pointer (some ⟨2 * M, 0, none⟩), .pointer (some ⟨2 * (M + 1), 0, none⟩), tma.getD 3 undef, tma.getD 4 undef, tma.getD 5 undef, tma.getD 6 undef, tma.getD 7 undef, tma.getD 8 undef, tma.getD 9 undef, tma.getD 10 undef, tma.getD 11 undef, tma.getD 12 undef, tma.getD 13 undef, tma.getD 14 undef, tma.getD 15 undef, tma.getD 16 undef, tma.getD 17 undef, tma.getD 18 undef, tma.getD 19 undef, tma.getD 20 undef, tma.getD 21 undef, tma.getD 22 undef, tma.getD 23 undef, tma.getD 24 undef, tma.getD 25 undef, tma.getD 26 undef, tma.getD 27 undef, tma.getD 28 undef, tma.getD 29 undef, tma.getD 30 undef, tma.getD 31 undef, tma.getD 32 undef, tma.getD 33 undef, tma.getD 34 undef, tma.getD 35 undef, tma.getD 36 undef, tma.getD 37 undef, tma.getD 38 undef, tma.getD 39 undef, tma.getD 40 undef, tma.getD 41 undef, tma.getD 42 undef, tma.getD 43 undef, tma.getD 44 undef, tma.getD 45 undef, tma.getD 46 undef, tma.getD 47 undef, tma.getD 48 undef, tma.getD 49 undef, tma.getD 50 undef, tma.getD 51 undef, tma.getD 52 undef, tma.getD 53 undef, tma.getD 54 undef, tma.getD 55 undef, tma.getD 56 undef, tma.getD 57 undef, tma.getD 58 undef, tma.getD 59 undef, tma.getD 60 undef, tma.getD 61 undef, tma.getD 62 undef, tma.getD 63 undef, tma.getD 64 undef, tma.getD 65 undef, tma.getD 66 undef, tma.getD 67 undef, tma.getD 68 undef, tma.getD 69 undef, tma.getD 70 undef, tma.getD 71 undef, tma.getD 72 undef, tma.getD 73 undef, tma.getD 74 undef, tma.getD 75 undef, tma.getD 76 undef, tma.getD 77 undef, tma.getD 78 undef, tma.getD 79 undef, tma.getD 80 undef, tma.getD 81 undef, tma.getD 82 undef, tma.getD 83 undef, tma.getD 84 undef, tma.getD 85 undef, tma.getD 86 undef, tma.getD 87 undef, tma.getD 88 undef, tma.getD 89 undef, tma.getD 90 undef, tma.getD 91 undef, tma.getD 92 undef, tma.getD 93 undef, tma.getD 94 undef, tma.getD 95 undef, tma.getD 96 undef, tma.getD 97 undef] := by
    have e0 := lit_eq ea3
    have er : List.range 98 = [0, 1, 2, 3, 4, 5, 6, 7, 8, 9, 10, 11, 12, 13, 14, 15, 16, 17, 18, 19, 20, 21, 22, 23, 24, 25, 26, 27, 28, 29, 30, 31, 32, 33, 34, 35, 36, 37, 38, 39, 40, 41, 42, 43, 44, 45, 46, 47, 48, 49, 50, 51, 52, 53, 54, 55, 56, 57, 58, 59, 60, 61, 62, 63, 64, 65, 66, 67, 68, 69, 70, 71, 72, 73, 74, 75, 76, 77, 78, 79, 80, 81, 82, 83, 84, 85, 86, 87, 88, 89, 90, 91, 92, 93, 94, 95, 96, 97] := by rfl
    rw [er] at e0
    simp only [List.map_cons, List.map_nil, la1, la2] at e0
    exact e0
  rw [elita]
  clear la1
  clear la2
  clear elita ea3
  simp -implicitDefEqProofs only [sB, Nat.reduceAdd, Nat.reduceSub, yieldL, popK, flat, nptr, Value.cells, H.new, eq_self, Int.reduceEq, Int.reduceLT, Int.reduceLE, Nat.reduceEqDiff, Nat.reduceLeDiff, thenQ, ContK, ty2, ty3, ty4, ty5, ty22, ty24, ty78, ty81, ty90, ty97, ty116, sD, mixT, isAlloc, ridOf, blockOf, Bool.not_true, Bool.not_false, decide_true, decide_false, if_true, if_false, bl116, two_len, two_one, two_splice, two_take, st116, gh2.len, gh2.rd, gh2.rd_z, gh2.rd_k, gh2.wr, gh2.wr_z, gh2.wr_k, gh2.get_z, gh2.get_k, gh2.put_z, gh2.put_k, gh2.put, gb_rows, gb_los, gb_his, hB1, getElem?_app_k, getElem?_app_z, set_app_k, set_app_z, len_assoc, hMa]
  refine ⟨effOk_of (by kernel_rfl) (by simp), drawOk_ren (fun _ => 0) rfl (by kernel_rfl), ?_⟩
  refine RunCall_of (rows58 I (pr := pr) (lo := a.1) (hi := a.2) (by rw [gh2.rd]; exact gb_rows)) ?_
  simp -implicitDefEqProofs only [sB, Nat.reduceAdd, Nat.reduceSub, yieldL, popK, flat, nptr, Value.cells, H.new, eq_self, Int.reduceEq, Int.reduceLT, Int.reduceLE, Nat.reduceEqDiff, Nat.reduceLeDiff, thenQ, ContK, ty2, ty3, ty4, ty5, ty22, ty24, ty78, ty81, ty90, ty97, ty116, Bool.not_true, Bool.not_false, decide_true, decide_false, if_true, if_false, bl116, two_len, two_one, two_splice, two_take, st116, gh2.len, gh2.rd, gh2.rd_z, gh2.rd_k, gh2.wr, gh2.wr_z, gh2.wr_k, gh2.get_z, gh2.get_k, gh2.put_z, gh2.put_k, gh2.put, gb_rows, gb_los, gb_his, hB1, getElem?_app_k, getElem?_app_z, set_app_k, set_app_z, len_assoc, hMa]
  -- forwards
  generalize hb0 : Blk.cells (arrL 16 a.fst ++ arrL 16 a.snd) 116 = Bf
  have e1 : ∀ (x : AA) (b1 b2 b3 : Blk), (G2 x ++ (Lx ++ [b1, b2, b3]) : H).length = M2 + (Lx.length + 3) := fun x b1 b2 b3 => by simp [gh2.len]
  have hgl : ∀ (x : AA) (B : Blk), (G2 x ++ (Lx ++ [Bf, .cells [.bool false] 4, .cells [.int .i64 n] 3, .obj (.deferred (some [])), B]) : H).get (2 * (M2 + (Lx.length + 4))) = some B := fun x B => by simp only [gh2.get_k, getElem?_app_k]; rfl
  have hpl : ∀ (x : AA) (B B' : Blk), (G2 x ++ (Lx ++ [Bf, .cells [.bool false] 4, .cells [.int .i64 n] 3, .obj (.deferred (some [])), B]) : H).put (2 * (M2 + (Lx.length + 4))) B' = G2 x ++ (Lx ++ [Bf, .cells [.bool false] 4, .cells [.int .i64 n] 3, .obj (.deferred (some [])), B']) := fun x B B' => by simp only [gh2.put_k, set_app_k]; rfl
  have e3 : M2 + (Lx.length + 3) + 1 = M2 + (Lx.length + 4) := by omega
  refine TC_rangeB (g := 70) (first := #[]) (cap := #[.pointer (some ⟨2 * (M2 + (Lx.length + 2)), 0, none⟩), .pointer (some ⟨2 * (M2 + (Lx.length + 1)), 0, none⟩)]) (v := .tuple #[])
    (h2 := fun Bl => G2 (fwd a.1 n, a.2) ++ (Lx ++ [Bf, .cells [.bool false] 4, .cells [.int .i64 n] 3, .obj (.deferred (some [])), Bl])) rfl rfl (fun Bl hBl => ?_) (fun Bl => ?_) (fun Bl => ?_)
  · rw [e1]
    have e2 : (G2 a ++ (Lx ++ [Bf, .cells [.bool false] 4, .cells [.int .i64 n] 3]) ++ [.obj (.deferred (some [])), Bl] : H) = G2 (fwd a.1 0, a.2) ++ (Lx ++ [Bf, .cells [.bool false] 4, .cells [.int .i64 n] 3, .obj (.deferred (some [])), Bl]) := by rw [fwd_zero]; simp
    rw [e2, e3]
    refine rows70 I (Hs := fun k => G2 (fwd a.1 k, a.2) ++ (Lx ++ [Bf, .cells [.bool false] 4, .cells [.int .i64 n] 3, .obj (.deferred (some [])), Bl])) (st := n) (bk := false) (by omega) (Nat.le_refl _)
      (fun k _ => by simp only [gh2.rd_k, getElem?_app_k]; rfl) (fun k _ => by simp only [gh2.rd_k, getElem?_app_k]; rfl) (fun k hk => ?_) (.inl ⟨rfl, rfl⟩)
    refine Snd_yieldB hBl (hgl _ _) rfl (LC_region (LC_step rfl rfl rfl (LC_nil ⟨rfl, hgl _ _, ?_⟩)))
    simp only [hpl]
    refine Run_TC (by kernel_rfl) (n := 200) ?_
    simp only [setAll, List.zip_cons_cons, List.zip_nil_right, List.foldl_cons, List.foldl_nil]
    have hk16 : k < 16 := by omega
    have k2 : (0 : Int) ≤ (k : Int) ∧ (k : Int) < ((16 : Nat) : Int) := ⟨by omega, by omega⟩
    by_cases hk0 : 0 < k
    · have c1 : (0 : Int) < (k : Int) := by omega
      have hk' : IntKind.i64.wrap ((k : Int) - 1) = ((k - 1 : Nat) : Int) := by rw [wrap_i64 (by omega) (by omega)]; omega
      have k3 : (0 : Int) ≤ ((k - 1 : Nat) : Int) ∧ ((k - 1 : Nat) : Int) < ((16 : Nat) : Int) := ⟨by omega, by omega⟩
      have k4 : k - 1 < 16 := by omega
      simp -implicitDefEqProofs only [sB, Nat.reduceAdd, Nat.reduceSub, yieldL, popK, flat, nptr, Value.cells, H.new, eq_self, Int.reduceEq, Int.reduceLT, Int.reduceLE, Nat.reduceEqDiff, Nat.reduceLeDiff, thenQ, ContK, ty2, ty3, ty4, ty5, ty22, ty24, ty78, ty81, ty90, ty97, ty116, sD, mixT, isAlloc, ridOf, blockOf, Bool.not_true, Bool.not_false, decide_true, decide_false, if_true, if_false, bl116, two_len, two_one, two_splice, two_take, st116, gh2.len, gh2.rd, gh2.rd_z, gh2.rd_k, gh2.wr, gh2.wr_z, gh2.wr_k, gh2.get_z, gh2.get_k, gh2.put_z, gh2.put_k, gh2.put, gb_rows, gb_los, gb_his, hB1, getElem?_app_k, getElem?_app_z, set_app_k, set_app_z, len_assoc, hMa, ixR, c1, hk', k2, k3, gb_lo hk16, gb_lo k4, gw_lo hk16, fwd_step a.1 hk0]
      exact ⟨effOk_of (by kernel_rfl) (by simp [gh2.len]), drawOk_ren (fun _ => 0) rfl (by kernel_rfl), hgl _ _, rfl, (hpl _ _ _).symm⟩
    · have hk00 : k = 0 := by omega
      subst hk00
      have c1 : ¬ (0 : Int) < ((0 : Nat) : Int) := by omega
      simp -implicitDefEqProofs only [sB, Nat.reduceAdd, Nat.reduceSub, yieldL, popK, flat, nptr, Value.cells, H.new, eq_self, Int.reduceEq, Int.reduceLT, Int.reduceLE, Nat.reduceEqDiff, Nat.reduceLeDiff, thenQ, ContK, ty2, ty3, ty4, ty5, ty22, ty24, ty78, ty81, ty90, ty97, ty116, sD, mixT, isAlloc, ridOf, blockOf, Bool.not_true, Bool.not_false, decide_true, decide_false, if_true, if_false, bl116, two_len, two_one, two_splice, two_take, st116, gh2.len, gh2.rd, gh2.rd_z, gh2.rd_k, gh2.wr, gh2.wr_z, gh2.wr_k, gh2.get_z, gh2.get_k, gh2.put_z, gh2.put_k, gh2.put, gb_rows, gb_los, gb_his, hB1, getElem?_app_k, getElem?_app_z, set_app_k, set_app_z, len_assoc, hMa, ixR, c1]
      rw [fwd_one, fwd_zero]
      exact ⟨hgl _ _, rfl, (hpl _ _ _).symm⟩
  · rw [e1, e3]; exact hgl _ _
  rw [e1, e3, hpl]
  clear hgl hpl e1
  simp -implicitDefEqProofs only [sB, Nat.reduceAdd, Nat.reduceSub, yieldL, popK, flat, nptr, Value.cells, H.new, eq_self, Int.reduceEq, Int.reduceLT, Int.reduceLE, Nat.reduceEqDiff, Nat.reduceLeDiff, thenQ, ContK, ty2, ty3, ty4, ty5, ty22, ty24, ty78, ty81, ty90, ty97, ty116, Bool.not_true, Bool.not_false, decide_true, decide_false, if_true, if_false, bl116, two_len, two_one, two_splice, two_take, st116, gh2.len, gh2.rd, gh2.rd_z, gh2.rd_k, gh2.wr, gh2.wr_z, gh2.wr_k, gh2.get_z, gh2.get_k, gh2.put_z, gh2.put_k, gh2.put, gb_rows, gb_los, gb_his, hB1, getElem?_app_k, getElem?_app_z, set_app_k, set_app_z, len_assoc, hMa]
  refine RunCall_of (rows58 I (pr := pr) (lo := fwd a.1 n) (hi := a.2) (by rw [gh2.rd]; exact gb_rows)) ?_
  simp -implicitDefEqProofs only [sB, Nat.reduceAdd, Nat.reduceSub, yieldL, popK, flat, nptr, Value.cells, H.new, eq_self, Int.reduceEq, Int.reduceLT, Int.reduceLE, Nat.reduceEqDiff, Nat.reduceLeDiff, thenQ, ContK, ty2, ty3, ty4, ty5, ty22, ty24, ty78, ty81, ty90, ty97, ty116, Bool.not_true, Bool.not_false, decide_true, decide_false, if_true, if_false, bl116, two_len, two_one, two_splice, two_take, st116, gh2.len, gh2.rd, gh2.rd_z, gh2.rd_k, gh2.wr, gh2.wr_z, gh2.wr_k, gh2.get_z, gh2.get_k, gh2.put_z, gh2.put_k, gh2.put, gb_rows, gb_los, gb_his, hB1, getElem?_app_k, getElem?_app_z, set_app_k, set_app_z, len_assoc, hMa]
  -- backwards
  generalize hA1 : fwd a.1 n = A1
  have e1 : ∀ (x : AA) (b1 b2 b3 b4 b5 b6 b7 : Blk), (G2 x ++ (Lx ++ [b1, b2, b3, b4, b5, b6, b7]) : H).length = M2 + (Lx.length + 7) := fun x b1 b2 b3 b4 b5 b6 b7 => by simp [gh2.len]
  have e3 : M2 + (Lx.length + 7) + 1 = M2 + (Lx.length + 8) := by omega
  have hgl : ∀ (x : AA) (B : Blk), (G2 x ++ (Lx ++ [Bf, .cells [.bool false] 4, .cells [.int .i64 n] 3, .obj (.deferred (some [])), .dead, .cells [.bool true] 4, .cells [.int .i64 n] 3, .obj (.deferred (some [])), B]) : H).get (2 * (M2 + (Lx.length + 8))) = some B := fun x B => by simp only [gh2.get_k, getElem?_app_k]; rfl
  have hpl : ∀ (x : AA) (B B' : Blk), (G2 x ++ (Lx ++ [Bf, .cells [.bool false] 4, .cells [.int .i64 n] 3, .obj (.deferred (some [])), .dead, .cells [.bool true] 4, .cells [.int .i64 n] 3, .obj (.deferred (some [])), B]) : H).put (2 * (M2 + (Lx.length + 8))) B' = G2 x ++ (Lx ++ [Bf, .cells [.bool false] 4, .cells [.int .i64 n] 3, .obj (.deferred (some [])), .dead, .cells [.bool true] 4, .cells [.int .i64 n] 3, .obj (.deferred (some [])), B']) := fun x B B' => by simp only [gh2.put_k, set_app_k]; rfl
  refine TC_rangeB (g := 70) (first := #[]) (cap := #[.pointer (some ⟨2 * (M2 + (Lx.length + 6)), 0, none⟩), .pointer (some ⟨2 * (M2 + (Lx.length + 5)), 0, none⟩)]) (v := .tuple #[])
    (h2 := fun Bl => G2 (A1, bwd a.2 n n) ++ (Lx ++ [Bf, .cells [.bool false] 4, .cells [.int .i64 n] 3, .obj (.deferred (some [])), .dead, .cells [.bool true] 4, .cells [.int .i64 n] 3, .obj (.deferred (some [])), Bl])) rfl rfl (fun Bl hBl => ?_) (fun Bl => ?_) (fun Bl => ?_)
  · rw [e1]
    have e2 : (G2 (A1, a.2) ++ (Lx ++ [Bf, .cells [.bool false] 4, .cells [.int .i64 n] 3, .obj (.deferred (some [])), .dead, .cells [.bool true] 4, .cells [.int .i64 n] 3]) ++ [.obj (.deferred (some [])), Bl] : H) = G2 (A1, bwd a.2 n 0) ++ (Lx ++ [Bf, .cells [.bool false] 4, .cells [.int .i64 n] 3, .obj (.deferred (some [])), .dead, .cells [.bool true] 4, .cells [.int .i64 n] 3, .obj (.deferred (some [])), Bl]) := by rw [bwd_zero]; simp
    rw [e2, e3]
    refine rows70 I (Hs := fun k => G2 (A1, bwd a.2 n k) ++ (Lx ++ [Bf, .cells [.bool false] 4, .cells [.int .i64 n] 3, .obj (.deferred (some [])), .dead, .cells [.bool true] 4, .cells [.int .i64 n] 3, .obj (.deferred (some [])), Bl])) (st := n) (bk := true) (by omega) (Nat.le_refl _)
      (fun k _ => by simp only [gh2.rd_k, getElem?_app_k]; rfl) (fun k _ => by simp only [gh2.rd_k, getElem?_app_k]; rfl) (fun k hk => ?_) (.inl ⟨rfl, rfl⟩)
    refine Snd_yieldB hBl (hgl _ _) rfl (LC_region (LC_step rfl rfl rfl (LC_nil ⟨rfl, hgl _ _, ?_⟩)))
    simp only [hpl]
    refine Run_TC (by kernel_rfl) (n := 200) ?_
    simp only [setAll, List.zip_cons_cons, List.zip_nil_right, List.foldl_cons, List.foldl_nil]
    have hbs := bwd_step a.2 (n := n) (k := k)
    have hix : ixR true n k = n - 1 - k := rfl
    rw [hix]
    generalize hi : n - 1 - k = i at *
    have h4 := wrap_add1 (i := i) (by omega)
    have k2 : (0 : Int) ≤ (i : Int) ∧ (i : Int) < ((16 : Nat) : Int) := ⟨by omega, by omega⟩
    have hi16 : i < 16 := by omega
    by_cases hk0 : 0 < k
    · have c1 : ((i + 1 : Nat) : Int) < (n : Int) := by omega
      have k3 : (0 : Int) ≤ ((i + 1 : Nat) : Int) ∧ ((i + 1 : Nat) : Int) < ((16 : Nat) : Int) := ⟨by omega, by omega⟩
      have k4 : i + 1 < 16 := by omega
      simp -implicitDefEqProofs only [sB, Nat.reduceAdd, Nat.reduceSub, yieldL, popK, flat, nptr, Value.cells, H.new, eq_self, Int.reduceEq, Int.reduceLT, Int.reduceLE, Nat.reduceEqDiff, Nat.reduceLeDiff, thenQ, ContK, ty2, ty3, ty4, ty5, ty22, ty24, ty78, ty81, ty90, ty97, ty116, sD, mixT, isAlloc, ridOf, blockOf, Bool.not_true, Bool.not_false, decide_true, decide_false, if_true, if_false, bl116, two_len, two_one, two_splice, two_take, st116, gh2.len, gh2.rd, gh2.rd_z, gh2.rd_k, gh2.wr, gh2.wr_z, gh2.wr_k, gh2.get_z, gh2.get_k, gh2.put_z, gh2.put_k, gh2.put, gb_rows, gb_los, gb_his, hB1, getElem?_app_k, getElem?_app_z, set_app_k, set_app_z, len_assoc, hMa, h4, c1, k2, k3, gb_hi hi16, gb_hi k4, gw_hi hi16, hbs hk0 hk]
      exact ⟨effOk_of (by kernel_rfl) (by simp [gh2.len]), drawOk_ren (fun _ => 0) rfl (by kernel_rfl), hgl _ _, rfl, (hpl _ _ _).symm⟩
    · have hk00 : k = 0 := by omega
      subst hk00
      have c1 : ¬ ((i + 1 : Nat) : Int) < (n : Int) := by omega
      simp -implicitDefEqProofs only [sB, Nat.reduceAdd, Nat.reduceSub, yieldL, popK, flat, nptr, Value.cells, H.new, eq_self, Int.reduceEq, Int.reduceLT, Int.reduceLE, Nat.reduceEqDiff, Nat.reduceLeDiff, thenQ, ContK, ty2, ty3, ty4, ty5, ty22, ty24, ty78, ty81, ty90, ty97, ty116, sD, mixT, isAlloc, ridOf, blockOf, Bool.not_true, Bool.not_false, decide_true, decide_false, if_true, if_false, bl116, two_len, two_one, two_splice, two_take, st116, gh2.len, gh2.rd, gh2.rd_z, gh2.rd_k, gh2.wr, gh2.wr_z, gh2.wr_k, gh2.get_z, gh2.get_k, gh2.put_z, gh2.put_k, gh2.put, gb_rows, gb_los, gb_his, hB1, getElem?_app_k, getElem?_app_z, set_app_k, set_app_z, len_assoc, hMa, h4, c1, k2]
      rw [bwd_one a.2 (by omega), bwd_zero]
      exact ⟨hgl _ _, rfl, (hpl _ _ _).symm⟩
  · rw [e1, e3]; exact hgl _ _
  rw [e1, e3, hpl]
  clear hgl hpl e1
  subst hb0
  generalize hA2 : bwd a.2 n n = A2
  have hAA : tightA n a0 = (A1, A2) := by
    have : tightA n a = tightA n a0 := by
      rcases ha with rfl | rfl
      · rfl
      · exact tightA_again n a0
    rw [← this]; unfold tightA; rw [hA1, hA2]
  have hdf' : ∀ id ∈ (2 * (M2 + (Lx.length + 7)) :: 2 * (M2 + (Lx.length + 3)) :: dfx), ∃ k, id = 2 * (M2 + k) ∧ (Lx ++ [Blk.cells (arrL 16 a.fst ++ arrL 16 a.snd) 116, .cells [.bool false] 4, .cells [.int .i64 n] 3, .obj (.deferred (some [])), .dead, .cells [.bool true] 4, .cells [.int .i64 n] 3, .obj (.deferred (some [])), .dead] : H)[k]? = some (.obj (.deferred (some []))) := by
    intro id' hid
    rw [List.mem_cons, List.mem_cons] at hid
    rcases hid with rfl | rfl | hid
    · exact ⟨_, rfl, by rw [getElem?_app_k]; rfl⟩
    · exact ⟨_, rfl, by rw [getElem?_app_k]; rfl⟩
    · obtain ⟨k, rfl, hk⟩ := hdf id' hid
      have hlt := (List.getElem?_eq_some_iff.1 hk).1
      exact ⟨k, rfl, by rw [List.getElem?_append_left hlt]; exact hk⟩
  have hnd' : (2 * (M2 + (Lx.length + 7)) :: 2 * (M2 + (Lx.length + 3)) :: dfx).Nodup := by
    have hlt : ∀ k, 2 * (M2 + (Lx.length + k)) ∉ dfx := by
      intro k hk
      obtain ⟨j, e, hj⟩ := hdf _ hk
      have := (List.getElem?_eq_some_iff.1 hj).1
      omega
    rw [List.nodup_cons, List.nodup_cons, List.mem_cons, not_or]
    exact ⟨⟨by omega, hlt 7⟩, hlt 3, hnd⟩
  by_cases heq : (eqN 16 a.1 A1 && eqN 16 a.2 A2) = true
  · simp -implicitDefEqProofs only [sB, Nat.reduceAdd, Nat.reduceSub, yieldL, popK, flat, nptr, Value.cells, H.new, eq_self, Int.reduceEq, Int.reduceLT, Int.reduceLE, Nat.reduceEqDiff, Nat.reduceLeDiff, thenQ, ContK, ty2, ty3, ty4, ty5, ty22, ty24, ty78, ty81, ty90, ty97, ty116, sD, mixT, isAlloc, ridOf, blockOf, Bool.not_true, Bool.not_false, decide_true, decide_false, if_true, if_false, bl116, two_len, two_one, two_splice, two_take, st116, gh2.len, gh2.rd, gh2.rd_z, gh2.rd_k, gh2.wr, gh2.wr_z, gh2.wr_k, gh2.get_z, gh2.get_k, gh2.put_z, gh2.put_k, gh2.put, gb_rows, gb_los, gb_his, hB1, getElem?_app_k, getElem?_app_z, set_app_k, set_app_z, len_assoc, hMa, eql116, heq]
    refine ⟨drawOk_ren (fun _ => 0) rfl (by kernel_rfl), ?_⟩
    generalize hLy : (Lx ++ [Blk.cells (arrL 16 a.fst ++ arrL 16 a.snd) 116, .cells [.bool false] 4, .cells [.int .i64 n] 3, .obj (.deferred (some [])), .dead, .cells [.bool true] 4, .cells [.int .i64 n] 3, .obj (.deferred (some [])), .dead] : H) = Ly at *
    generalize (2 * (M2 + (Lx.length + 7)) :: 2 * (M2 + (Lx.length + 3)) :: dfx : List Nat) = dfy at *
    refine RunCall_of (rows58 I (pr := pr) (lo := A1) (hi := A2) (by rw [gh2.rd]; exact gb_rows)) ?_
    simp -implicitDefEqProofs only [sB, Nat.reduceAdd, Nat.reduceSub, yieldL, popK, flat, nptr, Value.cells, H.new, eq_self, Int.reduceEq, Int.reduceLT, Int.reduceLE, Nat.reduceEqDiff, Nat.reduceLeDiff, thenQ, ContK, ty2, ty3, ty4, ty5, ty22, ty24, ty78, ty81, ty90, ty97, ty116, Bool.not_true, Bool.not_false, decide_true, decide_false, if_true, if_false, bl116, two_len, two_one, two_splice, two_take, st116, gh2.len, gh2.rd, gh2.rd_z, gh2.rd_k, gh2.wr, gh2.wr_z, gh2.wr_k, gh2.get_z, gh2.get_k, gh2.put_z, gh2.put_k, gh2.put, gb_rows, gb_los, gb_his, hB1, getElem?_app_k, getElem?_app_z, set_app_k, set_app_z, len_assoc, hMa]
    have e1 : ∀ (x : AA) (b1 b2 : Blk), (G2 x ++ (Ly ++ [b1, b2]) : H).length = M2 + (Ly.length + 2) := fun x b1 b2 => by simp [gh2.len]
    have e3 : M2 + (Ly.length + 2) + 1 = M2 + (Ly.length + 3) := by omega
    have hgl : ∀ (x : AA) (B : Blk), (G2 x ++ (Ly ++ [Blk.cells [.bool false] 4, .cells [.int .i64 n] 3, .obj (.deferred (some [])), B]) : H).get (2 * (M2 + (Ly.length + 3))) = some B := fun x B => by simp only [gh2.get_k, getElem?_app_k]; rfl
    have hpl : ∀ (x : AA) (B B' : Blk), (G2 x ++ (Ly ++ [Blk.cells [.bool false] 4, .cells [.int .i64 n] 3, .obj (.deferred (some [])), B]) : H).put (2 * (M2 + (Ly.length + 3))) B' = G2 x ++ (Ly ++ [Blk.cells [.bool false] 4, .cells [.int .i64 n] 3, .obj (.deferred (some [])), B']) := fun x B B' => by simp only [gh2.put_k, set_app_k]; rfl
    have hB2f : ∀ (a : AA) (l : H), wrl (G2 a ++ l) (2 * (M + 1)) 0 [.bool false] = some (G2 a ++ l) := by
      intro a l
      rw [hB2 a l false, ← List.append_assoc, hG2]
    have hdfz : ∀ (B : Blk), ∀ id ∈ (2 * (M2 + (Ly.length + 2)) :: dfy), ∃ k, id = 2 * (M + 2 + k) ∧ (Ly ++ [Blk.cells [.bool false] 4, .cells [.int .i64 n] 3, .obj (.deferred (some [])), B] : H)[k]? = some (.obj (.deferred (some []))) := by
      intro B id' hid
      rw [List.mem_cons] at hid
      rcases hid with rfl | hid
      · exact ⟨_, by rw [hM2], by rw [getElem?_app_k]; rfl⟩
      · obtain ⟨k, rfl, hk⟩ := hdf' id' hid
        have hlt := (List.getElem?_eq_some_iff.1 hk).1
        exact ⟨k, by rw [hM2], by rw [List.getElem?_append_left hlt]; exact hk⟩
    have hndz : (2 * (M2 + (Ly.length + 2)) :: dfy).Nodup := by
      rw [List.nodup_cons]
      refine ⟨fun hk => ?_, hnd'⟩
      obtain ⟨j, e, hj⟩ := hdf' _ hk
      have := (List.getElem?_eq_some_iff.1 hj).1
      omega
    rw [hAA]
    cases hcl : anyN (fun i => decide (A2 i < A1 i)) n with
    | false =>
      have htok : tightOk n a0 = true := by unfold tightOk; rw [hAA]; simp only [hcl]; rfl
      rw [htok]
      have hno : ∀ i, i < n → ¬ A2 i < A1 i := fun i hi => by simpa using any_false hcl i hi
      refine TC_rangeB (g := 70) (first := #[]) (cap := #[.pointer (some ⟨2 * (M2 + (Ly.length + 1)), 0, none⟩), .pointer (some ⟨2 * (M2 + Ly.length), 0, none⟩)]) (v := .tuple #[])
        (h2 := fun Bl => G2 (A1, A2) ++ (Ly ++ [Blk.cells [.bool false] 4, .cells [.int .i64 n] 3, .obj (.deferred (some [])), Bl])) rfl rfl (fun Bl hBl => ?_) (fun Bl => ?_) (fun Bl => ?_)
      · rw [e1, e3]
        have e2 : ∀ Bl, (G2 (A1, A2) ++ (Ly ++ [Blk.cells [.bool false] 4, .cells [.int .i64 n] 3]) ++ [.obj (.deferred (some [])), Bl] : H) = G2 (A1, A2) ++ (Ly ++ [Blk.cells [.bool false] 4, .cells [.int .i64 n] 3, .obj (.deferred (some [])), Bl]) := fun Bl => by simp
        rw [e2]
        refine rows70 I (Hs := fun k => G2 (A1, A2) ++ (Ly ++ [Blk.cells [.bool false] 4, .cells [.int .i64 n] 3, .obj (.deferred (some [])), Bl])) (st := n) (bk := false) (by omega) (Nat.le_refl _)
          (fun k _ => by simp only [gh2.rd_k, getElem?_app_k]; rfl) (fun k _ => by simp only [gh2.rd_k, getElem?_app_z]; rfl) (fun k hk => ?_) (.inl ⟨rfl, rfl⟩)
        refine Snd_yieldB hBl (hgl _ _) rfl (LC_region (LC_step rfl rfl rfl (LC_nil ⟨rfl, hgl _ _, ?_⟩)))
        simp only [hpl]
        refine Run_TC (by kernel_rfl) (n := 200) ?_
        simp only [setAll, List.zip_cons_cons, List.zip_nil_right, List.foldl_cons, List.foldl_nil]
        have hk16 : k < 16 := by omega
        have k2 : (0 : Int) ≤ (k : Int) ∧ (k : Int) < ((16 : Nat) : Int) := ⟨by omega, by omega⟩
        have c1 := hno k hk
        simp -implicitDefEqProofs only [sB, Nat.reduceAdd, Nat.reduceSub, yieldL, popK, flat, nptr, Value.cells, H.new, eq_self, Int.reduceEq, Int.reduceLT, Int.reduceLE, Nat.reduceEqDiff, Nat.reduceLeDiff, thenQ, ContK, ty2, ty3, ty4, ty5, ty22, ty24, ty78, ty81, ty90, ty97, ty116, sD, mixT, isAlloc, ridOf, blockOf, Bool.not_true, Bool.not_false, decide_true, decide_false, if_true, if_false, bl116, two_len, two_one, two_splice, two_take, st116, gh2.len, gh2.rd, gh2.rd_z, gh2.rd_k, gh2.wr, gh2.wr_z, gh2.wr_k, gh2.get_z, gh2.get_k, gh2.put_z, gh2.put_k, gh2.put, gb_rows, gb_los, gb_his, hB1, getElem?_app_k, getElem?_app_z, set_app_k, set_app_z, len_assoc, hMa, ixR, c1, k2, gb_lo hk16, gb_hi hk16]
        exact ⟨drawOk_ren (fun _ => 0) rfl (by kernel_rfl), hgl _ _, rfl, (hpl _ _ _).symm⟩
      · rw [e1, e3]; exact hgl _ _
      rw [e1, e3, hpl]
      simp -implicitDefEqProofs only [sB, Nat.reduceAdd, Nat.reduceSub, yieldL, popK, flat, nptr, Value.cells, H.new, eq_self, Int.reduceEq, Int.reduceLT, Int.reduceLE, Nat.reduceEqDiff, Nat.reduceLeDiff, thenQ, ContK, ty2, ty3, ty4, ty5, ty22, ty24, ty78, ty81, ty90, ty97, ty116, Bool.not_true, Bool.not_false, decide_true, decide_false, if_true, if_false, bl116, two_len, two_one, two_splice, two_take, st116, gh2.len, gh2.rd, gh2.rd_z, gh2.rd_k, gh2.wr, gh2.wr_z, gh2.wr_k, gh2.get_z, gh2.get_k, gh2.put_z, gh2.put_k, gh2.put, gb_rows, gb_los, gb_his, hB1, getElem?_app_k, getElem?_app_z, set_app_k, set_app_z, len_assoc, hMa, hB2]
      exact finS_G gh rfl hndz (hdfz .dead)
    | true =>
      have htok : tightOk n a0 = false := by unfold tightOk; rw [hAA]; simp only [hcl]; rfl
      rw [htok]
      obtain ⟨st, hst, hpst, hbef⟩ := first_of n hcl
      have hpst' : A2 st < A1 st := by simpa using hpst
      have hno : ∀ i, i < st → ¬ A2 i < A1 i := fun i hi => by simpa using hbef i hi
      refine TC_rangeR (g := 70) (first := #[]) (cap := #[.pointer (some ⟨2 * (M2 + (Ly.length + 1)), 0, none⟩), .pointer (some ⟨2 * (M2 + Ly.length), 0, none⟩)]) (v := .tuple #[])
        (h2 := fun Bl => G2 (A1, A2) ++ (Ly ++ [Blk.cells [.bool false] 4, .cells [.int .i64 n] 3, .obj (.deferred (some [])), retB Bl])) rfl rfl (fun Bl hBl => ?_) (fun Bl => ?_) (fun Bl => ?_)
      · rw [e1, e3]
        have e2 : ∀ Bl, (G2 (A1, A2) ++ (Ly ++ [Blk.cells [.bool false] 4, .cells [.int .i64 n] 3]) ++ [.obj (.deferred (some [])), Bl] : H) = G2 (A1, A2) ++ (Ly ++ [Blk.cells [.bool false] 4, .cells [.int .i64 n] 3, .obj (.deferred (some [])), Bl]) := fun Bl => by simp
        rw [e2]
        refine rows70 I (Hs := fun k => G2 (A1, A2) ++ (Ly ++ [Blk.cells [.bool false] 4, .cells [.int .i64 n] 3, .obj (.deferred (some [])), Bl])) (st := st) (bk := false) (by omega) (by omega)
          (fun k _ => by simp only [gh2.rd_k, getElem?_app_k]; rfl) (fun k _ => by simp only [gh2.rd_k, getElem?_app_z]; rfl) (fun k hk => ?_) (.inr ⟨hst, ?_⟩)
        · refine Snd_yieldB hBl (hgl _ _) rfl (LC_region (LC_step rfl rfl rfl (LC_nil ⟨rfl, hgl _ _, ?_⟩)))
          simp only [hpl]
          refine Run_TC (by kernel_rfl) (n := 200) ?_
          simp only [setAll, List.zip_cons_cons, List.zip_nil_right, List.foldl_cons, List.foldl_nil]
          have hk16 : k < 16 := by omega
          have k2 : (0 : Int) ≤ (k : Int) ∧ (k : Int) < ((16 : Nat) : Int) := ⟨by omega, by omega⟩
          have c1 := hno k hk
          simp -implicitDefEqProofs only [sB, Nat.reduceAdd, Nat.reduceSub, yieldL, popK, flat, nptr, Value.cells, H.new, eq_self, Int.reduceEq, Int.reduceLT, Int.reduceLE, Nat.reduceEqDiff, Nat.reduceLeDiff, thenQ, ContK, ty2, ty3, ty4, ty5, ty22, ty24, ty78, ty81, ty90, ty97, ty116, sD, mixT, isAlloc, ridOf, blockOf, Bool.not_true, Bool.not_false, decide_true, decide_false, if_true, if_false, bl116, two_len, two_one, two_splice, two_take, st116, gh2.len, gh2.rd, gh2.rd_z, gh2.rd_k, gh2.wr, gh2.wr_z, gh2.wr_k, gh2.get_z, gh2.get_k, gh2.put_z, gh2.put_k, gh2.put, gb_rows, gb_los, gb_his, hB1, getElem?_app_k, getElem?_app_z, set_app_k, set_app_z, len_assoc, hMa, ixR, c1, k2, gb_lo hk16, gb_hi hk16]
          exact ⟨drawOk_ren (fun _ => 0) rfl (by kernel_rfl), hgl _ _, rfl, (hpl _ _ _).symm⟩
        · refine Snd_yieldB hBl (hgl _ _) rfl (LC_region (LC_step rfl rfl rfl (LC_nil ⟨rfl, hgl _ _, ?_⟩)))
          simp only [hpl]
          refine Run_TC (by kernel_rfl) (n := 200) ?_
          simp only [setAll, List.zip_cons_cons, List.zip_nil_right, List.foldl_cons, List.foldl_nil]
          have hk16 : st < 16 := by omega
          have k2 : (0 : Int) ≤ (st : Int) ∧ (st : Int) < ((16 : Nat) : Int) := ⟨by omega, by omega⟩
          simp -implicitDefEqProofs only [sB, Nat.reduceAdd, Nat.reduceSub, yieldL, popK, flat, nptr, Value.cells, H.new, eq_self, Int.reduceEq, Int.reduceLT, Int.reduceLE, Nat.reduceEqDiff, Nat.reduceLeDiff, thenQ, ContK, ty2, ty3, ty4, ty5, ty22, ty24, ty78, ty81, ty90, ty97, ty116, sD, mixT, isAlloc, ridOf, blockOf, Bool.not_true, Bool.not_false, decide_true, decide_false, if_true, if_false, bl116, two_len, two_one, two_splice, two_take, st116, gh2.len, gh2.rd, gh2.rd_z, gh2.rd_k, gh2.wr, gh2.wr_z, gh2.wr_k, gh2.get_z, gh2.get_k, gh2.put_z, gh2.put_k, gh2.put, gb_rows, gb_los, gb_his, hB1, getElem?_app_k, getElem?_app_z, set_app_k, set_app_z, len_assoc, hMa, ixR, hpst', k2, gb_lo hk16, gb_hi hk16, hB2f]
          exact ⟨drawOk_ren (fun _ => 0) rfl (by kernel_rfl), hgl _ _, rfl, (hpl _ _ _).symm⟩
      · rw [e1, e3]; exact hgl _ _
      rw [e1, e3, hpl]
      simp only [ContK, thenQ]
      rw [← hG2, List.append_assoc]
      exact finS_G gh rfl hndz (hdfz .dead)
  · simp only [Bool.not_eq_true] at heq
    simp -implicitDefEqProofs only [sB, Nat.reduceAdd, Nat.reduceSub, yieldL, popK, flat, nptr, Value.cells, H.new, eq_self, Int.reduceEq, Int.reduceLT, Int.reduceLE, Nat.reduceEqDiff, Nat.reduceLeDiff, thenQ, ContK, ty2, ty3, ty4, ty5, ty22, ty24, ty78, ty81, ty90, ty97, ty116, sD, mixT, isAlloc, ridOf, blockOf, Bool.not_true, Bool.not_false, decide_true, decide_false, if_true, if_false, bl116, two_len, two_one, two_splice, two_take, st116, gh2.len, gh2.rd, gh2.rd_z, gh2.rd_k, gh2.wr, gh2.wr_z, gh2.wr_k, gh2.get_z, gh2.get_k, gh2.put_z, gh2.put_k, gh2.put, gb_rows, gb_los, gb_his, hB1, getElem?_app_k, getElem?_app_z, set_app_k, set_app_z, len_assoc, hMa, eql116, heq]
    have hne : a ≠ tightA n a0 := by
      intro e
      rw [hAA] at e
      rw [e, eqN_iff.2 (fun i hi => rfl), eqN_iff.2 (fun i hi => rfl)] at heq
      cases heq
    refine ⟨drawOk_ren (fun _ => 0) rfl (by kernel_rfl), by rw [hJa]; exact ⟨(A1, A2), _, _, rfl, rfl, rfl, rfl, rfl, Or.inr hAA.symm, hnd', hdf'⟩, ?_⟩
    rw [muG_yes (by rw [H.get_append (gh2.get _), hAA]), muG_no]
    · exact Nat.zero_lt_one
    · rw [H.get_append (gh2.get _)]
      intro e
      have e2 := gBl_eqN (Option.some.inj e)
      rw [hAA] at e2
      rw [e2] at heq; cases heq
end Go.Proofs.Ytcocmbccfikmhaa
