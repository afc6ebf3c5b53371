/- Contract: Next of the reference (own texts put together: D11 D12 D13) -/
import Derived.Test.YtpgignenhiddkaaM11
import Derived.Test.YtpgignenhiddkaaM4
set_option linter.unusedSimpArgs false
set_option linter.unusedVariables false
namespace Go.Proofs.Ytpgignenhiddkaa
open Go.Sym
attribute [local irreducible] Run RunS RunG RunDG RunDS RunDE RunDA RunDC RunCall RunX RunB
/-- how many of the first k of a list are in a section -/
def rC (m : Nat) (x f : Nat → Int) : Nat → Nat
  | 0 => 0
  | k + 1 => if inB m x (f k) then rC m x f k + 1 else rC m x f k
theorem rC_le (m : Nat) (x f : Nat → Int) : ∀ k, rC m x f k ≤ k
  | 0 => Nat.le_refl _
  | k + 1 => by
    have := rC_le m x f k
    show (if inB m x (f k) then _ else _) ≤ _
    split <;> omega
theorem rC_congr {m : Nat} {x f g : Nat → Int} : ∀ k, (∀ j, j < k → f j = g j) → rC m x f k = rC m x g k
  | 0, _ => rfl
  | k + 1, h => by
    show (if inB m x (f k) then _ else _) = (if inB m x (g k) then _ else _)
    rw [h k (by omega), rC_congr k (fun j hj => h j (by omega))]
theorem rC_eq {T : TD} {m : Nat} {x : Nat → Int} : ∀ k, rC m x (fS T k) (cS T k) = inC T m x k
  | 0 => rfl
  | k + 1 => by
    have ih := rC_eq (T := T) (m := m) (x := x) k
    have hi : inC T m x (k + 1) = if sus T k && inB m x k then inC T m x k + 1 else inC T m x k := rfl
    rw [hi]
    cases hs : sus T k with
    | true =>
      rw [cS_yes hs]
      have e : rC m x (fS T (k + 1)) (cS T k) = rC m x (fS T k) (cS T k) := rC_congr _ fun j hj => by rw [fS_yes hs]; unfold upd; rw [if_neg (by omega)]
      show (if inB m x (fS T (k + 1) (cS T k)) then _ else _) = _
      rw [fS_at hs, e, ih, Bool.true_and]
    | false =>
      rw [cS_no hs, fS_no hs, ih]
      simp
def lstI (Bf : Nat → Int) : Nat → Int
  | 0 => 1000
  | i + 1 => if Bf i < lstI Bf i then Bf i else lstI Bf i
def bstI (Bf : Nat → Int) : Nat → Int
  | 0 => 0
  | i + 1 => if Bf i < lstI Bf i then (i : Int) else bstI Bf i
theorem bst_best {Bf : Nat → Int} (h : Bf 0 < 1000) : ∀ i, bstI Bf (i + 1) = (bestI Bf i : Int) ∧ lstI Bf (i + 1) = Bf (bestI Bf i)
  | 0 => by
    constructor
    · show (if Bf 0 < 1000 then ((0 : Nat) : Int) else 0) = _
      rw [if_pos h]; rfl
    · show (if Bf 0 < 1000 then Bf 0 else 1000) = _
      rw [if_pos h]; rfl
  | i + 1 => by
    obtain ⟨h1, h2⟩ := bst_best h i
    constructor
    · show (if Bf (i + 1) < lstI Bf (i + 1) then ((i + 1 : Nat) : Int) else bstI Bf (i + 1)) = ((if Bf (i + 1) < Bf (bestI Bf i) then i + 1 else bestI Bf i : Nat) : Int)
      rw [h1, h2]; split <;> rfl
    · show (if Bf (i + 1) < lstI Bf (i + 1) then Bf (i + 1) else lstI Bf (i + 1)) = Bf (if Bf (i + 1) < Bf (bestI Bf i) then i + 1 else bestI Bf i)
      rw [h2]; split <;> rfl

set_option maxRecDepth 100000 in
set_option maxHeartbeats 4000000 in
theorem next51 (I : Nat → Option Obj) {h : H} {v sv : Value} {T : TD} {S : SD} {parts : Int} (hv : Tests I h v T) (hs : Secs I h sv S) :
    Snd Try.prog I (.func 51) [.int .i64 parts, v, sv] h (nextV parts T S) h := by
  have hs0 := hs
  obtain ⟨qs, cs, rfl, hn, hqs⟩ := hs.sl
  refine Snd_run0 (rs := [.tmp 6, .tmp 7, .tmp 8]) 900 Try.func51 (by kernel_rfl) rfl Try.ntmps51 rfl nextV_flat ?_
  simp -implicitDefEqProofs only [sB, Nat.reduceAdd, Nat.reduceSub, yieldL, popK, flat, nptr, Value.cells, H.new, eq_self, Int.reduceEq, Int.reduceLT, Int.reduceLE, Nat.reduceEqDiff, Nat.reduceLeDiff, thenQ, ContK, ty2, ty3, ty4, ty5, ty22, ty23, ty27, ty64, ty77, ty79, Bool.not_true, Bool.not_false, decide_true, decide_false, if_true, if_false, unk1, unk2, z00, zn1]
  by_cases he : testsE parts T = 0
  case neg =>
    refine RunCall_of (suspects48_err I hv he) ?_
    simp -implicitDefEqProofs only [sB, Nat.reduceAdd, Nat.reduceSub, yieldL, popK, flat, nptr, Value.cells, H.new, eq_self, Int.reduceEq, Int.reduceLT, Int.reduceLE, Nat.reduceEqDiff, Nat.reduceLeDiff, thenQ, ContK, ty2, ty3, ty4, ty5, ty22, ty23, ty27, ty64, ty77, ty79, Bool.not_true, Bool.not_false, decide_true, decide_false, if_true, if_false, unk1, unk2, z00, zn1, he]
    exact ⟨⟨[], by simp⟩, by unfold nextV tupI; rw [if_pos he]⟩
  have t := tests_ok he
  obtain ⟨pn, rfl⟩ : ∃ pn : Nat, parts = pn := ⟨parts.toNat, by have := t.p1; omega⟩
  refine RunCall_of (suspects48 I hv he) ?_
  have hse : Sees I (h ++ deadBut (nbR T pn) (qiR T pn) (rowS (cS T pn) (fS T pn)) : H) (slA (2 * (h.length + qiR T pn)) (cS T pn)) (cS T pn) (fS T pn) := by
    by_cases c0 : cS T pn = 0
    · rw [c0]; exact Sees.nil
    · exact ⟨_, _, slA_pos c0, by have := cS_le T pn; have := t.p12; omega, fun _ => ⟨_, 0, rfl, fun k hk => by
        rw [Nat.zero_add]
        refine rd_arrRow (e := 3) ?_ hk
        rw [deadBut_at (qiR_lt T pn c0)]; unfold rowS; rw [if_neg c0]⟩⟩
  obtain ⟨p9, c9, e9, _, hr9⟩ := hse
  rw [e9]
  by_cases c1 : S.n = 0
  · have c1' : (S.n : Int) < 1 := by omega
    simp -implicitDefEqProofs only [sB, Nat.reduceAdd, Nat.reduceSub, yieldL, popK, flat, nptr, Value.cells, H.new, eq_self, Int.reduceEq, Int.reduceLT, Int.reduceLE, Nat.reduceEqDiff, Nat.reduceLeDiff, thenQ, ContK, ty2, ty3, ty4, ty5, ty22, ty23, ty27, ty64, ty77, ty79, Bool.not_true, Bool.not_false, decide_true, decide_false, if_true, if_false, unk1, unk2, z00, zn1, he, c1']
    exact ⟨⟨_, rfl⟩, by unfold nextV tupI; rw [if_neg (by rw [he]; simp), if_pos (.inl c1)]⟩
  by_cases c2 : 40 < S.n
  · have c1' : ¬ (S.n : Int) < 1 := by omega
    have c2' : (40 : Int) < (S.n : Int) := by omega
    simp -implicitDefEqProofs only [sB, Nat.reduceAdd, Nat.reduceSub, yieldL, popK, flat, nptr, Value.cells, H.new, eq_self, Int.reduceEq, Int.reduceLT, Int.reduceLE, Nat.reduceEqDiff, Nat.reduceLeDiff, thenQ, ContK, ty2, ty3, ty4, ty5, ty22, ty23, ty27, ty64, ty77, ty79, Bool.not_true, Bool.not_false, decide_true, decide_false, if_true, if_false, unk1, unk2, z00, zn1, he, c1', c2']
    exact ⟨⟨_, rfl⟩, by unfold nextV tupI; rw [if_neg (by rw [he]; simp), if_pos (.inr c2)]⟩
  have c1' : ¬ (S.n : Int) < 1 := by omega
  have c2' : ¬ (40 : Int) < (S.n : Int) := by omega
  simp -implicitDefEqProofs only [sB, Nat.reduceAdd, Nat.reduceSub, yieldL, popK, flat, nptr, Value.cells, H.new, eq_self, Int.reduceEq, Int.reduceLT, Int.reduceLE, Nat.reduceEqDiff, Nat.reduceLeDiff, thenQ, ContK, ty2, ty3, ty4, ty5, ty22, ty23, ty27, ty64, ty77, ty79, Bool.not_true, Bool.not_false, decide_true, decide_false, if_true, if_false, unk1, unk2, z00, zn1, he, c1', c2']
  obtain ⟨Ja, hJa⟩ : ∃ J : St → Prop, J = fun s => ∃ (k : Nat), s.df = [] ∧ s.h = h ++ deadBut (nbR T pn) (qiR T pn) (rowS (cS T pn) (fS T pn)) ∧ s.tm.length = 87 ∧ s.tm.getD 0 undef = .int .i64 pn ∧ s.tm.getD 2 undef = .slice qs S.n cs ∧ s.tm.getD 9 undef = .slice p9 (cS T pn) c9 ∧ s.tm.getD 11 undef = .int .i64 k ∧ (k ≤ S.n) ∧ (∀ j, j < k → secOk pn S j = true) := ⟨_, rfl⟩
  refine Loop_run (by kernel_rfl) 700 Ja (muI 11 S.n) (by rw [hJa]; exact ⟨0, rfl, rfl, rfl, rfl, rfl, rfl, rfl, Nat.zero_le _, fun j hj => by omega⟩) ?_
  intro sa hsa
  rw [hJa] at hsa
  obtain ⟨tma, dfa, hha⟩ := sa
  obtain ⟨k, ea1, ea2, ea3, la0, la2, la9, la11, hk, hp⟩ := hsa
  simp only at ea1 ea2 ea3 la0 la2 la9 la11
  subst dfa; subst hha
  have elita : tma = [.int .i64 pn, tma.getD 1 undef, .slice qs S.n cs, tma.getD 3 undef, tma.getD 4 undef, tma.getD 5 undef, tma.getD 6 undef, tma.getD 7 undef, tma.getD 8 undef, .slice p9 (cS T pn) c9, tma.getD 10 undef, .int .i64 k, tma.getD 12 undef, tma.getD 13 undef, tma.getD 14 undef, tma.getD 15 undef, tma.getD 16 undef, tma.getD 17 undef, tma.getD 18 undef, tma.getD 19 undef, tma.getD 20 undef, tma.getD 21 undef, tma.getD 22 undef, tma.getD 23 undef, tma.getD 24 undef, tma.getD 25 undef, tma.getD 26 undef, tma.getD 27 undef, tma.getD 28 undef, tma.getD 29 undef, tma.getD 30 undef, tma.getD 31 undef, tma.getD 32 undef, tma.getD 33 undef, tma.getD 34 undef, tma.getD 35 undef, tma.getD 36 undef, tma.getD 37 undef, tma.getD 38 undef, tma.getD 39 undef, tma.getD 40 undef, tma.getD 41 undef, tma.getD 42 undef, tma.getD 43 undef, tma.getD 44 undef, tma.getD 45 undef, tma.getD 46 undef, tma.getD 47 undef, tma.getD 48 undef, tma.getD 49 undef, tma.getD 50 undef, tma.getD 51 undef, tma.getD 52 undef, tma.getD 53 undef, tma.getD 54 undef, tma.getD 55 undef, tma.getD 56 undef, tma.getD 57 undef, tma.getD 58 undef, tma.getD 59 undef, tma.getD 60 undef, tma.getD 61 undef, tma.getD 62 undef, tma.getD 63 undef, tma.getD 64 undef, tma.getD 65 undef, tma.getD 66 undef, tma.getD 67 undef, tma.getD 68 undef, tma.getD 69 undef, tma.getD 70 undef, tma.getD 71 undef, tma.getD 72 undef, tma.getD 73 undef, tma.getD 74 undef, tma.getD 75 undef, tma.getD 76 undef, tma.getD 77 undef, tma.getD 78 undef, tma.getD 79 undef, tma.getD 80 undef, tma.getD 81 undef, tma.getD 82 undef, tma.getD 83 undef, tma.getD 84 undef, tma.getD 85 undef, tma.getD 86 undef] := by
    have e0 := lit_eq ea3
    have er : List.range 87 = [0, 1, 2, 3, 4, 5, 6, 7, 8, 9, 10, 11, 12, 13, 14, 15, 16, 17, 18, 19, 20, 21, 22, 23, 24, 25, 26, 27, 28, 29, 30, 31, 32, 33, 34, 35, 36, 37, 38, 39, 40, 41, 42, 43, 44, 45, 46, 47, 48, 49, 50, 51, 52, 53, 54, 55, 56, 57, 58, 59, 60, 61, 62, 63, 64, 65, 66, 67, 68, 69, 70, 71, 72, 73, 74, 75, 76, 77, 78, 79, 80, 81, 82, 83, 84, 85, 86] := by rfl
    rw [er] at e0
    simp only [List.map_cons, List.map_nil, la0, la2, la9, la11] at e0
    exact e0
  rw [elita]
  clear la0
  clear la2
  clear la9
  clear la11
  clear elita ea3
  by_cases hkn : k < S.n
  · obtain ⟨id, off, rfl, hr⟩ := hqs (by omega)
    have h1 : (k : Int) < (S.n : Int) := by omega
    have h2 : (0 : Int) ≤ (k : Int) ∧ (k : Int) < (S.n : Int) := ⟨by omega, h1⟩
    have h3 := rdl_mono (hr k hkn)
    have h4 := wrap_add1 (i := k) (by omega)
    simp -implicitDefEqProofs only [sB, Nat.reduceAdd, Nat.reduceSub, yieldL, popK, flat, nptr, Value.cells, H.new, eq_self, Int.reduceEq, Int.reduceLT, Int.reduceLE, Nat.reduceEqDiff, Nat.reduceLeDiff, thenQ, ContK, ty2, ty3, ty4, ty5, ty22, ty23, ty27, ty64, ty77, ty79, Bool.not_true, Bool.not_false, decide_true, decide_false, if_true, if_false, unk1, unk2, z00, zn1, h1, h2, h3]
    refine RunCall_of (isSection92 I ((hs0.pt k hkn).app _)) ?_
    cases hsk : secB pn (S.m k) (S.x k) with
    | false =>
      simp -implicitDefEqProofs only [sB, Nat.reduceAdd, Nat.reduceSub, yieldL, popK, flat, nptr, Value.cells, H.new, eq_self, Int.reduceEq, Int.reduceLT, Int.reduceLE, Nat.reduceEqDiff, Nat.reduceLeDiff, thenQ, ContK, ty2, ty3, ty4, ty5, ty22, ty23, ty27, ty64, ty77, ty79, Bool.not_true, Bool.not_false, decide_true, decide_false, if_true, if_false, unk1, unk2, z00, zn1]
      exact ⟨⟨_, rfl⟩, by unfold nextV tupI; rw [if_neg (by rw [he]; simp), if_neg (by omega), if_pos (anyN_iff.2 ⟨k, hkn, by unfold secOk; rw [hsk]; rfl⟩)]⟩
    | true =>
      simp -implicitDefEqProofs only [sB, Nat.reduceAdd, Nat.reduceSub, yieldL, popK, flat, nptr, Value.cells, H.new, eq_self, Int.reduceEq, Int.reduceLT, Int.reduceLE, Nat.reduceEqDiff, Nat.reduceLeDiff, thenQ, ContK, ty2, ty3, ty4, ty5, ty22, ty23, ty27, ty64, ty77, ty79, Bool.not_true, Bool.not_false, decide_true, decide_false, if_true, if_false, unk1, unk2, z00, zn1, h4]
      refine ⟨by rw [hJa]; exact ⟨k + 1, rfl, rfl, rfl, rfl, rfl, rfl, rfl, by omega, fun j hj => by by_cases e : j = k; (subst e; exact hsk); exact hp j (by omega)⟩, ?_⟩
      show S.n - ((k + 1 : Nat) : Int).toNat < S.n - (k : Int).toNat
      omega
  have h1 : ¬ (k : Int) < (S.n : Int) := by omega
  have hkn' : k = S.n := by omega
  subst hkn'
  have hV : nextV pn T S = tupI (bestI (leftS T pn S) (S.n - 1)) (leftS T pn S (bestI (leftS T pn S) (S.n - 1))) 0 := by
    unfold nextV; rw [if_neg (by rw [he]; simp), if_neg (by omega), if_neg (by rw [any_none (fun i hi => by rw [hp i hi]; rfl)]; simp), Int.toNat_natCast]
  clear hp hk
  have hp12 := t.p12
  have hc12 := cS_le T pn
  have hl12 : ∀ i, 0 ≤ leftS T pn S i ∧ leftS T pn S i ≤ 12 := fun i => by
    have := inC_le T (S.m i) (S.x i) pn
    unfold leftS
    omega
  simp -implicitDefEqProofs only [sB, Nat.reduceAdd, Nat.reduceSub, yieldL, popK, flat, nptr, Value.cells, H.new, eq_self, Int.reduceEq, Int.reduceLT, Int.reduceLE, Nat.reduceEqDiff, Nat.reduceLeDiff, thenQ, ContK, ty2, ty3, ty4, ty5, ty22, ty23, ty27, ty64, ty77, ty79, Bool.not_true, Bool.not_false, decide_true, decide_false, if_true, if_false, unk1, unk2, z00, zn1, h1]
  obtain ⟨Jb, hJb⟩ : ∃ J : St → Prop, J = fun s => ∃ (i : Nat), s.df = [] ∧ s.h = h ++ deadBut (nbR T pn) (qiR T pn) (rowS (cS T pn) (fS T pn)) ∧ s.tm.length = 87 ∧ s.tm.getD 2 undef = .slice qs S.n cs ∧ s.tm.getD 9 undef = .slice p9 (cS T pn) c9 ∧ s.tm.getD 12 undef = .int .i64 (bstI (leftS T pn S) i) ∧ s.tm.getD 13 undef = .int .i64 (lstI (leftS T pn S) i) ∧ s.tm.getD 14 undef = .int .i64 i ∧ (i ≤ S.n) := ⟨_, rfl⟩
  refine Loop_run (by kernel_rfl) 700 Jb (muI 14 S.n) (by rw [hJb]; exact ⟨0, rfl, rfl, rfl, rfl, rfl, rfl, rfl, rfl, Nat.zero_le _⟩) ?_
  intro sb hsb
  rw [hJb] at hsb
  obtain ⟨tmb, dfb, hhb⟩ := sb
  obtain ⟨i, eb1, eb2, eb3, lb2, lb9, lb12, lb13, lb14, hi⟩ := hsb
  simp only at eb1 eb2 eb3 lb2 lb9 lb12 lb13 lb14
  subst dfb; subst hhb
  have elitb : tmb = [tmb.getD 0 undef, tmb.getD 1 undef, .slice qs S.n cs, tmb.getD 3 undef, tmb.getD 4 undef, tmb.getD 5 undef, tmb.getD 6 undef, tmb.getD 7 undef, tmb.getD 8 undef, .slice p9 (cS T pn) c9, tmb.getD 10 undef, tmb.getD 11 undef, .int .i64 (bstI (leftS T pn S) i), .int .i64 (lstI (leftS T pn S) i), .int .i64 i, tmb.getD 15 undef, tmb.getD 16 undef, tmb.getD 17 undef, tmb.getD 18 undef, tmb.getD 19 undef, tmb.getD 20 undef, tmb.getD 21 undef, tmb.getD 22 undef, tmb.getD 23 undef, tmb.getD 24 undef, tmb.getD 25 undef, tmb.getD 26 undef, tmb.getD 27 undef, tmb.getD 28 undef, tmb.getD 29 undef, tmb.getD 30 undef, tmb.getD 31 undef, tmb.getD 32 undef, tmb.getD 33 undef, tmb.getD 34 undef, tmb.getD 35 undef, tmb.getD 36 undef, tmb.getD 37 undef, tmb.getD 38 undef, tmb.getD 39 undef, tmb.getD 40 undef, tmb.getD 41 undef, tmb.getD 42 undef, tmb.getD 43 undef, tmb.getD 44 undef, tmb.getD 45 undef, tmb.getD 46 undef, tmb.getD 47 undef, tmb.getD 48 undef, tmb.getD 49 undef, tmb.getD 50 undef, tmb.getD 51 undef, tmb.getD 52 undef, tmb.getD 53 undef, tmb.getD 54 undef, tmb.getD 55 undef, tmb.getD 56 undef, tmb.getD 57 undef, tmb.getD 58 undef, tmb.getD 59 undef, tmb.getD 60 undef, tmb.getD 61 undef, tmb.getD 62 undef, tmb.getD 63 undef, tmb.getD 64 undef, tmb.getD 65 undef, tmb.getD 66 undef, tmb.getD 67 undef, tmb.getD 68 undef, tmb.getD 69 undef, tmb.getD 70 undef, tmb.getD 71 undef, tmb.getD 72 undef, tmb.getD 73 undef, tmb.getD 74 undef, tmb.getD 75 undef, tmb.getD 76 undef, tmb.getD 77 undef, tmb.getD 78 undef, tmb.getD 79 undef, tmb.getD 80 undef, tmb.getD 81 undef, tmb.getD 82 undef, tmb.getD 83 undef, tmb.getD 84 undef, tmb.getD 85 undef, tmb.getD 86 undef] := by
    have e0 := lit_eq eb3
    have er : List.range 87 = [0, 1, 2, 3, 4, 5, 6, 7, 8, 9, 10, 11, 12, 13, 14, 15, 16, 17, 18, 19, 20, 21, 22, 23, 24, 25, 26, 27, 28, 29, 30, 31, 32, 33, 34, 35, 36, 37, 38, 39, 40, 41, 42, 43, 44, 45, 46, 47, 48, 49, 50, 51, 52, 53, 54, 55, 56, 57, 58, 59, 60, 61, 62, 63, 64, 65, 66, 67, 68, 69, 70, 71, 72, 73, 74, 75, 76, 77, 78, 79, 80, 81, 82, 83, 84, 85, 86] := by rfl
    rw [er] at e0
    simp only [List.map_cons, List.map_nil, lb2, lb9, lb12, lb13, lb14] at e0
    exact e0
  rw [elitb]
  clear lb2
  clear lb9
  clear lb12
  clear lb13
  clear lb14
  clear elitb eb3
  by_cases hin : i < S.n
  · obtain ⟨id, off, rfl, hr⟩ := hqs (by omega)
    have i1 : (i : Int) < (S.n : Int) := by omega
    have i2 : (0 : Int) ≤ (i : Int) ∧ (i : Int) < (S.n : Int) := ⟨by omega, i1⟩
    have i3 := rdl_mono (hr i hin)
    have i4 := wrap_add1 (i := i) (by omega)
    simp -implicitDefEqProofs only [sB, Nat.reduceAdd, Nat.reduceSub, yieldL, popK, flat, nptr, Value.cells, H.new, eq_self, Int.reduceEq, Int.reduceLT, Int.reduceLE, Nat.reduceEqDiff, Nat.reduceLeDiff, thenQ, ContK, ty2, ty3, ty4, ty5, ty22, ty23, ty27, ty64, ty77, ty79, Bool.not_true, Bool.not_false, decide_true, decide_false, if_true, if_false, unk1, unk2, z00, zn1, i1]
    obtain ⟨Jc, hJc⟩ : ∃ J : St → Prop, J = fun s => ∃ (j : Nat), s.df = [] ∧ s.h = h ++ deadBut (nbR T pn) (qiR T pn) (rowS (cS T pn) (fS T pn)) ∧ s.tm.length = 87 ∧ s.tm.getD 2 undef = .slice (some ⟨id, off, none⟩) S.n cs ∧ s.tm.getD 9 undef = .slice p9 (cS T pn) c9 ∧ s.tm.getD 12 undef = .int .i64 (bstI (leftS T pn S) i) ∧ s.tm.getD 13 undef = .int .i64 (lstI (leftS T pn S) i) ∧ s.tm.getD 14 undef = .int .i64 i ∧ s.tm.getD 15 undef = .int .i64 (rC (S.m i) (S.x i) (fS T pn) j) ∧ s.tm.getD 16 undef = .int .i64 j ∧ (j ≤ cS T pn) := ⟨_, rfl⟩
    refine Loop_run (by kernel_rfl) 700 Jc (muI 16 (cS T pn)) (by rw [hJc]; exact ⟨0, rfl, rfl, rfl, rfl, rfl, rfl, rfl, rfl, rfl, rfl, Nat.zero_le _⟩) ?_
    intro sc hsc
    rw [hJc] at hsc
    obtain ⟨tmc, dfc, hhc⟩ := sc
    obtain ⟨j, ec1, ec2, ec3, lc2, lc9, lc12, lc13, lc14, lc15, lc16, hj⟩ := hsc
    simp only at ec1 ec2 ec3 lc2 lc9 lc12 lc13 lc14 lc15 lc16
    subst dfc; subst hhc
    have elitc : tmc = [tmc.getD 0 undef, tmc.getD 1 undef, .slice (some ⟨id, off, none⟩) S.n cs, tmc.getD 3 undef, tmc.getD 4 undef, tmc.getD 5 undef, tmc.getD 6 undef, tmc.getD 7 undef, tmc.getD 8 undef, .slice p9 (cS T pn) c9, tmc.getD 10 undef, tmc.getD 11 undef, .int .i64 (bstI (leftS T pn S) i), .int .i64 (lstI (leftS T pn S) i), .int .i64 i, .int .i64 (rC (S.m i) (S.x i) (fS T pn) j), .int .i64 j, tmc.getD 17 undef, tmc.getD 18 undef, tmc.getD 19 undef, tmc.getD 20 undef, tmc.getD 21 undef, tmc.getD 22 undef, tmc.getD 23 undef, tmc.getD 24 undef, tmc.getD 25 undef, tmc.getD 26 undef, tmc.getD 27 undef, tmc.getD 28 undef, tmc.getD 29 undef, tmc.getD 30 undef, tmc.getD 31 undef, tmc.getD 32 undef, tmc.getD 33 undef, tmc.getD 34 undef, tmc.getD 35 undef, tmc.getD 36 undef, tmc.getD 37 undef, tmc.getD 38 undef, tmc.getD 39 undef, tmc.getD 40 undef, tmc.getD 41 undef, tmc.getD 42 undef, tmc.getD 43 undef, tmc.getD 44 undef, tmc.getD 45 undef, tmc.getD 46 undef, tmc.getD 47 undef, tmc.getD 48 undef, tmc.getD 49 undef, tmc.getD 50 undef, tmc.getD 51 undef, tmc.getD 52 undef, tmc.getD 53 undef, tmc.getD 54 undef, tmc.getD 55 undef, tmc.getD 56 undef, tmc.getD 57 undef, tmc.getD 58 undef, tmc.getD 59 undef, tmc.getD 60 undef, tmc.getD 61 undef, tmc.getD 62 undef, tmc.getD 63 undef, tmc.getD 64 undef, tmc.getD 65 undef, tmc.getD 66 undef, tmc.getD 67 undef, tmc.getD 68 undef, tmc.getD 69 undef, tmc.getD 70 undef, tmc.getD 71 undef, tmc.getD 72 undef, tmc.getD 73 undef, tmc.getD 74 undef, tmc.getD 75 undef, tmc.getD 76 undef, tmc.getD 77 undef, tmc.getD 78 undef, tmc.getD 79 undef, tmc.getD 80 undef, tmc.getD 81 undef, tmc.getD 82 undef, tmc.getD 83 undef, tmc.getD 84 undef, tmc.getD 85 undef, tmc.getD 86 undef] := by
      have e0 := lit_eq ec3
      have er : List.range 87 = [0, 1, 2, 3, 4, 5, 6, 7, 8, 9, 10, 11, 12, 13, 14, 15, 16, 17, 18, 19, 20, 21, 22, 23, 24, 25, 26, 27, 28, 29, 30, 31, 32, 33, 34, 35, 36, 37, 38, 39, 40, 41, 42, 43, 44, 45, 46, 47, 48, 49, 50, 51, 52, 53, 54, 55, 56, 57, 58, 59, 60, 61, 62, 63, 64, 65, 66, 67, 68, 69, 70, 71, 72, 73, 74, 75, 76, 77, 78, 79, 80, 81, 82, 83, 84, 85, 86] := by rfl
      rw [er] at e0
      simp only [List.map_cons, List.map_nil, lc2, lc9, lc12, lc13, lc14, lc15, lc16] at e0
      exact e0
    rw [elitc]
    clear lc2
    clear lc9
    clear lc12
    clear lc13
    clear lc14
    clear lc15
    clear lc16
    clear elitc ec3
    by_cases hjn : j < cS T pn
    · obtain ⟨id9, off9, rfl, hrd⟩ := hr9 (by omega)
      have j1 : (j : Int) < (cS T pn : Int) := by omega
      have j2 : (0 : Int) ≤ (j : Int) ∧ (j : Int) < (cS T pn : Int) := ⟨by omega, j1⟩
      have j3 := hrd j hjn
      have j4 := wrap_add1 (i := j) (by omega)
      have hrc := rC_le (S.m i) (S.x i) (fS T pn) j
      have j5 := wrap_add1 (i := rC (S.m i) (S.x i) (fS T pn) j) (by omega)
      simp -implicitDefEqProofs only [sB, Nat.reduceAdd, Nat.reduceSub, yieldL, popK, flat, nptr, Value.cells, H.new, eq_self, Int.reduceEq, Int.reduceLT, Int.reduceLE, Nat.reduceEqDiff, Nat.reduceLeDiff, thenQ, ContK, ty2, ty3, ty4, ty5, ty22, ty23, ty27, ty64, ty77, ty79, sD, mixT, isAlloc, ridOf, blockOf, Bool.not_true, Bool.not_false, decide_true, decide_false, if_true, if_false, unk1, unk2, z00, zn1, j1, j2, j3, i2, i3]
      refine RunDC_quiet (in53 I ((hs0.pt i hin).app _)) rfl ?_
      cases hb : inB (S.m i) (S.x i) (fS T pn j) with
      | true =>
        have e : rC (S.m i) (S.x i) (fS T pn) (j + 1) = rC (S.m i) (S.x i) (fS T pn) j + 1 := if_pos hb
        simp -implicitDefEqProofs only [sB, Nat.reduceAdd, Nat.reduceSub, yieldL, popK, flat, nptr, Value.cells, H.new, eq_self, Int.reduceEq, Int.reduceLT, Int.reduceLE, Nat.reduceEqDiff, Nat.reduceLeDiff, thenQ, ContK, ty2, ty3, ty4, ty5, ty22, ty23, ty27, ty64, ty77, ty79, sD, mixT, isAlloc, ridOf, blockOf, Bool.not_true, Bool.not_false, decide_true, decide_false, if_true, if_false, unk1, unk2, z00, zn1, j4, j5]
        refine ⟨drawOk_ren (fun _ => 0) rfl (by kernel_rfl), by rw [hJc]; exact ⟨j + 1, rfl, rfl, rfl, rfl, rfl, rfl, rfl, rfl, by rw [e]; rfl, rfl, by omega⟩, ?_⟩
        show cS T pn - ((j + 1 : Nat) : Int).toNat < cS T pn - (j : Int).toNat
        omega
      | false =>
        have e : rC (S.m i) (S.x i) (fS T pn) (j + 1) = rC (S.m i) (S.x i) (fS T pn) j := if_neg (by rw [hb]; simp)
        simp -implicitDefEqProofs only [sB, Nat.reduceAdd, Nat.reduceSub, yieldL, popK, flat, nptr, Value.cells, H.new, eq_self, Int.reduceEq, Int.reduceLT, Int.reduceLE, Nat.reduceEqDiff, Nat.reduceLeDiff, thenQ, ContK, ty2, ty3, ty4, ty5, ty22, ty23, ty27, ty64, ty77, ty79, sD, mixT, isAlloc, ridOf, blockOf, Bool.not_true, Bool.not_false, decide_true, decide_false, if_true, if_false, unk1, unk2, z00, zn1, j4]
        refine ⟨drawOk_ren (fun _ => 0) rfl (by kernel_rfl), by rw [hJc]; exact ⟨j + 1, rfl, rfl, rfl, rfl, rfl, rfl, rfl, rfl, by rw [e]; rfl, rfl, by omega⟩, ?_⟩
        show cS T pn - ((j + 1 : Nat) : Int).toNat < cS T pn - (j : Int).toNat
        omega
    · have j1 : ¬ (j : Int) < (cS T pn : Int) := by omega
      have hj' : j = cS T pn := by omega
      subst hj'
      have hrc := rC_le (S.m i) (S.x i) (fS T pn) (cS T pn)
      have w1 : IntKind.i64.wrap ((cS T pn : Int) - rC (S.m i) (S.x i) (fS T pn) (cS T pn)) = (cS T pn : Int) - rC (S.m i) (S.x i) (fS T pn) (cS T pn) := wrap_i64 (by omega) (by omega)
      have hL : max (rC (S.m i) (S.x i) (fS T pn) (cS T pn) : Int) ((cS T pn : Int) - rC (S.m i) (S.x i) (fS T pn) (cS T pn)) = leftS T pn S i := by rw [rC_eq]; rfl
      by_cases c3 : leftS T pn S i < lstI (leftS T pn S) i
      · have e1 : bstI (leftS T pn S) (i + 1) = (i : Int) := if_pos c3
        have e2 : lstI (leftS T pn S) (i + 1) = leftS T pn S i := if_pos c3
        simp -implicitDefEqProofs only [sB, Nat.reduceAdd, Nat.reduceSub, yieldL, popK, flat, nptr, Value.cells, H.new, eq_self, Int.reduceEq, Int.reduceLT, Int.reduceLE, Nat.reduceEqDiff, Nat.reduceLeDiff, thenQ, ContK, ty2, ty3, ty4, ty5, ty22, ty23, ty27, ty64, ty77, ty79, Bool.not_true, Bool.not_false, decide_true, decide_false, if_true, if_false, unk1, unk2, z00, zn1, j1, w1, hL, c3, i4]
        refine ⟨by rw [hJb]; exact ⟨i + 1, rfl, rfl, rfl, rfl, rfl, by rw [e1]; rfl, by rw [e2]; rfl, rfl, by omega⟩, ?_⟩
        show S.n - ((i + 1 : Nat) : Int).toNat < S.n - (i : Int).toNat
        omega
      · have e1 : bstI (leftS T pn S) (i + 1) = bstI (leftS T pn S) i := if_neg c3
        have e2 : lstI (leftS T pn S) (i + 1) = lstI (leftS T pn S) i := if_neg c3
        simp -implicitDefEqProofs only [sB, Nat.reduceAdd, Nat.reduceSub, yieldL, popK, flat, nptr, Value.cells, H.new, eq_self, Int.reduceEq, Int.reduceLT, Int.reduceLE, Nat.reduceEqDiff, Nat.reduceLeDiff, thenQ, ContK, ty2, ty3, ty4, ty5, ty22, ty23, ty27, ty64, ty77, ty79, Bool.not_true, Bool.not_false, decide_true, decide_false, if_true, if_false, unk1, unk2, z00, zn1, j1, w1, hL, c3, i4]
        refine ⟨by rw [hJb]; exact ⟨i + 1, rfl, rfl, rfl, rfl, rfl, by rw [e1]; rfl, by rw [e2]; rfl, rfl, by omega⟩, ?_⟩
        show S.n - ((i + 1 : Nat) : Int).toNat < S.n - (i : Int).toNat
        omega
  · have i1 : ¬ (i : Int) < (S.n : Int) := by omega
    have hin' : i = S.n := by omega
    obtain ⟨n', hn'⟩ : ∃ n', S.n = n' + 1 := ⟨S.n - 1, by omega⟩
    obtain ⟨f1, f2⟩ := bst_best (Bf := leftS T pn S) (by have := hl12 0; omega) n'
    rw [show S.n - 1 = n' by omega] at hV
    rw [hin', hn', f1, f2]
    rw [hin', hn'] at i1
    rw [hV]
    simp -implicitDefEqProofs only [sB, Nat.reduceAdd, Nat.reduceSub, yieldL, popK, flat, nptr, Value.cells, H.new, eq_self, Int.reduceEq, Int.reduceLT, Int.reduceLE, Nat.reduceEqDiff, Nat.reduceLeDiff, thenQ, ContK, ty2, ty3, ty4, ty5, ty22, ty23, ty27, ty64, ty77, ty79, Bool.not_true, Bool.not_false, decide_true, decide_false, if_true, if_false, unk1, unk2, z00, zn1, i1]
    exact ⟨⟨_, rfl⟩, rfl⟩
end Go.Proofs.Ytpgignenhiddkaa
set_option linter.unusedSimpArgs false
set_option linter.unusedVariables false
namespace Go.Proofs.Ytpgignenhiddkaa
open Go.Sym
attribute [local irreducible] Run RunS RunG RunDG RunDS RunDE RunDA RunDC RunCall RunX RunB
def manyB (T : TD) (S : SD) : Bool := decide (50 < T.n ∨ 50 < S.n) || (anyN (fun i => decide (20 < T.m i)) T.n || anyN (fun i => decide (20 < S.m i)) S.n)

set_option maxRecDepth 100000 in
set_option maxHeartbeats 1000000 in
theorem many46 (I : Nat → Option Obj) {h : H} {v sv : Value} {T : TD} {S : SD} (hv : Tests I h v T) (hs : Secs I h sv S) :
    Snd Try.prog I (.func 46) [v, sv] h (.bool (manyB T S)) h := by
  obtain ⟨qt, ct, rfl, hn, hqt⟩ := hv.sl
  obtain ⟨qs, cs, rfl, hn2, hqs⟩ := hs.sl
  refine Snd_run0 (rs := [.tmp 4]) 400 Try.func46 (by kernel_rfl) rfl Try.ntmps46 rfl rfl ?_
  by_cases c1 : 50 < T.n
  · have c1' : (50 : Int) < (T.n : Int) := by omega
    simp -implicitDefEqProofs only [sB, Nat.reduceAdd, Nat.reduceSub, yieldL, popK, flat, nptr, Value.cells, H.new, eq_self, Int.reduceEq, Int.reduceLT, Int.reduceLE, Nat.reduceEqDiff, Nat.reduceLeDiff, thenQ, ContK, ty2, ty3, ty4, ty5, ty64, ty77, ty79, ty89, Bool.not_true, Bool.not_false, decide_true, decide_false, if_true, if_false, unk1, unk2, z00, zn1, c1']
    exact ⟨⟨[], by simp⟩, by unfold manyB; rw [decide_eq_true (.inl c1)]; rfl⟩
  have c1' : ¬ (50 : Int) < (T.n : Int) := by omega
  by_cases c2 : 50 < S.n
  · have c2' : (50 : Int) < (S.n : Int) := by omega
    simp -implicitDefEqProofs only [sB, Nat.reduceAdd, Nat.reduceSub, yieldL, popK, flat, nptr, Value.cells, H.new, eq_self, Int.reduceEq, Int.reduceLT, Int.reduceLE, Nat.reduceEqDiff, Nat.reduceLeDiff, thenQ, ContK, ty2, ty3, ty4, ty5, ty64, ty77, ty79, ty89, Bool.not_true, Bool.not_false, decide_true, decide_false, if_true, if_false, unk1, unk2, z00, zn1, c1', c2']
    exact ⟨⟨[], by simp⟩, by unfold manyB; rw [decide_eq_true (.inr c2)]; rfl⟩
  have c2' : ¬ (50 : Int) < (S.n : Int) := by omega
  have h50 : ¬ (50 < T.n ∨ 50 < S.n) := by omega
  simp -implicitDefEqProofs only [sB, Nat.reduceAdd, Nat.reduceSub, yieldL, popK, flat, nptr, Value.cells, H.new, eq_self, Int.reduceEq, Int.reduceLT, Int.reduceLE, Nat.reduceEqDiff, Nat.reduceLeDiff, thenQ, ContK, ty2, ty3, ty4, ty5, ty64, ty77, ty79, ty89, Bool.not_true, Bool.not_false, decide_true, decide_false, if_true, if_false, unk1, unk2, z00, zn1, c1', c2']
  clear c1 c1' c2 c2'
  obtain ⟨Ja, hJa⟩ : ∃ J : St → Prop, J = fun s => ∃ (k : Nat), s.df = [] ∧ s.h = h ∧ s.tm.length = 40 ∧ s.tm.getD 0 undef = .slice qt T.n ct ∧ s.tm.getD 1 undef = .slice qs S.n cs ∧ s.tm.getD 5 undef = .int .i64 k ∧ (k ≤ T.n) ∧ (∀ j, j < k → ¬ 20 < T.m j) := ⟨_, rfl⟩
  refine Loop_run (by kernel_rfl) 400 Ja (muI 5 T.n) (by rw [hJa]; exact ⟨0, rfl, rfl, rfl, rfl, rfl, rfl, Nat.zero_le _, fun j hj => by omega⟩) ?_
  intro sa hsa
  rw [hJa] at hsa
  obtain ⟨tma, dfa, hha⟩ := sa
  obtain ⟨k, ea1, ea2, ea3, la0, la1, la5, hk, hp⟩ := hsa
  simp only at ea1 ea2 ea3 la0 la1 la5
  subst dfa; subst hha
  have elita : tma = [.slice qt T.n ct, .slice qs S.n cs, tma.getD 2 undef, tma.getD 3 undef, tma.getD 4 undef, .int .i64 k, tma.getD 6 undef, tma.getD 7 undef, tma.getD 8 undef, tma.getD 9 undef, tma.getD 10 undef, tma.getD 11 undef, tma.getD 12 undef, tma.getD 13 undef, tma.getD 14 undef, tma.getD 15 undef, tma.getD 16 undef, tma.getD 17 undef, tma.getD 18 undef, tma.getD 19 undef, tma.getD 20 undef, tma.getD 21 undef, tma.getD 22 undef, tma.getD 23 undef, tma.getD 24 undef, tma.getD 25 undef, tma.getD 26 undef, tma.getD 27 undef, tma.getD 28 undef, tma.getD 29 undef, tma.getD 30 undef, tma.getD 31 undef, tma.getD 32 undef, tma.getD 33 undef, tma.getD 34 undef, tma.getD 35 undef, tma.getD 36 undef, tma.getD 37 undef, tma.getD 38 undef, tma.getD 39 undef] := by
    have e0 := lit_eq ea3
    have er : List.range 40 = [0, 1, 2, 3, 4, 5, 6, 7, 8, 9, 10, 11, 12, 13, 14, 15, 16, 17, 18, 19, 20, 21, 22, 23, 24, 25, 26, 27, 28, 29, 30, 31, 32, 33, 34, 35, 36, 37, 38, 39] := by rfl
    rw [er] at e0
    simp only [List.map_cons, List.map_nil, la0, la1, la5] at e0
    exact e0
  rw [elita]
  clear la0
  clear la1
  clear la5
  clear elita ea3
  by_cases hkn : k < T.n
  · obtain ⟨id, off, rfl, hr⟩ := hqt (by omega)
    have h1 : (k : Int) < (T.n : Int) := by omega
    have h2 : (0 : Int) ≤ (k : Int) ∧ (k : Int) < (T.n : Int) := ⟨by omega, h1⟩
    have h3 := hr k hkn
    have h4 := wrap_add1 (i := k) (by omega)
    by_cases c1 : 20 < T.m k
    · have c1' : (20 : Int) < (T.m k : Int) := by omega
      simp -implicitDefEqProofs only [sB, Nat.reduceAdd, Nat.reduceSub, yieldL, popK, flat, nptr, Value.cells, H.new, eq_self, Int.reduceEq, Int.reduceLT, Int.reduceLE, Nat.reduceEqDiff, Nat.reduceLeDiff, thenQ, ContK, ty2, ty3, ty4, ty5, ty64, ty77, ty79, ty89, Bool.not_true, Bool.not_false, decide_true, decide_false, if_true, if_false, unk1, unk2, z00, zn1, h1, h2, trow_P h3, c1']
      exact ⟨⟨[], by simp⟩, by unfold manyB; rw [anyN_iff.2 ⟨k, hkn, decide_eq_true c1⟩]; simp⟩
    · have c1' : ¬ (20 : Int) < (T.m k : Int) := by omega
      simp -implicitDefEqProofs only [sB, Nat.reduceAdd, Nat.reduceSub, yieldL, popK, flat, nptr, Value.cells, H.new, eq_self, Int.reduceEq, Int.reduceLT, Int.reduceLE, Nat.reduceEqDiff, Nat.reduceLeDiff, thenQ, ContK, ty2, ty3, ty4, ty5, ty64, ty77, ty79, ty89, Bool.not_true, Bool.not_false, decide_true, decide_false, if_true, if_false, unk1, unk2, z00, zn1, h1, h2, trow_P h3, c1', h4]
      refine ⟨by rw [hJa]; exact ⟨k + 1, rfl, rfl, rfl, rfl, rfl, rfl, by omega, fun j hj => by by_cases e : j = k; (subst e; exact c1); exact hp j (by omega)⟩, ?_⟩
      show T.n - ((k + 1 : Nat) : Int).toNat < T.n - (k : Int).toNat
      omega
  have h1 : ¬ (k : Int) < (T.n : Int) := by omega
  have hkT : k = T.n := by omega
  subst hkT
  simp -implicitDefEqProofs only [sB, Nat.reduceAdd, Nat.reduceSub, yieldL, popK, flat, nptr, Value.cells, H.new, eq_self, Int.reduceEq, Int.reduceLT, Int.reduceLE, Nat.reduceEqDiff, Nat.reduceLeDiff, thenQ, ContK, ty2, ty3, ty4, ty5, ty64, ty77, ty79, ty89, Bool.not_true, Bool.not_false, decide_true, decide_false, if_true, if_false, unk1, unk2, z00, zn1, h1]
  clear h1 hk
  obtain ⟨Jb, hJb⟩ : ∃ J : St → Prop, J = fun s => ∃ (k : Nat), s.df = [] ∧ s.h = h ∧ s.tm.length = 40 ∧ s.tm.getD 1 undef = .slice qs S.n cs ∧ s.tm.getD 6 undef = .int .i64 k ∧ (k ≤ S.n) ∧ (∀ j, j < k → ¬ 20 < S.m j) := ⟨_, rfl⟩
  refine Loop_run (by kernel_rfl) 400 Jb (muI 6 S.n) (by rw [hJb]; exact ⟨0, rfl, rfl, rfl, rfl, rfl, Nat.zero_le _, fun j hj => by omega⟩) ?_
  intro sb hsb
  rw [hJb] at hsb
  obtain ⟨tmb, dfb, hhb⟩ := sb
  obtain ⟨k, eb1, eb2, eb3, lb1, lb6, hk, hq⟩ := hsb
  simp only at eb1 eb2 eb3 lb1 lb6
  subst dfb; subst hhb
  have elitb : tmb = [tmb.getD 0 undef, .slice qs S.n cs, tmb.getD 2 undef, tmb.getD 3 undef, tmb.getD 4 undef, tmb.getD 5 undef, .int .i64 k, tmb.getD 7 undef, tmb.getD 8 undef, tmb.getD 9 undef, tmb.getD 10 undef, tmb.getD 11 undef, tmb.getD 12 undef, tmb.getD 13 undef, tmb.getD 14 undef, tmb.getD 15 undef, tmb.getD 16 undef, tmb.getD 17 undef, tmb.getD 18 undef, tmb.getD 19 undef, tmb.getD 20 undef, tmb.getD 21 undef, tmb.getD 22 undef, tmb.getD 23 undef, tmb.getD 24 undef, tmb.getD 25 undef, tmb.getD 26 undef, tmb.getD 27 undef, tmb.getD 28 undef, tmb.getD 29 undef, tmb.getD 30 undef, tmb.getD 31 undef, tmb.getD 32 undef, tmb.getD 33 undef, tmb.getD 34 undef, tmb.getD 35 undef, tmb.getD 36 undef, tmb.getD 37 undef, tmb.getD 38 undef, tmb.getD 39 undef] := by
    have e0 := lit_eq eb3
    have er : List.range 40 = [0, 1, 2, 3, 4, 5, 6, 7, 8, 9, 10, 11, 12, 13, 14, 15, 16, 17, 18, 19, 20, 21, 22, 23, 24, 25, 26, 27, 28, 29, 30, 31, 32, 33, 34, 35, 36, 37, 38, 39] := by rfl
    rw [er] at e0
    simp only [List.map_cons, List.map_nil, lb1, lb6] at e0
    exact e0
  rw [elitb]
  clear lb1
  clear lb6
  clear elitb eb3
  by_cases hkn : k < S.n
  · obtain ⟨id, off, rfl, hr⟩ := hqs (by omega)
    have h1 : (k : Int) < (S.n : Int) := by omega
    have h2 : (0 : Int) ≤ (k : Int) ∧ (k : Int) < (S.n : Int) := ⟨by omega, h1⟩
    have h3 := hr k hkn
    have h4 := wrap_add1 (i := k) (by omega)
    by_cases c1 : 20 < S.m k
    · have c1' : (20 : Int) < (S.m k : Int) := by omega
      simp -implicitDefEqProofs only [sB, Nat.reduceAdd, Nat.reduceSub, yieldL, popK, flat, nptr, Value.cells, H.new, eq_self, Int.reduceEq, Int.reduceLT, Int.reduceLE, Nat.reduceEqDiff, Nat.reduceLeDiff, thenQ, ContK, ty2, ty3, ty4, ty5, ty64, ty77, ty79, ty89, Bool.not_true, Bool.not_false, decide_true, decide_false, if_true, if_false, unk1, unk2, z00, zn1, h1, h2, h3, c1']
      exact ⟨⟨[], by simp⟩, by unfold manyB; rw [show anyN (fun i => decide (20 < S.m i)) S.n = true from anyN_iff.2 ⟨k, hkn, decide_eq_true c1⟩]; simp⟩
    · have c1' : ¬ (20 : Int) < (S.m k : Int) := by omega
      simp -implicitDefEqProofs only [sB, Nat.reduceAdd, Nat.reduceSub, yieldL, popK, flat, nptr, Value.cells, H.new, eq_self, Int.reduceEq, Int.reduceLT, Int.reduceLE, Nat.reduceEqDiff, Nat.reduceLeDiff, thenQ, ContK, ty2, ty3, ty4, ty5, ty64, ty77, ty79, ty89, Bool.not_true, Bool.not_false, decide_true, decide_false, if_true, if_false, unk1, unk2, z00, zn1, h1, h2, h3, c1', h4]
      refine ⟨by rw [hJb]; exact ⟨k + 1, rfl, rfl, rfl, rfl, rfl, by omega, fun j hj => by by_cases e : j = k; (subst e; exact c1); exact hq j (by omega)⟩, ?_⟩
      show S.n - ((k + 1 : Nat) : Int).toNat < S.n - (k : Int).toNat
      omega
  have h1 : ¬ (k : Int) < (S.n : Int) := by omega
  simp -implicitDefEqProofs only [sB, Nat.reduceAdd, Nat.reduceSub, yieldL, popK, flat, nptr, Value.cells, H.new, eq_self, Int.reduceEq, Int.reduceLT, Int.reduceLE, Nat.reduceEqDiff, Nat.reduceLeDiff, thenQ, ContK, ty2, ty3, ty4, ty5, ty64, ty77, ty79, ty89, Bool.not_true, Bool.not_false, decide_true, decide_false, if_true, if_false, unk1, unk2, z00, zn1, h1]
  exact ⟨⟨[], by simp⟩, by unfold manyB; rw [decide_eq_false h50, any_none (fun i hi => decide_eq_false (hp i hi)), any_none (fun i hi => decide_eq_false (hq i (by omega)))]; rfl⟩

set_option maxRecDepth 100000 in
theorem ints52 (I : Nat → Option Obj) {h : H} {a b : Value} {n : Nat} {x : Nat → Int} (ha : Sees I h a n x) (hb : Sees I h b n x) :
    Snd Try.prog I (.func 52) [a, b] h (.bool true) h := by
  obtain ⟨p1, c1, rfl, hn, hq1⟩ := ha
  obtain ⟨p2, c2, rfl, _, hq2⟩ := hb
  refine Snd_run0 (rs := [.tmp 4]) 400 Try.func52 (by kernel_rfl) rfl Try.ntmps52 rfl rfl ?_
  simp -implicitDefEqProofs only [sB, Nat.reduceAdd, Nat.reduceSub, yieldL, popK, flat, nptr, Value.cells, H.new, eq_self, Int.reduceEq, Int.reduceLT, Int.reduceLE, Nat.reduceEqDiff, Nat.reduceLeDiff, thenQ, ContK, ty2, ty3, ty4, ty5, ty79, Bool.not_true, Bool.not_false, decide_true, decide_false, if_true, if_false, unk1, unk2, z00, zn1]
  obtain ⟨Ja, hJa⟩ : ∃ J : St → Prop, J = fun s => ∃ (k : Nat), s.df = [] ∧ s.h = h ∧ s.tm.length = 26 ∧ s.tm.getD 0 undef = .slice p1 n c1 ∧ s.tm.getD 1 undef = .slice p2 n c2 ∧ s.tm.getD 5 undef = .int .i64 k ∧ (k ≤ n) := ⟨_, rfl⟩
  refine Loop_run (by kernel_rfl) 400 Ja (muI 5 n) (by rw [hJa]; exact ⟨0, rfl, rfl, rfl, rfl, rfl, rfl, Nat.zero_le _⟩) ?_
  intro sa hsa
  rw [hJa] at hsa
  obtain ⟨tma, dfa, hha⟩ := sa
  obtain ⟨k, ea1, ea2, ea3, la0, la1, la5, hk⟩ := hsa
  simp only at ea1 ea2 ea3 la0 la1 la5
  subst dfa; subst hha
  have elita : tma = [.slice p1 n c1, .slice p2 n c2, tma.getD 2 undef, tma.getD 3 undef, tma.getD 4 undef, .int .i64 k, tma.getD 6 undef, tma.getD 7 undef, tma.getD 8 undef, tma.getD 9 undef, tma.getD 10 undef, tma.getD 11 undef, tma.getD 12 undef, tma.getD 13 undef, tma.getD 14 undef, tma.getD 15 undef, tma.getD 16 undef, tma.getD 17 undef, tma.getD 18 undef, tma.getD 19 undef, tma.getD 20 undef, tma.getD 21 undef, tma.getD 22 undef, tma.getD 23 undef, tma.getD 24 undef, tma.getD 25 undef] := by
    have e0 := lit_eq ea3
    have er : List.range 26 = [0, 1, 2, 3, 4, 5, 6, 7, 8, 9, 10, 11, 12, 13, 14, 15, 16, 17, 18, 19, 20, 21, 22, 23, 24, 25] := by rfl
    rw [er] at e0
    simp only [List.map_cons, List.map_nil, la0, la1, la5] at e0
    exact e0
  rw [elita]
  clear la0
  clear la1
  clear la5
  clear elita ea3
  by_cases hkn : k < n
  · obtain ⟨id, off, rfl, hr⟩ := hq1 (by omega)
    obtain ⟨id2, off2, rfl, hr2⟩ := hq2 (by omega)
    have h1 : (k : Int) < (n : Int) := by omega
    have h2 : (0 : Int) ≤ (k : Int) ∧ (k : Int) < (n : Int) := ⟨by omega, h1⟩
    have h3 := hr k hkn
    have h3' := hr2 k hkn
    have h4 := wrap_add1 (i := k) (by omega)
    simp -implicitDefEqProofs only [sB, Nat.reduceAdd, Nat.reduceSub, yieldL, popK, flat, nptr, Value.cells, H.new, eq_self, Int.reduceEq, Int.reduceLT, Int.reduceLE, Nat.reduceEqDiff, Nat.reduceLeDiff, thenQ, ContK, ty2, ty3, ty4, ty5, ty79, sD, mixT, isAlloc, ridOf, blockOf, Bool.not_true, Bool.not_false, decide_true, decide_false, if_true, if_false, unk1, unk2, z00, zn1, h1, h2, h3, h3', h4]
    refine ⟨drawOk_ren (fun _ => 0) rfl (by kernel_rfl), by rw [hJa]; exact ⟨k + 1, rfl, rfl, rfl, rfl, rfl, rfl, by omega⟩, ?_⟩
    show n - ((k + 1 : Nat) : Int).toNat < n - (k : Int).toNat
    omega
  have h1 : ¬ (k : Int) < (n : Int) := by omega
  simp -implicitDefEqProofs only [sB, Nat.reduceAdd, Nat.reduceSub, yieldL, popK, flat, nptr, Value.cells, H.new, eq_self, Int.reduceEq, Int.reduceLT, Int.reduceLE, Nat.reduceEqDiff, Nat.reduceLeDiff, thenQ, ContK, ty2, ty3, ty4, ty5, ty79, Bool.not_true, Bool.not_false, decide_true, decide_false, if_true, if_false, unk1, unk2, z00, zn1, h1]
  exact ⟨[], by simp⟩
end Go.Proofs.Ytpgignenhiddkaa
set_option linter.unusedSimpArgs false
set_option linter.unusedVariables false
namespace Go.Proofs.Ytpgignenhiddkaa
open Go.Sym
attribute [local irreducible] Run RunS RunG RunDG RunDS RunDE RunDA RunDC RunCall RunX RunB
theorem free_eq_fields {P : Program} {d : Nat} {t : TypeId} {fs : Array Field} {xs ys : List Value} {r : Field → Bool} (hu : P.underlying t = some (.struct fs)) (hh : P.stoodInHeld t = false)
    (hr : ∀ f ∈ fs.toList, f.name ≠ "_" ∧ ∃ x y, partV P f.type xs f.offset = some x ∧ partV P f.type ys f.offset = some y ∧ free P (Op.equalIn d f.type x y) = some (r f)) :
    free P (Op.equalIn (d + 1) t (.agg xs.toArray) (.agg ys.toArray)) = some (fs.toList.all r) := by
  simp only [Op.equalIn]
  rw [free_bind, free_underlying hu]
  simp only [Option.bind_some]
  rw [free_bind, free_program]
  simp only [Option.bind_some, hh, Bool.false_eq_true, if_false]
  rw [← Array.forIn_toList]
  rw [free_bind, free_loop (r := r) fs.toList (fun f hf => ?_)]
  · simp only [Option.bind_some]
    cases fs.toList.all r <;> rfl
  · obtain ⟨hn, x, y, hx, hy, he⟩ := hr f hf
    rw [if_pos hn, free_bind, free_part hx, Option.bind_some, free_bind, free_part hy, Option.bind_some, free_bind, he, Option.bind_some]
    cases r f <;> rfl
theorem un43 : Try.prog.underlying 43 = some (.struct #[⟨"Lo", 2, 0, false, "", "", 0⟩, ⟨"Hi", 2, 1, false, "", "", 8⟩]) := by kernel_rfl
theorem un2 : Try.prog.underlying 2 = some (.int .i64) := by kernel_rfl
theorem eq_two {t : TypeId} {n1 n2 : String} {p1 p2 q1 q2 : String} {s1 s2 : Nat} {b1 b2 : Bool} {a b c d : Int} {x y : Operand} (hu : Try.prog.underlying t = some (.struct #[⟨n1, 2, 0, b1, p1, q1, s1⟩, ⟨n2, 2, 1, b2, p2, q2, s2⟩])) (hh : Try.prog.stoodInHeld t = false) (hg : Try.prog.eqGuardType Try.prog.depth t = false) (h1 : n1 ≠ "_") (h2 : n2 ≠ "_") :
    abin Try.prog .eql t x y (.agg #[.int .i64 a, .int .i64 b]) (.agg #[.int .i64 c, .int .i64 d]) = some (.bool (decide (a = c) && decide (b = d))) := by
  refine bin_eql_agg (a := [.int .i64 a, .int .i64 b]) (b := [.int .i64 c, .int .i64 d]) rfl rfl hg ?_
  have key := free_eq_fields (d := 9999) (xs := [.int .i64 a, .int .i64 b]) (ys := [.int .i64 c, .int .i64 d]) (r := fun f => if f.offset = 0 then decide (a = c) else decide (b = d)) hu hh (fun f hf => by
    simp only [List.mem_cons, List.not_mem_nil, or_false] at hf
    rcases hf with rfl | rfl
    · exact ⟨h1, .int .i64 a, .int .i64 c, by unfold partV; simp only [tg2]; rfl, by unfold partV; simp only [tg2]; rfl, free_eq_int un2⟩
    · exact ⟨h2, .int .i64 b, .int .i64 d, by unfold partV; simp only [tg2]; rfl, by unfold partV; simp only [tg2]; rfl, free_eq_int un2⟩)
  rw [key]
  simp
theorem eql43 {a b c d : Int} {x y : Operand} : abin Try.prog .eql 43 x y (.agg #[.int .i64 a, .int .i64 b]) (.agg #[.int .i64 c, .int .i64 d]) = some (.bool (decide (a = c) && decide (b = d))) :=
  eq_two un43 (by kernel_rfl) (by kernel_rfl) (by decide) (by decide)
theorem Sees.app2 {I : Nat → Option Obj} {h Z : H} {v : Value} {n : Nat} {x : Nat → Int} (s : Sees I (h ++ Z) v n x) (l : H) : Sees I (h ++ (Z ++ l)) v n x := by
  rw [← List.append_assoc]; exact s.app l
def sN (parts : Int) (T : TD) : Nat := if testsE parts T = 0 then cS T parts.toNat else 0
theorem sees_sl {I : Nat → Option Obj} {h : H} {N q : Nat} {T : TD} {pn : Nat} (h12 : pn ≤ 12) (hq : cS T pn ≠ 0 → q < N) :
    Sees I (h ++ deadBut N q (rowS (cS T pn) (fS T pn)) : H) (slA (2 * (h.length + q)) (cS T pn)) (cS T pn) (fS T pn) := by
  by_cases c0 : cS T pn = 0
  · rw [c0]; exact Sees.nil
  · exact ⟨_, _, slA_pos c0, by have := cS_le T pn; omega, fun _ => ⟨_, 0, rfl, fun k hk => by
      rw [Nat.zero_add]
      refine rd_arrRow (e := 3) ?_ hk
      rw [deadBut_at (hq c0)]; unfold rowS; rw [if_neg c0]⟩⟩
theorem sus47 (I : Nat → Option Obj) {h : H} {v : Value} {T : TD} {parts : Int} (hv : Tests I h v T) :
    ∃ X a, Snd Try.prog I (.func 47) [.int .i64 parts, v] h (.tuple #[a, .int .i64 (testsE parts T)]) (h ++ X) ∧ Sees I (h ++ X) a (sN parts T) (fS T parts.toNat) := by
  by_cases he : testsE parts T = 0
  · have t := tests_ok he
    obtain ⟨pn, rfl⟩ : ∃ pn : Nat, parts = pn := ⟨parts.toNat, by have := t.p1; omega⟩
    have hs : sN pn T = cS T pn := by unfold sN; rw [if_pos he]; rfl
    refine ⟨_, _, by rw [he]; exact suspects47 I hv he, ?_⟩
    rw [hs, Int.toNat_natCast]
    exact sees_sl (by have := t.p12; omega) (fun _ => by omega)
  · have hs : sN parts T = 0 := by unfold sN; rw [if_neg he]
    refine ⟨[], _, by rw [List.append_nil]; exact suspects47_err I hv he, ?_⟩
    rw [hs]; exact Sees.nil
theorem sus48 (I : Nat → Option Obj) {h : H} {v : Value} {T : TD} {parts : Int} (hv : Tests I h v T) :
    ∃ X a, Snd Try.prog I (.func 48) [.int .i64 parts, v] h (.tuple #[a, .int .i64 (testsE parts T)]) (h ++ X) ∧ Sees I (h ++ X) a (sN parts T) (fS T parts.toNat) := by
  by_cases he : testsE parts T = 0
  · have t := tests_ok he
    obtain ⟨pn, rfl⟩ : ∃ pn : Nat, parts = pn := ⟨parts.toNat, by have := t.p1; omega⟩
    have hs : sN pn T = cS T pn := by unfold sN; rw [if_pos he]; rfl
    refine ⟨_, _, by rw [he]; exact suspects48 I hv he, ?_⟩
    rw [hs, Int.toNat_natCast]
    exact sees_sl (by have := t.p12; omega) (qiR_lt T pn)
  · have hs : sN parts T = 0 := by unfold sN; rw [if_neg he]
    refine ⟨[], _, by rw [List.append_nil]; exact suspects48_err I hv he, ?_⟩
    rw [hs]; exact Sees.nil

set_option maxRecDepth 100000 in
set_option maxHeartbeats 4000000 in
theorem leakParts12 (I : Nat → Option Obj) {h : H} {v sv : Value} {T : TD} {S : SD} {parts part : Int} (hv : Tests I h v T) (hs : Secs I h sv S) (w15 : ∀ h, Snd Try.prog I (.func 15) [] h (.bool true) h) :
    Snd Try.prog I (.func 12) [.int .i64 parts, v, .int .i64 part, sv] h (.bool true) h := by
  obtain ⟨A, a, kA, sA⟩ := sus47 I (parts := parts) hv
  obtain ⟨C, b, kC, sC⟩ := sus48 I (parts := parts) (hv.app A)
  obtain ⟨g1, g2, g3, hE⟩ := amtV_form (parts := parts) (T := T) (part := part)
  have q37 : ∀ l, Snd Try.prog I (.func 37) [.int .i64 parts, v, .int .i64 part] (h ++ l) _ (h ++ l) := fun l => amount37 I (part := part) (hv.app l)
  have q49 : ∀ l, Snd Try.prog I (.func 49) [.int .i64 parts, v, .int .i64 part] (h ++ l) _ (h ++ l) := fun l => amount49 I (part := part) (hv.app l)
  rw [hE] at q37 q49
  obtain ⟨n1, n2, n3, hN⟩ := nextV_form (parts := parts) (T := T) (S := S)
  have q50 : ∀ l, Snd Try.prog I (.func 50) [.int .i64 parts, v, sv] (h ++ l) _ (h ++ l) := fun l => next50 I (parts := parts) (hv.app l) (hs.app l)
  have q51 : ∀ l, Snd Try.prog I (.func 51) [.int .i64 parts, v, sv] (h ++ l) _ (h ++ l) := fun l => next51 I (parts := parts) (hv.app l) (hs.app l)
  rw [hN] at q50 q51
  have sA' := sA.app C
  rw [List.append_assoc] at kC sA' sC
  have hm := many46 I hv hs
  clear hE hN hv hs sA
  generalize testsE parts T = e at *
  generalize A ++ C = Z at *
  refine Snd_run0 (rs := [.tmp 8]) 400 Try.func12 (by kernel_rfl) rfl Try.ntmps12 rfl rfl ?_
  simp -implicitDefEqProofs only [sB, Nat.reduceAdd, Nat.reduceSub, yieldL, popK, flat, nptr, Value.cells, H.new, eq_self, Int.reduceEq, Int.reduceLT, Int.reduceLE, Nat.reduceEqDiff, Nat.reduceLeDiff, thenQ, ContK, ty2, ty3, ty4, ty5, ty27, ty43, ty64, ty77, ty79, Bool.not_true, Bool.not_false, decide_true, decide_false, if_true, if_false, unk1, unk2, z00, zn1, st89, st43, eql43, getElem?_app_z, getElem?_app_k, set_app_z, set_app_k, getElem?_snoc, set_snoc]
  refine RunCall_of hm ?_
  cases hmb : manyB T S with
  | true =>
    simp -implicitDefEqProofs only [sB, Nat.reduceAdd, Nat.reduceSub, yieldL, popK, flat, nptr, Value.cells, H.new, eq_self, Int.reduceEq, Int.reduceLT, Int.reduceLE, Nat.reduceEqDiff, Nat.reduceLeDiff, thenQ, ContK, ty2, ty3, ty4, ty5, ty27, ty43, ty64, ty77, ty79, Bool.not_true, Bool.not_false, decide_true, decide_false, if_true, if_false, unk1, unk2, z00, zn1, st89, st43, eql43, getElem?_app_z, getElem?_app_k, set_app_z, set_app_k, getElem?_snoc, set_snoc]
    refine RunCall_of (w15 _) ?_
    simp -implicitDefEqProofs only [sB, Nat.reduceAdd, Nat.reduceSub, yieldL, popK, flat, nptr, Value.cells, H.new, eq_self, Int.reduceEq, Int.reduceLT, Int.reduceLE, Nat.reduceEqDiff, Nat.reduceLeDiff, thenQ, ContK, ty2, ty3, ty4, ty5, ty27, ty43, ty64, ty77, ty79, Bool.not_true, Bool.not_false, decide_true, decide_false, if_true, if_false, unk1, unk2, z00, zn1, st89, st43, eql43, getElem?_app_z, getElem?_app_k, set_app_z, set_app_k, getElem?_snoc, set_snoc]
    exact ⟨[], by simp⟩
  | false =>
  simp -implicitDefEqProofs only [sB, Nat.reduceAdd, Nat.reduceSub, yieldL, popK, flat, nptr, Value.cells, H.new, eq_self, Int.reduceEq, Int.reduceLT, Int.reduceLE, Nat.reduceEqDiff, Nat.reduceLeDiff, thenQ, ContK, ty2, ty3, ty4, ty5, ty27, ty43, ty64, ty77, ty79, Bool.not_true, Bool.not_false, decide_true, decide_false, if_true, if_false, unk1, unk2, z00, zn1, st89, st43, eql43, getElem?_app_z, getElem?_app_k, set_app_z, set_app_k, getElem?_snoc, set_snoc]
  refine RunCall_of kA ?_
  simp -implicitDefEqProofs only [sB, Nat.reduceAdd, Nat.reduceSub, yieldL, popK, flat, nptr, Value.cells, H.new, eq_self, Int.reduceEq, Int.reduceLT, Int.reduceLE, Nat.reduceEqDiff, Nat.reduceLeDiff, thenQ, ContK, ty2, ty3, ty4, ty5, ty27, ty43, ty64, ty77, ty79, Bool.not_true, Bool.not_false, decide_true, decide_false, if_true, if_false, unk1, unk2, z00, zn1, st89, st43, eql43, getElem?_app_z, getElem?_app_k, set_app_z, set_app_k, getElem?_snoc, set_snoc]
  refine RunCall_of kC ?_
  simp -implicitDefEqProofs only [sB, Nat.reduceAdd, Nat.reduceSub, yieldL, popK, flat, nptr, Value.cells, H.new, eq_self, Int.reduceEq, Int.reduceLT, Int.reduceLE, Nat.reduceEqDiff, Nat.reduceLeDiff, thenQ, ContK, ty2, ty3, ty4, ty5, ty27, ty43, ty64, ty77, ty79, Bool.not_true, Bool.not_false, decide_true, decide_false, if_true, if_false, unk1, unk2, z00, zn1, st89, st43, eql43, getElem?_app_z, getElem?_app_k, set_app_z, set_app_k, getElem?_snoc, set_snoc]
  refine RunCall_of (q37 _) ?_
  simp -implicitDefEqProofs only [sB, Nat.reduceAdd, Nat.reduceSub, yieldL, popK, flat, nptr, Value.cells, H.new, eq_self, Int.reduceEq, Int.reduceLT, Int.reduceLE, Nat.reduceEqDiff, Nat.reduceLeDiff, thenQ, ContK, ty2, ty3, ty4, ty5, ty27, ty43, ty64, ty77, ty79, Bool.not_true, Bool.not_false, decide_true, decide_false, if_true, if_false, unk1, unk2, z00, zn1, st89, st43, eql43, getElem?_app_z, getElem?_app_k, set_app_z, set_app_k, getElem?_snoc, set_snoc]
  refine RunCall_of (q49 _) ?_
  simp -implicitDefEqProofs only [sB, Nat.reduceAdd, Nat.reduceSub, yieldL, popK, flat, nptr, Value.cells, H.new, eq_self, Int.reduceEq, Int.reduceLT, Int.reduceLE, Nat.reduceEqDiff, Nat.reduceLeDiff, thenQ, ContK, ty2, ty3, ty4, ty5, ty27, ty43, ty64, ty77, ty79, Bool.not_true, Bool.not_false, decide_true, decide_false, if_true, if_false, unk1, unk2, z00, zn1, st89, st43, eql43, getElem?_app_z, getElem?_app_k, set_app_z, set_app_k, getElem?_snoc, set_snoc]
  refine RunCall_of (q50 _) ?_
  simp -implicitDefEqProofs only [sB, Nat.reduceAdd, Nat.reduceSub, yieldL, popK, flat, nptr, Value.cells, H.new, eq_self, Int.reduceEq, Int.reduceLT, Int.reduceLE, Nat.reduceEqDiff, Nat.reduceLeDiff, thenQ, ContK, ty2, ty3, ty4, ty5, ty27, ty43, ty64, ty77, ty79, Bool.not_true, Bool.not_false, decide_true, decide_false, if_true, if_false, unk1, unk2, z00, zn1, st89, st43, eql43, getElem?_app_z, getElem?_app_k, set_app_z, set_app_k, getElem?_snoc, set_snoc]
  refine RunCall_of (q51 _) ?_
  simp -implicitDefEqProofs only [sB, Nat.reduceAdd, Nat.reduceSub, yieldL, popK, flat, nptr, Value.cells, H.new, eq_self, Int.reduceEq, Int.reduceLT, Int.reduceLE, Nat.reduceEqDiff, Nat.reduceLeDiff, thenQ, ContK, ty2, ty3, ty4, ty5, ty27, ty43, ty64, ty77, ty79, Bool.not_true, Bool.not_false, decide_true, decide_false, if_true, if_false, unk1, unk2, z00, zn1, st89, st43, eql43, getElem?_app_z, getElem?_app_k, set_app_z, set_app_k, getElem?_snoc, set_snoc]
  refine RunCall_of (ints52 I (sA'.app2 _) (sC.app2 _)) ?_
  simp -implicitDefEqProofs only [sB, Nat.reduceAdd, Nat.reduceSub, yieldL, popK, flat, nptr, Value.cells, H.new, eq_self, Int.reduceEq, Int.reduceLT, Int.reduceLE, Nat.reduceEqDiff, Nat.reduceLeDiff, thenQ, ContK, ty2, ty3, ty4, ty5, ty27, ty43, ty64, ty77, ty79, Bool.not_true, Bool.not_false, decide_true, decide_false, if_true, if_false, unk1, unk2, z00, zn1, st89, st43, eql43, getElem?_app_z, getElem?_app_k, set_app_z, set_app_k, getElem?_snoc, set_snoc]
  refine RunCall_of (w15 _) ?_
  simp -implicitDefEqProofs only [sB, Nat.reduceAdd, Nat.reduceSub, yieldL, popK, flat, nptr, Value.cells, H.new, eq_self, Int.reduceEq, Int.reduceLT, Int.reduceLE, Nat.reduceEqDiff, Nat.reduceLeDiff, thenQ, ContK, ty2, ty3, ty4, ty5, ty27, ty43, ty64, ty77, ty79, Bool.not_true, Bool.not_false, decide_true, decide_false, if_true, if_false, unk1, unk2, z00, zn1, st89, st43, eql43, getElem?_app_z, getElem?_app_k, set_app_z, set_app_k, getElem?_snoc, set_snoc]
  exact ⟨_, rfl⟩
end Go.Proofs.Ytpgignenhiddkaa
