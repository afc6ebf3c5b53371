/- Contracts: which parts can leak (own texts put together: D6 D7 D8) -/
import Derived.Test.YtpgignenhiddkaaM9
import Derived.Test.YtpgignenhiddkaaM4
set_option linter.unusedSimpArgs false
set_option linter.unusedVariables false
namespace Go.Proofs.Ytpgignenhiddkaa
open Go.Sym
attribute [local irreducible] Run RunS RunG RunDG RunDS RunDE RunDA RunDC RunCall RunX RunB
theorem bl123 : abuild Try.prog 123 [] = some (.agg (arrL 12 (fun _ => 0)).toArray) := by kernel_rfl
theorem eql123 {f g : Nat → Int} {x y : Operand} : abin Try.prog .eql 123 x y (.agg (arrL 12 f).toArray) (.agg (arrL 12 g).toArray) = some (.bool (eqN 12 f g)) :=
  bin_eql_agg (arrL_flat 12 f) (arrL_flat 12 g) (by kernel_rfl) (free_eq_arrL (k := .i64) (by kernel_rfl) sz3 tg3 (by kernel_rfl))
/-- a part can leak -/
def sus (T : TD) (p : Nat) : Bool := decide (canLo T p ≤ canHi T p)
def susF (T : TD) (k : Nat) : Nat → Int := fun p => if decide (p < k) && sus T p then 1 else 0
theorem susF_zero (T : TD) : susF T 0 = fun _ => 0 := by funext p; simp [susF]
theorem susF_yes {T : TD} {k : Nat} (h : sus T k = true) : susF T (k + 1) = upd (susF T k) k 1 := by
  funext p
  unfold upd susF
  by_cases e : p = k
  · subst e; rw [if_pos rfl, h]; simp
  · rw [if_neg e]
    congr 2
    rw [Bool.eq_iff_iff]
    simp; omega
theorem susF_no {T : TD} {k : Nat} (h : sus T k = false) : susF T (k + 1) = susF T k := by
  funext p
  unfold susF
  by_cases e : p = k
  · subst e; rw [h]; simp
  · congr 1
    rw [Bool.eq_iff_iff]
    simp
    intro _; omega
/-- how many of the first k parts can leak, and which -/
def cS (T : TD) : Nat → Nat
  | 0 => 0
  | k + 1 => if sus T k then cS T k + 1 else cS T k
def fS (T : TD) : Nat → Nat → Int
  | 0 => fun _ => 0
  | k + 1 => if sus T k then upd (fS T k) (cS T k) k else fS T k
theorem cS_yes {T : TD} {k : Nat} (h : sus T k = true) : cS T (k + 1) = cS T k + 1 := by show (if sus T k then _ else _) = _; rw [h]; rfl
theorem cS_no {T : TD} {k : Nat} (h : sus T k = false) : cS T (k + 1) = cS T k := by show (if sus T k then _ else _) = _; rw [h]; rfl
theorem fS_yes {T : TD} {k : Nat} (h : sus T k = true) : fS T (k + 1) = upd (fS T k) (cS T k) k := by show (if sus T k then _ else _) = _; rw [h]; rfl
theorem fS_no {T : TD} {k : Nat} (h : sus T k = false) : fS T (k + 1) = fS T k := by show (if sus T k then _ else _) = _; rw [h]; rfl
theorem cS_le (T : TD) : ∀ k, cS T k ≤ k
  | 0 => Nat.le_refl _
  | k + 1 => by
    have := cS_le T k
    cases h : sus T k with
    | true => rw [cS_yes h]; omega
    | false => rw [cS_no h]; omega
theorem fS_row {T : TD} {k : Nat} (h : sus T k = true) : arrL (cS T k) (fS T k) = arrL (cS T k) (fS T (k + 1)) := by
  refine arrL_ext fun i hi => ?_
  rw [fS_yes h]; unfold upd; rw [if_neg (by omega)]
theorem fS_at {T : TD} {k : Nat} (h : sus T k = true) : fS T (k + 1) (cS T k) = k := by
  rw [fS_yes h]; unfold upd; rw [if_pos rfl]
theorem cS_zero {T : TD} : ∀ k, cS T k = 0 ↔ ∀ p, p < k → sus T p = false
  | 0 => ⟨fun _ p hp => by omega, fun _ => rfl⟩
  | k + 1 => by
    have ih := cS_zero (T := T) k
    cases h : sus T k with
    | true =>
      rw [cS_yes h]
      refine ⟨fun h0 => by omega, fun h0 => ?_⟩
      have := h0 k (by omega); rw [h] at this; cases this
    | false =>
      rw [cS_no h, ih]
      refine ⟨fun h0 p hp => ?_, fun h0 p hp => h0 p (by omega)⟩
      by_cases e : p = k
      · subst e; exact h
      · exact h0 p (by omega)
/-- dead blocks, but for one -/
def deadBut (N q : Nat) (b : Blk) : H := (List.replicate N Blk.dead).set q b
theorem deadBut_len {N q : Nat} {b : Blk} : (deadBut N q b).length = N := by simp [deadBut]
theorem deadBut_at {N q : Nat} {b : Blk} (h : q < N) : (deadBut N q b)[q]? = some b := by simp [deadBut, h]
theorem deadBut_ne {N q k : Nat} {b : Blk} (h : k ≠ q) (hk : k < N) : (deadBut N q b)[k]? = some .dead := by
  unfold deadBut; rw [List.getElem?_set_ne (by omega)]; simp [hk]
theorem deadBut_closed {h : H} {N q : Nat} {b : Blk} (hb : closedB (okN (h.length + N)) b = true) : ∀ id B, (h ++ deadBut N q b : H).get id = some B → closedB (okN (h ++ deadBut N q b : H).length) B = true ∨ h.get id = some B := by
  intro x Bx hg
  rw [List.length_append, deadBut_len]
  by_cases hid : x < h.new
  · right
    have : (h ++ deadBut N q b : H).get x = h.get x := by
      unfold H.get; unfold H.new at hid
      split
      · rw [List.getElem?_append_left (by omega)]
      · rfl
    rw [← this]; exact hg
  · left
    have h1 := H.get_lt hg
    unfold H.new at hid h1
    obtain ⟨y, rfl⟩ : ∃ y, x = 2 * (h.length + y) := ⟨x / 2 - h.length, by omega⟩
    have hy : y < N := by simp [deadBut_len] at h1; omega
    rw [get_k] at hg
    by_cases e : y = q
    · subst e
      rw [deadBut_at hy] at hg
      cases hg; exact hb
    · rw [deadBut_ne e hy] at hg
      cases hg; rfl
theorem deadBut_forgets {h T : H} {N q : Nat} {b : Blk} (hl : T.length = N) (hq : T[q]? = some b ∨ b = .dead) : Forgets (h ++ T) (h ++ deadBut N q b) := by
  refine ⟨by rw [List.length_append, List.length_append, deadBut_len, hl], fun x => ?_⟩
  by_cases hx1 : x < h.length
  · left; rw [List.getElem?_append_left hx1, List.getElem?_append_left hx1]
  · obtain ⟨y, rfl⟩ : ∃ y, x = h.length + y := ⟨x - h.length, by omega⟩
    rw [getElem?_app_k, getElem?_app_k]
    by_cases hy : y < N
    · by_cases e : y = q
      · subst e
        rcases hq with hq | rfl
        · left; rw [deadBut_at hy, hq]
        · right; exact deadBut_at hy
      · right; exact deadBut_ne e hy
    · left
      rw [List.getElem?_eq_none (by rw [deadBut_len]; omega), List.getElem?_eq_none (by omega)]
def rowS (c : Nat) (f : Nat → Int) : Blk := if c = 0 then .dead else .row (arrL c f) 3 1
theorem rowS_closed {ok : Nat → Bool} {c : Nat} {f : Nat → Int} : closedB ok (rowS c f) = true := by
  unfold rowS; split
  · rfl
  · exact closedL_flat _ _ (arrL_flat _ _)
theorem closed_slA {N q c n : Nat} (h : c ≠ 0 → q < N) {k : IntKind} {e : Int} : closedV (okN (n + N)) (.tuple #[slA (2 * (n + q)) c, .int k e]) = true := by
  simp only [closedV, closedA, closedL, Bool.and_true]
  unfold slA; split
  · rfl
  · rename_i h0
    have := h h0
    simp only [closedV, okN]
    simp; omega
theorem sl79_l {k : IntKind} {a : Int} : sliceLit Try.prog 79 1 [(0, .int k a)] = some ([.int k a], 3) := by kernel_rfl
theorem bs79_1 {h : H} {k : IntKind} {a : Int} : abuildSlice Try.prog 79 1 [(0, .int k a)] h = some (.slice (some ⟨h.new, 0, none⟩) 1 1, h ++ [.cells [.int k a] 3]) := by kernel_rfl
set_option maxRecDepth 100000 in
theorem app79 {I : Nat → Option Obj} {h X : H} {q m p : Nat} {f : Nat → Int} (hk : m ≠ 0 → X[q]? = some (.row (arrL m f) 3 1)) (hp : X[p]? = some (.cells [.int .i64 (f m)] 3)) (hm : m < 1000) :
    abi2 Try.prog I .append #[79, 79] 79 [slA (2 * (h.length + q)) m, .slice (some ⟨2 * (h.length + p), 0, none⟩) 1 1] (h ++ X) = some (slA (2 * (h.length + X.length)) (m + 1), h ++ (killL m X q ++ [.row (arrL (m + 1) f) 3 1])) := by
  have e3 : tbytes Try.prog 3 = some 8 := by kernel_rfl
  have e4 : tzero Try.prog 3 = some (.int .i64 0) := by kernel_rfl
  have e5 : rdS I (h ++ X) 1 (.slice (some ⟨2 * (h.length + p), 0, none⟩) 1 1) = some (1, [.int .i64 (f m)]) := by
    unfold rdS; simp only; rw [rd_k, hp, rdB_cells (by simp)]; rfl
  rw [← arrL_snoc]
  exact aappend_row un79 sz3 e3 e4 ⟨rfl, by omega, by omega⟩ hk (fun h => by subst h; rfl) (by rw [arrL_length]; omega) e5 rfl (by omega)

set_option maxRecDepth 100000 in
set_option maxHeartbeats 1000000 in
theorem suspects83 (I : Nat → Option Obj) {h : H} {v : Value} {T : TD} {pn : Nat} (hv : Tests I h v T) (t : TestsOk pn T) :
    Snd Try.prog I (.func 83) [.int .i64 pn, v] h (.agg (arrL 12 (susF T pn)).toArray) h := by
  have hp12 := t.p12
  refine Snd_run0 (rs := [.cell 4 123]) 500 Try.func83 (by kernel_rfl) rfl Try.ntmps83 rfl (by simp only [flat, flatA]; exact arrL_flat 12 _) ?_
  simp -implicitDefEqProofs only [sB, Nat.reduceAdd, Nat.reduceSub, yieldL, popK, flat, nptr, Value.cells, H.new, eq_self, Int.reduceEq, Int.reduceLT, Int.reduceLE, Nat.reduceEqDiff, Nat.reduceLeDiff, thenQ, ContK, ty2, ty3, ty4, ty5, ty43, ty64, ty123, Bool.not_true, Bool.not_false, decide_true, decide_false, if_true, if_false, unk1, unk2, z00, zn1, st89, st43, st123, bl43, bl43_1, bl123, getElem?_app_z, getElem?_app_k, set_app_z, set_app_k]
  obtain ⟨Ja, hJa⟩ : ∃ J : St → Prop, J = fun s => ∃ (k : Nat) (Lx : H), s.df = [] ∧ s.h = h ++ (.cells (arrL 12 (fun _ => 0)) 123 :: .cells (arrL 12 (susF T k)) 123 :: Lx) ∧ s.tm.length = 24 ∧ s.tm.getD 1 undef = v ∧ s.tm.getD 4 undef = .pointer (some ⟨2 * h.length, 0, none⟩) ∧ s.tm.getD 5 undef = .pointer (some ⟨2 * (h.length + 1), 0, none⟩) ∧ s.tm.getD 8 undef = .int .i64 pn ∧ s.tm.getD 9 undef = .int .i64 k ∧ (k ≤ pn) := ⟨_, rfl⟩
  refine Loop_run (by kernel_rfl) 500 Ja (muI 9 pn) (by rw [hJa]; exact ⟨0, [], rfl, by rw [susF_zero], rfl, rfl, rfl, rfl, rfl, rfl, Nat.zero_le _⟩) ?_
  intro sa hsa
  rw [hJa] at hsa
  obtain ⟨tma, dfa, hha⟩ := sa
  obtain ⟨k, Lx, ea1, ea2, ea3, la1, la4, la5, la8, la9, hk⟩ := hsa
  simp only at ea1 ea2 ea3 la1 la4 la5 la8 la9
  subst dfa; subst hha
  have elita : tma = [tma.getD 0 undef, v, tma.getD 2 undef, tma.getD 3 undef, .pointer (some ⟨2 * h.length, 0, none⟩), .pointer (some ⟨2 * (h.length + 1), 0, none⟩), tma.getD 6 undef, tma.getD 7 undef, .int .i64 pn, .int .i64 k, tma.getD 10 undef, tma.getD 11 undef, tma.getD 12 undef, tma.getD 13 undef, tma.getD 14 undef, tma.getD 15 undef, tma.getD 16 undef, tma.getD 17 undef, tma.getD 18 undef, tma.getD 19 undef, tma.getD 20 undef, tma.getD 21 undef, tma.getD 22 undef, tma.getD 23 undef] := by
    have e0 := lit_eq ea3
    have er : List.range 24 = [0, 1, 2, 3, 4, 5, 6, 7, 8, 9, 10, 11, 12, 13, 14, 15, 16, 17, 18, 19, 20, 21, 22, 23] := by rfl
    rw [er] at e0
    simp only [List.map_cons, List.map_nil, la1, la4, la5, la8, la9] at e0
    exact e0
  rw [elita]
  clear la1
  clear la4
  clear la5
  clear la8
  clear la9
  clear elita ea3
  by_cases hkn : k < pn
  · have h1 : (k : Int) < (pn : Int) := by omega
    have h4 := wrap_add1 (i := k) (by omega)
    have h5 : (0 : Int) ≤ (k : Int) ∧ (k : Int) < ((12 : Nat) : Int) := ⟨by omega, by omega⟩
    have h6 := wrArr (N := 12) (i := k) (w := susF T k) (x := 1) (e := 123) (by omega)
    simp -implicitDefEqProofs only [sB, Nat.reduceAdd, Nat.reduceSub, yieldL, popK, flat, nptr, Value.cells, H.new, eq_self, Int.reduceEq, Int.reduceLT, Int.reduceLE, Nat.reduceEqDiff, Nat.reduceLeDiff, thenQ, ContK, ty2, ty3, ty4, ty5, ty43, ty64, ty123, Bool.not_true, Bool.not_false, decide_true, decide_false, if_true, if_false, unk1, unk2, z00, zn1, st89, st43, st123, bl43, bl43_1, bl123, getElem?_app_z, getElem?_app_k, set_app_z, set_app_k, h1]
    refine RunCall_of (can80 I (hv.app _) t (show k < 12 by omega)) ?_
    cases hs : sus T k with
    | true =>
      have c1 : canLo T k ≤ canHi T k := of_decide_eq_true hs
      simp -implicitDefEqProofs only [sB, Nat.reduceAdd, Nat.reduceSub, yieldL, popK, flat, nptr, Value.cells, H.new, eq_self, Int.reduceEq, Int.reduceLT, Int.reduceLE, Nat.reduceEqDiff, Nat.reduceLeDiff, thenQ, ContK, ty2, ty3, ty4, ty5, ty43, ty64, ty123, Bool.not_true, Bool.not_false, decide_true, decide_false, if_true, if_false, unk1, unk2, z00, zn1, st89, st43, st123, bl43, bl43_1, bl123, getElem?_app_z, getElem?_app_k, set_app_z, set_app_k, c1, h4, h5, h6]
      refine ⟨by rw [hJa]; exact ⟨k + 1, _, rfl, by rw [susF_yes hs], rfl, rfl, rfl, rfl, rfl, rfl, by omega⟩, ?_⟩
      show pn - ((k + 1 : Nat) : Int).toNat < pn - (k : Int).toNat
      omega
    | false =>
      have c1 : ¬ canLo T k ≤ canHi T k := of_decide_eq_false hs
      simp -implicitDefEqProofs only [sB, Nat.reduceAdd, Nat.reduceSub, yieldL, popK, flat, nptr, Value.cells, H.new, eq_self, Int.reduceEq, Int.reduceLT, Int.reduceLE, Nat.reduceEqDiff, Nat.reduceLeDiff, thenQ, ContK, ty2, ty3, ty4, ty5, ty43, ty64, ty123, Bool.not_true, Bool.not_false, decide_true, decide_false, if_true, if_false, unk1, unk2, z00, zn1, st89, st43, st123, bl43, bl43_1, bl123, getElem?_app_z, getElem?_app_k, set_app_z, set_app_k, c1, h4]
      refine ⟨by rw [hJa]; exact ⟨k + 1, _, rfl, by rw [susF_no hs], rfl, rfl, rfl, rfl, rfl, rfl, by omega⟩, ?_⟩
      show pn - ((k + 1 : Nat) : Int).toNat < pn - (k : Int).toNat
      omega
  · have h1 : ¬ (k : Int) < (pn : Int) := by omega
    have e : k = pn := by omega
    subst e
    simp -implicitDefEqProofs only [sB, Nat.reduceAdd, Nat.reduceSub, yieldL, popK, flat, nptr, Value.cells, H.new, eq_self, Int.reduceEq, Int.reduceLT, Int.reduceLE, Nat.reduceEqDiff, Nat.reduceLeDiff, thenQ, ContK, ty2, ty3, ty4, ty5, ty43, ty64, ty123, Bool.not_true, Bool.not_false, decide_true, decide_false, if_true, if_false, unk1, unk2, z00, zn1, st89, st43, st123, bl43, bl43_1, bl123, getElem?_app_z, getElem?_app_k, set_app_z, set_app_k, h1]
    first | exact ⟨⟨_, rfl⟩, rfl⟩ | exact ⟨_, rfl⟩
end Go.Proofs.Ytpgignenhiddkaa
set_option linter.unusedSimpArgs false
set_option linter.unusedVariables false
namespace Go.Proofs.Ytpgignenhiddkaa
open Go.Sym
attribute [local irreducible] Run RunS RunG RunDG RunDS RunDE RunDA RunDC RunCall RunX RunB
/-- how many blocks are made by the first k rounds, and where the row is -/
def nbR (T : TD) : Nat → Nat
  | 0 => 0
  | k + 1 => if sus T k then nbR T k + 3 else nbR T k + 1
def qiR (T : TD) : Nat → Nat
  | 0 => 0
  | k + 1 => if sus T k then nbR T k + 2 else qiR T k
theorem nbR_yes {T : TD} {k : Nat} (h : sus T k = true) : nbR T (k + 1) = nbR T k + 3 := by show (if sus T k then _ else _) = _; rw [h]; rfl
theorem nbR_no {T : TD} {k : Nat} (h : sus T k = false) : nbR T (k + 1) = nbR T k + 1 := by show (if sus T k then _ else _) = _; rw [h]; rfl
theorem qiR_yes {T : TD} {k : Nat} (h : sus T k = true) : qiR T (k + 1) = nbR T k + 2 := by show (if sus T k then _ else _) = _; rw [h]; rfl
theorem qiR_no {T : TD} {k : Nat} (h : sus T k = false) : qiR T (k + 1) = qiR T k := by show (if sus T k then _ else _) = _; rw [h]; rfl
theorem qiR_lt (T : TD) : ∀ k, cS T k ≠ 0 → qiR T k < nbR T k
  | 0, h => absurd rfl h
  | k + 1, h => by
    cases hs : sus T k with
    | true => rw [qiR_yes hs, nbR_yes hs]; omega
    | false =>
      rw [qiR_no hs, nbR_no hs]
      rw [cS_no hs] at h
      have := qiR_lt T k h
      omega
theorem eqN_sus {T : TD} {pn : Nat} (hp : pn ≤ 12) : eqN 12 (susF T pn) (fun _ => 0) = decide (cS T pn = 0) := by
  rw [Bool.eq_iff_iff, eqN_iff, decide_eq_true_iff, cS_zero]
  unfold susF
  constructor
  · intro h p hpk
    have := h p (by omega)
    cases hs : sus T p with
    | false => rfl
    | true => rw [hs] at this; simp [hpk] at this
  · intro h i hi
    by_cases e : i < pn
    · rw [h i e]; simp
    · simp [e]

set_option maxRecDepth 100000 in
theorem suspects47_err (I : Nat → Option Obj) {h : H} {v : Value} {T : TD} {parts : Int} (hv : Tests I h v T) (he : testsE parts T ≠ 0) :
    Snd Try.prog I (.func 47) [.int .i64 parts, v] h (.tuple #[.slice none 0 0, .int .i64 (testsE parts T)]) h := by
  refine Snd_run0 (rs := [.tmp 4, .tmp 5]) 400 Try.func47 (by kernel_rfl) rfl Try.ntmps47 rfl rfl ?_
  simp -implicitDefEqProofs only [sB, Nat.reduceAdd, Nat.reduceSub, yieldL, popK, flat, nptr, Value.cells, H.new, eq_self, Int.reduceEq, Int.reduceLT, Int.reduceLE, Nat.reduceEqDiff, Nat.reduceLeDiff, thenQ, ContK, ty2, ty3, ty4, ty5, ty27, ty64, ty79, ty123, Bool.not_true, Bool.not_false, decide_true, decide_false, if_true, if_false, unk1, unk2, z00, zn1, st89, st43, st123, bl43, bl43_1, bl123, getElem?_app_z, getElem?_app_k, set_app_z, set_app_k]
  refine RunCall_of (checkTests79 I hv) ?_
  simp -implicitDefEqProofs only [sB, Nat.reduceAdd, Nat.reduceSub, yieldL, popK, flat, nptr, Value.cells, H.new, eq_self, Int.reduceEq, Int.reduceLT, Int.reduceLE, Nat.reduceEqDiff, Nat.reduceLeDiff, thenQ, ContK, ty2, ty3, ty4, ty5, ty27, ty64, ty79, ty123, Bool.not_true, Bool.not_false, decide_true, decide_false, if_true, if_false, unk1, unk2, z00, zn1, st89, st43, st123, bl43, bl43_1, bl123, getElem?_app_z, getElem?_app_k, set_app_z, set_app_k, he]
  exact ⟨[], by simp⟩
set_option maxRecDepth 100000 in
set_option maxHeartbeats 1000000 in
theorem suspects47 (I : Nat → Option Obj) {h : H} {v : Value} {T : TD} {pn : Nat} (hv : Tests I h v T) (he : testsE pn T = 0) :
    Snd Try.prog I (.func 47) [.int .i64 pn, v] h (.tuple #[slA (2 * (h.length + 2 * cS T pn)) (cS T pn), .int .i64 0]) (h ++ deadBut (1 + 2 * cS T pn) (2 * cS T pn) (rowS (cS T pn) (fS T pn)) : H) := by
  have t := tests_ok he
  have hp12 : pn ≤ 12 := by have := t.p12; omega
  refine Snd_runK (rs := [.tmp 4, .tmp 5]) 600 Try.func47 (by kernel_rfl) rfl Try.ntmps47 rfl (by simp) (deadBut_closed rowS_closed) (by rw [List.length_append, deadBut_len]; exact closed_slA (fun _ => by omega)) ?_
  simp -implicitDefEqProofs only [sB, Nat.reduceAdd, Nat.reduceSub, yieldL, popK, flat, nptr, Value.cells, H.new, eq_self, Int.reduceEq, Int.reduceLT, Int.reduceLE, Nat.reduceEqDiff, Nat.reduceLeDiff, thenQ, ContK, ty2, ty3, ty4, ty5, ty27, ty64, ty79, ty123, Bool.not_true, Bool.not_false, decide_true, decide_false, if_true, if_false, unk1, unk2, z00, zn1, st89, st43, st123, bl43, bl43_1, bl123, getElem?_app_z, getElem?_app_k, set_app_z, set_app_k]
  refine RunCall_of (checkTests79 I hv) ?_
  simp -implicitDefEqProofs only [sB, Nat.reduceAdd, Nat.reduceSub, yieldL, popK, flat, nptr, Value.cells, H.new, eq_self, Int.reduceEq, Int.reduceLT, Int.reduceLE, Nat.reduceEqDiff, Nat.reduceLeDiff, thenQ, ContK, ty2, ty3, ty4, ty5, ty27, ty64, ty79, ty123, Bool.not_true, Bool.not_false, decide_true, decide_false, if_true, if_false, unk1, unk2, z00, zn1, st89, st43, st123, bl43, bl43_1, bl123, getElem?_app_z, getElem?_app_k, set_app_z, set_app_k, he]
  refine RunCall_of (suspects83 I hv t) ?_
  simp -implicitDefEqProofs only [sB, Nat.reduceAdd, Nat.reduceSub, yieldL, popK, flat, nptr, Value.cells, H.new, eq_self, Int.reduceEq, Int.reduceLT, Int.reduceLE, Nat.reduceEqDiff, Nat.reduceLeDiff, thenQ, ContK, ty2, ty3, ty4, ty5, ty27, ty64, ty79, ty123, Bool.not_true, Bool.not_false, decide_true, decide_false, if_true, if_false, unk1, unk2, z00, zn1, st89, st43, st123, bl43, bl43_1, bl123, getElem?_app_z, getElem?_app_k, set_app_z, set_app_k]
  by_cases c0 : cS T pn = 0
  · have e1 := eqN_sus (T := T) hp12
    rw [decide_eq_true c0] at e1
    simp -implicitDefEqProofs only [sB, Nat.reduceAdd, Nat.reduceSub, yieldL, popK, flat, nptr, Value.cells, H.new, eq_self, Int.reduceEq, Int.reduceLT, Int.reduceLE, Nat.reduceEqDiff, Nat.reduceLeDiff, thenQ, ContK, ty2, ty3, ty4, ty5, ty27, ty64, ty79, ty123, Bool.not_true, Bool.not_false, decide_true, decide_false, if_true, if_false, unk1, unk2, z00, zn1, st89, st43, st123, bl43, bl43_1, bl123, getElem?_app_z, getElem?_app_k, set_app_z, set_app_k, eql123, e1, finK_ret]
    refine ⟨⟨h ++ [.cells (arrL 12 (susF T pn)) 123], [], (List.append_nil _).symm, ?_⟩, by rw [c0]; rfl⟩
    exact deadBut_forgets (by rw [c0]; rfl) (.inr (by rw [c0]; rfl))
  · have e1 := eqN_sus (T := T) hp12
    rw [decide_eq_false c0] at e1
    simp -implicitDefEqProofs only [sB, Nat.reduceAdd, Nat.reduceSub, yieldL, popK, flat, nptr, Value.cells, H.new, eq_self, Int.reduceEq, Int.reduceLT, Int.reduceLE, Nat.reduceEqDiff, Nat.reduceLeDiff, thenQ, ContK, ty2, ty3, ty4, ty5, ty27, ty64, ty79, ty123, Bool.not_true, Bool.not_false, decide_true, decide_false, if_true, if_false, unk1, unk2, z00, zn1, st89, st43, st123, bl43, bl43_1, bl123, getElem?_app_z, getElem?_app_k, set_app_z, set_app_k, eql123, e1]
    obtain ⟨Ja, hJa⟩ : ∃ J : St → Prop, J = fun s => ∃ (k : Nat) (X : H), s.df = [] ∧ s.h = h ++ X ∧ s.tm.length = 36 ∧ s.tm.getD 8 undef = slA (2 * (h.length + 2 * cS T (min k pn))) (cS T (min k pn)) ∧ s.tm.getD 23 undef = .agg (arrL 12 (susF T pn)).toArray ∧ s.tm.getD 24 undef = .int .i64 k ∧ (k ≤ 12) ∧ (X.length = 1 + 2 * cS T (min k pn)) ∧ (cS T (min k pn) ≠ 0 → X[2 * cS T (min k pn)]? = some (.row (arrL (cS T (min k pn)) (fS T (min k pn))) 3 1)) := ⟨_, rfl⟩
    refine Loop_run (by kernel_rfl) 600 Ja (muI 24 12) (by rw [hJa]; exact ⟨0, [.cells (arrL 12 (susF T pn)) 123], rfl, rfl, rfl, by rw [show min 0 pn = 0 by omega]; rfl, rfl, rfl, by omega, by rw [show min 0 pn = 0 by omega]; rfl, fun h => by rw [show min 0 pn = 0 by omega] at h; exact absurd rfl h⟩) ?_
    intro sa hsa
    rw [hJa] at hsa
    obtain ⟨tma, dfa, hha⟩ := sa
    obtain ⟨k, X, ea1, ea2, ea3, la8, la23, la24, hk, hX, hr⟩ := hsa
    simp only at ea1 ea2 ea3 la8 la23 la24
    subst dfa; subst hha
    have elita : tma = [tma.getD 0 undef, tma.getD 1 undef, tma.getD 2 undef, tma.getD 3 undef, tma.getD 4 undef, tma.getD 5 undef, tma.getD 6 undef, tma.getD 7 undef, slA (2 * (h.length + 2 * cS T (min k pn))) (cS T (min k pn)), tma.getD 9 undef, tma.getD 10 undef, tma.getD 11 undef, tma.getD 12 undef, tma.getD 13 undef, tma.getD 14 undef, tma.getD 15 undef, tma.getD 16 undef, tma.getD 17 undef, tma.getD 18 undef, tma.getD 19 undef, tma.getD 20 undef, tma.getD 21 undef, tma.getD 22 undef, .agg (arrL 12 (susF T pn)).toArray, .int .i64 k, tma.getD 25 undef, tma.getD 26 undef, tma.getD 27 undef, tma.getD 28 undef, tma.getD 29 undef, tma.getD 30 undef, tma.getD 31 undef, tma.getD 32 undef, tma.getD 33 undef, tma.getD 34 undef, tma.getD 35 undef] := by
      have e0 := lit_eq ea3
      have er : List.range 36 = [0, 1, 2, 3, 4, 5, 6, 7, 8, 9, 10, 11, 12, 13, 14, 15, 16, 17, 18, 19, 20, 21, 22, 23, 24, 25, 26, 27, 28, 29, 30, 31, 32, 33, 34, 35] := by rfl
      rw [er] at e0
      simp only [List.map_cons, List.map_nil, la8, la23, la24] at e0
      exact e0
    rw [elita]
    clear la8
    clear la23
    clear la24
    clear elita ea3
    by_cases hkn : k < 12
    · have h1 : (k : Int) < 12 := by omega
      have h4 := wrap_add1 (i := k) (by omega)
      have hle := cS_le T (min k pn)
      by_cases hs : susF T pn k = 1
      · have hsk : k < pn ∧ sus T k = true := by
          unfold susF at hs
          by_cases e : k < pn
          · refine ⟨e, ?_⟩
            cases hb : sus T k with
            | true => rfl
            | false => rw [hb] at hs; simp at hs
          · simp [e] at hs
        have m1 : min k pn = k := by omega
        have m2 : min (k + 1) pn = k + 1 := by omega
        rw [m1] at hX hr hle
        have hq : cS T k ≠ 0 → 2 * cS T k < X.length := fun _ => by omega
        have hA := app79 (I := I) (h := h) (X := X ++ [.cells [.int .i64 k] 3]) (q := 2 * cS T k) (m := cS T k) (p := X.length) (f := fS T (k + 1)) (fun h => getElem?_app_lt (by rw [← fS_row hsk.2]; exact hr h)) (by rw [fS_at hsk.2]; simp) (by omega)
        simp only [killL_app hq, List.length_append, List.append_assoc, List.cons_append, List.nil_append, List.length_cons, List.length_nil, killL_len, Nat.reduceAdd] at hA
        simp -implicitDefEqProofs only [sB, Nat.reduceAdd, Nat.reduceSub, yieldL, popK, flat, nptr, Value.cells, H.new, eq_self, Int.reduceEq, Int.reduceLT, Int.reduceLE, Nat.reduceEqDiff, Nat.reduceLeDiff, thenQ, ContK, ty2, ty3, ty4, ty5, ty27, ty64, ty79, ty123, Bool.not_true, Bool.not_false, decide_true, decide_false, if_true, if_false, unk1, unk2, z00, zn1, st89, st43, st123, bl43, bl43_1, bl123, getElem?_app_z, getElem?_app_k, set_app_z, set_app_k, h1, h4, ax123 hkn, hs, m1, bs79_1, hA]
        refine ⟨by rw [hJa]; exact ⟨k + 1, _, rfl, rfl, rfl, by rw [m2, cS_yes hsk.2, show 2 * (cS T k + 1) = X.length + 1 by omega]; rfl, rfl, rfl, by omega, by rw [m2, cS_yes hsk.2]; simp [killL_len, hX]; omega, fun _ => by rw [m2, cS_yes hsk.2, show 2 * (cS T k + 1) = X.length + 1 by omega, List.getElem?_append_right (by rw [killL_len]; omega), killL_len]; simp⟩, ?_⟩
        show 12 - ((k + 1 : Nat) : Int).toNat < 12 - (k : Int).toNat
        omega
      · have m3 : cS T (min (k + 1) pn) = cS T (min k pn) ∧ fS T (min (k + 1) pn) = fS T (min k pn) := by
          by_cases e : k < pn
          · have hb : sus T k = false := by
              cases hb : sus T k with
              | false => rfl
              | true => exfalso; apply hs; unfold susF; rw [hb]; simp [e]
            rw [show min (k + 1) pn = k + 1 by omega, show min k pn = k by omega]
            exact ⟨cS_no hb, fS_no hb⟩
          · rw [show min (k + 1) pn = min k pn by omega]; exact ⟨rfl, rfl⟩
        simp -implicitDefEqProofs only [sB, Nat.reduceAdd, Nat.reduceSub, yieldL, popK, flat, nptr, Value.cells, H.new, eq_self, Int.reduceEq, Int.reduceLT, Int.reduceLE, Nat.reduceEqDiff, Nat.reduceLeDiff, thenQ, ContK, ty2, ty3, ty4, ty5, ty27, ty64, ty79, ty123, Bool.not_true, Bool.not_false, decide_true, decide_false, if_true, if_false, unk1, unk2, z00, zn1, st89, st43, st123, bl43, bl43_1, bl123, getElem?_app_z, getElem?_app_k, set_app_z, set_app_k, h1, h4, ax123 hkn, hs]
        refine ⟨by rw [hJa]; exact ⟨k + 1, _, rfl, rfl, rfl, by rw [m3.1]; rfl, rfl, rfl, by omega, by rw [m3.1]; exact hX, by rw [m3.1, m3.2]; exact hr⟩, ?_⟩
        show 12 - ((k + 1 : Nat) : Int).toNat < 12 - (k : Int).toNat
        omega
    · have h1 : ¬ (k : Int) < 12 := by omega
      have m1 : min k pn = pn := by omega
      rw [m1] at hX hr
      simp -implicitDefEqProofs only [sB, Nat.reduceAdd, Nat.reduceSub, yieldL, popK, flat, nptr, Value.cells, H.new, eq_self, Int.reduceEq, Int.reduceLT, Int.reduceLE, Nat.reduceEqDiff, Nat.reduceLeDiff, thenQ, ContK, ty2, ty3, ty4, ty5, ty27, ty64, ty79, ty123, Bool.not_true, Bool.not_false, decide_true, decide_false, if_true, if_false, unk1, unk2, z00, zn1, st89, st43, st123, bl43, bl43_1, bl123, getElem?_app_z, getElem?_app_k, set_app_z, set_app_k, h1, m1, finK_ret]
      refine ⟨_, [], (List.append_nil _).symm, ?_⟩
      exact deadBut_forgets hX (.inl (by unfold rowS; rw [if_neg c0]; exact hr c0))
end Go.Proofs.Ytpgignenhiddkaa
set_option linter.unusedSimpArgs false
set_option linter.unusedVariables false
namespace Go.Proofs.Ytpgignenhiddkaa
open Go.Sym
attribute [local irreducible] Run RunS RunG RunDG RunDS RunDE RunDA RunDC RunCall RunX RunB
theorem bl43_0 : abuild Try.prog 43 [] = some (.agg #[.int .i64 0, .int .i64 0]) := by kernel_rfl
set_option maxRecDepth 100000 in
theorem suspects48_err (I : Nat → Option Obj) {h : H} {v : Value} {T : TD} {parts : Int} (hv : Tests I h v T) (he : testsE parts T ≠ 0) :
    Snd Try.prog I (.func 48) [.int .i64 parts, v] h (.tuple #[.slice none 0 0, .int .i64 (testsE parts T)]) h := by
  refine Snd_run0 (rs := [.tmp 4, .tmp 5]) 400 Try.func48 (by kernel_rfl) rfl Try.ntmps48 rfl rfl ?_
  simp -implicitDefEqProofs only [sB, Nat.reduceAdd, Nat.reduceSub, yieldL, popK, flat, nptr, Value.cells, H.new, eq_self, Int.reduceEq, Int.reduceLT, Int.reduceLE, Nat.reduceEqDiff, Nat.reduceLeDiff, thenQ, ContK, ty2, ty3, ty4, ty5, ty27, ty43, ty64, ty79, Bool.not_true, Bool.not_false, decide_true, decide_false, if_true, if_false, unk1, unk2, z00, zn1, st89, st43, st123, bl43, bl43_0, bl43_1, bl123, getElem?_app_z, getElem?_app_k, set_app_z, set_app_k]
  refine RunCall_of (checkTests84 I hv) ?_
  simp -implicitDefEqProofs only [sB, Nat.reduceAdd, Nat.reduceSub, yieldL, popK, flat, nptr, Value.cells, H.new, eq_self, Int.reduceEq, Int.reduceLT, Int.reduceLE, Nat.reduceEqDiff, Nat.reduceLeDiff, thenQ, ContK, ty2, ty3, ty4, ty5, ty27, ty43, ty64, ty79, Bool.not_true, Bool.not_false, decide_true, decide_false, if_true, if_false, unk1, unk2, z00, zn1, st89, st43, st123, bl43, bl43_0, bl43_1, bl123, getElem?_app_z, getElem?_app_k, set_app_z, set_app_k, he]
  refine RunCall_of (checkTests84 I hv) ?_
  simp -implicitDefEqProofs only [sB, Nat.reduceAdd, Nat.reduceSub, yieldL, popK, flat, nptr, Value.cells, H.new, eq_self, Int.reduceEq, Int.reduceLT, Int.reduceLE, Nat.reduceEqDiff, Nat.reduceLeDiff, thenQ, ContK, ty2, ty3, ty4, ty5, ty27, ty43, ty64, ty79, Bool.not_true, Bool.not_false, decide_true, decide_false, if_true, if_false, unk1, unk2, z00, zn1, st89, st43, st123, bl43, bl43_0, bl43_1, bl123, getElem?_app_z, getElem?_app_k, set_app_z, set_app_k, he]
  exact ⟨[], by simp⟩
set_option maxRecDepth 100000 in
set_option maxHeartbeats 1000000 in
theorem suspects48 (I : Nat → Option Obj) {h : H} {v : Value} {T : TD} {pn : Nat} (hv : Tests I h v T) (he : testsE pn T = 0) :
    Snd Try.prog I (.func 48) [.int .i64 pn, v] h (.tuple #[slA (2 * (h.length + qiR T pn)) (cS T pn), .int .i64 0]) (h ++ deadBut (nbR T pn) (qiR T pn) (rowS (cS T pn) (fS T pn)) : H) := by
  have t := tests_ok he
  have hp12 : pn ≤ 12 := by have := t.p12; omega
  refine Snd_runK (rs := [.tmp 4, .tmp 5]) 600 Try.func48 (by kernel_rfl) rfl Try.ntmps48 rfl (by simp) (deadBut_closed rowS_closed) (by rw [List.length_append, deadBut_len]; exact closed_slA (qiR_lt T pn)) ?_
  simp -implicitDefEqProofs only [sB, Nat.reduceAdd, Nat.reduceSub, yieldL, popK, flat, nptr, Value.cells, H.new, eq_self, Int.reduceEq, Int.reduceLT, Int.reduceLE, Nat.reduceEqDiff, Nat.reduceLeDiff, thenQ, ContK, ty2, ty3, ty4, ty5, ty27, ty43, ty64, ty79, Bool.not_true, Bool.not_false, decide_true, decide_false, if_true, if_false, unk1, unk2, z00, zn1, st89, st43, st123, bl43, bl43_0, bl43_1, bl123, getElem?_app_z, getElem?_app_k, set_app_z, set_app_k]
  refine RunCall_of (checkTests84 I hv) ?_
  simp -implicitDefEqProofs only [sB, Nat.reduceAdd, Nat.reduceSub, yieldL, popK, flat, nptr, Value.cells, H.new, eq_self, Int.reduceEq, Int.reduceLT, Int.reduceLE, Nat.reduceEqDiff, Nat.reduceLeDiff, thenQ, ContK, ty2, ty3, ty4, ty5, ty27, ty43, ty64, ty79, Bool.not_true, Bool.not_false, decide_true, decide_false, if_true, if_false, unk1, unk2, z00, zn1, st89, st43, st123, bl43, bl43_0, bl43_1, bl123, getElem?_app_z, getElem?_app_k, set_app_z, set_app_k, he]
  obtain ⟨Ja, hJa⟩ : ∃ J : St → Prop, J = fun s => ∃ (k : Nat) (X : H), s.df = [] ∧ s.h = h ++ X ∧ s.tm.length = 34 ∧ s.tm.getD 0 undef = .int .i64 pn ∧ s.tm.getD 1 undef = v ∧ s.tm.getD 6 undef = slA (2 * (h.length + qiR T k)) (cS T k) ∧ s.tm.getD 7 undef = .int .i64 k ∧ (k ≤ pn) ∧ (X.length = nbR T k) ∧ (cS T k ≠ 0 → X[qiR T k]? = some (.row (arrL (cS T k) (fS T k)) 3 1)) := ⟨_, rfl⟩
  refine Loop_run (by kernel_rfl) 600 Ja (muI 7 pn) (by rw [hJa]; exact ⟨0, [], rfl, by simp, rfl, rfl, rfl, rfl, rfl, by omega, rfl, fun h => absurd rfl h⟩) ?_
  intro sa hsa
  rw [hJa] at hsa
  obtain ⟨tma, dfa, hha⟩ := sa
  obtain ⟨k, X, ea1, ea2, ea3, la0, la1, la6, la7, hk, hX, hr⟩ := hsa
  simp only at ea1 ea2 ea3 la0 la1 la6 la7
  subst dfa; subst hha
  have elita : tma = [.int .i64 pn, v, tma.getD 2 undef, tma.getD 3 undef, tma.getD 4 undef, tma.getD 5 undef, slA (2 * (h.length + qiR T k)) (cS T k), .int .i64 k, tma.getD 8 undef, tma.getD 9 undef, tma.getD 10 undef, tma.getD 11 undef, tma.getD 12 undef, tma.getD 13 undef, tma.getD 14 undef, tma.getD 15 undef, tma.getD 16 undef, tma.getD 17 undef, tma.getD 18 undef, tma.getD 19 undef, tma.getD 20 undef, tma.getD 21 undef, tma.getD 22 undef, tma.getD 23 undef, tma.getD 24 undef, tma.getD 25 undef, tma.getD 26 undef, tma.getD 27 undef, tma.getD 28 undef, tma.getD 29 undef, tma.getD 30 undef, tma.getD 31 undef, tma.getD 32 undef, tma.getD 33 undef] := by
    have e0 := lit_eq ea3
    have er : List.range 34 = [0, 1, 2, 3, 4, 5, 6, 7, 8, 9, 10, 11, 12, 13, 14, 15, 16, 17, 18, 19, 20, 21, 22, 23, 24, 25, 26, 27, 28, 29, 30, 31, 32, 33] := by rfl
    rw [er] at e0
    simp only [List.map_cons, List.map_nil, la0, la1, la6, la7] at e0
    exact e0
  rw [elita]
  clear la0
  clear la1
  clear la6
  clear la7
  clear elita ea3
  by_cases hkn : k < pn
  · have h1 : (k : Int) < (pn : Int) := by omega
    have h4 := wrap_add1 (i := k) (by omega)
    have hle := cS_le T k
    simp -implicitDefEqProofs only [sB, Nat.reduceAdd, Nat.reduceSub, yieldL, popK, flat, nptr, Value.cells, H.new, eq_self, Int.reduceEq, Int.reduceLT, Int.reduceLE, Nat.reduceEqDiff, Nat.reduceLeDiff, thenQ, ContK, ty2, ty3, ty4, ty5, ty27, ty43, ty64, ty79, Bool.not_true, Bool.not_false, decide_true, decide_false, if_true, if_false, unk1, unk2, z00, zn1, st89, st43, st123, bl43, bl43_0, bl43_1, bl123, getElem?_app_z, getElem?_app_k, set_app_z, set_app_k, h1]
    refine RunCall_of (can85 I (hv.app _) t) ?_
    cases hs : sus T k with
    | true =>
      have c1 : canLo T k ≤ canHi T k := of_decide_eq_true hs
      have hq : cS T k ≠ 0 → qiR T k < X.length := fun h => by rw [hX]; exact qiR_lt T k h
      have hA := app79 (I := I) (h := h) (X := X ++ [.cells [.int .i64 (canLo T k), .int .i64 (canHi T k)] 43, .cells [.int .i64 k] 3]) (q := qiR T k) (m := cS T k) (p := X.length + 1) (f := fS T (k + 1)) (fun h => getElem?_app_lt (by rw [← fS_row hs]; exact hr h)) (by rw [fS_at hs, getElem?_app_k]; rfl) (by omega)
      simp only [killL_app hq, List.length_append, List.append_assoc, List.cons_append, List.nil_append, List.length_cons, List.length_nil, killL_len, Nat.reduceAdd] at hA
      simp -implicitDefEqProofs only [sB, Nat.reduceAdd, Nat.reduceSub, yieldL, popK, flat, nptr, Value.cells, H.new, eq_self, Int.reduceEq, Int.reduceLT, Int.reduceLE, Nat.reduceEqDiff, Nat.reduceLeDiff, thenQ, ContK, ty2, ty3, ty4, ty5, ty27, ty43, ty64, ty79, Bool.not_true, Bool.not_false, decide_true, decide_false, if_true, if_false, unk1, unk2, z00, zn1, st89, st43, st123, bl43, bl43_0, bl43_1, bl123, getElem?_app_z, getElem?_app_k, set_app_z, set_app_k, h4, c1, bs79_1, len_assoc, hA]
      refine ⟨by rw [hJa]; exact ⟨k + 1, _, rfl, rfl, rfl, rfl, rfl, by rw [cS_yes hs, qiR_yes hs, ← hX]; rfl, rfl, by omega, by rw [nbR_yes hs]; simp [killL_len, hX], fun _ => by rw [cS_yes hs, qiR_yes hs, ← hX, List.getElem?_append_right (by rw [killL_len]; omega), killL_len]; simp⟩, ?_⟩
      show pn - ((k + 1 : Nat) : Int).toNat < pn - (k : Int).toNat
      omega
    | false =>
      have c1 : ¬ canLo T k ≤ canHi T k := of_decide_eq_false hs
      simp -implicitDefEqProofs only [sB, Nat.reduceAdd, Nat.reduceSub, yieldL, popK, flat, nptr, Value.cells, H.new, eq_self, Int.reduceEq, Int.reduceLT, Int.reduceLE, Nat.reduceEqDiff, Nat.reduceLeDiff, thenQ, ContK, ty2, ty3, ty4, ty5, ty27, ty43, ty64, ty79, Bool.not_true, Bool.not_false, decide_true, decide_false, if_true, if_false, unk1, unk2, z00, zn1, st89, st43, st123, bl43, bl43_0, bl43_1, bl123, getElem?_app_z, getElem?_app_k, set_app_z, set_app_k, h4, c1]
      refine ⟨by rw [hJa]; exact ⟨k + 1, _, rfl, rfl, rfl, rfl, rfl, by rw [cS_no hs, qiR_no hs]; rfl, rfl, by omega, by rw [nbR_no hs]; simp [hX], fun h => by rw [cS_no hs] at h ⊢; rw [qiR_no hs, fS_no hs]; exact getElem?_app_lt (hr h)⟩, ?_⟩
      show pn - ((k + 1 : Nat) : Int).toNat < pn - (k : Int).toNat
      omega
  · have h1 : ¬ (k : Int) < (pn : Int) := by omega
    have e : k = pn := by omega
    subst e
    simp -implicitDefEqProofs only [sB, Nat.reduceAdd, Nat.reduceSub, yieldL, popK, flat, nptr, Value.cells, H.new, eq_self, Int.reduceEq, Int.reduceLT, Int.reduceLE, Nat.reduceEqDiff, Nat.reduceLeDiff, thenQ, ContK, ty2, ty3, ty4, ty5, ty27, ty43, ty64, ty79, Bool.not_true, Bool.not_false, decide_true, decide_false, if_true, if_false, unk1, unk2, z00, zn1, st89, st43, st123, bl43, bl43_0, bl43_1, bl123, getElem?_app_z, getElem?_app_k, set_app_z, set_app_k, h1, finK_ret]
    refine ⟨_, [], (List.append_nil _).symm, ?_⟩
    refine deadBut_forgets hX ?_
    by_cases c0 : cS T k = 0
    · right; unfold rowS; rw [if_pos c0]
    · left; unfold rowS; rw [if_neg c0]; exact hr c0
/-- what Amount answers -/
def amtV (parts : Int) (T : TD) (part : Int) : Value :=
  if parts < 1 ∨ 12 < parts ∨ part < 0 ∨ parts ≤ part then .tuple #[.agg #[.int .i64 0, .int .i64 0], .int .i64 2]
  else if testsE parts T ≠ 0 then .tuple #[.agg #[.int .i64 0, .int .i64 0], .int .i64 (testsE parts T)]
  else if canHi T part.toNat < canLo T part.toNat then .tuple #[.agg #[.int .i64 0, .int .i64 0], .int .i64 5]
  else .tuple #[.agg #[.int .i64 (canLo T part.toNat), .int .i64 (canHi T part.toNat)], .int .i64 0]
theorem amtV_form {parts : Int} {T : TD} {part : Int} : ∃ a b e, amtV parts T part = .tuple #[.agg #[.int .i64 a, .int .i64 b], .int .i64 e] := by
  unfold amtV
  split
  · exact ⟨_, _, _, rfl⟩
  · split
    · exact ⟨_, _, _, rfl⟩
    · split <;> exact ⟨_, _, _, rfl⟩
theorem amtV_flat {parts : Int} {T : TD} {part : Int} : flat (amtV parts T part) = true := by
  obtain ⟨a, b, e, h⟩ := amtV_form (parts := parts) (T := T) (part := part)
  rw [h]; rfl

set_option maxRecDepth 100000 in
set_option maxHeartbeats 1000000 in
theorem amount37 (I : Nat → Option Obj) {h : H} {v : Value} {T : TD} {parts part : Int} (hv : Tests I h v T) :
    Snd Try.prog I (.func 37) [.int .i64 parts, v, .int .i64 part] h (amtV parts T part) h := by
  refine Snd_run0 (rs := [.cell 6 43, .tmp 7]) 400 Try.func37 (by kernel_rfl) rfl Try.ntmps37 rfl amtV_flat ?_
  by_cases c1 : parts < 1
  · simp -implicitDefEqProofs only [sB, Nat.reduceAdd, Nat.reduceSub, yieldL, popK, flat, nptr, Value.cells, H.new, eq_self, Int.reduceEq, Int.reduceLT, Int.reduceLE, Nat.reduceEqDiff, Nat.reduceLeDiff, thenQ, ContK, ty2, ty3, ty4, ty5, ty27, ty43, ty64, Bool.not_true, Bool.not_false, decide_true, decide_false, if_true, if_false, unk1, unk2, z00, zn1, st89, st43, st123, bl43, bl43_0, bl43_1, bl123, getElem?_app_z, getElem?_app_k, set_app_z, set_app_k, c1]
    exact ⟨⟨_, rfl⟩, by unfold amtV; rw [if_pos (.inl c1)]⟩
  by_cases c2 : 12 < parts
  · simp -implicitDefEqProofs only [sB, Nat.reduceAdd, Nat.reduceSub, yieldL, popK, flat, nptr, Value.cells, H.new, eq_self, Int.reduceEq, Int.reduceLT, Int.reduceLE, Nat.reduceEqDiff, Nat.reduceLeDiff, thenQ, ContK, ty2, ty3, ty4, ty5, ty27, ty43, ty64, Bool.not_true, Bool.not_false, decide_true, decide_false, if_true, if_false, unk1, unk2, z00, zn1, st89, st43, st123, bl43, bl43_0, bl43_1, bl123, getElem?_app_z, getElem?_app_k, set_app_z, set_app_k, c1, c2]
    exact ⟨⟨_, rfl⟩, by unfold amtV; rw [if_pos (.inr (.inl c2))]⟩
  by_cases c3 : part < 0
  · simp -implicitDefEqProofs only [sB, Nat.reduceAdd, Nat.reduceSub, yieldL, popK, flat, nptr, Value.cells, H.new, eq_self, Int.reduceEq, Int.reduceLT, Int.reduceLE, Nat.reduceEqDiff, Nat.reduceLeDiff, thenQ, ContK, ty2, ty3, ty4, ty5, ty27, ty43, ty64, Bool.not_true, Bool.not_false, decide_true, decide_false, if_true, if_false, unk1, unk2, z00, zn1, st89, st43, st123, bl43, bl43_0, bl43_1, bl123, getElem?_app_z, getElem?_app_k, set_app_z, set_app_k, c1, c2, c3]
    exact ⟨⟨_, rfl⟩, by unfold amtV; rw [if_pos (.inr (.inr (.inl c3)))]⟩
  by_cases c4 : parts ≤ part
  · simp -implicitDefEqProofs only [sB, Nat.reduceAdd, Nat.reduceSub, yieldL, popK, flat, nptr, Value.cells, H.new, eq_self, Int.reduceEq, Int.reduceLT, Int.reduceLE, Nat.reduceEqDiff, Nat.reduceLeDiff, thenQ, ContK, ty2, ty3, ty4, ty5, ty27, ty43, ty64, Bool.not_true, Bool.not_false, decide_true, decide_false, if_true, if_false, unk1, unk2, z00, zn1, st89, st43, st123, bl43, bl43_0, bl43_1, bl123, getElem?_app_z, getElem?_app_k, set_app_z, set_app_k, c1, c2, c3, c4]
    exact ⟨⟨_, rfl⟩, by unfold amtV; rw [if_pos (.inr (.inr (.inr c4)))]⟩
  have c0 : ¬ (parts < 1 ∨ 12 < parts ∨ part < 0 ∨ parts ≤ part) := by omega
  obtain ⟨a, rfl⟩ : ∃ a : Nat, part = a := ⟨part.toNat, by omega⟩
  simp -implicitDefEqProofs only [sB, Nat.reduceAdd, Nat.reduceSub, yieldL, popK, flat, nptr, Value.cells, H.new, eq_self, Int.reduceEq, Int.reduceLT, Int.reduceLE, Nat.reduceEqDiff, Nat.reduceLeDiff, thenQ, ContK, ty2, ty3, ty4, ty5, ty27, ty43, ty64, Bool.not_true, Bool.not_false, decide_true, decide_false, if_true, if_false, unk1, unk2, z00, zn1, st89, st43, st123, bl43, bl43_0, bl43_1, bl123, getElem?_app_z, getElem?_app_k, set_app_z, set_app_k, c1, c2, c3, c4]
  refine RunCall_of (checkTests79 I (hv.app _)) ?_
  by_cases he : testsE parts T = 0
  case neg =>
    simp -implicitDefEqProofs only [sB, Nat.reduceAdd, Nat.reduceSub, yieldL, popK, flat, nptr, Value.cells, H.new, eq_self, Int.reduceEq, Int.reduceLT, Int.reduceLE, Nat.reduceEqDiff, Nat.reduceLeDiff, thenQ, ContK, ty2, ty3, ty4, ty5, ty27, ty43, ty64, Bool.not_true, Bool.not_false, decide_true, decide_false, if_true, if_false, unk1, unk2, z00, zn1, st89, st43, st123, bl43, bl43_0, bl43_1, bl123, getElem?_app_z, getElem?_app_k, set_app_z, set_app_k, he]
    exact ⟨⟨_, rfl⟩, by unfold amtV; rw [if_neg c0, if_pos he]⟩
  have t := tests_ok he
  simp -implicitDefEqProofs only [sB, Nat.reduceAdd, Nat.reduceSub, yieldL, popK, flat, nptr, Value.cells, H.new, eq_self, Int.reduceEq, Int.reduceLT, Int.reduceLE, Nat.reduceEqDiff, Nat.reduceLeDiff, thenQ, ContK, ty2, ty3, ty4, ty5, ty27, ty43, ty64, Bool.not_true, Bool.not_false, decide_true, decide_false, if_true, if_false, unk1, unk2, z00, zn1, st89, st43, st123, bl43, bl43_0, bl43_1, bl123, getElem?_app_z, getElem?_app_k, set_app_z, set_app_k, he]
  refine RunCall_of (can80 I (hv.app _) t (by omega)) ?_
  by_cases c5 : canHi T a < canLo T a
  · simp -implicitDefEqProofs only [sB, Nat.reduceAdd, Nat.reduceSub, yieldL, popK, flat, nptr, Value.cells, H.new, eq_self, Int.reduceEq, Int.reduceLT, Int.reduceLE, Nat.reduceEqDiff, Nat.reduceLeDiff, thenQ, ContK, ty2, ty3, ty4, ty5, ty27, ty43, ty64, Bool.not_true, Bool.not_false, decide_true, decide_false, if_true, if_false, unk1, unk2, z00, zn1, st89, st43, st123, bl43, bl43_0, bl43_1, bl123, getElem?_app_z, getElem?_app_k, set_app_z, set_app_k, c5]
    exact ⟨⟨_, rfl⟩, by unfold amtV; rw [if_neg c0, if_neg (by rw [he]; simp), Int.toNat_natCast, if_pos c5]⟩
  · simp -implicitDefEqProofs only [sB, Nat.reduceAdd, Nat.reduceSub, yieldL, popK, flat, nptr, Value.cells, H.new, eq_self, Int.reduceEq, Int.reduceLT, Int.reduceLE, Nat.reduceEqDiff, Nat.reduceLeDiff, thenQ, ContK, ty2, ty3, ty4, ty5, ty27, ty43, ty64, Bool.not_true, Bool.not_false, decide_true, decide_false, if_true, if_false, unk1, unk2, z00, zn1, st89, st43, st123, bl43, bl43_0, bl43_1, bl123, getElem?_app_z, getElem?_app_k, set_app_z, set_app_k, c5]
    exact ⟨⟨_, rfl⟩, by unfold amtV; rw [if_neg c0, if_neg (by rw [he]; simp), Int.toNat_natCast, if_neg c5]⟩

set_option maxRecDepth 100000 in
set_option maxHeartbeats 1000000 in
theorem amount49 (I : Nat → Option Obj) {h : H} {v : Value} {T : TD} {parts part : Int} (hv : Tests I h v T) :
    Snd Try.prog I (.func 49) [.int .i64 parts, v, .int .i64 part] h (amtV parts T part) h := by
  refine Snd_run0 (rs := [.cell 6 43, .tmp 7]) 400 Try.func49 (by kernel_rfl) rfl Try.ntmps49 rfl amtV_flat ?_
  by_cases c1 : parts < 1
  · simp -implicitDefEqProofs only [sB, Nat.reduceAdd, Nat.reduceSub, yieldL, popK, flat, nptr, Value.cells, H.new, eq_self, Int.reduceEq, Int.reduceLT, Int.reduceLE, Nat.reduceEqDiff, Nat.reduceLeDiff, thenQ, ContK, ty2, ty3, ty4, ty5, ty27, ty43, ty64, Bool.not_true, Bool.not_false, decide_true, decide_false, if_true, if_false, unk1, unk2, z00, zn1, st89, st43, st123, bl43, bl43_0, bl43_1, bl123, getElem?_app_z, getElem?_app_k, set_app_z, set_app_k, c1]
    exact ⟨⟨_, rfl⟩, by unfold amtV; rw [if_pos (.inl c1)]⟩
  by_cases c2 : 12 < parts
  · simp -implicitDefEqProofs only [sB, Nat.reduceAdd, Nat.reduceSub, yieldL, popK, flat, nptr, Value.cells, H.new, eq_self, Int.reduceEq, Int.reduceLT, Int.reduceLE, Nat.reduceEqDiff, Nat.reduceLeDiff, thenQ, ContK, ty2, ty3, ty4, ty5, ty27, ty43, ty64, Bool.not_true, Bool.not_false, decide_true, decide_false, if_true, if_false, unk1, unk2, z00, zn1, st89, st43, st123, bl43, bl43_0, bl43_1, bl123, getElem?_app_z, getElem?_app_k, set_app_z, set_app_k, c1, c2]
    exact ⟨⟨_, rfl⟩, by unfold amtV; rw [if_pos (.inr (.inl c2))]⟩
  by_cases c3 : part < 0
  · simp -implicitDefEqProofs only [sB, Nat.reduceAdd, Nat.reduceSub, yieldL, popK, flat, nptr, Value.cells, H.new, eq_self, Int.reduceEq, Int.reduceLT, Int.reduceLE, Nat.reduceEqDiff, Nat.reduceLeDiff, thenQ, ContK, ty2, ty3, ty4, ty5, ty27, ty43, ty64, Bool.not_true, Bool.not_false, decide_true, decide_false, if_true, if_false, unk1, unk2, z00, zn1, st89, st43, st123, bl43, bl43_0, bl43_1, bl123, getElem?_app_z, getElem?_app_k, set_app_z, set_app_k, c1, c2, c3]
    exact ⟨⟨_, rfl⟩, by unfold amtV; rw [if_pos (.inr (.inr (.inl c3)))]⟩
  by_cases c4 : parts ≤ part
  · simp -implicitDefEqProofs only [sB, Nat.reduceAdd, Nat.reduceSub, yieldL, popK, flat, nptr, Value.cells, H.new, eq_self, Int.reduceEq, Int.reduceLT, Int.reduceLE, Nat.reduceEqDiff, Nat.reduceLeDiff, thenQ, ContK, ty2, ty3, ty4, ty5, ty27, ty43, ty64, Bool.not_true, Bool.not_false, decide_true, decide_false, if_true, if_false, unk1, unk2, z00, zn1, st89, st43, st123, bl43, bl43_0, bl43_1, bl123, getElem?_app_z, getElem?_app_k, set_app_z, set_app_k, c1, c2, c3, c4]
    exact ⟨⟨_, rfl⟩, by unfold amtV; rw [if_pos (.inr (.inr (.inr c4)))]⟩
  have c0 : ¬ (parts < 1 ∨ 12 < parts ∨ part < 0 ∨ parts ≤ part) := by omega
  obtain ⟨a, rfl⟩ : ∃ a : Nat, part = a := ⟨part.toNat, by omega⟩
  simp -implicitDefEqProofs only [sB, Nat.reduceAdd, Nat.reduceSub, yieldL, popK, flat, nptr, Value.cells, H.new, eq_self, Int.reduceEq, Int.reduceLT, Int.reduceLE, Nat.reduceEqDiff, Nat.reduceLeDiff, thenQ, ContK, ty2, ty3, ty4, ty5, ty27, ty43, ty64, Bool.not_true, Bool.not_false, decide_true, decide_false, if_true, if_false, unk1, unk2, z00, zn1, st89, st43, st123, bl43, bl43_0, bl43_1, bl123, getElem?_app_z, getElem?_app_k, set_app_z, set_app_k, c1, c2, c3, c4]
  refine RunCall_of (checkTests84 I (hv.app _)) ?_
  by_cases he : testsE parts T = 0
  case neg =>
    simp -implicitDefEqProofs only [sB, Nat.reduceAdd, Nat.reduceSub, yieldL, popK, flat, nptr, Value.cells, H.new, eq_self, Int.reduceEq, Int.reduceLT, Int.reduceLE, Nat.reduceEqDiff, Nat.reduceLeDiff, thenQ, ContK, ty2, ty3, ty4, ty5, ty27, ty43, ty64, Bool.not_true, Bool.not_false, decide_true, decide_false, if_true, if_false, unk1, unk2, z00, zn1, st89, st43, st123, bl43, bl43_0, bl43_1, bl123, getElem?_app_z, getElem?_app_k, set_app_z, set_app_k, he]
    refine RunCall_of (checkTests84 I (hv.app _)) ?_
    simp -implicitDefEqProofs only [sB, Nat.reduceAdd, Nat.reduceSub, yieldL, popK, flat, nptr, Value.cells, H.new, eq_self, Int.reduceEq, Int.reduceLT, Int.reduceLE, Nat.reduceEqDiff, Nat.reduceLeDiff, thenQ, ContK, ty2, ty3, ty4, ty5, ty27, ty43, ty64, Bool.not_true, Bool.not_false, decide_true, decide_false, if_true, if_false, unk1, unk2, z00, zn1, st89, st43, st123, bl43, bl43_0, bl43_1, bl123, getElem?_app_z, getElem?_app_k, set_app_z, set_app_k, he]
    exact ⟨⟨_, rfl⟩, by unfold amtV; rw [if_neg c0, if_pos he]⟩
  have t := tests_ok he
  simp -implicitDefEqProofs only [sB, Nat.reduceAdd, Nat.reduceSub, yieldL, popK, flat, nptr, Value.cells, H.new, eq_self, Int.reduceEq, Int.reduceLT, Int.reduceLE, Nat.reduceEqDiff, Nat.reduceLeDiff, thenQ, ContK, ty2, ty3, ty4, ty5, ty27, ty43, ty64, Bool.not_true, Bool.not_false, decide_true, decide_false, if_true, if_false, unk1, unk2, z00, zn1, st89, st43, st123, bl43, bl43_0, bl43_1, bl123, getElem?_app_z, getElem?_app_k, set_app_z, set_app_k, he]
  refine RunCall_of (can85 I (hv.app _) t) ?_
  by_cases c5 : canHi T a < canLo T a
  · simp -implicitDefEqProofs only [sB, Nat.reduceAdd, Nat.reduceSub, yieldL, popK, flat, nptr, Value.cells, H.new, eq_self, Int.reduceEq, Int.reduceLT, Int.reduceLE, Nat.reduceEqDiff, Nat.reduceLeDiff, thenQ, ContK, ty2, ty3, ty4, ty5, ty27, ty43, ty64, Bool.not_true, Bool.not_false, decide_true, decide_false, if_true, if_false, unk1, unk2, z00, zn1, st89, st43, st123, bl43, bl43_0, bl43_1, bl123, getElem?_app_z, getElem?_app_k, set_app_z, set_app_k, c5]
    exact ⟨⟨_, rfl⟩, by unfold amtV; rw [if_neg c0, if_neg (by rw [he]; simp), Int.toNat_natCast, if_pos c5]⟩
  · simp -implicitDefEqProofs only [sB, Nat.reduceAdd, Nat.reduceSub, yieldL, popK, flat, nptr, Value.cells, H.new, eq_self, Int.reduceEq, Int.reduceLT, Int.reduceLE, Nat.reduceEqDiff, Nat.reduceLeDiff, thenQ, ContK, ty2, ty3, ty4, ty5, ty27, ty43, ty64, Bool.not_true, Bool.not_false, decide_true, decide_false, if_true, if_false, unk1, unk2, z00, zn1, st89, st43, st123, bl43, bl43_0, bl43_1, bl123, getElem?_app_z, getElem?_app_k, set_app_z, set_app_k, c5]
    exact ⟨⟨_, rfl⟩, by unfold amtV; rw [if_neg c0, if_neg (by rw [he]; simp), Int.toNat_natCast, if_neg c5]⟩
end Go.Proofs.Ytpgignenhiddkaa
