/- Contract: Clash of the program (own texts put together: C33 C34) -/
import Derived.Test.YtcocmbccfikmhaaM13
import Derived.Test.YtcocmbccfikmhaaM4
import Derived.Test.YtcocmbccfikmhaaM14
import Derived.Test.YtcocmbccfikmhaaM16
set_option linter.unusedSimpArgs false
set_option linter.unusedVariables false
namespace Go.Proofs.Ytcocmbccfikmhaa
open Go.Sym

set_option maxRecDepth 100000 in
set_option maxHeartbeats 4000000 in
theorem clash31 (I : Nat → Option Obj) {h : H} {v : Value} {n : Nat} {D L U : Nat → Int} {pr : Int} (hv : Rows I v n D L U) :
    Snd Try.prog I (.func 31) [.agg #[v, .int .i64 pr]] h (clashV n D L U pr) h := by
  have hv0 := hv
  obtain ⟨q, c, rfl, hn, hq⟩ := hv
  refine Snd_run0 (rs := [.tmp 2, .tmp 3, .tmp 4]) 700 Try.func31 (by kernel_rfl) rfl Try.ntmps31 rfl clashV_flat ?_
  simp -implicitDefEqProofs only [sB, Nat.reduceAdd, Nat.reduceSub, yieldL, popK, flat, nptr, Value.cells, H.new, eq_self, Int.reduceEq, Int.reduceLT, Int.reduceLE, Nat.reduceEqDiff, Nat.reduceLeDiff, thenQ, ContK, ty2, ty3, ty4, ty5, ty22, ty24, ty30, ty34, ty64, Bool.not_true, Bool.not_false, decide_true, decide_false, if_true, if_false, scopeQ_ret, scopeQ_normal, st64, getElem?_app_k, getElem?_app_z, len_assoc]
  refine Run_scope 700 (by kernel_rfl) ?_
  simp -implicitDefEqProofs only [sB, Nat.reduceAdd, Nat.reduceSub, yieldL, popK, flat, nptr, Value.cells, H.new, eq_self, Int.reduceEq, Int.reduceLT, Int.reduceLE, Nat.reduceEqDiff, Nat.reduceLeDiff, thenQ, ContK, ty2, ty3, ty4, ty5, ty22, ty24, ty30, ty34, ty64, Bool.not_true, Bool.not_false, decide_true, decide_false, if_true, if_false, scopeQ_ret, scopeQ_normal, st64, getElem?_app_k, getElem?_app_z, len_assoc]
  refine RunCall_of (checkTank47 I hv0) ?_
  by_cases he : tankE n D L U pr = 0
  · rw [he]
    have t := tank_ok he
    have n2 := t.n2
    have n16 := t.n16
    obtain ⟨id, off, rfl, hr⟩ := hq (by omega)
    have hV : clashV n D L U pr = match clashP n L U with
      | some (i, k) => .tuple #[.int .i64 i, .int .i64 k, .int .i64 0]
      | none => .tuple #[.int .i64 0, .int .i64 0, .int .i64 5] := by unfold clashV; rw [if_neg (by rw [he]; simp)]; rfl
    simp -implicitDefEqProofs only [sB, Nat.reduceAdd, Nat.reduceSub, yieldL, popK, flat, nptr, Value.cells, H.new, eq_self, Int.reduceEq, Int.reduceLT, Int.reduceLE, Nat.reduceEqDiff, Nat.reduceLeDiff, thenQ, ContK, ty2, ty3, ty4, ty5, ty22, ty24, ty30, ty34, ty64, Bool.not_true, Bool.not_false, decide_true, decide_false, if_true, if_false, scopeQ_ret, scopeQ_normal, st64, getElem?_app_k, getElem?_app_z, len_assoc]
    obtain ⟨Ja, hJa⟩ : ∃ J : St → Prop, J = fun s => ∃ (i : Nat) (Lx : H), s.df = [] ∧ s.h = h ++ (.cells [.slice (some ⟨id, off, none⟩) n c, .int .i64 pr] 24 :: Lx) ∧ s.tm.length = 51 ∧ s.tm.getD 1 undef = .pointer (some ⟨2 * h.length, 0, none⟩) ∧ s.tm.getD 6 undef = .int .i64 0 ∧ s.tm.getD 7 undef = .int .i64 0 ∧ s.tm.getD 17 undef = .slice (some ⟨id, off, none⟩) n c ∧ s.tm.getD 18 undef = .int .i64 n ∧ s.tm.getD 19 undef = .int .i64 i ∧ (i ≤ n) ∧ (clashP n L U = ciF L U n (n - i) i) := ⟨_, rfl⟩
    refine Loop_run (by kernel_rfl) 700 Ja (muI 19 n) (by rw [hJa]; exact ⟨0, [], rfl, rfl, rfl, rfl, rfl, rfl, rfl, rfl, rfl, Nat.zero_le _, rfl⟩) ?_
    intro sa hsa
    rw [hJa] at hsa
    obtain ⟨tma, dfa, hha⟩ := sa
    obtain ⟨i, Lx, ea1, ea2, ea3, la1, la6, la7, la17, la18, la19, hi, hp⟩ := hsa
    simp only at ea1 ea2 ea3 la1 la6 la7 la17 la18 la19
    subst dfa; subst hha
    have elita : tma = [tma.getD 0 undef, .pointer (some ⟨2 * h.length, 0, none⟩), tma.getD 2 undef, tma.getD 3 undef, tma.getD 4 undef, tma.getD 5 undef, .int .i64 0, .int .i64 0, tma.getD 8 undef, tma.getD 9 undef, tma.getD 10 undef, tma.getD 11 undef, tma.getD 12 undef, tma.getD 13 undef, tma.getD 14 undef, tma.getD 15 undef, tma.getD 16 undef, .slice (some ⟨id, off, none⟩) n c, .int .i64 n, .int .i64 i, tma.getD 20 undef, tma.getD 21 undef, tma.getD 22 undef, tma.getD 23 undef, tma.getD 24 undef, tma.getD 25 undef, tma.getD 26 undef, tma.getD 27 undef, tma.getD 28 undef, tma.getD 29 undef, tma.getD 30 undef, tma.getD 31 undef, tma.getD 32 undef, tma.getD 33 undef, tma.getD 34 undef, tma.getD 35 undef, tma.getD 36 undef, tma.getD 37 undef, tma.getD 38 undef, tma.getD 39 undef, tma.getD 40 undef, tma.getD 41 undef, tma.getD 42 undef, tma.getD 43 undef, tma.getD 44 undef, tma.getD 45 undef, tma.getD 46 undef, tma.getD 47 undef, tma.getD 48 undef, tma.getD 49 undef, tma.getD 50 undef] := by
      have e0 := lit_eq ea3
      have er : List.range 51 = [0, 1, 2, 3, 4, 5, 6, 7, 8, 9, 10, 11, 12, 13, 14, 15, 16, 17, 18, 19, 20, 21, 22, 23, 24, 25, 26, 27, 28, 29, 30, 31, 32, 33, 34, 35, 36, 37, 38, 39, 40, 41, 42, 43, 44, 45, 46, 47, 48, 49, 50] := by rfl
      rw [er] at e0
      simp only [List.map_cons, List.map_nil, la1, la6, la7, la17, la18, la19] at e0
      exact e0
    rw [elita]
    clear la1
    clear la6
    clear la7
    clear la17
    clear la18
    clear la19
    clear elita ea3
    by_cases hin : i < n
    · have h1 : (i : Int) < (n : Int) := by omega
      have h2 : (0 : Int) ≤ (i : Int) ∧ (i : Int) < (n : Int) := ⟨by omega, h1⟩
      have h3 := fun h => hr h i hin
      have h4 := wrap_add1 (i := i) (by omega)
      simp -implicitDefEqProofs only [sB, Nat.reduceAdd, Nat.reduceSub, yieldL, popK, flat, nptr, Value.cells, H.new, eq_self, Int.reduceEq, Int.reduceLT, Int.reduceLE, Nat.reduceEqDiff, Nat.reduceLeDiff, thenQ, ContK, ty2, ty3, ty4, ty5, ty22, ty24, ty30, ty34, ty64, Bool.not_true, Bool.not_false, decide_true, decide_false, if_true, if_false, scopeQ_ret, scopeQ_normal, st64, getElem?_app_k, getElem?_app_z, len_assoc, h1, h2, h3, h4]
      obtain ⟨Jb, hJb⟩ : ∃ J : St → Prop, J = fun s => ∃ (k : Nat), s.df = [] ∧ s.h = h ++ (.cells [.slice (some ⟨id, off, none⟩) n c, .int .i64 pr] 24 :: (Lx ++ [.cells [.int .i64 (D i), .int .i64 (L i), .int .i64 (U i)] 64])) ∧ s.tm.length = 51 ∧ s.tm.getD 1 undef = .pointer (some ⟨2 * h.length, 0, none⟩) ∧ s.tm.getD 6 undef = .int .i64 0 ∧ s.tm.getD 7 undef = .int .i64 0 ∧ s.tm.getD 17 undef = .slice (some ⟨id, off, none⟩) n c ∧ s.tm.getD 18 undef = .int .i64 n ∧ s.tm.getD 19 undef = .int .i64 i ∧ s.tm.getD 8 undef = .int .i64 i ∧ s.tm.getD 9 undef = .pointer (some ⟨2 * (h.length + (Lx.length + 1)), 0, none⟩) ∧ s.tm.getD 10 undef = .int .i64 k ∧ (i < k ∧ k ≤ n) ∧ (ckF L U i (n - (i + 1)) (i + 1) = ckF L U i (n - k) k) := ⟨_, rfl⟩
      refine Loop_run (by kernel_rfl) 700 Jb (muI 10 n) (by rw [hJb]; exact ⟨i + 1, rfl, rfl, rfl, rfl, rfl, rfl, rfl, rfl, rfl, rfl, rfl, rfl, ⟨Nat.lt_succ_self i, hin⟩, rfl⟩) ?_
      intro sb hsb
      rw [hJb] at hsb
      obtain ⟨tmb, dfb, hhb⟩ := sb
      obtain ⟨k, eb1, eb2, eb3, lb1, lb6, lb7, lb17, lb18, lb19, lb8, lb9, lb10, hk, hp2⟩ := hsb
      simp only at eb1 eb2 eb3 lb1 lb6 lb7 lb17 lb18 lb19 lb8 lb9 lb10
      subst dfb; subst hhb
      have elitb : tmb = [tmb.getD 0 undef, .pointer (some ⟨2 * h.length, 0, none⟩), tmb.getD 2 undef, tmb.getD 3 undef, tmb.getD 4 undef, tmb.getD 5 undef, .int .i64 0, .int .i64 0, .int .i64 i, .pointer (some ⟨2 * (h.length + (Lx.length + 1)), 0, none⟩), .int .i64 k, tmb.getD 11 undef, tmb.getD 12 undef, tmb.getD 13 undef, tmb.getD 14 undef, tmb.getD 15 undef, tmb.getD 16 undef, .slice (some ⟨id, off, none⟩) n c, .int .i64 n, .int .i64 i, tmb.getD 20 undef, tmb.getD 21 undef, tmb.getD 22 undef, tmb.getD 23 undef, tmb.getD 24 undef, tmb.getD 25 undef, tmb.getD 26 undef, tmb.getD 27 undef, tmb.getD 28 undef, tmb.getD 29 undef, tmb.getD 30 undef, tmb.getD 31 undef, tmb.getD 32 undef, tmb.getD 33 undef, tmb.getD 34 undef, tmb.getD 35 undef, tmb.getD 36 undef, tmb.getD 37 undef, tmb.getD 38 undef, tmb.getD 39 undef, tmb.getD 40 undef, tmb.getD 41 undef, tmb.getD 42 undef, tmb.getD 43 undef, tmb.getD 44 undef, tmb.getD 45 undef, tmb.getD 46 undef, tmb.getD 47 undef, tmb.getD 48 undef, tmb.getD 49 undef, tmb.getD 50 undef] := by
        have e0 := lit_eq eb3
        have er : List.range 51 = [0, 1, 2, 3, 4, 5, 6, 7, 8, 9, 10, 11, 12, 13, 14, 15, 16, 17, 18, 19, 20, 21, 22, 23, 24, 25, 26, 27, 28, 29, 30, 31, 32, 33, 34, 35, 36, 37, 38, 39, 40, 41, 42, 43, 44, 45, 46, 47, 48, 49, 50] := by rfl
        rw [er] at e0
        simp only [List.map_cons, List.map_nil, lb1, lb6, lb7, lb17, lb18, lb19, lb8, lb9, lb10] at e0
        exact e0
      rw [elitb]
      clear lb1
      clear lb6
      clear lb7
      clear lb17
      clear lb18
      clear lb19
      clear lb8
      clear lb9
      clear lb10
      clear elitb eb3
      by_cases hkn : k < n
      · have k1 : (k : Int) < (n : Int) := by omega
        have k2 : (0 : Int) ≤ (k : Int) ∧ (k : Int) < (n : Int) := ⟨by omega, k1⟩
        have k3 := fun h => hr h k hkn
        have k4 := wrap_add1 (i := k) (by omega)
        have hgt : ∀ l : H, (Lx ++ (Blk.cells [.int .i64 (D i), .int .i64 (L i), .int .i64 (U i)] 64 :: l))[Lx.length]? = some (.cells [.int .i64 (D i), .int .i64 (L i), .int .i64 (U i)] 64) := fun l => by rw [getElem?_app_z]; rfl
        by_cases hc : U k < L i
        · have hk0 : ¬ (k : Int) = 0 := by omega
          simp -implicitDefEqProofs only [sB, Nat.reduceAdd, Nat.reduceSub, yieldL, popK, flat, nptr, Value.cells, H.new, eq_self, Int.reduceEq, Int.reduceLT, Int.reduceLE, Nat.reduceEqDiff, Nat.reduceLeDiff, thenQ, ContK, ty2, ty3, ty4, ty5, ty22, ty24, ty30, ty34, ty64, sD, mixT, isAlloc, ridOf, blockOf, Bool.not_true, Bool.not_false, decide_true, decide_false, if_true, if_false, scopeQ_ret, scopeQ_normal, st64, getElem?_app_k, getElem?_app_z, len_assoc, h2, k1, k2, row_U (k3 _), hc, hk0]
          refine ⟨drawOk_ren (fun _ => 0) rfl (by kernel_rfl), ⟨_, rfl⟩, ?_⟩
          rw [hV, hp, ciF_hit hin (by rw [hp2, ckF_hit hkn hc])]
        · simp -implicitDefEqProofs only [sB, Nat.reduceAdd, Nat.reduceSub, yieldL, popK, flat, nptr, Value.cells, H.new, eq_self, Int.reduceEq, Int.reduceLT, Int.reduceLE, Nat.reduceEqDiff, Nat.reduceLeDiff, thenQ, ContK, ty2, ty3, ty4, ty5, ty22, ty24, ty30, ty34, ty64, sD, mixT, isAlloc, ridOf, blockOf, Bool.not_true, Bool.not_false, decide_true, decide_false, if_true, if_false, scopeQ_ret, scopeQ_normal, st64, getElem?_app_k, getElem?_app_z, len_assoc, h2, k1, k2, k4, row_U (k3 _), hc]
          refine ⟨drawOk_ren (fun _ => 0) rfl (by kernel_rfl), by rw [hJb]; exact ⟨k + 1, rfl, rfl, rfl, rfl, rfl, rfl, rfl, rfl, rfl, rfl, rfl, rfl, ⟨by omega, by omega⟩, by rw [hp2, ckF_miss hkn hc]⟩, ?_⟩
          show n - ((k + 1 : Nat) : Int).toNat < n - (k : Int).toNat
          omega
      · have k1 : ¬ (k : Int) < (n : Int) := by omega
        simp -implicitDefEqProofs only [sB, Nat.reduceAdd, Nat.reduceSub, yieldL, popK, flat, nptr, Value.cells, H.new, eq_self, Int.reduceEq, Int.reduceLT, Int.reduceLE, Nat.reduceEqDiff, Nat.reduceLeDiff, thenQ, ContK, ty2, ty3, ty4, ty5, ty22, ty24, ty30, ty34, ty64, Bool.not_true, Bool.not_false, decide_true, decide_false, if_true, if_false, scopeQ_ret, scopeQ_normal, st64, getElem?_app_k, getElem?_app_z, len_assoc, k1, h4]
        refine ⟨by rw [hJa]; exact ⟨i + 1, _, rfl, rfl, rfl, rfl, rfl, rfl, rfl, rfl, rfl, by omega, by rw [hp, ciF_miss hin (by rw [hp2, ckF_end hkn])]⟩, ?_⟩
        show n - ((i + 1 : Nat) : Int).toNat < n - (i : Int).toNat
        omega
    · have h1 : ¬ (i : Int) < (n : Int) := by omega
      simp -implicitDefEqProofs only [sB, Nat.reduceAdd, Nat.reduceSub, yieldL, popK, flat, nptr, Value.cells, H.new, eq_self, Int.reduceEq, Int.reduceLT, Int.reduceLE, Nat.reduceEqDiff, Nat.reduceLeDiff, thenQ, ContK, ty2, ty3, ty4, ty5, ty22, ty24, ty30, ty34, ty64, Bool.not_true, Bool.not_false, decide_true, decide_false, if_true, if_false, scopeQ_ret, scopeQ_normal, st64, getElem?_app_k, getElem?_app_z, len_assoc, h1]
      refine ⟨⟨_, rfl⟩, ?_⟩
      rw [hV, hp, ciF_end hin]
  · simp -implicitDefEqProofs only [sB, Nat.reduceAdd, Nat.reduceSub, yieldL, popK, flat, nptr, Value.cells, H.new, eq_self, Int.reduceEq, Int.reduceLT, Int.reduceLE, Nat.reduceEqDiff, Nat.reduceLeDiff, thenQ, ContK, ty2, ty3, ty4, ty5, ty22, ty24, ty30, ty34, ty64, Bool.not_true, Bool.not_false, decide_true, decide_false, if_true, if_false, scopeQ_ret, scopeQ_normal, st64, getElem?_app_k, getElem?_app_z, len_assoc, he]
    exact ⟨⟨_, rfl⟩, by unfold clashV; rw [if_pos he]⟩
end Go.Proofs.Ytcocmbccfikmhaa
set_option linter.unusedSimpArgs false
set_option linter.unusedVariables false
namespace Go.Proofs.Ytcocmbccfikmhaa
open Go.Sym
/-- what the rounds of Tight leave: a literal and a row each -/
def tT (A B : Nat → Int) : Nat → H
  | 0 => []
  | k + 1 => tT A B k ++ [.cells [.int .i64 (A k), .int .i64 (B k)] 34, .row (rcells A B (k + 1)) 34 2]
theorem tT_len (A B : Nat → Int) : ∀ k, (tT A B k).length = 2 * k
  | 0 => rfl
  | k + 1 => by simp [tT, tT_len A B k]; omega
theorem tT_get (A B : Nat → Int) (k : Nat) : (tT A B (k + 1))[2 * k + 1]? = some (.row (rcells A B (k + 1)) 34 2) := by
  have := tT_len A B k
  unfold tT
  rw [List.getElem?_append_right (by omega)]
  have e : 2 * k + 1 - (tT A B k).length = 1 := by omega
  rw [e]; rfl
/-- the same with the capacity cut -/
def slB (q n : Nat) : Value := if n = 0 then .slice none 0 0 else .slice (some ⟨q, 0, none⟩) n n
theorem sl51 {q k : Nat} {h : H} (hk : k < 1000) : aslice Try.prog 51 (slA q k) none (some (k : Int)) (some (k : Int)) h = some (slB q k) := by
  have e1 : Try.prog.underlying 51 = some (.slice 34) := by kernel_rfl
  by_cases h0 : k = 0
  · subst h0
    have e3 : abounds 0 0 none (some ((0 : Nat) : Int)) (some ((0 : Nat) : Int)) = some (0, 0, 0) := by kernel_rfl
    unfold aslice slA slB
    simp only [e1, sz34, if_true, Option.bind_some, e3, Option.map_some]
  · have e3 : (0 : Int) ≤ (k : Int) ∧ (k : Int) ≤ (k : Int) := ⟨by omega, by omega⟩
    have e4 : abounds k k none (some (k : Int)) (some (k : Int)) = some (0, k, k) := by
      unfold abounds
      simp only [Option.bind_some, e3, and_self, if_true, Option.map_some, Int.toNat_natCast]
    unfold aslice slA slB
    rw [if_neg h0, if_neg h0]
    simp only [e1, e4, sz34, Option.bind_some, Option.isSome_some, if_true]
    rw [if_neg (by simp [UNK]), if_pos (by unfold UNK; omega)]
    simp
set_option maxRecDepth 100000 in
theorem ap51B {I : Nat → Option Obj} {h X : H} {q p m : Nat} {A B : Nat → Int} (hk : m ≠ 0 → X[q]? = some (.row (rcells A B m) 34 2)) (hp : X[p]? = some (.cells [.int .i64 (A m), .int .i64 (B m)] 34)) (hm : m < 1000) :
    abi2 Try.prog I .append #[51, 51] 51 [slB (2 * (h.length + q)) m, .slice (some ⟨2 * (h.length + p), 0, none⟩) 1 1] (h ++ X) = some (slA (2 * (h.length + X.length)) (m + 1), h ++ (X ++ [.row (rcells A B (m + 1)) 34 2])) := by
  have e1 : Try.prog.underlying 51 = some (.slice 34) := by kernel_rfl
  have e3 : tbytes Try.prog 34 = some 16 := by kernel_rfl
  have e4 : tzero Try.prog 34 = some (.agg #[.int .i64 0, .int .i64 0]) := by kernel_rfl
  have e5 : rdS I (h ++ X) 2 (.slice (some ⟨2 * (h.length + p), 0, none⟩) 1 1) = some (1, [.int .i64 (A m), .int .i64 (B m)]) := by
    unfold rdS; simp only; rw [rd_k, hp, rdB_cells (by simp)]; rfl
  have hn : (h ++ X : H).new = 2 * (h.length + X.length) := by simp [H.new]
  show aappend Try.prog I 51 51 _ _ _ = _
  unfold aappend
  simp only [e1, sz34, e3, e4, e5]
  rw [if_pos ⟨rfl, by omega, by omega⟩]
  by_cases h0 : m = 0
  · subst h0
    simp only [slB, slA, if_true]
    rw [if_neg (by omega), if_pos (by omega), hn, List.append_assoc]
    rfl
  · have hl := rcells_length A B m
    have hr : rdl I (h ++ X) (2 * (h.length + q)) 0 (m * 2) = some (rcells A B m) := by
      rw [rd_k, hk h0, rdB_row (by omega), List.drop_zero, List.take_of_length_le (by omega)]
    simp only [slB, slA, if_neg h0, Nat.add_eq_zero_iff, Nat.one_ne_zero, and_false, if_false]
    rw [if_pos (by unfold UNK; omega), if_neg (by omega), if_pos (by omega), hr, hn]
    simp only [Option.map_some, List.append_assoc]
    rfl
theorem lnA {I : Nat → Option Obj} {ty : TypeId} {q k : Nat} {h : H} : abi Try.prog I .len #[51] ty [slA q k] h = some (.int .i64 k, h) := by
  unfold slA; split
  · rename_i e; subst e; exact lnd51
  · exact lnd51
theorem stA {id off q k : Nat} {h : H} : astore Try.prog 51 (.pointer (some ⟨id, off, none⟩)) (slA q k) h = wrl h id off [slA q k] := by
  unfold slA; split <;> exact st51
theorem oc_slA {q k : Nat} : (slA q k).oneCell' = true := by unfold slA; split <;> rfl
theorem sl51_l {a b : Int} : sliceLit Try.prog 51 1 [(0, .agg #[.int .i64 a, .int .i64 b])] = some ([.int .i64 a, .int .i64 b], 34) := by kernel_rfl
theorem rcells_congr {A B A' B' : Nat → Int} : ∀ n, (∀ i, i < n → A i = A' i ∧ B i = B' i) → rcells A B n = rcells A' B' n
  | 0, _ => rfl
  | n + 1, h => by
    unfold rcells
    rw [rcells_congr n (fun i hi => h i (by omega)), (h n (by omega)).1, (h n (by omega)).2]

set_option maxRecDepth 100000 in
theorem tight22_err (I : Nat → Option Obj) {h : H} {v : Value} {n : Nat} {D L U : Nat → Int} {pr : Int} (hv : Rows I v n D L U) (hcv : ∀ N, closedV (okN N) v = true) (herr : openE n D L U pr 0 (fun _ => 0) ≠ 0) :
    Snd Try.prog I (.func 22) [.agg #[v, .int .i64 pr]] h (.tuple #[.slice none 0 0, .int .i64 (openE n D L U pr 0 (fun _ => 0))]) h := by
  have hop := fun h => open48_err I (h := h) (pr := pr) (x := fun _ => 0) hv hcv Sees.nil herr
  refine Snd_run0 (rs := [.tmp 2, .tmp 3]) 600 Try.func22 (by kernel_rfl) rfl Try.ntmps22 rfl rfl ?_
  simp -implicitDefEqProofs only [sB, Nat.reduceAdd, Nat.reduceSub, yieldL, popK, flat, nptr, Value.cells, H.new, eq_self, Int.reduceEq, Int.reduceLT, Int.reduceLE, Nat.reduceEqDiff, Nat.reduceLeDiff, thenQ, ContK, ty2, ty3, ty4, ty5, ty24, ty25, ty30, ty34, ty51, ty78, ty81, ty90, ty97, oi_none, oi_some, Option.map_none, Bool.not_true, Bool.not_false, decide_true, decide_false, if_true, if_false, unk1, bl34, st34, bs51, len_assoc]
  refine RunCall_of (hop _) ?_
  simp -implicitDefEqProofs only [sB, Nat.reduceAdd, Nat.reduceSub, yieldL, popK, flat, nptr, Value.cells, H.new, eq_self, Int.reduceEq, Int.reduceLT, Int.reduceLE, Nat.reduceEqDiff, Nat.reduceLeDiff, thenQ, ContK, ty2, ty3, ty4, ty5, ty24, ty25, ty30, ty34, ty51, ty78, ty81, ty90, ty97, oi_none, oi_some, Option.map_none, Bool.not_true, Bool.not_false, decide_true, decide_false, if_true, if_false, unk1, bl34, st34, bs51, len_assoc, herr]
  first | exact ⟨⟨_, rfl⟩, rfl⟩ | exact ⟨_, rfl⟩
set_option maxRecDepth 100000 in
set_option maxHeartbeats 4000000 in
theorem tight22_ok (I : Nat → Option Obj) {h : H} {v : Value} {n : Nat} {D L U : Nat → Int} {pr : Int} (hv : Rows I v n D L U) (hcv : ∀ N, closedV (okN N) v = true) (hok : openE n D L U pr 0 (fun _ => 0) = 0) :
    Snd Try.prog I (.func 22) [.agg #[v, .int .i64 pr]] h (.tuple #[.slice (some ⟨2 * (h.length + (9 + 2 * n)), 0, none⟩) n UNK, .int .i64 0]) (h ++ (List.replicate (9 + 2 * n) .dead ++ [.row (rcells (fun j => rmax L j) (fun j => rmin U n j) n) 34 2])) := by
  obtain ⟨t, _, _⟩ := open_ok hok
  have n2 := t.n2
  have n16 := t.n16
  have hop := fun h => open48_ok I (h := h) (pr := pr) (x := fun _ => 0) hv hcv Sees.nil hok
  obtain ⟨q, c, rfl, hn, hq⟩ := hv
  obtain ⟨id, off, rfl, hr⟩ := hq (by omega)
  refine Snd_runK (rs := [.tmp 2, .tmp 3]) 700 Try.func22 (by kernel_rfl) rfl Try.ntmps22 rfl (by simp) ?_ ?_ ?_
  · intro x Bx hg
    by_cases hid : x < h.new
    · right
      have : (h ++ (List.replicate (9 + 2 * n) .dead ++ [Blk.row (rcells (fun j => rmax L j) (fun j => rmin U n j) n) 34 2]) : H).get x = h.get x := by
        unfold H.get; unfold H.new at hid
        split
        · rw [List.getElem?_append_left (by omega)]
        · rfl
      rw [← this]; exact hg
    · left
      have h1 := H.get_lt hg
      unfold H.new at hid
      obtain ⟨y, rfl⟩ : ∃ y, x = 2 * (h.length + y) := ⟨x / 2 - h.length, by omega⟩
      rw [get_k] at hg
      by_cases hy : y < 9 + 2 * n
      · rw [List.getElem?_append_left (by simpa using hy), List.getElem?_replicate, if_pos hy] at hg
        cases hg; rfl
      · have hlt := (List.getElem?_eq_some_iff.1 hg).1
        have hy2 : y = 9 + 2 * n := by simp at hlt; omega
        subst hy2
        rw [List.getElem?_append_right (by simp)] at hg
        simp at hg
        subst hg
        exact closedL_flat _ _ (rcells_flat _ _ n)
  · simp [closedV, closedA, closedL, okN]
  simp -implicitDefEqProofs only [sB, Nat.reduceAdd, Nat.reduceSub, yieldL, popK, flat, nptr, Value.cells, H.new, eq_self, Int.reduceEq, Int.reduceLT, Int.reduceLE, Nat.reduceEqDiff, Nat.reduceLeDiff, thenQ, ContK, ty2, ty3, ty4, ty5, ty24, ty25, ty30, ty34, ty51, ty78, ty81, ty90, ty97, oi_none, oi_some, Option.map_none, Bool.not_true, Bool.not_false, decide_true, decide_false, if_true, if_false, unk1, bl34, st34, bs51, len_assoc]
  refine RunCall_of (hop _) ?_
  simp -implicitDefEqProofs only [sB, Nat.reduceAdd, Nat.reduceSub, yieldL, popK, flat, nptr, Value.cells, H.new, eq_self, Int.reduceEq, Int.reduceLT, Int.reduceLE, Nat.reduceEqDiff, Nat.reduceLeDiff, thenQ, ContK, ty2, ty3, ty4, ty5, ty24, ty25, ty30, ty34, ty51, ty78, ty81, ty90, ty97, oi_none, oi_some, Option.map_none, Bool.not_true, Bool.not_false, decide_true, decide_false, if_true, if_false, unk1, bl34, st34, bs51, len_assoc]
  refine RunCall_of (rows58 I (n := n) (pr := pr) (lo := (tightA n (rowA n L U)).1) (hi := (tightA n (rowA n L U)).2) (by rw [rd_k]; exact gb_rows)) ?_
  simp -implicitDefEqProofs only [sB, Nat.reduceAdd, Nat.reduceSub, yieldL, popK, flat, nptr, Value.cells, H.new, eq_self, Int.reduceEq, Int.reduceLT, Int.reduceLE, Nat.reduceEqDiff, Nat.reduceLeDiff, thenQ, ContK, ty2, ty3, ty4, ty5, ty24, ty25, ty30, ty34, ty51, ty78, ty81, ty90, ty97, oi_none, oi_some, Option.map_none, Bool.not_true, Bool.not_false, decide_true, decide_false, if_true, if_false, unk1, bl34, st34, bs51, len_assoc]
  have e1 : ∀ b0 b1 b2 b3 b4 b5 b6 b7 : Blk, (h ++ [b0, b1, b2, b3, b4, b5, b6, b7] : H).length = h.length + 8 := fun _ _ _ _ _ _ _ _ => by simp
  have e3 : h.length + 8 + 1 = h.length + 9 := by omega
  have hgl : ∀ (o : Value) (Bl : Blk) (X : H), (h ++ (Blk.cells [(.slice (some ⟨id, off, none⟩) n c), .int .i64 pr] 24 :: Blk.cells [(.slice (some ⟨id, off, none⟩) n c), .int .i64 pr] 24 :: Blk.cells [(.slice (some ⟨id, off, none⟩) n c), .int .i64 pr] 24 :: gBl (.slice (some ⟨id, off, none⟩) n c) pr (tightA n (rowA n L U)) :: Blk.cells [.pointer (some ⟨2 * (h.length + 3), 0, none⟩)] 78 :: Blk.cells [o] 51 :: Blk.cells [.bool false] 4 :: Blk.cells [.int .i64 n] 3 :: .obj (.deferred (some [])) :: Bl :: X) : H).get (2 * (h.length + 9)) = some Bl := fun o Bl X => by rw [get_k]; rfl
  have hpl : ∀ (o : Value) (Bl B' : Blk) (X : H), (h ++ (Blk.cells [(.slice (some ⟨id, off, none⟩) n c), .int .i64 pr] 24 :: Blk.cells [(.slice (some ⟨id, off, none⟩) n c), .int .i64 pr] 24 :: Blk.cells [(.slice (some ⟨id, off, none⟩) n c), .int .i64 pr] 24 :: gBl (.slice (some ⟨id, off, none⟩) n c) pr (tightA n (rowA n L U)) :: Blk.cells [.pointer (some ⟨2 * (h.length + 3), 0, none⟩)] 78 :: Blk.cells [o] 51 :: Blk.cells [.bool false] 4 :: Blk.cells [.int .i64 n] 3 :: .obj (.deferred (some [])) :: Bl :: X) : H).put (2 * (h.length + 9)) B' = h ++ (Blk.cells [(.slice (some ⟨id, off, none⟩) n c), .int .i64 pr] 24 :: Blk.cells [(.slice (some ⟨id, off, none⟩) n c), .int .i64 pr] 24 :: Blk.cells [(.slice (some ⟨id, off, none⟩) n c), .int .i64 pr] 24 :: gBl (.slice (some ⟨id, off, none⟩) n c) pr (tightA n (rowA n L U)) :: Blk.cells [.pointer (some ⟨2 * (h.length + 3), 0, none⟩)] 78 :: Blk.cells [o] 51 :: Blk.cells [.bool false] 4 :: Blk.cells [.int .i64 n] 3 :: .obj (.deferred (some [])) :: B' :: X) := fun o Bl B' X => by rw [put_k]; rfl
  refine TC_rangeB (g := 70) (first := #[]) (cap := #[.pointer (some ⟨2 * (h.length + 7), 0, none⟩), .pointer (some ⟨2 * (h.length + 6), 0, none⟩)]) (v := .tuple #[])
    (h2 := fun Bl => h ++ (Blk.cells [(.slice (some ⟨id, off, none⟩) n c), .int .i64 pr] 24 :: Blk.cells [(.slice (some ⟨id, off, none⟩) n c), .int .i64 pr] 24 :: Blk.cells [(.slice (some ⟨id, off, none⟩) n c), .int .i64 pr] 24 :: gBl (.slice (some ⟨id, off, none⟩) n c) pr (tightA n (rowA n L U)) :: Blk.cells [.pointer (some ⟨2 * (h.length + 3), 0, none⟩)] 78 :: Blk.cells [slA (2 * (h.length + (9 + 2 * n))) n] 51 :: Blk.cells [.bool false] 4 :: Blk.cells [.int .i64 n] 3 :: .obj (.deferred (some [])) :: Bl :: tT (tightA n (rowA n L U)).1 (tightA n (rowA n L U)).2 n)) rfl rfl (fun Bl hBl => ?_) (fun Bl => ?_) (fun Bl => ?_)
  · rw [e1, e3, List.append_assoc h]
    refine rows70 I (Hs := fun k => h ++ (Blk.cells [(.slice (some ⟨id, off, none⟩) n c), .int .i64 pr] 24 :: Blk.cells [(.slice (some ⟨id, off, none⟩) n c), .int .i64 pr] 24 :: Blk.cells [(.slice (some ⟨id, off, none⟩) n c), .int .i64 pr] 24 :: gBl (.slice (some ⟨id, off, none⟩) n c) pr (tightA n (rowA n L U)) :: Blk.cells [.pointer (some ⟨2 * (h.length + 3), 0, none⟩)] 78 :: Blk.cells [slA (2 * (h.length + (9 + 2 * k))) k] 51 :: Blk.cells [.bool false] 4 :: Blk.cells [.int .i64 n] 3 :: .obj (.deferred (some [])) :: Bl :: tT (tightA n (rowA n L U)).1 (tightA n (rowA n L U)).2 k)) (st := n) (pn := 2 * (h.length + 7)) (pb := 2 * (h.length + 6)) (bk := false) (by omega) (Nat.le_refl _)
      (fun k _ => by rw [rd_k]; rfl) (fun k _ => by rw [rd_k]; rfl) (fun k hk => ?_) (.inl ⟨rfl, rfl⟩)
    refine Snd_yieldB hBl (hgl _ _ _) rfl (LC_region (LC_step rfl rfl rfl (LC_nil ⟨rfl, hgl _ _ _, ?_⟩)))
    simp only [hpl]
    refine Run_TC (by kernel_rfl) (n := 200) ?_
    simp only [setAll, List.zip_cons_cons, List.zip_nil_right, List.foldl_cons, List.foldl_nil]
    have hk16 : k < 16 := by omega
    have k2 : (0 : Int) ≤ (k : Int) ∧ (k : Int) < ((16 : Nat) : Int) := ⟨by omega, by omega⟩
    obtain ⟨wa, hwa⟩ : ∃ w, apW (slB (2 * (h.length + (9 + 2 * k))) k) = some w := by unfold slB; split <;> exact ⟨_, rfl⟩
    have hA := ap51B (I := I) (h := h) (X := (Blk.cells [(.slice (some ⟨id, off, none⟩) n c), .int .i64 pr] 24 :: Blk.cells [(.slice (some ⟨id, off, none⟩) n c), .int .i64 pr] 24 :: Blk.cells [(.slice (some ⟨id, off, none⟩) n c), .int .i64 pr] 24 :: gBl (.slice (some ⟨id, off, none⟩) n c) pr (tightA n (rowA n L U)) :: Blk.cells [.pointer (some ⟨2 * (h.length + 3), 0, none⟩)] 78 :: Blk.cells [slA (2 * (h.length + (9 + 2 * k))) k] 51 :: Blk.cells [.bool false] 4 :: Blk.cells [.int .i64 n] 3 :: .obj (.deferred (some [])) :: busyB Bl :: (tT (tightA n (rowA n L U)).1 (tightA n (rowA n L U)).2 k ++ [.cells [.int .i64 ((tightA n (rowA n L U)).1 k), .int .i64 ((tightA n (rowA n L U)).2 k)] 34]))) (q := 9 + 2 * k) (p := 2 * k + 1 + 1 + 1 + 1 + 1 + 1 + 1 + 1 + 1 + 1) (m := k) (A := (tightA n (rowA n L U)).1) (B := (tightA n (rowA n L U)).2) (fun h0 => by
      obtain ⟨j, rfl⟩ : ∃ j, k = j + 1 := ⟨k - 1, by omega⟩
      have e : 9 + 2 * (j + 1) = (2 * j + 1) + 1 + 1 + 1 + 1 + 1 + 1 + 1 + 1 + 1 + 1 := by omega
      rw [e]
      simp only [List.getElem?_cons_succ]
      exact getElem?_app_lt (tT_get _ _ j)) (by
      simp only [List.getElem?_cons_succ]
      rw [List.getElem?_append_right (by rw [tT_len]; omega), tT_len, Nat.sub_self]; rfl) (by omega)
    have hL : ((Blk.cells [(.slice (some ⟨id, off, none⟩) n c), .int .i64 pr] 24 :: Blk.cells [(.slice (some ⟨id, off, none⟩) n c), .int .i64 pr] 24 :: Blk.cells [(.slice (some ⟨id, off, none⟩) n c), .int .i64 pr] 24 :: gBl (.slice (some ⟨id, off, none⟩) n c) pr (tightA n (rowA n L U)) :: Blk.cells [.pointer (some ⟨2 * (h.length + 3), 0, none⟩)] 78 :: Blk.cells [slA (2 * (h.length + (9 + 2 * k))) k] 51 :: Blk.cells [.bool false] 4 :: Blk.cells [.int .i64 n] 3 :: .obj (.deferred (some [])) :: busyB Bl :: (tT (tightA n (rowA n L U)).1 (tightA n (rowA n L U)).2 k ++ [.cells [.int .i64 ((tightA n (rowA n L U)).1 k), .int .i64 ((tightA n (rowA n L U)).2 k)] 34])) : H).length = 9 + 2 * (k + 1) := by simp [tT_len]; omega
    rw [hL] at hA
    simp only [List.cons_append, List.append_assoc, List.nil_append] at hA
    simp -implicitDefEqProofs only [sB, Nat.reduceAdd, Nat.reduceSub, yieldL, popK, flat, nptr, Value.cells, H.new, eq_self, Int.reduceEq, Int.reduceLT, Int.reduceLE, Nat.reduceEqDiff, Nat.reduceLeDiff, thenQ, ContK, ty2, ty3, ty4, ty5, ty24, ty25, ty30, ty34, ty51, ty78, ty81, ty90, ty97, sD, mixT, isAlloc, ridOf, blockOf, oi_none, oi_some, Option.map_none, Bool.not_true, Bool.not_false, decide_true, decide_false, if_true, if_false, unk1, bl34, st34, bs51, len_assoc, ixR, k2, gb_lo hk16, gb_hi hk16, sl51 (show k < 1000 by omega), lnA, stA, oc_slA, sl51_l, tT_len, List.set_append_right, List.getElem?_append_right, Nat.sub_self, hA, apL_cons, hwa]
    exact ⟨effOk_of (by kernel_rfl) (by simp [tT_len]), effOk_of (by kernel_rfl) (by simp), drawOk_ren (fun _ => 0) rfl (by kernel_rfl), hgl _ _ _, rfl, (hpl _ _ _ _).symm⟩
  · rw [e1, e3]; exact hgl _ _ _
  rw [e1, e3, hpl]
  simp -implicitDefEqProofs only [sB, Nat.reduceAdd, Nat.reduceSub, yieldL, popK, flat, nptr, Value.cells, H.new, eq_self, Int.reduceEq, Int.reduceLT, Int.reduceLE, Nat.reduceEqDiff, Nat.reduceLeDiff, thenQ, ContK, ty2, ty3, ty4, ty5, ty24, ty25, ty30, ty34, ty51, ty78, ty81, ty90, ty97, oi_none, oi_some, Option.map_none, Bool.not_true, Bool.not_false, decide_true, decide_false, if_true, if_false, unk1, bl34, st34, bs51, len_assoc]
  have hrow : ((Blk.cells [(.slice (some ⟨id, off, none⟩) n c), .int .i64 pr] 24 :: Blk.cells [(.slice (some ⟨id, off, none⟩) n c), .int .i64 pr] 24 :: Blk.cells [(.slice (some ⟨id, off, none⟩) n c), .int .i64 pr] 24 :: gBl (.slice (some ⟨id, off, none⟩) n c) pr (tightA n (rowA n L U)) :: Blk.cells [.pointer (some ⟨2 * (h.length + 3), 0, none⟩)] 78 :: Blk.cells [slA (2 * (h.length + (9 + 2 * n))) n] 51 :: Blk.cells [.bool false] 4 :: Blk.cells [.int .i64 n] 3 :: .dead :: .dead :: tT (tightA n (rowA n L U)).1 (tightA n (rowA n L U)).2 n) : H)[9 + 2 * n]? = some (.row (rcells (fun j => rmax L j) (fun j => rmin U n j) n) 34 2) := by
    rw [← rcells_congr (A := (tightA n (rowA n L U)).1) (B := (tightA n (rowA n L U)).2) n (fun i hi => ⟨tightA_1 hi, tightA_2 hi⟩)]
    obtain ⟨j, hj⟩ : ∃ j, n = j + 1 := ⟨n - 1, by omega⟩
    have e : 9 + 2 * n = (2 * j + 1) + 1 + 1 + 1 + 1 + 1 + 1 + 1 + 1 + 1 + 1 := by omega
    rw [e]
    simp only [List.getElem?_cons_succ]
    have := tT_get (tightA n (rowA n L U)).1 (tightA n (rowA n L U)).2 j
    rw [← hj] at this
    exact this
  refine ⟨.inr rfl, h ++ (Blk.cells [(.slice (some ⟨id, off, none⟩) n c), .int .i64 pr] 24 :: Blk.cells [(.slice (some ⟨id, off, none⟩) n c), .int .i64 pr] 24 :: Blk.cells [(.slice (some ⟨id, off, none⟩) n c), .int .i64 pr] 24 :: gBl (.slice (some ⟨id, off, none⟩) n c) pr (tightA n (rowA n L U)) :: Blk.cells [.pointer (some ⟨2 * (h.length + 3), 0, none⟩)] 78 :: Blk.cells [slA (2 * (h.length + (9 + 2 * n))) n] 51 :: Blk.cells [.bool false] 4 :: Blk.cells [.int .i64 n] 3 :: .dead :: .dead :: tT (tightA n (rowA n L U)).1 (tightA n (rowA n L U)).2 n), ?_, ⟨_, [], (List.append_nil _).symm, by simp [tT_len]; omega, fun x => ?_⟩, ?_⟩
  · simp only [leave, get_k, put_k, List.getElem?_cons_succ, List.getElem?_cons_zero, List.set_cons_succ, List.set_cons_zero]
  · by_cases hx1 : x < h.length
    · left; rw [List.getElem?_append_left hx1, List.getElem?_append_left hx1]
    · obtain ⟨y, rfl⟩ : ∃ y, x = h.length + y := ⟨x - h.length, by omega⟩
      rw [getElem?_app_k, getElem?_app_k]
      by_cases hy : y < 9 + 2 * n
      · right; rw [List.getElem?_append_left (by simpa using hy), List.getElem?_replicate, if_pos hy]
      · left
        by_cases hy2 : y = 9 + 2 * n
        · subst hy2
          rw [hrow, List.getElem?_append_right (by simp)]
          simp
        · rw [List.getElem?_eq_none (by simp; omega), List.getElem?_eq_none (by simp [tT_len]; omega)]
  · rw [slA_pos (by omega)]; rfl
end Go.Proofs.Ytcocmbccfikmhaa
