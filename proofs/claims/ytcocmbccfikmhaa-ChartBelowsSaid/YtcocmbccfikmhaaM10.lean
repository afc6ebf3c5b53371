/- Contract: weigh -/
import Derived.Test.YtcocmbccfikmhaaM9
set_option linter.unusedSimpArgs false
set_option linter.unusedVariables false
namespace Go.Proofs.Ytcocmbccfikmhaa
open Go.Sym
def wIxF (n : Nat) (D : Nat → Int) (dip : Int) : Nat → Nat → Nat
  | 0, i => i
  | f + 1, i => if i + 1 < n ∧ D i < dip then wIxF n D dip f (i + 1) else i
/-- the row behind a dip -/
def wIx (n : Nat) (D : Nat → Int) (dip : Int) : Nat := wIxF n D dip n 1
theorem wIxF_stop {n : Nat} {D : Nat → Int} {dip : Int} {i : Nat} (h : ¬ (i + 1 < n ∧ D i < dip)) : ∀ f, wIxF n D dip f i = i
  | 0 => rfl
  | f + 1 => by simp only [wIxF]; rw [if_neg h]
theorem wIxF_go {n : Nat} {D : Nat → Int} {dip : Int} {f i : Nat} (h : i + 1 < n ∧ D i < dip) (hf : 0 < f) : wIxF n D dip f i = wIxF n D dip (f - 1) (i + 1) := by
  obtain ⟨m, rfl⟩ : ∃ m, f = m + 1 := ⟨f - 1, by omega⟩
  simp only [wIxF]; rw [if_pos h]; rfl
theorem wIxF_rng {n : Nat} {D : Nat → Int} {dip : Int} : ∀ f i, i + 1 ≤ n → i ≤ wIxF n D dip f i ∧ wIxF n D dip f i + 1 ≤ n
  | 0, i, h => by simp only [wIxF]; omega
  | f + 1, i, h => by
    simp only [wIxF]
    split
    · rename_i hc
      have := wIxF_rng (n := n) (D := D) (dip := dip) f (i + 1) (by omega)
      exact ⟨by omega, this.2⟩
    · omega
theorem wIx_rng {n : Nat} {D : Nat → Int} {dip : Int} (hn : 2 ≤ n) : 1 ≤ wIx n D dip ∧ wIx n D dip + 1 ≤ n := wIxF_rng n 1 (by omega)
def weighW (n : Nat) (D : Nat → Int) (dip : Int) : Nat → Int :=
  upd (upd (fun _ => 0) (wIx n D dip - 1) (D (wIx n D dip) - dip)) (wIx n D dip) (dip - D (wIx n D dip - 1))
def weighD (n : Nat) (D : Nat → Int) (dip : Int) : Int := D (wIx n D dip) - D (wIx n D dip - 1)
def weighV (n : Nat) (D : Nat → Int) (dip : Int) : Value := .tuple #[.agg (arrL 16 (weighW n D dip)).toArray, .int .i64 (weighD n D dip)]
theorem weighV_flat {n : Nat} {D : Nat → Int} {dip : Int} : flat (weighV n D dip) = true := by
  unfold weighV
  simp only [flat, flatA, flatL, arrL_flat, Bool.and_self]

set_option maxRecDepth 100000 in
theorem weigh42 (I : Nat → Option Obj) {h : H} {v : Value} {n pg : Nat} {D L U : Nat → Int} {pr dip : Int} {lo hi : Nat → Int} (hv : Rows I v n D L U) (hn : 2 ≤ n ∧ n ≤ 16) (hD : ∀ i, i < n → 0 ≤ D i ∧ D i ≤ 4000) (hdip : 0 ≤ dip ∧ dip ≤ 4000)
    (hg : h.get pg = some (.cells (gaugeL v pr lo hi) 90)) :
    Snd Try.prog I (.func 42) [.pointer (some ⟨pg, 0, none⟩), .int .i64 dip] h (weighV n D dip) h := by
  obtain ⟨q, c, rfl, _, hq⟩ := hv
  obtain ⟨id, off, rfl, hr⟩ := hq (by omega)
  refine Snd_run0 (rs := [.cell 4 81, .tmp 5]) 600 Try.func42 (by kernel_rfl) rfl Try.ntmps42 rfl weighV_flat ?_
  simp -implicitDefEqProofs only [Run_seq, Run_region, Run_ops_nil, Run_ret, Run_skip, Run_label, Run_exit, Run_endB, Run_block, Run_cond, Run_guard, Run_opcall, RunX_some, RunX_none, RunB_true, RunB_false, RunS_some, RunG_tt, RunG_ff, RunG_tf, RunG_ft, RunG_none,
      Rn_move, Rn_assign, Rn_pick, Rn_alloc, Rn_box, Rn_build, Rn_buildSlice, Rn_load, Rn_store, Rn_nilCheck, Rn_binOp, Rn_unOp, Rn_convert, Rn_makeFunc, Rn_makeSlice, Rn_slice, Rn_fieldAddr, Rn_field, Rn_indexAddr, Rn_index, Rn_extract, Rn_builtin,
      pickV_true, pickV_false, pickV_bool, liftV_some, storeV_some, nilV_ptr, sliceV_some, extV_tuple, putT_some, putT_none, ev_tmp, ev_const, ev_func, fin_ret, fin_normal, leave_nil, aresL_nil, aresL_tmp, aresL_cell, one_one, one_two, one_three,
      bin_add, bin_sub, bin_mul, bin_lss, bin_leq, bin_gtr, bin_geq, bin_eql, bin_neq, un_not, un_neg,
      List.length_cons, List.length_nil, Nat.reduceAdd, Nat.reduceSub, List.replicate_succ, List.replicate_zero, List.cons_append, List.nil_append, List.set_cons_succ, List.set_cons_zero,
      List.getD_cons_succ, List.getD_cons_zero, List.getElem?_cons_succ, List.getElem?_cons_zero, Option.map_some, Option.bind_some, yieldL, popK, if_true, decide_true, decide_false, Bool.not_true, Bool.not_false, flat, and_self, List.map_toArray, List.map_cons, List.map_nil, nptr, Value.cells, and_true, List.toList_toArray, H.new, List.length_append, Nat.zero_add, Nat.add_zero, List.append_assoc, rd_z, rd_k, wr_z, wr_k, put_z, put_k, ld1_some, ldA_some, abi_min, abi_max, abi2_min, abi2_max, if_true, Bool.false_eq_true, if_false, eq_self, Int.toNat_natCast, Int.reduceEq, Int.reduceLT, Int.reduceLE, Nat.reduceEqDiff, Nat.one_ne_zero, Nat.zero_ne_one, ym_undef, rdArrAll, wrArrAll, take_arrL, splice_arrL, arrL_one, arrL_length, rdB_cells, rdB_row, wrB_cells, splice_nil, splice_cons, oc_int, oc_bool, oc_slice, oc_ptr, oc_func, oc_map, List.all_cons, List.all_nil, Bool.and_self, Nat.reduceLeDiff, Nat.le_refl, List.drop_zero, List.drop_succ_cons, List.take_succ_cons, List.take_zero, List.take_nil, List.drop_nil, getElem?_snoc, set_snoc, Run_nil, thenQ, finS_ret, finS_normal, ContK, Run_loop, Run_rangeFunc, true_and, ld2, st2, az2, aza2, ld3, st3, az3, aza3, ld4, st4, az4, aza4, ld5, st5, az5, aza5, ld22, st22, az22, aza22, ln22, lnd22, ix22, ld24, az24, aza24, fa24_0, fv24_0, fa24_1, fv24_1, ld64, az64, aza64, fa64_0, fv64_0, fa64_1, fv64_1, ld78, st78, az78, aza78, ld81, az81, aza81, ix81, ld90, az90, aza90, fa90_0, fv90_0, fa90_1, fv90_1, fa90_2, fv90_2]
  obtain ⟨Ja, hJa⟩ : ∃ J : St → Prop, J = fun s => ∃ (k : Nat), s.df = [] ∧ s.h = h ++ [.cells (arrL 16 fun _ => 0) 81] ∧ s.tm.length = 68 ∧ s.tm.getD 0 undef = .pointer (some ⟨pg, 0, none⟩) ∧ s.tm.getD 1 undef = .int .i64 dip ∧ s.tm.getD 4 undef = .pointer (some ⟨2 * h.length, 0, none⟩) ∧ s.tm.getD 5 undef = .int .i64 0 ∧ s.tm.getD 6 undef = .int .i64 k ∧ (1 ≤ k ∧ k + 1 ≤ n) ∧ (wIx n D dip = wIxF n D dip (n + 1 - k) k) := ⟨_, rfl⟩
  refine Loop_run (by kernel_rfl) 400 Ja (muI 6 n) (by rw [hJa]; exact ⟨1, rfl, rfl, rfl, rfl, rfl, rfl, rfl, rfl, ⟨by omega, by omega⟩, rfl⟩) ?_
  intro sa hsa
  rw [hJa] at hsa
  obtain ⟨tma, dfa, hha⟩ := sa
  obtain ⟨k, ea1, ea2, ea3, la0, la1, la4, la5, la6, hk, hp⟩ := hsa
  simp only at ea1 ea2 ea3 la0 la1 la4 la5 la6
  subst dfa; subst hha
  have elita : tma = [.pointer (some ⟨pg, 0, none⟩), .int .i64 dip, tma.getD 2 undef, tma.getD 3 undef, .pointer (some ⟨2 * h.length, 0, none⟩), .int .i64 0, .int .i64 k, tma.getD 7 undef, tma.getD 8 undef, tma.getD 9 undef, tma.getD 10 undef, tma.getD 11 undef, tma.getD 12 undef, tma.getD 13 undef, tma.getD 14 undef, tma.getD 15 undef, tma.getD 16 undef, tma.getD 17 undef, tma.getD 18 undef, tma.getD 19 undef, tma.getD 20 undef, tma.getD 21 undef, tma.getD 22 undef, tma.getD 23 undef, tma.getD 24 undef, tma.getD 25 undef, tma.getD 26 undef, tma.getD 27 undef, tma.getD 28 undef, tma.getD 29 undef, tma.getD 30 undef, tma.getD 31 undef, tma.getD 32 undef, tma.getD 33 undef, tma.getD 34 undef, tma.getD 35 undef, tma.getD 36 undef, tma.getD 37 undef, tma.getD 38 undef, tma.getD 39 undef, tma.getD 40 undef, tma.getD 41 undef, tma.getD 42 undef, tma.getD 43 undef, tma.getD 44 undef, tma.getD 45 undef, tma.getD 46 undef, tma.getD 47 undef, tma.getD 48 undef, tma.getD 49 undef, tma.getD 50 undef, tma.getD 51 undef, tma.getD 52 undef, tma.getD 53 undef, tma.getD 54 undef, tma.getD 55 undef, tma.getD 56 undef, tma.getD 57 undef, tma.getD 58 undef, tma.getD 59 undef, tma.getD 60 undef, tma.getD 61 undef, tma.getD 62 undef, tma.getD 63 undef, tma.getD 64 undef, tma.getD 65 undef, tma.getD 66 undef, tma.getD 67 undef] := by
    have e0 := lit_eq ea3
    have er : List.range 68 = [0, 1, 2, 3, 4, 5, 6, 7, 8, 9, 10, 11, 12, 13, 14, 15, 16, 17, 18, 19, 20, 21, 22, 23, 24, 25, 26, 27, 28, 29, 30, 31, 32, 33, 34, 35, 36, 37, 38, 39, 40, 41, 42, 43, 44, 45, 46, 47, 48, 49, 50, 51, 52, 53, 54, 55, 56, 57, 58, 59, 60, 61, 62, 63, 64, 65, 66, 67] := by rfl
    rw [er] at e0
    simp only [List.map_cons, List.map_nil, la0, la1, la4, la5, la6] at e0
    exact e0
  rw [elita]
  clear la0
  clear la1
  clear la4
  clear la5
  clear la6
  clear elita ea3
  have h3 := fun h => hr h k (by omega)
  have hw : IntKind.i64.wrap ((n : Int) - 1) = (n : Int) - 1 := wrap_i64 (by omega) (by omega)
  have h2 : (0 : Int) ≤ (k : Int) ∧ (k : Int) < (n : Int) := ⟨by omega, by omega⟩
  have h4 := wrap_add1 (i := k) (by omega)
  have hk' : IntKind.i64.wrap ((k : Int) - 1) = ((k - 1 : Nat) : Int) := by rw [wrap_i64 (by omega) (by omega)]; omega
  have h2' : (0 : Int) ≤ ((k - 1 : Nat) : Int) ∧ ((k - 1 : Nat) : Int) < (n : Int) := ⟨by omega, by omega⟩
  have h2a : (0 : Int) ≤ ((k - 1 : Nat) : Int) ∧ ((k - 1 : Nat) : Int) < ((16 : Nat) : Int) := ⟨by omega, by omega⟩
  have h2b : (0 : Int) ≤ (k : Int) ∧ (k : Int) < ((16 : Nat) : Int) := ⟨by omega, by omega⟩
  have h3' := fun h => hr h (k - 1) (by omega)
  have d1 := hD k (by omega)
  have d2 := hD (k - 1) (by omega)
  have w1 : IntKind.i64.wrap (D k - dip) = D k - dip := wrap_i64 (by omega) (by omega)
  have w2 : IntKind.i64.wrap (dip - D (k - 1)) = dip - D (k - 1) := wrap_i64 (by omega) (by omega)
  have w3 : IntKind.i64.wrap (D k - D (k - 1)) = D k - D (k - 1) := wrap_i64 (by omega) (by omega)
  by_cases hk1 : (k : Int) < (n : Int) - 1
  · by_cases hk2 : D k < dip
    · simp -implicitDefEqProofs only [Run_seq, Run_region, Run_ops_nil, Run_ret, Run_skip, Run_label, Run_exit, Run_endB, Run_block, Run_cond, Run_guard, Run_opcall, RunX_some, RunX_none, RunB_true, RunB_false, RunS_some, RunG_tt, RunG_ff, RunG_tf, RunG_ft, RunG_none,
      Rn_move, Rn_assign, Rn_pick, Rn_alloc, Rn_box, Rn_build, Rn_buildSlice, Rn_load, Rn_store, Rn_nilCheck, Rn_binOp, Rn_unOp, Rn_convert, Rn_makeFunc, Rn_makeSlice, Rn_slice, Rn_fieldAddr, Rn_field, Rn_indexAddr, Rn_index, Rn_extract, Rn_builtin,
      pickV_true, pickV_false, pickV_bool, liftV_some, storeV_some, nilV_ptr, sliceV_some, extV_tuple, putT_some, putT_none, ev_tmp, ev_const, ev_func, fin_ret, fin_normal, leave_nil, aresL_nil, aresL_tmp, aresL_cell, one_one, one_two, one_three,
      bin_add, bin_sub, bin_mul, bin_lss, bin_leq, bin_gtr, bin_geq, bin_eql, bin_neq, un_not, un_neg,
      List.length_cons, List.length_nil, Nat.reduceAdd, Nat.reduceSub, List.replicate_succ, List.replicate_zero, List.cons_append, List.nil_append, List.set_cons_succ, List.set_cons_zero,
      List.getD_cons_succ, List.getD_cons_zero, List.getElem?_cons_succ, List.getElem?_cons_zero, Option.map_some, Option.bind_some, yieldL, popK, if_true, decide_true, decide_false, Bool.not_true, Bool.not_false, flat, and_self, List.map_toArray, List.map_cons, List.map_nil, nptr, Value.cells, and_true, List.toList_toArray, H.new, List.length_append, Nat.zero_add, Nat.add_zero, List.append_assoc, rd_z, rd_k, wr_z, wr_k, put_z, put_k, ld1_some, ldA_some, abi_min, abi_max, abi2_min, abi2_max, if_true, Bool.false_eq_true, if_false, eq_self, Int.toNat_natCast, Int.reduceEq, Int.reduceLT, Int.reduceLE, Nat.reduceEqDiff, Nat.one_ne_zero, Nat.zero_ne_one, ym_undef, rdArrAll, wrArrAll, take_arrL, splice_arrL, arrL_one, arrL_length, rdB_cells, rdB_row, wrB_cells, splice_nil, splice_cons, oc_int, oc_bool, oc_slice, oc_ptr, oc_func, oc_map, List.all_cons, List.all_nil, Bool.and_self, Nat.reduceLeDiff, Nat.le_refl, List.drop_zero, List.drop_succ_cons, List.take_succ_cons, List.take_zero, List.take_nil, List.drop_nil, getElem?_snoc, set_snoc, Run_nil, thenQ, finS_ret, finS_normal, ContK, Run_loop, Run_rangeFunc, true_and, ld2, st2, az2, aza2, ld3, st3, az3, aza3, ld4, st4, az4, aza4, ld5, st5, az5, aza5, ld22, st22, az22, aza22, ln22, lnd22, ix22, ld24, az24, aza24, fa24_0, fv24_0, fa24_1, fv24_1, ld64, az64, aza64, fa64_0, fv64_0, fa64_1, fv64_1, ld78, st78, az78, aza78, ld81, az81, aza81, ix81, ld90, az90, aza90, fa90_0, fv90_0, fa90_1, fv90_1, fa90_2, fv90_2, rd_at_app hg, rdG_rows, hw, hk1, hk2, h2, row_D (h3 _), h4]
      refine ⟨by rw [hJa]; exact ⟨k + 1, rfl, rfl, rfl, rfl, rfl, rfl, rfl, rfl, ⟨by omega, by omega⟩, by rw [hp, wIxF_go ⟨by omega, hk2⟩ (by omega)]; congr 1⟩, ?_⟩
      show n - ((k + 1 : Nat) : Int).toNat < n - (k : Int).toNat
      omega
    · have hs : wIx n D dip = k := by rw [hp]; exact wIxF_stop (by omega) _
      simp -implicitDefEqProofs only [Run_seq, Run_region, Run_ops_nil, Run_ret, Run_skip, Run_label, Run_exit, Run_endB, Run_block, Run_cond, Run_guard, Run_opcall, RunX_some, RunX_none, RunB_true, RunB_false, RunS_some, RunG_tt, RunG_ff, RunG_tf, RunG_ft, RunG_none,
      Rn_move, Rn_assign, Rn_pick, Rn_alloc, Rn_box, Rn_build, Rn_buildSlice, Rn_load, Rn_store, Rn_nilCheck, Rn_binOp, Rn_unOp, Rn_convert, Rn_makeFunc, Rn_makeSlice, Rn_slice, Rn_fieldAddr, Rn_field, Rn_indexAddr, Rn_index, Rn_extract, Rn_builtin,
      pickV_true, pickV_false, pickV_bool, liftV_some, storeV_some, nilV_ptr, sliceV_some, extV_tuple, putT_some, putT_none, ev_tmp, ev_const, ev_func, fin_ret, fin_normal, leave_nil, aresL_nil, aresL_tmp, aresL_cell, one_one, one_two, one_three,
      bin_add, bin_sub, bin_mul, bin_lss, bin_leq, bin_gtr, bin_geq, bin_eql, bin_neq, un_not, un_neg,
      List.length_cons, List.length_nil, Nat.reduceAdd, Nat.reduceSub, List.replicate_succ, List.replicate_zero, List.cons_append, List.nil_append, List.set_cons_succ, List.set_cons_zero,
      List.getD_cons_succ, List.getD_cons_zero, List.getElem?_cons_succ, List.getElem?_cons_zero, Option.map_some, Option.bind_some, yieldL, popK, if_true, decide_true, decide_false, Bool.not_true, Bool.not_false, flat, and_self, List.map_toArray, List.map_cons, List.map_nil, nptr, Value.cells, and_true, List.toList_toArray, H.new, List.length_append, Nat.zero_add, Nat.add_zero, List.append_assoc, rd_z, rd_k, wr_z, wr_k, put_z, put_k, ld1_some, ldA_some, abi_min, abi_max, abi2_min, abi2_max, if_true, Bool.false_eq_true, if_false, eq_self, Int.toNat_natCast, Int.reduceEq, Int.reduceLT, Int.reduceLE, Nat.reduceEqDiff, Nat.one_ne_zero, Nat.zero_ne_one, ym_undef, rdArrAll, wrArrAll, take_arrL, splice_arrL, arrL_one, arrL_length, rdB_cells, rdB_row, wrB_cells, splice_nil, splice_cons, oc_int, oc_bool, oc_slice, oc_ptr, oc_func, oc_map, List.all_cons, List.all_nil, Bool.and_self, Nat.reduceLeDiff, Nat.le_refl, List.drop_zero, List.drop_succ_cons, List.take_succ_cons, List.take_zero, List.take_nil, List.drop_nil, getElem?_snoc, set_snoc, Run_nil, thenQ, finS_ret, finS_normal, ContK, Run_loop, Run_rangeFunc, true_and, ld2, st2, az2, aza2, ld3, st3, az3, aza3, ld4, st4, az4, aza4, ld5, st5, az5, aza5, ld22, st22, az22, aza22, ln22, lnd22, ix22, ld24, az24, aza24, fa24_0, fv24_0, fa24_1, fv24_1, ld64, az64, aza64, fa64_0, fv64_0, fa64_1, fv64_1, ld78, st78, az78, aza78, ld81, az81, aza81, ix81, ld90, az90, aza90, fa90_0, fv90_0, fa90_1, fv90_1, fa90_2, fv90_2, List.append_nil, Run_draw, mixT, slots_len, List.filter_cons, List.filter_nil, isAlloc, List.replicate_succ, List.replicate_zero, Run_dnil, Rd_alloc, Rd_box, Rd_buildSlice, Rd_pick, Rd_build, Rd_nilCheck, Rd_binOp, Rd_unOp, Rd_convert, Rd_fieldAddr, Rd_field, Rd_indexAddr, Rd_index, Rd_extract, Rd_move, Rd_assign, Rd_makeFunc, Rd_load, Rd_slice, Rd_store, Rd_makeSlice, Rd_len, Rd_min, Rd_max, Rd_append, Rd_copy, Rd_opcall, Rd_guard, RunDG_tt, RunDG_ff, RunDG_tf, RunDG_ft, RunDG_none, RunDS_some, RunDA_some, RunDE_some, ridOf, blockOf, get_z, get_k, Option.map_some, rd_at_app hg, rdG_rows, hw, hk1, hk2, h2, row_D (h3 _), h4, hk', h2', h2a, h2b, row_D (h3' _), w1, w2, w3, wrArr (show k < 16 by omega), wrArr (show k - 1 < 16 by omega), st81, hs, weighV, weighW, weighD]
      exact ⟨drawOk_ren (fun _ => 0) rfl (by kernel_rfl), _, rfl⟩
  · have hs : wIx n D dip = k := by rw [hp]; exact wIxF_stop (by omega) _
    simp -implicitDefEqProofs only [Run_seq, Run_region, Run_ops_nil, Run_ret, Run_skip, Run_label, Run_exit, Run_endB, Run_block, Run_cond, Run_guard, Run_opcall, RunX_some, RunX_none, RunB_true, RunB_false, RunS_some, RunG_tt, RunG_ff, RunG_tf, RunG_ft, RunG_none,
      Rn_move, Rn_assign, Rn_pick, Rn_alloc, Rn_box, Rn_build, Rn_buildSlice, Rn_load, Rn_store, Rn_nilCheck, Rn_binOp, Rn_unOp, Rn_convert, Rn_makeFunc, Rn_makeSlice, Rn_slice, Rn_fieldAddr, Rn_field, Rn_indexAddr, Rn_index, Rn_extract, Rn_builtin,
      pickV_true, pickV_false, pickV_bool, liftV_some, storeV_some, nilV_ptr, sliceV_some, extV_tuple, putT_some, putT_none, ev_tmp, ev_const, ev_func, fin_ret, fin_normal, leave_nil, aresL_nil, aresL_tmp, aresL_cell, one_one, one_two, one_three,
      bin_add, bin_sub, bin_mul, bin_lss, bin_leq, bin_gtr, bin_geq, bin_eql, bin_neq, un_not, un_neg,
      List.length_cons, List.length_nil, Nat.reduceAdd, Nat.reduceSub, List.replicate_succ, List.replicate_zero, List.cons_append, List.nil_append, List.set_cons_succ, List.set_cons_zero,
      List.getD_cons_succ, List.getD_cons_zero, List.getElem?_cons_succ, List.getElem?_cons_zero, Option.map_some, Option.bind_some, yieldL, popK, if_true, decide_true, decide_false, Bool.not_true, Bool.not_false, flat, and_self, List.map_toArray, List.map_cons, List.map_nil, nptr, Value.cells, and_true, List.toList_toArray, H.new, List.length_append, Nat.zero_add, Nat.add_zero, List.append_assoc, rd_z, rd_k, wr_z, wr_k, put_z, put_k, ld1_some, ldA_some, abi_min, abi_max, abi2_min, abi2_max, if_true, Bool.false_eq_true, if_false, eq_self, Int.toNat_natCast, Int.reduceEq, Int.reduceLT, Int.reduceLE, Nat.reduceEqDiff, Nat.one_ne_zero, Nat.zero_ne_one, ym_undef, rdArrAll, wrArrAll, take_arrL, splice_arrL, arrL_one, arrL_length, rdB_cells, rdB_row, wrB_cells, splice_nil, splice_cons, oc_int, oc_bool, oc_slice, oc_ptr, oc_func, oc_map, List.all_cons, List.all_nil, Bool.and_self, Nat.reduceLeDiff, Nat.le_refl, List.drop_zero, List.drop_succ_cons, List.take_succ_cons, List.take_zero, List.take_nil, List.drop_nil, getElem?_snoc, set_snoc, Run_nil, thenQ, finS_ret, finS_normal, ContK, Run_loop, Run_rangeFunc, true_and, ld2, st2, az2, aza2, ld3, st3, az3, aza3, ld4, st4, az4, aza4, ld5, st5, az5, aza5, ld22, st22, az22, aza22, ln22, lnd22, ix22, ld24, az24, aza24, fa24_0, fv24_0, fa24_1, fv24_1, ld64, az64, aza64, fa64_0, fv64_0, fa64_1, fv64_1, ld78, st78, az78, aza78, ld81, az81, aza81, ix81, ld90, az90, aza90, fa90_0, fv90_0, fa90_1, fv90_1, fa90_2, fv90_2, List.append_nil, Run_draw, mixT, slots_len, List.filter_cons, List.filter_nil, isAlloc, List.replicate_succ, List.replicate_zero, Run_dnil, Rd_alloc, Rd_box, Rd_buildSlice, Rd_pick, Rd_build, Rd_nilCheck, Rd_binOp, Rd_unOp, Rd_convert, Rd_fieldAddr, Rd_field, Rd_indexAddr, Rd_index, Rd_extract, Rd_move, Rd_assign, Rd_makeFunc, Rd_load, Rd_slice, Rd_store, Rd_makeSlice, Rd_len, Rd_min, Rd_max, Rd_append, Rd_copy, Rd_opcall, Rd_guard, RunDG_tt, RunDG_ff, RunDG_tf, RunDG_ft, RunDG_none, RunDS_some, RunDA_some, RunDE_some, ridOf, blockOf, get_z, get_k, Option.map_some, rd_at_app hg, rdG_rows, hw, hk1, h2, row_D (h3 _), h4, hk', h2', h2a, h2b, row_D (h3' _), w1, w2, w3, wrArr (show k < 16 by omega), wrArr (show k - 1 < 16 by omega), st81, hs, weighV, weighW, weighD]
    exact ⟨drawOk_ren (fun _ => 0) rfl (by kernel_rfl), _, rfl⟩
end Go.Proofs.Ytcocmbccfikmhaa
set_option linter.unusedSimpArgs false
set_option linter.unusedVariables false
namespace Go.Proofs.Ytcocmbccfikmhaa
open Go.Sym
theorem sl25_1 {k : IntKind} {a : Int} : sliceLit Try.prog 25 1 [(0, .int k a)] = some ([.int k a], 2) := by kernel_rfl
def prevX (x : Nat → Int) (i : Nat) : Int := match i with | 0 => 0 | j + 1 => x j
def numOk (L U x : Nat → Int) (i : Nat) : Bool := withinB (max (prevX x i) (L i)) (U i) 1 (one1 (x i))
/-- the error of a chart -/
def chartE (n : Nat) (D L U : Nat → Int) (pr : Int) (m : Nat) (x : Nat → Int) : Int :=
  if tankE n D L U pr ≠ 0 then tankE n D L U pr else if m ≠ n then 15 else if anyN (fun i => !numOk L U x i) n then 21 else 0
theorem tankE_n {n : Nat} {D L U : Nat → Int} {pr : Int} (h : tankE n D L U pr = 0) : 2 ≤ n ∧ n ≤ 16 := by
  refine Classical.byContradiction fun hc => ?_
  rw [tankE_many (by omega)] at h; cases h

set_option maxRecDepth 100000 in
theorem checkChart21 (I : Nat → Option Obj) {h : H} {v cv : Value} {n m : Nat} {D L U x : Nat → Int} {pr : Int} (hv : Rows I v n D L U) (hx : Sees I h cv m x) :
    Snd Try.prog I (.func 21) [.agg #[v, .int .i64 pr], cv] h (.int .i64 (chartE n D L U pr m x)) h := by
  have hv0 := hv
  obtain ⟨q, c, rfl, hn, hq⟩ := hv
  have hx0 := hx
  obtain ⟨q2, c2, rfl, hm, hq2⟩ := hx
  refine Snd_run0 (rs := [.tmp 4]) 600 Try.func21 (by kernel_rfl) rfl Try.ntmps21 rfl rfl ?_
  simp -implicitDefEqProofs only [Run_seq, Run_region, Run_ops_nil, Run_ret, Run_skip, Run_label, Run_exit, Run_endB, Run_block, Run_cond, Run_guard, Run_opcall, RunX_some, RunX_none, RunB_true, RunB_false, RunS_some, RunG_tt, RunG_ff, RunG_tf, RunG_ft, RunG_none,
      Rn_move, Rn_assign, Rn_pick, Rn_alloc, Rn_box, Rn_build, Rn_buildSlice, Rn_load, Rn_store, Rn_nilCheck, Rn_binOp, Rn_unOp, Rn_convert, Rn_makeFunc, Rn_makeSlice, Rn_slice, Rn_fieldAddr, Rn_field, Rn_indexAddr, Rn_index, Rn_extract, Rn_builtin,
      pickV_true, pickV_false, pickV_bool, liftV_some, storeV_some, nilV_ptr, sliceV_some, extV_tuple, putT_some, putT_none, ev_tmp, ev_const, ev_func, fin_ret, fin_normal, leave_nil, aresL_nil, aresL_tmp, aresL_cell, one_one, one_two, one_three,
      bin_add, bin_sub, bin_mul, bin_lss, bin_leq, bin_gtr, bin_geq, bin_eql, bin_neq, un_not, un_neg,
      List.length_cons, List.length_nil, Nat.reduceAdd, Nat.reduceSub, List.replicate_succ, List.replicate_zero, List.cons_append, List.nil_append, List.set_cons_succ, List.set_cons_zero,
      List.getD_cons_succ, List.getD_cons_zero, List.getElem?_cons_succ, List.getElem?_cons_zero, Option.map_some, Option.bind_some, yieldL, popK, if_true, decide_true, decide_false, Bool.not_true, Bool.not_false, flat, and_self, List.map_toArray, List.map_cons, List.map_nil, nptr, Value.cells, and_true, List.toList_toArray, H.new, List.length_append, Nat.zero_add, Nat.add_zero, List.append_assoc, rd_z, rd_k, wr_z, wr_k, put_z, put_k, ld1_some, ldA_some, abi_min, abi_max, abi2_min, abi2_max, if_true, Bool.false_eq_true, if_false, eq_self, Int.toNat_natCast, Int.reduceEq, Int.reduceLT, Int.reduceLE, Nat.reduceEqDiff, Nat.one_ne_zero, Nat.zero_ne_one, ym_undef, rdArrAll, wrArrAll, take_arrL, splice_arrL, arrL_one, arrL_length, rdB_cells, rdB_row, wrB_cells, splice_nil, splice_cons, oc_int, oc_bool, oc_slice, oc_ptr, oc_func, oc_map, List.all_cons, List.all_nil, Bool.and_self, Nat.reduceLeDiff, Nat.le_refl, List.drop_zero, List.drop_succ_cons, List.take_succ_cons, List.take_zero, List.take_nil, List.drop_nil, getElem?_snoc, set_snoc, Run_nil, thenQ, finS_ret, finS_normal, ContK, Run_loop, Run_rangeFunc, true_and, ld2, st2, az2, aza2, ld3, st3, az3, aza3, ld4, st4, az4, aza4, ld5, st5, az5, aza5, ld22, st22, az22, aza22, ln22, lnd22, ix22, ld24, az24, aza24, fa24_0, fv24_0, fa24_1, fv24_1, ld25, st25, az25, aza25, ln25, lnd25, ix25, ld30, st30, az30, aza30, ld34, az34, aza34, fa34_0, fv34_0, fa34_1, fv34_1, ld64, az64, aza64, fa64_0, fv64_0, fa64_1, fv64_1, sl25_1, bs25_1, unk1, Bool.not_true, Bool.not_false, decide_true, decide_false]
  refine RunCall_of (checkTank47 I hv0) ?_
  by_cases he : tankE n D L U pr = 0
  · rw [he]
    obtain ⟨hn2, hn16⟩ := tankE_n he
    have hchE : chartE n D L U pr m x = if m ≠ n then 15 else if anyN (fun i => !numOk L U x i) n then 21 else 0 := by unfold chartE; rw [if_neg (by omega)]
    rw [hchE]
    by_cases hmn : m = n
    · subst hmn
      simp -implicitDefEqProofs only [Run_seq, Run_region, Run_ops_nil, Run_ret, Run_skip, Run_label, Run_exit, Run_endB, Run_block, Run_cond, Run_guard, Run_opcall, RunX_some, RunX_none, RunB_true, RunB_false, RunS_some, RunG_tt, RunG_ff, RunG_tf, RunG_ft, RunG_none,
      Rn_move, Rn_assign, Rn_pick, Rn_alloc, Rn_box, Rn_build, Rn_buildSlice, Rn_load, Rn_store, Rn_nilCheck, Rn_binOp, Rn_unOp, Rn_convert, Rn_makeFunc, Rn_makeSlice, Rn_slice, Rn_fieldAddr, Rn_field, Rn_indexAddr, Rn_index, Rn_extract, Rn_builtin,
      pickV_true, pickV_false, pickV_bool, liftV_some, storeV_some, nilV_ptr, sliceV_some, extV_tuple, putT_some, putT_none, ev_tmp, ev_const, ev_func, fin_ret, fin_normal, leave_nil, aresL_nil, aresL_tmp, aresL_cell, one_one, one_two, one_three,
      bin_add, bin_sub, bin_mul, bin_lss, bin_leq, bin_gtr, bin_geq, bin_eql, bin_neq, un_not, un_neg,
      List.length_cons, List.length_nil, Nat.reduceAdd, Nat.reduceSub, List.replicate_succ, List.replicate_zero, List.cons_append, List.nil_append, List.set_cons_succ, List.set_cons_zero,
      List.getD_cons_succ, List.getD_cons_zero, List.getElem?_cons_succ, List.getElem?_cons_zero, Option.map_some, Option.bind_some, yieldL, popK, if_true, decide_true, decide_false, Bool.not_true, Bool.not_false, flat, and_self, List.map_toArray, List.map_cons, List.map_nil, nptr, Value.cells, and_true, List.toList_toArray, H.new, List.length_append, Nat.zero_add, Nat.add_zero, List.append_assoc, rd_z, rd_k, wr_z, wr_k, put_z, put_k, ld1_some, ldA_some, abi_min, abi_max, abi2_min, abi2_max, if_true, Bool.false_eq_true, if_false, eq_self, Int.toNat_natCast, Int.reduceEq, Int.reduceLT, Int.reduceLE, Nat.reduceEqDiff, Nat.one_ne_zero, Nat.zero_ne_one, ym_undef, rdArrAll, wrArrAll, take_arrL, splice_arrL, arrL_one, arrL_length, rdB_cells, rdB_row, wrB_cells, splice_nil, splice_cons, oc_int, oc_bool, oc_slice, oc_ptr, oc_func, oc_map, List.all_cons, List.all_nil, Bool.and_self, Nat.reduceLeDiff, Nat.le_refl, List.drop_zero, List.drop_succ_cons, List.take_succ_cons, List.take_zero, List.take_nil, List.drop_nil, getElem?_snoc, set_snoc, Run_nil, thenQ, finS_ret, finS_normal, ContK, Run_loop, Run_rangeFunc, true_and, ld2, st2, az2, aza2, ld3, st3, az3, aza3, ld4, st4, az4, aza4, ld5, st5, az5, aza5, ld22, st22, az22, aza22, ln22, lnd22, ix22, ld24, az24, aza24, fa24_0, fv24_0, fa24_1, fv24_1, ld25, st25, az25, aza25, ln25, lnd25, ix25, ld30, st30, az30, aza30, ld34, az34, aza34, fa34_0, fv34_0, fa34_1, fv34_1, ld64, az64, aza64, fa64_0, fv64_0, fa64_1, fv64_1, sl25_1, bs25_1, unk1, Bool.not_true, Bool.not_false, decide_true, decide_false]
      obtain ⟨Ja, hJa⟩ : ∃ J : St → Prop, J = fun s => ∃ (k : Nat) (Lx : H), s.df = [] ∧ s.h = h ++ (.cells [.slice q m c, .int .i64 pr] 24 :: Lx) ∧ s.tm.length = 49 ∧ s.tm.getD 2 undef = .pointer (some ⟨2 * h.length, 0, none⟩) ∧ s.tm.getD 4 undef = .int .i64 0 ∧ s.tm.getD 6 undef = .int .i64 (prevX x k) ∧ s.tm.getD 20 undef = .slice q2 m c2 ∧ s.tm.getD 21 undef = .int .i64 m ∧ s.tm.getD 22 undef = .int .i64 k ∧ (k ≤ m) ∧ (∀ i, i < k → numOk L U x i = true) := ⟨_, rfl⟩
      refine Loop_run (by kernel_rfl) 400 Ja (muI 22 m) (by rw [hJa]; exact ⟨0, [], rfl, rfl, rfl, rfl, rfl, rfl, rfl, rfl, rfl, Nat.zero_le _, fun i hi => absurd hi (Nat.not_lt_zero i)⟩) ?_
      intro sa hsa
      rw [hJa] at hsa
      obtain ⟨tma, dfa, hha⟩ := sa
      obtain ⟨k, Lx, ea1, ea2, ea3, la2, la4, la6, la20, la21, la22, hk, hp⟩ := hsa
      simp only at ea1 ea2 ea3 la2 la4 la6 la20 la21 la22
      subst dfa; subst hha
      have elita : tma = [tma.getD 0 undef, tma.getD 1 undef, .pointer (some ⟨2 * h.length, 0, none⟩), tma.getD 3 undef, .int .i64 0, tma.getD 5 undef, .int .i64 (prevX x k), tma.getD 7 undef, tma.getD 8 undef, tma.getD 9 undef, tma.getD 10 undef, tma.getD 11 undef, tma.getD 12 undef, tma.getD 13 undef, tma.getD 14 undef, tma.getD 15 undef, tma.getD 16 undef, tma.getD 17 undef, tma.getD 18 undef, tma.getD 19 undef, .slice q2 m c2, .int .i64 m, .int .i64 k, tma.getD 23 undef, tma.getD 24 undef, tma.getD 25 undef, tma.getD 26 undef, tma.getD 27 undef, tma.getD 28 undef, tma.getD 29 undef, tma.getD 30 undef, tma.getD 31 undef, tma.getD 32 undef, tma.getD 33 undef, tma.getD 34 undef, tma.getD 35 undef, tma.getD 36 undef, tma.getD 37 undef, tma.getD 38 undef, tma.getD 39 undef, tma.getD 40 undef, tma.getD 41 undef, tma.getD 42 undef, tma.getD 43 undef, tma.getD 44 undef, tma.getD 45 undef, tma.getD 46 undef, tma.getD 47 undef, tma.getD 48 undef] := by
        have e0 := lit_eq ea3
        have er : List.range 49 = [0, 1, 2, 3, 4, 5, 6, 7, 8, 9, 10, 11, 12, 13, 14, 15, 16, 17, 18, 19, 20, 21, 22, 23, 24, 25, 26, 27, 28, 29, 30, 31, 32, 33, 34, 35, 36, 37, 38, 39, 40, 41, 42, 43, 44, 45, 46, 47, 48] := by rfl
        rw [er] at e0
        simp only [List.map_cons, List.map_nil, la2, la4, la6, la20, la21, la22] at e0
        exact e0
      rw [elita]
      clear la2
      clear la4
      clear la6
      clear la20
      clear la21
      clear la22
      clear elita ea3
      by_cases hkn : k < m
      · obtain ⟨id, off, rfl, hr⟩ := hq (by omega)
        obtain ⟨id2, off2, rfl, hr2⟩ := hq2 (by omega)
        have h1 : (k : Int) < (m : Int) := by omega
        have h2 : (0 : Int) ≤ (k : Int) ∧ (k : Int) < (m : Int) := ⟨by omega, h1⟩
        have h3 := fun h => hr h k hkn
        have h3b := rdl_mono (hr2 k hkn)
        have h4 := wrap_add1 (i := k) (by omega)
        simp -implicitDefEqProofs only [Run_seq, Run_region, Run_ops_nil, Run_ret, Run_skip, Run_label, Run_exit, Run_endB, Run_block, Run_cond, Run_guard, Run_opcall, RunX_some, RunX_none, RunB_true, RunB_false, RunS_some, RunG_tt, RunG_ff, RunG_tf, RunG_ft, RunG_none,
      Rn_move, Rn_assign, Rn_pick, Rn_alloc, Rn_box, Rn_build, Rn_buildSlice, Rn_load, Rn_store, Rn_nilCheck, Rn_binOp, Rn_unOp, Rn_convert, Rn_makeFunc, Rn_makeSlice, Rn_slice, Rn_fieldAddr, Rn_field, Rn_indexAddr, Rn_index, Rn_extract, Rn_builtin,
      pickV_true, pickV_false, pickV_bool, liftV_some, storeV_some, nilV_ptr, sliceV_some, extV_tuple, putT_some, putT_none, ev_tmp, ev_const, ev_func, fin_ret, fin_normal, leave_nil, aresL_nil, aresL_tmp, aresL_cell, one_one, one_two, one_three,
      bin_add, bin_sub, bin_mul, bin_lss, bin_leq, bin_gtr, bin_geq, bin_eql, bin_neq, un_not, un_neg,
      List.length_cons, List.length_nil, Nat.reduceAdd, Nat.reduceSub, List.replicate_succ, List.replicate_zero, List.cons_append, List.nil_append, List.set_cons_succ, List.set_cons_zero,
      List.getD_cons_succ, List.getD_cons_zero, List.getElem?_cons_succ, List.getElem?_cons_zero, Option.map_some, Option.bind_some, yieldL, popK, if_true, decide_true, decide_false, Bool.not_true, Bool.not_false, flat, and_self, List.map_toArray, List.map_cons, List.map_nil, nptr, Value.cells, and_true, List.toList_toArray, H.new, List.length_append, Nat.zero_add, Nat.add_zero, List.append_assoc, rd_z, rd_k, wr_z, wr_k, put_z, put_k, ld1_some, ldA_some, abi_min, abi_max, abi2_min, abi2_max, if_true, Bool.false_eq_true, if_false, eq_self, Int.toNat_natCast, Int.reduceEq, Int.reduceLT, Int.reduceLE, Nat.reduceEqDiff, Nat.one_ne_zero, Nat.zero_ne_one, ym_undef, rdArrAll, wrArrAll, take_arrL, splice_arrL, arrL_one, arrL_length, rdB_cells, rdB_row, wrB_cells, splice_nil, splice_cons, oc_int, oc_bool, oc_slice, oc_ptr, oc_func, oc_map, List.all_cons, List.all_nil, Bool.and_self, Nat.reduceLeDiff, Nat.le_refl, List.drop_zero, List.drop_succ_cons, List.take_succ_cons, List.take_zero, List.take_nil, List.drop_nil, getElem?_snoc, set_snoc, Run_nil, thenQ, finS_ret, finS_normal, ContK, Run_loop, Run_rangeFunc, true_and, ld2, st2, az2, aza2, ld3, st3, az3, aza3, ld4, st4, az4, aza4, ld5, st5, az5, aza5, ld22, st22, az22, aza22, ln22, lnd22, ix22, ld24, az24, aza24, fa24_0, fv24_0, fa24_1, fv24_1, ld25, st25, az25, aza25, ln25, lnd25, ix25, ld30, st30, az30, aza30, ld34, az34, aza34, fa34_0, fv34_0, fa34_1, fv34_1, ld64, az64, aza64, fa64_0, fv64_0, fa64_1, fv64_1, List.append_nil, Run_draw, mixT, slots_len, List.filter_cons, List.filter_nil, isAlloc, List.replicate_succ, List.replicate_zero, Run_dnil, Rd_alloc, Rd_box, Rd_buildSlice, Rd_pick, Rd_build, Rd_nilCheck, Rd_binOp, Rd_unOp, Rd_convert, Rd_fieldAddr, Rd_field, Rd_indexAddr, Rd_index, Rd_extract, Rd_move, Rd_assign, Rd_makeFunc, Rd_load, Rd_slice, Rd_store, Rd_makeSlice, Rd_len, Rd_min, Rd_max, Rd_append, Rd_copy, Rd_opcall, Rd_guard, RunDG_tt, RunDG_ff, RunDG_tf, RunDG_ft, RunDG_none, RunDS_some, RunDA_some, RunDE_some, ridOf, blockOf, get_z, get_k, Option.map_some, sl25_1, bs25_1, unk1, Bool.not_true, Bool.not_false, decide_true, decide_false, h1, h2, row_L (h3 _), row_U (h3 _), h3b, h4]
        refine RunDC_quiet (within40 I (Sees.one (k := Lx.length + 1) (c := 1) (e := 2) (a := x k) (by simp))) rfl ?_
        by_cases hw : numOk L U x k = true
        · have hw' : withinB (max (prevX x k) (L k)) (U k) 1 (one1 (x k)) = true := hw
          simp -implicitDefEqProofs only [Run_seq, Run_region, Run_ops_nil, Run_ret, Run_skip, Run_label, Run_exit, Run_endB, Run_block, Run_cond, Run_guard, Run_opcall, RunX_some, RunX_none, RunB_true, RunB_false, RunS_some, RunG_tt, RunG_ff, RunG_tf, RunG_ft, RunG_none,
      Rn_move, Rn_assign, Rn_pick, Rn_alloc, Rn_box, Rn_build, Rn_buildSlice, Rn_load, Rn_store, Rn_nilCheck, Rn_binOp, Rn_unOp, Rn_convert, Rn_makeFunc, Rn_makeSlice, Rn_slice, Rn_fieldAddr, Rn_field, Rn_indexAddr, Rn_index, Rn_extract, Rn_builtin,
      pickV_true, pickV_false, pickV_bool, liftV_some, storeV_some, nilV_ptr, sliceV_some, extV_tuple, putT_some, putT_none, ev_tmp, ev_const, ev_func, fin_ret, fin_normal, leave_nil, aresL_nil, aresL_tmp, aresL_cell, one_one, one_two, one_three,
      bin_add, bin_sub, bin_mul, bin_lss, bin_leq, bin_gtr, bin_geq, bin_eql, bin_neq, un_not, un_neg,
      List.length_cons, List.length_nil, Nat.reduceAdd, Nat.reduceSub, List.replicate_succ, List.replicate_zero, List.cons_append, List.nil_append, List.set_cons_succ, List.set_cons_zero,
      List.getD_cons_succ, List.getD_cons_zero, List.getElem?_cons_succ, List.getElem?_cons_zero, Option.map_some, Option.bind_some, yieldL, popK, if_true, decide_true, decide_false, Bool.not_true, Bool.not_false, flat, and_self, List.map_toArray, List.map_cons, List.map_nil, nptr, Value.cells, and_true, List.toList_toArray, H.new, List.length_append, Nat.zero_add, Nat.add_zero, List.append_assoc, rd_z, rd_k, wr_z, wr_k, put_z, put_k, ld1_some, ldA_some, abi_min, abi_max, abi2_min, abi2_max, if_true, Bool.false_eq_true, if_false, eq_self, Int.toNat_natCast, Int.reduceEq, Int.reduceLT, Int.reduceLE, Nat.reduceEqDiff, Nat.one_ne_zero, Nat.zero_ne_one, ym_undef, rdArrAll, wrArrAll, take_arrL, splice_arrL, arrL_one, arrL_length, rdB_cells, rdB_row, wrB_cells, splice_nil, splice_cons, oc_int, oc_bool, oc_slice, oc_ptr, oc_func, oc_map, List.all_cons, List.all_nil, Bool.and_self, Nat.reduceLeDiff, Nat.le_refl, List.drop_zero, List.drop_succ_cons, List.take_succ_cons, List.take_zero, List.take_nil, List.drop_nil, getElem?_snoc, set_snoc, Run_nil, thenQ, finS_ret, finS_normal, ContK, Run_loop, Run_rangeFunc, true_and, ld2, st2, az2, aza2, ld3, st3, az3, aza3, ld4, st4, az4, aza4, ld5, st5, az5, aza5, ld22, st22, az22, aza22, ln22, lnd22, ix22, ld24, az24, aza24, fa24_0, fv24_0, fa24_1, fv24_1, ld25, st25, az25, aza25, ln25, lnd25, ix25, ld30, st30, az30, aza30, ld34, az34, aza34, fa34_0, fv34_0, fa34_1, fv34_1, ld64, az64, aza64, fa64_0, fv64_0, fa64_1, fv64_1, List.append_nil, Run_draw, mixT, slots_len, List.filter_cons, List.filter_nil, isAlloc, List.replicate_succ, List.replicate_zero, Run_dnil, Rd_alloc, Rd_box, Rd_buildSlice, Rd_pick, Rd_build, Rd_nilCheck, Rd_binOp, Rd_unOp, Rd_convert, Rd_fieldAddr, Rd_field, Rd_indexAddr, Rd_index, Rd_extract, Rd_move, Rd_assign, Rd_makeFunc, Rd_load, Rd_slice, Rd_store, Rd_makeSlice, Rd_len, Rd_min, Rd_max, Rd_append, Rd_copy, Rd_opcall, Rd_guard, RunDG_tt, RunDG_ff, RunDG_tf, RunDG_ft, RunDG_none, RunDS_some, RunDA_some, RunDE_some, ridOf, blockOf, get_z, get_k, Option.map_some, sl25_1, bs25_1, unk1, Bool.not_true, Bool.not_false, decide_true, decide_false, hw', h4]
          refine ⟨drawOk_ren (fun _ => 0) rfl (by kernel_rfl), by rw [hJa]; exact ⟨k + 1, Lx ++ [.cells [.int .i64 (x k)] 2], rfl, rfl, rfl, rfl, rfl, rfl, rfl, rfl, rfl, by omega, fun i hi => by rcases Nat.lt_succ_iff_lt_or_eq.1 hi with h | rfl; exact hp i h; exact hw⟩, ?_⟩
          show m - ((k + 1 : Nat) : Int).toNat < m - (k : Int).toNat
          omega
        · simp only [Bool.not_eq_true] at hw
          have hw' : withinB (max (prevX x k) (L k)) (U k) 1 (one1 (x k)) = false := hw
          simp -implicitDefEqProofs only [Run_seq, Run_region, Run_ops_nil, Run_ret, Run_skip, Run_label, Run_exit, Run_endB, Run_block, Run_cond, Run_guard, Run_opcall, RunX_some, RunX_none, RunB_true, RunB_false, RunS_some, RunG_tt, RunG_ff, RunG_tf, RunG_ft, RunG_none,
      Rn_move, Rn_assign, Rn_pick, Rn_alloc, Rn_box, Rn_build, Rn_buildSlice, Rn_load, Rn_store, Rn_nilCheck, Rn_binOp, Rn_unOp, Rn_convert, Rn_makeFunc, Rn_makeSlice, Rn_slice, Rn_fieldAddr, Rn_field, Rn_indexAddr, Rn_index, Rn_extract, Rn_builtin,
      pickV_true, pickV_false, pickV_bool, liftV_some, storeV_some, nilV_ptr, sliceV_some, extV_tuple, putT_some, putT_none, ev_tmp, ev_const, ev_func, fin_ret, fin_normal, leave_nil, aresL_nil, aresL_tmp, aresL_cell, one_one, one_two, one_three,
      bin_add, bin_sub, bin_mul, bin_lss, bin_leq, bin_gtr, bin_geq, bin_eql, bin_neq, un_not, un_neg,
      List.length_cons, List.length_nil, Nat.reduceAdd, Nat.reduceSub, List.replicate_succ, List.replicate_zero, List.cons_append, List.nil_append, List.set_cons_succ, List.set_cons_zero,
      List.getD_cons_succ, List.getD_cons_zero, List.getElem?_cons_succ, List.getElem?_cons_zero, Option.map_some, Option.bind_some, yieldL, popK, if_true, decide_true, decide_false, Bool.not_true, Bool.not_false, flat, and_self, List.map_toArray, List.map_cons, List.map_nil, nptr, Value.cells, and_true, List.toList_toArray, H.new, List.length_append, Nat.zero_add, Nat.add_zero, List.append_assoc, rd_z, rd_k, wr_z, wr_k, put_z, put_k, ld1_some, ldA_some, abi_min, abi_max, abi2_min, abi2_max, if_true, Bool.false_eq_true, if_false, eq_self, Int.toNat_natCast, Int.reduceEq, Int.reduceLT, Int.reduceLE, Nat.reduceEqDiff, Nat.one_ne_zero, Nat.zero_ne_one, ym_undef, rdArrAll, wrArrAll, take_arrL, splice_arrL, arrL_one, arrL_length, rdB_cells, rdB_row, wrB_cells, splice_nil, splice_cons, oc_int, oc_bool, oc_slice, oc_ptr, oc_func, oc_map, List.all_cons, List.all_nil, Bool.and_self, Nat.reduceLeDiff, Nat.le_refl, List.drop_zero, List.drop_succ_cons, List.take_succ_cons, List.take_zero, List.take_nil, List.drop_nil, getElem?_snoc, set_snoc, Run_nil, thenQ, finS_ret, finS_normal, ContK, Run_loop, Run_rangeFunc, true_and, ld2, st2, az2, aza2, ld3, st3, az3, aza3, ld4, st4, az4, aza4, ld5, st5, az5, aza5, ld22, st22, az22, aza22, ln22, lnd22, ix22, ld24, az24, aza24, fa24_0, fv24_0, fa24_1, fv24_1, ld25, st25, az25, aza25, ln25, lnd25, ix25, ld30, st30, az30, aza30, ld34, az34, aza34, fa34_0, fv34_0, fa34_1, fv34_1, ld64, az64, aza64, fa64_0, fv64_0, fa64_1, fv64_1, List.append_nil, Run_draw, mixT, slots_len, List.filter_cons, List.filter_nil, isAlloc, List.replicate_succ, List.replicate_zero, Run_dnil, Rd_alloc, Rd_box, Rd_buildSlice, Rd_pick, Rd_build, Rd_nilCheck, Rd_binOp, Rd_unOp, Rd_convert, Rd_fieldAddr, Rd_field, Rd_indexAddr, Rd_index, Rd_extract, Rd_move, Rd_assign, Rd_makeFunc, Rd_load, Rd_slice, Rd_store, Rd_makeSlice, Rd_len, Rd_min, Rd_max, Rd_append, Rd_copy, Rd_opcall, Rd_guard, RunDG_tt, RunDG_ff, RunDG_tf, RunDG_ft, RunDG_none, RunDS_some, RunDA_some, RunDE_some, ridOf, blockOf, get_z, get_k, Option.map_some, sl25_1, bs25_1, unk1, Bool.not_true, Bool.not_false, decide_true, decide_false, hw', h4]
          have ha : anyN (fun i => !numOk L U x i) m = true := anyN_iff.2 ⟨k, hkn, by simp [hw]⟩
          rw [if_neg (by omega), if_pos ha]
          exact ⟨drawOk_ren (fun _ => 0) rfl (by kernel_rfl), ⟨_, rfl⟩, rfl⟩
      · have h1 : ¬ (k : Int) < (m : Int) := by omega
        have hkn' : k = m := by omega
        subst hkn'
        have ha : ¬ anyN (fun i => !numOk L U x i) k = true := by
          rw [anyN_iff]; rintro ⟨i, hi, hb⟩; rw [hp i hi] at hb; cases hb
        rw [if_neg (by omega), if_neg ha]
        simp -implicitDefEqProofs only [Run_seq, Run_region, Run_ops_nil, Run_ret, Run_skip, Run_label, Run_exit, Run_endB, Run_block, Run_cond, Run_guard, Run_opcall, RunX_some, RunX_none, RunB_true, RunB_false, RunS_some, RunG_tt, RunG_ff, RunG_tf, RunG_ft, RunG_none,
      Rn_move, Rn_assign, Rn_pick, Rn_alloc, Rn_box, Rn_build, Rn_buildSlice, Rn_load, Rn_store, Rn_nilCheck, Rn_binOp, Rn_unOp, Rn_convert, Rn_makeFunc, Rn_makeSlice, Rn_slice, Rn_fieldAddr, Rn_field, Rn_indexAddr, Rn_index, Rn_extract, Rn_builtin,
      pickV_true, pickV_false, pickV_bool, liftV_some, storeV_some, nilV_ptr, sliceV_some, extV_tuple, putT_some, putT_none, ev_tmp, ev_const, ev_func, fin_ret, fin_normal, leave_nil, aresL_nil, aresL_tmp, aresL_cell, one_one, one_two, one_three,
      bin_add, bin_sub, bin_mul, bin_lss, bin_leq, bin_gtr, bin_geq, bin_eql, bin_neq, un_not, un_neg,
      List.length_cons, List.length_nil, Nat.reduceAdd, Nat.reduceSub, List.replicate_succ, List.replicate_zero, List.cons_append, List.nil_append, List.set_cons_succ, List.set_cons_zero,
      List.getD_cons_succ, List.getD_cons_zero, List.getElem?_cons_succ, List.getElem?_cons_zero, Option.map_some, Option.bind_some, yieldL, popK, if_true, decide_true, decide_false, Bool.not_true, Bool.not_false, flat, and_self, List.map_toArray, List.map_cons, List.map_nil, nptr, Value.cells, and_true, List.toList_toArray, H.new, List.length_append, Nat.zero_add, Nat.add_zero, List.append_assoc, rd_z, rd_k, wr_z, wr_k, put_z, put_k, ld1_some, ldA_some, abi_min, abi_max, abi2_min, abi2_max, if_true, Bool.false_eq_true, if_false, eq_self, Int.toNat_natCast, Int.reduceEq, Int.reduceLT, Int.reduceLE, Nat.reduceEqDiff, Nat.one_ne_zero, Nat.zero_ne_one, ym_undef, rdArrAll, wrArrAll, take_arrL, splice_arrL, arrL_one, arrL_length, rdB_cells, rdB_row, wrB_cells, splice_nil, splice_cons, oc_int, oc_bool, oc_slice, oc_ptr, oc_func, oc_map, List.all_cons, List.all_nil, Bool.and_self, Nat.reduceLeDiff, Nat.le_refl, List.drop_zero, List.drop_succ_cons, List.take_succ_cons, List.take_zero, List.take_nil, List.drop_nil, getElem?_snoc, set_snoc, Run_nil, thenQ, finS_ret, finS_normal, ContK, Run_loop, Run_rangeFunc, true_and, ld2, st2, az2, aza2, ld3, st3, az3, aza3, ld4, st4, az4, aza4, ld5, st5, az5, aza5, ld22, st22, az22, aza22, ln22, lnd22, ix22, ld24, az24, aza24, fa24_0, fv24_0, fa24_1, fv24_1, ld25, st25, az25, aza25, ln25, lnd25, ix25, ld30, st30, az30, aza30, ld34, az34, aza34, fa34_0, fv34_0, fa34_1, fv34_1, ld64, az64, aza64, fa64_0, fv64_0, fa64_1, fv64_1, sl25_1, bs25_1, unk1, Bool.not_true, Bool.not_false, decide_true, decide_false, h1]
        first | exact ⟨⟨_, rfl⟩, rfl⟩ | exact ⟨_, rfl⟩
    · have hmn' : ¬ ((m : Int) = (n : Int)) := by omega
      simp -implicitDefEqProofs only [Run_seq, Run_region, Run_ops_nil, Run_ret, Run_skip, Run_label, Run_exit, Run_endB, Run_block, Run_cond, Run_guard, Run_opcall, RunX_some, RunX_none, RunB_true, RunB_false, RunS_some, RunG_tt, RunG_ff, RunG_tf, RunG_ft, RunG_none,
      Rn_move, Rn_assign, Rn_pick, Rn_alloc, Rn_box, Rn_build, Rn_buildSlice, Rn_load, Rn_store, Rn_nilCheck, Rn_binOp, Rn_unOp, Rn_convert, Rn_makeFunc, Rn_makeSlice, Rn_slice, Rn_fieldAddr, Rn_field, Rn_indexAddr, Rn_index, Rn_extract, Rn_builtin,
      pickV_true, pickV_false, pickV_bool, liftV_some, storeV_some, nilV_ptr, sliceV_some, extV_tuple, putT_some, putT_none, ev_tmp, ev_const, ev_func, fin_ret, fin_normal, leave_nil, aresL_nil, aresL_tmp, aresL_cell, one_one, one_two, one_three,
      bin_add, bin_sub, bin_mul, bin_lss, bin_leq, bin_gtr, bin_geq, bin_eql, bin_neq, un_not, un_neg,
      List.length_cons, List.length_nil, Nat.reduceAdd, Nat.reduceSub, List.replicate_succ, List.replicate_zero, List.cons_append, List.nil_append, List.set_cons_succ, List.set_cons_zero,
      List.getD_cons_succ, List.getD_cons_zero, List.getElem?_cons_succ, List.getElem?_cons_zero, Option.map_some, Option.bind_some, yieldL, popK, if_true, decide_true, decide_false, Bool.not_true, Bool.not_false, flat, and_self, List.map_toArray, List.map_cons, List.map_nil, nptr, Value.cells, and_true, List.toList_toArray, H.new, List.length_append, Nat.zero_add, Nat.add_zero, List.append_assoc, rd_z, rd_k, wr_z, wr_k, put_z, put_k, ld1_some, ldA_some, abi_min, abi_max, abi2_min, abi2_max, if_true, Bool.false_eq_true, if_false, eq_self, Int.toNat_natCast, Int.reduceEq, Int.reduceLT, Int.reduceLE, Nat.reduceEqDiff, Nat.one_ne_zero, Nat.zero_ne_one, ym_undef, rdArrAll, wrArrAll, take_arrL, splice_arrL, arrL_one, arrL_length, rdB_cells, rdB_row, wrB_cells, splice_nil, splice_cons, oc_int, oc_bool, oc_slice, oc_ptr, oc_func, oc_map, List.all_cons, List.all_nil, Bool.and_self, Nat.reduceLeDiff, Nat.le_refl, List.drop_zero, List.drop_succ_cons, List.take_succ_cons, List.take_zero, List.take_nil, List.drop_nil, getElem?_snoc, set_snoc, Run_nil, thenQ, finS_ret, finS_normal, ContK, Run_loop, Run_rangeFunc, true_and, ld2, st2, az2, aza2, ld3, st3, az3, aza3, ld4, st4, az4, aza4, ld5, st5, az5, aza5, ld22, st22, az22, aza22, ln22, lnd22, ix22, ld24, az24, aza24, fa24_0, fv24_0, fa24_1, fv24_1, ld25, st25, az25, aza25, ln25, lnd25, ix25, ld30, st30, az30, aza30, ld34, az34, aza34, fa34_0, fv34_0, fa34_1, fv34_1, ld64, az64, aza64, fa64_0, fv64_0, fa64_1, fv64_1, sl25_1, bs25_1, unk1, Bool.not_true, Bool.not_false, decide_true, decide_false, hmn']
      rw [if_pos hmn]
      first | exact ⟨⟨_, rfl⟩, rfl⟩ | exact ⟨_, rfl⟩
  · have hchE : chartE n D L U pr m x = tankE n D L U pr := by unfold chartE; rw [if_pos he]
    rw [hchE]
    simp -implicitDefEqProofs only [Run_seq, Run_region, Run_ops_nil, Run_ret, Run_skip, Run_label, Run_exit, Run_endB, Run_block, Run_cond, Run_guard, Run_opcall, RunX_some, RunX_none, RunB_true, RunB_false, RunS_some, RunG_tt, RunG_ff, RunG_tf, RunG_ft, RunG_none,
      Rn_move, Rn_assign, Rn_pick, Rn_alloc, Rn_box, Rn_build, Rn_buildSlice, Rn_load, Rn_store, Rn_nilCheck, Rn_binOp, Rn_unOp, Rn_convert, Rn_makeFunc, Rn_makeSlice, Rn_slice, Rn_fieldAddr, Rn_field, Rn_indexAddr, Rn_index, Rn_extract, Rn_builtin,
      pickV_true, pickV_false, pickV_bool, liftV_some, storeV_some, nilV_ptr, sliceV_some, extV_tuple, putT_some, putT_none, ev_tmp, ev_const, ev_func, fin_ret, fin_normal, leave_nil, aresL_nil, aresL_tmp, aresL_cell, one_one, one_two, one_three,
      bin_add, bin_sub, bin_mul, bin_lss, bin_leq, bin_gtr, bin_geq, bin_eql, bin_neq, un_not, un_neg,
      List.length_cons, List.length_nil, Nat.reduceAdd, Nat.reduceSub, List.replicate_succ, List.replicate_zero, List.cons_append, List.nil_append, List.set_cons_succ, List.set_cons_zero,
      List.getD_cons_succ, List.getD_cons_zero, List.getElem?_cons_succ, List.getElem?_cons_zero, Option.map_some, Option.bind_some, yieldL, popK, if_true, decide_true, decide_false, Bool.not_true, Bool.not_false, flat, and_self, List.map_toArray, List.map_cons, List.map_nil, nptr, Value.cells, and_true, List.toList_toArray, H.new, List.length_append, Nat.zero_add, Nat.add_zero, List.append_assoc, rd_z, rd_k, wr_z, wr_k, put_z, put_k, ld1_some, ldA_some, abi_min, abi_max, abi2_min, abi2_max, if_true, Bool.false_eq_true, if_false, eq_self, Int.toNat_natCast, Int.reduceEq, Int.reduceLT, Int.reduceLE, Nat.reduceEqDiff, Nat.one_ne_zero, Nat.zero_ne_one, ym_undef, rdArrAll, wrArrAll, take_arrL, splice_arrL, arrL_one, arrL_length, rdB_cells, rdB_row, wrB_cells, splice_nil, splice_cons, oc_int, oc_bool, oc_slice, oc_ptr, oc_func, oc_map, List.all_cons, List.all_nil, Bool.and_self, Nat.reduceLeDiff, Nat.le_refl, List.drop_zero, List.drop_succ_cons, List.take_succ_cons, List.take_zero, List.take_nil, List.drop_nil, getElem?_snoc, set_snoc, Run_nil, thenQ, finS_ret, finS_normal, ContK, Run_loop, Run_rangeFunc, true_and, ld2, st2, az2, aza2, ld3, st3, az3, aza3, ld4, st4, az4, aza4, ld5, st5, az5, aza5, ld22, st22, az22, aza22, ln22, lnd22, ix22, ld24, az24, aza24, fa24_0, fv24_0, fa24_1, fv24_1, ld25, st25, az25, aza25, ln25, lnd25, ix25, ld30, st30, az30, aza30, ld34, az34, aza34, fa34_0, fv34_0, fa34_1, fv34_1, ld64, az64, aza64, fa64_0, fv64_0, fa64_1, fv64_1, sl25_1, bs25_1, unk1, Bool.not_true, Bool.not_false, decide_true, decide_false, he]
    first | exact ⟨⟨_, rfl⟩, rfl⟩ | exact ⟨_, rfl⟩
end Go.Proofs.Ytcocmbccfikmhaa
set_option linter.unusedSimpArgs false
set_option linter.unusedVariables false
namespace Go.Proofs.Ytcocmbccfikmhaa
open Go.Sym
/-- a valid tank -/
structure TankOk (n : Nat) (D L U : Nat → Int) (pr : Int) : Prop where
  n2 : 2 ≤ n
  n16 : n ≤ 16
  d0 : 0 ≤ D 0
  inc : ∀ i, i + 1 < n → D i < D (i + 1)
  top : ∀ i, i < n → D i ≤ 4000
  lit : ∀ i, i < n → 0 ≤ L i ∧ L i ≤ U i ∧ U i ≤ 100000
  pr0 : 0 ≤ pr ∧ pr ≤ 50
theorem any_false {p : Nat → Bool} {n : Nat} (h : anyN p n = false) : ∀ i, i < n → p i = false := by
  intro i hi
  cases hp : p i with
  | false => rfl
  | true => rw [anyN_iff.2 ⟨i, hi, hp⟩] at h; cases h
theorem tank_ok {n : Nat} {D L U : Nat → Int} {pr : Int} (h : tankE n D L U pr = 0) : TankOk n D L U pr := by
  obtain ⟨n2, n16⟩ := tankE_n h
  unfold tankE at h
  rw [if_neg (by omega)] at h
  split at h
  · cases h
  rename_i h1
  split at h
  · cases h
  rename_i h2
  simp only [Bool.not_eq_true] at h1
  simp only [Bool.or_eq_true, Bool.not_eq_true', not_or, Bool.not_eq_false] at h2
  have hd := any_false h1
  have hd' : ∀ i, i < n → prevD D i < D i ∧ D i ≤ 4000 := by
    intro i hi
    have := hd i hi
    unfold dipOk at this
    simp at this
    exact this
  have hr : ∀ i, i < n → rangeB (L i) (U i) 0 100000 = true := by
    intro i hi
    have := any_false (by simpa using h2.2) i hi
    simpa using this
  refine ⟨n2, n16, ?_, ?_, fun i hi => (hd' i hi).2, ?_, ?_⟩
  · have := (hd' 0 (by omega)).1
    simp only [prevD] at this; omega
  · intro i hi
    exact (hd' (i + 1) hi).1
  · intro i hi
    have := rangeB_iff.1 (hr i hi)
    omega
  · have := withinB_iff.1 h2.1 0 (by omega)
    exact this
theorem tank_err {n : Nat} {D L U : Nat → Int} {pr : Int} (t : TankOk n D L U pr) : tankE n D L U pr = 0 := by
  have h0 : ∀ i, i < n → dipOk D i = true := by
    intro i hi
    have h1 := t.top i hi
    unfold dipOk
    rw [Bool.and_eq_true, decide_eq_true_iff, decide_eq_true_iff]
    refine ⟨?_, h1⟩
    cases i with
    | zero => have := t.d0; show (-1 : Int) < D 0; omega
    | succ j => exact t.inc j hi
  rw [tankE_arg (by have := t.n2; have := t.n16; omega) h0, if_neg]
  simp only [Bool.or_eq_true, Bool.not_eq_true', not_or, Bool.not_eq_false, Bool.not_eq_true]
  refine ⟨withinB_iff.2 fun i _ => t.pr0, ?_⟩
  cases ha : anyN (fun i => !rangeB (L i) (U i) 0 100000) n with
  | false => rfl
  | true =>
    obtain ⟨i, hi, hb⟩ := anyN_iff.1 ha
    have := t.lit i hi
    rw [rangeB_iff.2 ⟨by omega, by omega, by omega⟩] at hb; cases hb
section
variable {n : Nat} {D L U : Nat → Int} {pr : Int}
theorem TankOk.mono (t : TankOk n D L U pr) : ∀ i j, i ≤ j → j < n → D i ≤ D j := by
  intro i j hij hj
  induction j with
  | zero => have : i = 0 := by omega
            subst this; exact Int.le_refl _
  | succ j ih =>
    by_cases e : i = j + 1
    · subst e; exact Int.le_refl _
    · have := ih (by omega) (by omega)
      have := t.inc j hj
      omega
theorem TankOk.lt (t : TankOk n D L U pr) : ∀ i j, i < j → j < n → D i < D j := by
  intro i j hij hj
  have h1 := t.inc i (by omega)
  have h2 := t.mono (i + 1) j hij hj
  omega
theorem TankOk.dip (t : TankOk n D L U pr) : ∀ i, i < n → 0 ≤ D i ∧ D i ≤ 4000 := fun i hi => by
  have := t.mono 0 i (by omega) hi
  have := t.d0
  have := t.top i hi
  omega
end
/-- a chart of a valid tank -/
structure ChartOk (n : Nat) (D L U : Nat → Int) (pr : Int) (m : Nat) (x : Nat → Int) : Prop where
  tank : TankOk n D L U pr
  len : m = n
  rng : ∀ i, i < n → L i ≤ x i ∧ x i ≤ U i
  inc : ∀ i, i + 1 < n → x i ≤ x (i + 1)
theorem chart_ok {n m : Nat} {D L U x : Nat → Int} {pr : Int} (h : chartE n D L U pr m x = 0) : ChartOk n D L U pr m x := by
  unfold chartE at h
  split at h
  · contradiction
  rename_i h1
  split at h
  · cases h
  rename_i h2
  split at h
  · cases h
  rename_i h3
  have t := tank_ok (by simpa using h1)
  have hx := any_false (by simpa using h3)
  have hx' : ∀ i, i < n → max (prevX x i) (L i) ≤ x i ∧ x i ≤ U i := by
    intro i hi
    have := hx i hi
    simp only [Bool.not_eq_false'] at this
    exact withinB_iff.1 this 0 (by omega)
  refine ⟨t, by omega, fun i hi => ?_, fun i hi => ?_⟩
  · have := hx' i hi; omega
  · have := hx' (i + 1) hi
    simp only [prevX] at this; omega
theorem chart_err {n m : Nat} {D L U x : Nat → Int} {pr : Int} (c : ChartOk n D L U pr m x) : chartE n D L U pr m x = 0 := by
  unfold chartE
  rw [if_neg (by rw [tank_err c.tank]; simp), if_neg (by have := c.len; omega), if_neg]
  rw [anyN_iff]
  rintro ⟨i, hi, hb⟩
  have h1 := c.rng i hi
  have h2 := c.tank.lit i hi
  have : numOk L U x i = true := by
    refine withinB_iff.2 fun j _ => ?_
    show max (prevX x i) (L i) ≤ x i ∧ x i ≤ U i
    cases i with
    | zero => simp only [prevX]; omega
    | succ k => have := c.inc k hi; simp only [prevX]; omega
  rw [this] at hb; cases hb

/-! the weights -/
theorem wIxF_spec {n : Nat} {D : Nat → Int} {dip : Int} : ∀ f i, n ≤ f + i → i + 1 ≤ n → (i < wIxF n D dip f i → D (wIxF n D dip f i - 1) < dip) ∧ (wIxF n D dip f i + 1 = n ∨ dip ≤ D (wIxF n D dip f i))
  | 0, i, hf, h => by omega
  | f + 1, i, hf, h => by
    simp only [wIxF]
    split
    · rename_i hc
      have := wIxF_spec (n := n) (D := D) (dip := dip) f (i + 1) (by omega) (by omega)
      refine ⟨fun _ => ?_, this.2⟩
      by_cases e : i + 1 < wIxF n D dip f (i + 1)
      · exact this.1 e
      · have := wIxF_rng (n := n) (D := D) (dip := dip) f (i + 1) (by omega)
        have e2 : wIxF n D dip f (i + 1) = i + 1 := by omega
        rw [e2]; exact hc.2
    · rename_i hc
      exact ⟨fun hh => absurd hh (Nat.lt_irrefl _), by omega⟩
/-- the dip lies between the rows -/
theorem wIx_between {n : Nat} {D L U : Nat → Int} {pr dip : Int} (t : TankOk n D L U pr) (h : D 0 ≤ dip ∧ dip ≤ D (n - 1)) : D (wIx n D dip - 1) ≤ dip ∧ dip ≤ D (wIx n D dip) := by
  obtain ⟨h1, h2⟩ := wIxF_spec (n := n) (D := D) (dip := dip) n 1 (by omega) (by have := t.n2; omega)
  obtain ⟨h3, h4⟩ := wIx_rng (n := n) (D := D) (dip := dip) t.n2
  change (1 < wIx n D dip → D (wIx n D dip - 1) < dip) at h1
  change (wIx n D dip + 1 = n ∨ dip ≤ D (wIx n D dip)) at h2
  constructor
  · by_cases e : 1 < wIx n D dip
    · exact Int.le_of_lt (h1 e)
    · have : wIx n D dip = 1 := by omega
      rw [this]; exact h.1
  · rcases h2 with e | e
    · have : wIx n D dip = n - 1 := by omega
      rw [this]; exact h.2
    · exact e
theorem sumTo_two {x : Nat → Int} {a : Nat} {p q : Int} : ∀ n, sumTo (upd (upd (fun _ => 0) a p) (a + 1) q) x n = (if a < n then p * x a else 0) + (if a + 1 < n then q * x (a + 1) else 0)
  | 0 => by simp [sumTo]
  | n + 1 => by
    simp only [sumTo]
    rw [sumTo_two n]
    by_cases h1 : n = a
    · subst h1
      rw [if_neg (Nat.lt_irrefl n), if_neg (by omega), if_pos (by omega), if_neg (by omega)]
      simp [upd]
    · by_cases h2 : n = a + 1
      · subst h2
        rw [if_pos (by omega), if_neg (by omega), if_pos (by omega), if_pos (by omega)]
        simp [upd]
      · have : upd (upd (fun _ => 0) a p) (a + 1) q n = 0 := by simp [upd, h1, h2]
        rw [this, Int.zero_mul, Int.add_zero]
        by_cases h3 : a < n
        · have h4 : a + 1 < n := by omega
          have h5 : a < n + 1 := by omega
          have h6 : a + 1 < n + 1 := by omega
          simp only [h3, h4, h5, h6, if_true]
        · rw [if_neg h3, if_neg (by omega), if_neg (by omega), if_neg (by omega)]
/-- the litres below a dip: a number, and by what it is divided -/
def belN (n : Nat) (D : Nat → Int) (x : Nat → Int) (dip : Int) : Int := (D (wIx n D dip) - dip) * x (wIx n D dip - 1) + (dip - D (wIx n D dip - 1)) * x (wIx n D dip)
theorem sum_weigh {n : Nat} {D x : Nat → Int} {dip : Int} (hn : 2 ≤ n) : sumTo (weighW n D dip) x n = belN n D x dip := by
  obtain ⟨h3, h4⟩ := wIx_rng (n := n) (D := D) (dip := dip) hn
  unfold weighW belN
  obtain ⟨a, ha⟩ : ∃ a, wIx n D dip = a + 1 := ⟨wIx n D dip - 1, by omega⟩
  rw [ha]
  have : a + 1 - 1 = a := by omega
  rw [this, sumTo_two, if_pos (by omega), if_pos (by omega)]
theorem weighW_rng {n : Nat} {D L U : Nat → Int} {pr dip : Int} (t : TankOk n D L U pr) (h : D 0 ≤ dip ∧ dip ≤ D (n - 1)) (k : Nat) : 0 ≤ weighW n D dip k ∧ weighW n D dip k ≤ 4000 := by
  obtain ⟨h1, h2⟩ := wIx_between t h
  obtain ⟨h3, h4⟩ := wIx_rng (n := n) (D := D) (dip := dip) t.n2
  have d1 := t.dip (wIx n D dip) (by omega)
  have d2 := t.dip (wIx n D dip - 1) (by omega)
  unfold weighW
  simp only [upd]
  split
  · omega
  · split
    · omega
    · omega
theorem weighD_rng {n : Nat} {D L U : Nat → Int} {pr dip : Int} (t : TankOk n D L U pr) : 0 < weighD n D dip ∧ weighD n D dip ≤ 4000 := by
  obtain ⟨h3, h4⟩ := wIx_rng (n := n) (D := D) (dip := dip) t.n2
  have d1 := t.dip (wIx n D dip) (by omega)
  have d2 := t.dip (wIx n D dip - 1) (by omega)
  have d3 := t.lt (wIx n D dip - 1) (wIx n D dip) (by omega) (by omega)
  unfold weighD
  omega
theorem mul_rng {a b A B : Int} (ha : 0 ≤ a ∧ a ≤ A) (hb : 0 ≤ b ∧ b ≤ B) : 0 ≤ a * b ∧ a * b ≤ A * B :=
  ⟨Int.mul_nonneg ha.1 hb.1, Int.mul_le_mul ha.2 hb.2 hb.1 (by omega)⟩
end Go.Proofs.Ytcocmbccfikmhaa
set_option linter.unusedSimpArgs false
set_option linter.unusedVariables false
namespace Go.Proofs.Ytcocmbccfikmhaa
open Go.Sym
/-- what Below answers -/
def belowV (n : Nat) (D L U : Nat → Int) (pr : Int) (m : Nat) (x : Nat → Int) (dip : Int) : Value :=
  if chartE n D L U pr m x ≠ 0 then .tuple #[.agg #[.int .i64 0, .int .i64 0], .int .i64 (chartE n D L U pr m x)]
  else if ¬ (D 0 ≤ dip ∧ dip ≤ D (n - 1)) then .tuple #[.agg #[.int .i64 0, .int .i64 0], .int .i64 3]
  else .tuple #[.agg (fracL (belN n D x dip) (weighD n D dip)).toArray, .int .i64 0]
theorem belowV_flat {n m : Nat} {D L U x : Nat → Int} {pr dip : Int} : flat (belowV n D L U pr m x dip) = true := by
  unfold belowV; split
  · rfl
  · split <;> rfl
theorem bl29_0 : abuild Try.prog 29 [] = some (.agg #[.int .i64 0, .int .i64 0]) := by kernel_rfl
theorem fracL_len {a b : Int} : (fracL a b).length = 2 := rfl

set_option maxRecDepth 100000 in
theorem below10 (I : Nat → Option Obj) {h : H} {v cv : Value} {n m : Nat} {D L U x : Nat → Int} {pr dip : Int} (hv : Rows I v n D L U) (hcv : ∀ N, closedV (okN N) v = true) (hx : Sees I h cv m x) :
    Snd Try.prog I (.func 10) [.agg #[v, .int .i64 pr], cv, .int .i64 dip] h (belowV n D L U pr m x dip) h := by
  have hv0 := hv
  obtain ⟨q, c, rfl, hn, hq⟩ := hv
  refine Snd_run0 (rs := [.cell 6 29, .tmp 7]) 600 Try.func10 (by kernel_rfl) rfl Try.ntmps10 rfl belowV_flat ?_
  simp -implicitDefEqProofs only [Run_seq, Run_region, Run_ops_nil, Run_ret, Run_skip, Run_label, Run_exit, Run_endB, Run_block, Run_cond, Run_guard, Run_opcall, RunX_some, RunX_none, RunB_true, RunB_false, RunS_some, RunG_tt, RunG_ff, RunG_tf, RunG_ft, RunG_none,
      Rn_move, Rn_assign, Rn_pick, Rn_alloc, Rn_box, Rn_build, Rn_buildSlice, Rn_load, Rn_store, Rn_nilCheck, Rn_binOp, Rn_unOp, Rn_convert, Rn_makeFunc, Rn_makeSlice, Rn_slice, Rn_fieldAddr, Rn_field, Rn_indexAddr, Rn_index, Rn_extract, Rn_builtin,
      pickV_true, pickV_false, pickV_bool, liftV_some, storeV_some, nilV_ptr, sliceV_some, extV_tuple, putT_some, putT_none, ev_tmp, ev_const, ev_func, fin_ret, fin_normal, leave_nil, aresL_nil, aresL_tmp, aresL_cell, one_one, one_two, one_three,
      bin_add, bin_sub, bin_mul, bin_lss, bin_leq, bin_gtr, bin_geq, bin_eql, bin_neq, un_not, un_neg,
      List.length_cons, List.length_nil, Nat.reduceAdd, Nat.reduceSub, List.replicate_succ, List.replicate_zero, List.cons_append, List.nil_append, List.set_cons_succ, List.set_cons_zero,
      List.getD_cons_succ, List.getD_cons_zero, List.getElem?_cons_succ, List.getElem?_cons_zero, Option.map_some, Option.bind_some, yieldL, popK, if_true, decide_true, decide_false, Bool.not_true, Bool.not_false, flat, and_self, List.map_toArray, List.map_cons, List.map_nil, nptr, Value.cells, and_true, List.toList_toArray, H.new, List.length_append, Nat.zero_add, Nat.add_zero, List.append_assoc, rd_z, rd_k, wr_z, wr_k, put_z, put_k, ld1_some, ldA_some, abi_min, abi_max, abi2_min, abi2_max, if_true, Bool.false_eq_true, if_false, eq_self, Int.toNat_natCast, Int.reduceEq, Int.reduceLT, Int.reduceLE, Nat.reduceEqDiff, Nat.one_ne_zero, Nat.zero_ne_one, ym_undef, rdArrAll, wrArrAll, take_arrL, splice_arrL, arrL_one, arrL_length, rdB_cells, rdB_row, wrB_cells, splice_nil, splice_cons, oc_int, oc_bool, oc_slice, oc_ptr, oc_func, oc_map, List.all_cons, List.all_nil, Bool.and_self, Nat.reduceLeDiff, Nat.le_refl, List.drop_zero, List.drop_succ_cons, List.take_succ_cons, List.take_zero, List.take_nil, List.drop_nil, getElem?_snoc, set_snoc, Run_nil, thenQ, finS_ret, finS_normal, ContK, Run_loop, Run_rangeFunc, true_and, ld2, st2, az2, aza2, ld3, st3, az3, aza3, ld4, st4, az4, aza4, ld5, st5, az5, aza5, ld22, st22, az22, aza22, ln22, lnd22, ix22, ld24, az24, aza24, fa24_0, fv24_0, fa24_1, fv24_1, ld25, st25, az25, aza25, ln25, lnd25, ix25, ld29, az29, aza29, fa29_0, fv29_0, fa29_1, fv29_1, ld30, st30, az30, aza30, ld64, az64, aza64, fa64_0, fv64_0, fa64_1, fv64_1, ld78, st78, az78, aza78, ld81, az81, aza81, ix81, sl25_1, bs25_1, unk1, Bool.not_true, Bool.not_false, decide_true, decide_false, bl29, bl29_0, st29, st24, st81, fracL_len]
  refine RunCall_of (checkChart21 I hv0 (hx.app _)) ?_
  by_cases he : chartE n D L U pr m x = 0
  · have ch := chart_ok he
    have t := ch.tank
    have n2 := t.n2
    have n16 := t.n16
    obtain ⟨id, off, rfl, hr⟩ := hq (by omega)
    have hw1 : IntKind.i64.wrap ((n : Int) - 1) = ((n - 1 : Nat) : Int) := by rw [wrap_i64 (by omega) (by omega)]; omega
    have h00 : (0 : Int) ≤ 0 ∧ (0 : Int) < (n : Int) := ⟨by omega, by omega⟩
    have h01 : (0 : Int) ≤ ((n - 1 : Nat) : Int) ∧ ((n - 1 : Nat) : Int) < (n : Int) := ⟨by omega, by omega⟩
    have r0 := fun h => row_D (hr h 0 (by omega))
    have r1 := fun h => row_D (hr h (n - 1) (by omega))
    simp only [Nat.zero_mul, Nat.add_zero] at r0
    rw [he]
    simp -implicitDefEqProofs only [Run_seq, Run_region, Run_ops_nil, Run_ret, Run_skip, Run_label, Run_exit, Run_endB, Run_block, Run_cond, Run_guard, Run_opcall, RunX_some, RunX_none, RunB_true, RunB_false, RunS_some, RunG_tt, RunG_ff, RunG_tf, RunG_ft, RunG_none,
      Rn_move, Rn_assign, Rn_pick, Rn_alloc, Rn_box, Rn_build, Rn_buildSlice, Rn_load, Rn_store, Rn_nilCheck, Rn_binOp, Rn_unOp, Rn_convert, Rn_makeFunc, Rn_makeSlice, Rn_slice, Rn_fieldAddr, Rn_field, Rn_indexAddr, Rn_index, Rn_extract, Rn_builtin,
      pickV_true, pickV_false, pickV_bool, liftV_some, storeV_some, nilV_ptr, sliceV_some, extV_tuple, putT_some, putT_none, ev_tmp, ev_const, ev_func, fin_ret, fin_normal, leave_nil, aresL_nil, aresL_tmp, aresL_cell, one_one, one_two, one_three,
      bin_add, bin_sub, bin_mul, bin_lss, bin_leq, bin_gtr, bin_geq, bin_eql, bin_neq, un_not, un_neg,
      List.length_cons, List.length_nil, Nat.reduceAdd, Nat.reduceSub, List.replicate_succ, List.replicate_zero, List.cons_append, List.nil_append, List.set_cons_succ, List.set_cons_zero,
      List.getD_cons_succ, List.getD_cons_zero, List.getElem?_cons_succ, List.getElem?_cons_zero, Option.map_some, Option.bind_some, yieldL, popK, if_true, decide_true, decide_false, Bool.not_true, Bool.not_false, flat, and_self, List.map_toArray, List.map_cons, List.map_nil, nptr, Value.cells, and_true, List.toList_toArray, H.new, List.length_append, Nat.zero_add, Nat.add_zero, List.append_assoc, rd_z, rd_k, wr_z, wr_k, put_z, put_k, ld1_some, ldA_some, abi_min, abi_max, abi2_min, abi2_max, if_true, Bool.false_eq_true, if_false, eq_self, Int.toNat_natCast, Int.reduceEq, Int.reduceLT, Int.reduceLE, Nat.reduceEqDiff, Nat.one_ne_zero, Nat.zero_ne_one, ym_undef, rdArrAll, wrArrAll, take_arrL, splice_arrL, arrL_one, arrL_length, rdB_cells, rdB_row, wrB_cells, splice_nil, splice_cons, oc_int, oc_bool, oc_slice, oc_ptr, oc_func, oc_map, List.all_cons, List.all_nil, Bool.and_self, Nat.reduceLeDiff, Nat.le_refl, List.drop_zero, List.drop_succ_cons, List.take_succ_cons, List.take_zero, List.take_nil, List.drop_nil, getElem?_snoc, set_snoc, Run_nil, thenQ, finS_ret, finS_normal, ContK, Run_loop, Run_rangeFunc, true_and, ld2, st2, az2, aza2, ld3, st3, az3, aza3, ld4, st4, az4, aza4, ld5, st5, az5, aza5, ld22, st22, az22, aza22, ln22, lnd22, ix22, ld24, az24, aza24, fa24_0, fv24_0, fa24_1, fv24_1, ld25, st25, az25, aza25, ln25, lnd25, ix25, ld29, az29, aza29, fa29_0, fv29_0, fa29_1, fv29_1, ld30, st30, az30, aza30, ld64, az64, aza64, fa64_0, fv64_0, fa64_1, fv64_1, ld78, st78, az78, aza78, ld81, az81, aza81, ix81, List.append_nil, Run_draw, mixT, slots_len, List.filter_cons, List.filter_nil, isAlloc, List.replicate_succ, List.replicate_zero, Run_dnil, Rd_alloc, Rd_box, Rd_buildSlice, Rd_pick, Rd_build, Rd_nilCheck, Rd_binOp, Rd_unOp, Rd_convert, Rd_fieldAddr, Rd_field, Rd_indexAddr, Rd_index, Rd_extract, Rd_move, Rd_assign, Rd_makeFunc, Rd_load, Rd_slice, Rd_store, Rd_makeSlice, Rd_len, Rd_min, Rd_max, Rd_append, Rd_copy, Rd_opcall, Rd_guard, RunDG_tt, RunDG_ff, RunDG_tf, RunDG_ft, RunDG_none, RunDS_some, RunDA_some, RunDE_some, ridOf, blockOf, get_z, get_k, Option.map_some, sl25_1, bs25_1, unk1, Bool.not_true, Bool.not_false, decide_true, decide_false, bl29, bl29_0, st29, st24, st81, fracL_len, hw1, h00, h01, r0, r1, Int.toNat_zero, Nat.zero_mul]
    refine RunDC_quiet (within40 I (Sees.one (k := 2) (c := 1) (e := 2) (a := dip) rfl)) rfl ?_
    by_cases hw : D 0 ≤ dip ∧ dip ≤ D (n - 1)
    · have hw' : withinB (D 0) (D (n - 1)) 1 (one1 dip) = true := by rw [within_one]; simp [hw]
      simp -implicitDefEqProofs only [Run_seq, Run_region, Run_ops_nil, Run_ret, Run_skip, Run_label, Run_exit, Run_endB, Run_block, Run_cond, Run_guard, Run_opcall, RunX_some, RunX_none, RunB_true, RunB_false, RunS_some, RunG_tt, RunG_ff, RunG_tf, RunG_ft, RunG_none,
      Rn_move, Rn_assign, Rn_pick, Rn_alloc, Rn_box, Rn_build, Rn_buildSlice, Rn_load, Rn_store, Rn_nilCheck, Rn_binOp, Rn_unOp, Rn_convert, Rn_makeFunc, Rn_makeSlice, Rn_slice, Rn_fieldAddr, Rn_field, Rn_indexAddr, Rn_index, Rn_extract, Rn_builtin,
      pickV_true, pickV_false, pickV_bool, liftV_some, storeV_some, nilV_ptr, sliceV_some, extV_tuple, putT_some, putT_none, ev_tmp, ev_const, ev_func, fin_ret, fin_normal, leave_nil, aresL_nil, aresL_tmp, aresL_cell, one_one, one_two, one_three,
      bin_add, bin_sub, bin_mul, bin_lss, bin_leq, bin_gtr, bin_geq, bin_eql, bin_neq, un_not, un_neg,
      List.length_cons, List.length_nil, Nat.reduceAdd, Nat.reduceSub, List.replicate_succ, List.replicate_zero, List.cons_append, List.nil_append, List.set_cons_succ, List.set_cons_zero,
      List.getD_cons_succ, List.getD_cons_zero, List.getElem?_cons_succ, List.getElem?_cons_zero, Option.map_some, Option.bind_some, yieldL, popK, if_true, decide_true, decide_false, Bool.not_true, Bool.not_false, flat, and_self, List.map_toArray, List.map_cons, List.map_nil, nptr, Value.cells, and_true, List.toList_toArray, H.new, List.length_append, Nat.zero_add, Nat.add_zero, List.append_assoc, rd_z, rd_k, wr_z, wr_k, put_z, put_k, ld1_some, ldA_some, abi_min, abi_max, abi2_min, abi2_max, if_true, Bool.false_eq_true, if_false, eq_self, Int.toNat_natCast, Int.reduceEq, Int.reduceLT, Int.reduceLE, Nat.reduceEqDiff, Nat.one_ne_zero, Nat.zero_ne_one, ym_undef, rdArrAll, wrArrAll, take_arrL, splice_arrL, arrL_one, arrL_length, rdB_cells, rdB_row, wrB_cells, splice_nil, splice_cons, oc_int, oc_bool, oc_slice, oc_ptr, oc_func, oc_map, List.all_cons, List.all_nil, Bool.and_self, Nat.reduceLeDiff, Nat.le_refl, List.drop_zero, List.drop_succ_cons, List.take_succ_cons, List.take_zero, List.take_nil, List.drop_nil, getElem?_snoc, set_snoc, Run_nil, thenQ, finS_ret, finS_normal, ContK, Run_loop, Run_rangeFunc, true_and, ld2, st2, az2, aza2, ld3, st3, az3, aza3, ld4, st4, az4, aza4, ld5, st5, az5, aza5, ld22, st22, az22, aza22, ln22, lnd22, ix22, ld24, az24, aza24, fa24_0, fv24_0, fa24_1, fv24_1, ld25, st25, az25, aza25, ln25, lnd25, ix25, ld29, az29, aza29, fa29_0, fv29_0, fa29_1, fv29_1, ld30, st30, az30, aza30, ld64, az64, aza64, fa64_0, fv64_0, fa64_1, fv64_1, ld78, st78, az78, aza78, ld81, az81, aza81, ix81, List.append_nil, Run_draw, mixT, slots_len, List.filter_cons, List.filter_nil, isAlloc, List.replicate_succ, List.replicate_zero, Run_dnil, Rd_alloc, Rd_box, Rd_buildSlice, Rd_pick, Rd_build, Rd_nilCheck, Rd_binOp, Rd_unOp, Rd_convert, Rd_fieldAddr, Rd_field, Rd_indexAddr, Rd_index, Rd_extract, Rd_move, Rd_assign, Rd_makeFunc, Rd_load, Rd_slice, Rd_store, Rd_makeSlice, Rd_len, Rd_min, Rd_max, Rd_append, Rd_copy, Rd_opcall, Rd_guard, RunDG_tt, RunDG_ff, RunDG_tf, RunDG_ft, RunDG_none, RunDS_some, RunDA_some, RunDE_some, ridOf, blockOf, get_z, get_k, Option.map_some, sl25_1, bs25_1, unk1, Bool.not_true, Bool.not_false, decide_true, decide_false, bl29, bl29_0, st29, st24, st81, fracL_len, hw']
      refine ⟨drawOk_ren (fun _ => 0) rfl (by kernel_rfl), ?_⟩
      refine RunCall_of (newGauge41 I hv0 hcv n16) ?_
      simp -implicitDefEqProofs only [Run_seq, Run_region, Run_ops_nil, Run_ret, Run_skip, Run_label, Run_exit, Run_endB, Run_block, Run_cond, Run_guard, Run_opcall, RunX_some, RunX_none, RunB_true, RunB_false, RunS_some, RunG_tt, RunG_ff, RunG_tf, RunG_ft, RunG_none,
      Rn_move, Rn_assign, Rn_pick, Rn_alloc, Rn_box, Rn_build, Rn_buildSlice, Rn_load, Rn_store, Rn_nilCheck, Rn_binOp, Rn_unOp, Rn_convert, Rn_makeFunc, Rn_makeSlice, Rn_slice, Rn_fieldAddr, Rn_field, Rn_indexAddr, Rn_index, Rn_extract, Rn_builtin,
      pickV_true, pickV_false, pickV_bool, liftV_some, storeV_some, nilV_ptr, sliceV_some, extV_tuple, putT_some, putT_none, ev_tmp, ev_const, ev_func, fin_ret, fin_normal, leave_nil, aresL_nil, aresL_tmp, aresL_cell, one_one, one_two, one_three,
      bin_add, bin_sub, bin_mul, bin_lss, bin_leq, bin_gtr, bin_geq, bin_eql, bin_neq, un_not, un_neg,
      List.length_cons, List.length_nil, Nat.reduceAdd, Nat.reduceSub, List.replicate_succ, List.replicate_zero, List.cons_append, List.nil_append, List.set_cons_succ, List.set_cons_zero,
      List.getD_cons_succ, List.getD_cons_zero, List.getElem?_cons_succ, List.getElem?_cons_zero, Option.map_some, Option.bind_some, yieldL, popK, if_true, decide_true, decide_false, Bool.not_true, Bool.not_false, flat, and_self, List.map_toArray, List.map_cons, List.map_nil, nptr, Value.cells, and_true, List.toList_toArray, H.new, List.length_append, Nat.zero_add, Nat.add_zero, List.append_assoc, rd_z, rd_k, wr_z, wr_k, put_z, put_k, ld1_some, ldA_some, abi_min, abi_max, abi2_min, abi2_max, if_true, Bool.false_eq_true, if_false, eq_self, Int.toNat_natCast, Int.reduceEq, Int.reduceLT, Int.reduceLE, Nat.reduceEqDiff, Nat.one_ne_zero, Nat.zero_ne_one, ym_undef, rdArrAll, wrArrAll, take_arrL, splice_arrL, arrL_one, arrL_length, rdB_cells, rdB_row, wrB_cells, splice_nil, splice_cons, oc_int, oc_bool, oc_slice, oc_ptr, oc_func, oc_map, List.all_cons, List.all_nil, Bool.and_self, Nat.reduceLeDiff, Nat.le_refl, List.drop_zero, List.drop_succ_cons, List.take_succ_cons, List.take_zero, List.take_nil, List.drop_nil, getElem?_snoc, set_snoc, Run_nil, thenQ, finS_ret, finS_normal, ContK, Run_loop, Run_rangeFunc, true_and, ld2, st2, az2, aza2, ld3, st3, az3, aza3, ld4, st4, az4, aza4, ld5, st5, az5, aza5, ld22, st22, az22, aza22, ln22, lnd22, ix22, ld24, az24, aza24, fa24_0, fv24_0, fa24_1, fv24_1, ld25, st25, az25, aza25, ln25, lnd25, ix25, ld29, az29, aza29, fa29_0, fv29_0, fa29_1, fv29_1, ld30, st30, az30, aza30, ld64, az64, aza64, fa64_0, fv64_0, fa64_1, fv64_1, ld78, st78, az78, aza78, ld81, az81, aza81, ix81, sl25_1, bs25_1, unk1, Bool.not_true, Bool.not_false, decide_true, decide_false, bl29, bl29_0, st29, st24, st81, fracL_len, len_assoc]
      have hm : m = n := ch.len
      subst hm
      have d0 := t.dip 0 (by omega)
      have d1 := t.dip (m - 1) (by omega)
      refine RunCall_of (weigh42 (lo := cut m L) (hi := cut m U) I hv0 ⟨n2, n16⟩ t.dip ⟨by omega, by omega⟩ (by rw [get_k]; rfl)) ?_
      have hx100 : ∀ k, k < m → 0 ≤ x k ∧ x k ≤ 100000 := fun k hk => by
        have := ch.rng k hk
        have := t.lit k hk
        omega
      have hprod : ∀ k, k < m → 0 ≤ weighW m D dip k * x k ∧ weighW m D dip k * x k ≤ 4000 * 100000 := fun k hk => mul_rng (weighW_rng t hw k) (hx100 k hk)
      have hsum := sumTo_le (w := weighW m D dip) (x := x) (B := 4000 * 100000) (n := m) (fun k hk => by have := hprod k hk; omega) m (Nat.le_refl _)
      have hpos : 0 ≤ sumTo (weighW m D dip) x m := by
        rw [sum_weigh n2]
        obtain ⟨b1, b2⟩ := wIx_between t hw
        obtain ⟨b3, b4⟩ := wIx_rng (n := m) (D := D) (dip := dip) n2
        unfold belN
        have := Int.mul_nonneg (show 0 ≤ D (wIx m D dip) - dip by omega) (hx100 (wIx m D dip - 1) (by omega)).1
        have := Int.mul_nonneg (show 0 ≤ dip - D (wIx m D dip - 1) by omega) (hx100 (wIx m D dip) (by omega)).1
        omega
      have hd := weighD_rng (dip := dip) t
      simp -implicitDefEqProofs only [Run_seq, Run_region, Run_ops_nil, Run_ret, Run_skip, Run_label, Run_exit, Run_endB, Run_block, Run_cond, Run_guard, Run_opcall, RunX_some, RunX_none, RunB_true, RunB_false, RunS_some, RunG_tt, RunG_ff, RunG_tf, RunG_ft, RunG_none,
      Rn_move, Rn_assign, Rn_pick, Rn_alloc, Rn_box, Rn_build, Rn_buildSlice, Rn_load, Rn_store, Rn_nilCheck, Rn_binOp, Rn_unOp, Rn_convert, Rn_makeFunc, Rn_makeSlice, Rn_slice, Rn_fieldAddr, Rn_field, Rn_indexAddr, Rn_index, Rn_extract, Rn_builtin,
      pickV_true, pickV_false, pickV_bool, liftV_some, storeV_some, nilV_ptr, sliceV_some, extV_tuple, putT_some, putT_none, ev_tmp, ev_const, ev_func, fin_ret, fin_normal, leave_nil, aresL_nil, aresL_tmp, aresL_cell, one_one, one_two, one_three,
      bin_add, bin_sub, bin_mul, bin_lss, bin_leq, bin_gtr, bin_geq, bin_eql, bin_neq, un_not, un_neg,
      List.length_cons, List.length_nil, Nat.reduceAdd, Nat.reduceSub, List.replicate_succ, List.replicate_zero, List.cons_append, List.nil_append, List.set_cons_succ, List.set_cons_zero,
      List.getD_cons_succ, List.getD_cons_zero, List.getElem?_cons_succ, List.getElem?_cons_zero, Option.map_some, Option.bind_some, yieldL, popK, if_true, decide_true, decide_false, Bool.not_true, Bool.not_false, flat, and_self, List.map_toArray, List.map_cons, List.map_nil, nptr, Value.cells, and_true, List.toList_toArray, H.new, List.length_append, Nat.zero_add, Nat.add_zero, List.append_assoc, rd_z, rd_k, wr_z, wr_k, put_z, put_k, ld1_some, ldA_some, abi_min, abi_max, abi2_min, abi2_max, if_true, Bool.false_eq_true, if_false, eq_self, Int.toNat_natCast, Int.reduceEq, Int.reduceLT, Int.reduceLE, Nat.reduceEqDiff, Nat.one_ne_zero, Nat.zero_ne_one, ym_undef, rdArrAll, wrArrAll, take_arrL, splice_arrL, arrL_one, arrL_length, rdB_cells, rdB_row, wrB_cells, splice_nil, splice_cons, oc_int, oc_bool, oc_slice, oc_ptr, oc_func, oc_map, List.all_cons, List.all_nil, Bool.and_self, Nat.reduceLeDiff, Nat.le_refl, List.drop_zero, List.drop_succ_cons, List.take_succ_cons, List.take_zero, List.take_nil, List.drop_nil, getElem?_snoc, set_snoc, Run_nil, thenQ, finS_ret, finS_normal, ContK, Run_loop, Run_rangeFunc, true_and, ld2, st2, az2, aza2, ld3, st3, az3, aza3, ld4, st4, az4, aza4, ld5, st5, az5, aza5, ld22, st22, az22, aza22, ln22, lnd22, ix22, ld24, az24, aza24, fa24_0, fv24_0, fa24_1, fv24_1, ld25, st25, az25, aza25, ln25, lnd25, ix25, ld29, az29, aza29, fa29_0, fv29_0, fa29_1, fv29_1, ld30, st30, az30, aza30, ld64, az64, aza64, fa64_0, fv64_0, fa64_1, fv64_1, ld78, st78, az78, aza78, ld81, az81, aza81, ix81, sl25_1, bs25_1, unk1, Bool.not_true, Bool.not_false, decide_true, decide_false, bl29, bl29_0, st29, st24, st81, fracL_len, len_assoc, weighV]
      refine RunCall_of (sum44 I (hx.app _) n16 (fun k hk => by have := hprod k hk; omega)) ?_
      simp -implicitDefEqProofs only [Run_seq, Run_region, Run_ops_nil, Run_ret, Run_skip, Run_label, Run_exit, Run_endB, Run_block, Run_cond, Run_guard, Run_opcall, RunX_some, RunX_none, RunB_true, RunB_false, RunS_some, RunG_tt, RunG_ff, RunG_tf, RunG_ft, RunG_none,
      Rn_move, Rn_assign, Rn_pick, Rn_alloc, Rn_box, Rn_build, Rn_buildSlice, Rn_load, Rn_store, Rn_nilCheck, Rn_binOp, Rn_unOp, Rn_convert, Rn_makeFunc, Rn_makeSlice, Rn_slice, Rn_fieldAddr, Rn_field, Rn_indexAddr, Rn_index, Rn_extract, Rn_builtin,
      pickV_true, pickV_false, pickV_bool, liftV_some, storeV_some, nilV_ptr, sliceV_some, extV_tuple, putT_some, putT_none, ev_tmp, ev_const, ev_func, fin_ret, fin_normal, leave_nil, aresL_nil, aresL_tmp, aresL_cell, one_one, one_two, one_three,
      bin_add, bin_sub, bin_mul, bin_lss, bin_leq, bin_gtr, bin_geq, bin_eql, bin_neq, un_not, un_neg,
      List.length_cons, List.length_nil, Nat.reduceAdd, Nat.reduceSub, List.replicate_succ, List.replicate_zero, List.cons_append, List.nil_append, List.set_cons_succ, List.set_cons_zero,
      List.getD_cons_succ, List.getD_cons_zero, List.getElem?_cons_succ, List.getElem?_cons_zero, Option.map_some, Option.bind_some, yieldL, popK, if_true, decide_true, decide_false, Bool.not_true, Bool.not_false, flat, and_self, List.map_toArray, List.map_cons, List.map_nil, nptr, Value.cells, and_true, List.toList_toArray, H.new, List.length_append, Nat.zero_add, Nat.add_zero, List.append_assoc, rd_z, rd_k, wr_z, wr_k, put_z, put_k, ld1_some, ldA_some, abi_min, abi_max, abi2_min, abi2_max, if_true, Bool.false_eq_true, if_false, eq_self, Int.toNat_natCast, Int.reduceEq, Int.reduceLT, Int.reduceLE, Nat.reduceEqDiff, Nat.one_ne_zero, Nat.zero_ne_one, ym_undef, rdArrAll, wrArrAll, take_arrL, splice_arrL, arrL_one, arrL_length, rdB_cells, rdB_row, wrB_cells, splice_nil, splice_cons, oc_int, oc_bool, oc_slice, oc_ptr, oc_func, oc_map, List.all_cons, List.all_nil, Bool.and_self, Nat.reduceLeDiff, Nat.le_refl, List.drop_zero, List.drop_succ_cons, List.take_succ_cons, List.take_zero, List.take_nil, List.drop_nil, getElem?_snoc, set_snoc, Run_nil, thenQ, finS_ret, finS_normal, ContK, Run_loop, Run_rangeFunc, true_and, ld2, st2, az2, aza2, ld3, st3, az3, aza3, ld4, st4, az4, aza4, ld5, st5, az5, aza5, ld22, st22, az22, aza22, ln22, lnd22, ix22, ld24, az24, aza24, fa24_0, fv24_0, fa24_1, fv24_1, ld25, st25, az25, aza25, ln25, lnd25, ix25, ld29, az29, aza29, fa29_0, fv29_0, fa29_1, fv29_1, ld30, st30, az30, aza30, ld64, az64, aza64, fa64_0, fv64_0, fa64_1, fv64_1, ld78, st78, az78, aza78, ld81, az81, aza81, ix81, sl25_1, bs25_1, unk1, Bool.not_true, Bool.not_false, decide_true, decide_false, bl29, bl29_0, st29, st24, st81, fracL_len, len_assoc]
      refine RunCall_of (least43 I ⟨hpos, by omega⟩ ⟨hd.1, by omega⟩) ?_
      simp -implicitDefEqProofs only [Run_seq, Run_region, Run_ops_nil, Run_ret, Run_skip, Run_label, Run_exit, Run_endB, Run_block, Run_cond, Run_guard, Run_opcall, RunX_some, RunX_none, RunB_true, RunB_false, RunS_some, RunG_tt, RunG_ff, RunG_tf, RunG_ft, RunG_none,
      Rn_move, Rn_assign, Rn_pick, Rn_alloc, Rn_box, Rn_build, Rn_buildSlice, Rn_load, Rn_store, Rn_nilCheck, Rn_binOp, Rn_unOp, Rn_convert, Rn_makeFunc, Rn_makeSlice, Rn_slice, Rn_fieldAddr, Rn_field, Rn_indexAddr, Rn_index, Rn_extract, Rn_builtin,
      pickV_true, pickV_false, pickV_bool, liftV_some, storeV_some, nilV_ptr, sliceV_some, extV_tuple, putT_some, putT_none, ev_tmp, ev_const, ev_func, fin_ret, fin_normal, leave_nil, aresL_nil, aresL_tmp, aresL_cell, one_one, one_two, one_three,
      bin_add, bin_sub, bin_mul, bin_lss, bin_leq, bin_gtr, bin_geq, bin_eql, bin_neq, un_not, un_neg,
      List.length_cons, List.length_nil, Nat.reduceAdd, Nat.reduceSub, List.replicate_succ, List.replicate_zero, List.cons_append, List.nil_append, List.set_cons_succ, List.set_cons_zero,
      List.getD_cons_succ, List.getD_cons_zero, List.getElem?_cons_succ, List.getElem?_cons_zero, Option.map_some, Option.bind_some, yieldL, popK, if_true, decide_true, decide_false, Bool.not_true, Bool.not_false, flat, and_self, List.map_toArray, List.map_cons, List.map_nil, nptr, Value.cells, and_true, List.toList_toArray, H.new, List.length_append, Nat.zero_add, Nat.add_zero, List.append_assoc, rd_z, rd_k, wr_z, wr_k, put_z, put_k, ld1_some, ldA_some, abi_min, abi_max, abi2_min, abi2_max, if_true, Bool.false_eq_true, if_false, eq_self, Int.toNat_natCast, Int.reduceEq, Int.reduceLT, Int.reduceLE, Nat.reduceEqDiff, Nat.one_ne_zero, Nat.zero_ne_one, ym_undef, rdArrAll, wrArrAll, take_arrL, splice_arrL, arrL_one, arrL_length, rdB_cells, rdB_row, wrB_cells, splice_nil, splice_cons, oc_int, oc_bool, oc_slice, oc_ptr, oc_func, oc_map, List.all_cons, List.all_nil, Bool.and_self, Nat.reduceLeDiff, Nat.le_refl, List.drop_zero, List.drop_succ_cons, List.take_succ_cons, List.take_zero, List.take_nil, List.drop_nil, getElem?_snoc, set_snoc, Run_nil, thenQ, finS_ret, finS_normal, ContK, Run_loop, Run_rangeFunc, true_and, ld2, st2, az2, aza2, ld3, st3, az3, aza3, ld4, st4, az4, aza4, ld5, st5, az5, aza5, ld22, st22, az22, aza22, ln22, lnd22, ix22, ld24, az24, aza24, fa24_0, fv24_0, fa24_1, fv24_1, ld25, st25, az25, aza25, ln25, lnd25, ix25, ld29, az29, aza29, fa29_0, fv29_0, fa29_1, fv29_1, ld30, st30, az30, aza30, ld64, az64, aza64, fa64_0, fv64_0, fa64_1, fv64_1, ld78, st78, az78, aza78, ld81, az81, aza81, ix81, sl25_1, bs25_1, unk1, Bool.not_true, Bool.not_false, decide_true, decide_false, bl29, bl29_0, st29, st24, st81, fracL_len, len_assoc, fracL]
      refine ⟨⟨_, rfl⟩, ?_⟩
      unfold belowV
      rw [if_neg (by rw [he]; simp), if_neg (by simpa using hw), sum_weigh n2]; rfl
    · have hw' : withinB (D 0) (D (n - 1)) 1 (one1 dip) = false := by rw [within_one]; simp; omega
      simp -implicitDefEqProofs only [Run_seq, Run_region, Run_ops_nil, Run_ret, Run_skip, Run_label, Run_exit, Run_endB, Run_block, Run_cond, Run_guard, Run_opcall, RunX_some, RunX_none, RunB_true, RunB_false, RunS_some, RunG_tt, RunG_ff, RunG_tf, RunG_ft, RunG_none,
      Rn_move, Rn_assign, Rn_pick, Rn_alloc, Rn_box, Rn_build, Rn_buildSlice, Rn_load, Rn_store, Rn_nilCheck, Rn_binOp, Rn_unOp, Rn_convert, Rn_makeFunc, Rn_makeSlice, Rn_slice, Rn_fieldAddr, Rn_field, Rn_indexAddr, Rn_index, Rn_extract, Rn_builtin,
      pickV_true, pickV_false, pickV_bool, liftV_some, storeV_some, nilV_ptr, sliceV_some, extV_tuple, putT_some, putT_none, ev_tmp, ev_const, ev_func, fin_ret, fin_normal, leave_nil, aresL_nil, aresL_tmp, aresL_cell, one_one, one_two, one_three,
      bin_add, bin_sub, bin_mul, bin_lss, bin_leq, bin_gtr, bin_geq, bin_eql, bin_neq, un_not, un_neg,
      List.length_cons, List.length_nil, Nat.reduceAdd, Nat.reduceSub, List.replicate_succ, List.replicate_zero, List.cons_append, List.nil_append, List.set_cons_succ, List.set_cons_zero,
      List.getD_cons_succ, List.getD_cons_zero, List.getElem?_cons_succ, List.getElem?_cons_zero, Option.map_some, Option.bind_some, yieldL, popK, if_true, decide_true, decide_false, Bool.not_true, Bool.not_false, flat, and_self, List.map_toArray, List.map_cons, List.map_nil, nptr, Value.cells, and_true, List.toList_toArray, H.new, List.length_append, Nat.zero_add, Nat.add_zero, List.append_assoc, rd_z, rd_k, wr_z, wr_k, put_z, put_k, ld1_some, ldA_some, abi_min, abi_max, abi2_min, abi2_max, if_true, Bool.false_eq_true, if_false, eq_self, Int.toNat_natCast, Int.reduceEq, Int.reduceLT, Int.reduceLE, Nat.reduceEqDiff, Nat.one_ne_zero, Nat.zero_ne_one, ym_undef, rdArrAll, wrArrAll, take_arrL, splice_arrL, arrL_one, arrL_length, rdB_cells, rdB_row, wrB_cells, splice_nil, splice_cons, oc_int, oc_bool, oc_slice, oc_ptr, oc_func, oc_map, List.all_cons, List.all_nil, Bool.and_self, Nat.reduceLeDiff, Nat.le_refl, List.drop_zero, List.drop_succ_cons, List.take_succ_cons, List.take_zero, List.take_nil, List.drop_nil, getElem?_snoc, set_snoc, Run_nil, thenQ, finS_ret, finS_normal, ContK, Run_loop, Run_rangeFunc, true_and, ld2, st2, az2, aza2, ld3, st3, az3, aza3, ld4, st4, az4, aza4, ld5, st5, az5, aza5, ld22, st22, az22, aza22, ln22, lnd22, ix22, ld24, az24, aza24, fa24_0, fv24_0, fa24_1, fv24_1, ld25, st25, az25, aza25, ln25, lnd25, ix25, ld29, az29, aza29, fa29_0, fv29_0, fa29_1, fv29_1, ld30, st30, az30, aza30, ld64, az64, aza64, fa64_0, fv64_0, fa64_1, fv64_1, ld78, st78, az78, aza78, ld81, az81, aza81, ix81, List.append_nil, Run_draw, mixT, slots_len, List.filter_cons, List.filter_nil, isAlloc, List.replicate_succ, List.replicate_zero, Run_dnil, Rd_alloc, Rd_box, Rd_buildSlice, Rd_pick, Rd_build, Rd_nilCheck, Rd_binOp, Rd_unOp, Rd_convert, Rd_fieldAddr, Rd_field, Rd_indexAddr, Rd_index, Rd_extract, Rd_move, Rd_assign, Rd_makeFunc, Rd_load, Rd_slice, Rd_store, Rd_makeSlice, Rd_len, Rd_min, Rd_max, Rd_append, Rd_copy, Rd_opcall, Rd_guard, RunDG_tt, RunDG_ff, RunDG_tf, RunDG_ft, RunDG_none, RunDS_some, RunDA_some, RunDE_some, ridOf, blockOf, get_z, get_k, Option.map_some, sl25_1, bs25_1, unk1, Bool.not_true, Bool.not_false, decide_true, decide_false, bl29, bl29_0, st29, st24, st81, fracL_len, hw', belowV, he, hw, ne_eq, not_true_eq_false, not_false_eq_true]
      exact ⟨drawOk_ren (fun _ => 0) rfl (by kernel_rfl), _, rfl⟩
  · simp -implicitDefEqProofs only [Run_seq, Run_region, Run_ops_nil, Run_ret, Run_skip, Run_label, Run_exit, Run_endB, Run_block, Run_cond, Run_guard, Run_opcall, RunX_some, RunX_none, RunB_true, RunB_false, RunS_some, RunG_tt, RunG_ff, RunG_tf, RunG_ft, RunG_none,
      Rn_move, Rn_assign, Rn_pick, Rn_alloc, Rn_box, Rn_build, Rn_buildSlice, Rn_load, Rn_store, Rn_nilCheck, Rn_binOp, Rn_unOp, Rn_convert, Rn_makeFunc, Rn_makeSlice, Rn_slice, Rn_fieldAddr, Rn_field, Rn_indexAddr, Rn_index, Rn_extract, Rn_builtin,
      pickV_true, pickV_false, pickV_bool, liftV_some, storeV_some, nilV_ptr, sliceV_some, extV_tuple, putT_some, putT_none, ev_tmp, ev_const, ev_func, fin_ret, fin_normal, leave_nil, aresL_nil, aresL_tmp, aresL_cell, one_one, one_two, one_three,
      bin_add, bin_sub, bin_mul, bin_lss, bin_leq, bin_gtr, bin_geq, bin_eql, bin_neq, un_not, un_neg,
      List.length_cons, List.length_nil, Nat.reduceAdd, Nat.reduceSub, List.replicate_succ, List.replicate_zero, List.cons_append, List.nil_append, List.set_cons_succ, List.set_cons_zero,
      List.getD_cons_succ, List.getD_cons_zero, List.getElem?_cons_succ, List.getElem?_cons_zero, Option.map_some, Option.bind_some, yieldL, popK, if_true, decide_true, decide_false, Bool.not_true, Bool.not_false, flat, and_self, List.map_toArray, List.map_cons, List.map_nil, nptr, Value.cells, and_true, List.toList_toArray, H.new, List.length_append, Nat.zero_add, Nat.add_zero, List.append_assoc, rd_z, rd_k, wr_z, wr_k, put_z, put_k, ld1_some, ldA_some, abi_min, abi_max, abi2_min, abi2_max, if_true, Bool.false_eq_true, if_false, eq_self, Int.toNat_natCast, Int.reduceEq, Int.reduceLT, Int.reduceLE, Nat.reduceEqDiff, Nat.one_ne_zero, Nat.zero_ne_one, ym_undef, rdArrAll, wrArrAll, take_arrL, splice_arrL, arrL_one, arrL_length, rdB_cells, rdB_row, wrB_cells, splice_nil, splice_cons, oc_int, oc_bool, oc_slice, oc_ptr, oc_func, oc_map, List.all_cons, List.all_nil, Bool.and_self, Nat.reduceLeDiff, Nat.le_refl, List.drop_zero, List.drop_succ_cons, List.take_succ_cons, List.take_zero, List.take_nil, List.drop_nil, getElem?_snoc, set_snoc, Run_nil, thenQ, finS_ret, finS_normal, ContK, Run_loop, Run_rangeFunc, true_and, ld2, st2, az2, aza2, ld3, st3, az3, aza3, ld4, st4, az4, aza4, ld5, st5, az5, aza5, ld22, st22, az22, aza22, ln22, lnd22, ix22, ld24, az24, aza24, fa24_0, fv24_0, fa24_1, fv24_1, ld25, st25, az25, aza25, ln25, lnd25, ix25, ld29, az29, aza29, fa29_0, fv29_0, fa29_1, fv29_1, ld30, st30, az30, aza30, ld64, az64, aza64, fa64_0, fv64_0, fa64_1, fv64_1, ld78, st78, az78, aza78, ld81, az81, aza81, ix81, sl25_1, bs25_1, unk1, Bool.not_true, Bool.not_false, decide_true, decide_false, bl29, bl29_0, st29, st24, st81, fracL_len, he, belowV, ne_eq, not_false_eq_true]
    first | exact ⟨⟨_, rfl⟩, rfl⟩ | exact ⟨_, rfl⟩
end Go.Proofs.Ytcocmbccfikmhaa
