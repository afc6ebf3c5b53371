/- Contracts: least, of one element (own texts put together: D1) -/
import Derived.Test.YtpgignenhiddkaaM6
import Derived.Test.YtpgignenhiddkaaM4b
import Derived.Test.YtpgignenhiddkaaM4
set_option linter.unusedSimpArgs false
set_option linter.unusedVariables false
namespace Go.Proofs.Ytpgignenhiddkaa
open Go.Sym
attribute [local irreducible] Run RunS RunG RunDG RunDS RunDE RunDA RunDC RunCall RunX RunB
theorem unk1 : (1 < UNK) = True := by simp [UNK]

set_option maxRecDepth 100000 in
set_option maxHeartbeats 4000000 in
theorem least105_1 (I : Nat → Option Obj) {h : H} {id : Nat} {fv : Value} {c0 c1 c2 c3 : Int} (hg : h.get id = some (.row [.int .i64 c0, .int .i64 c1, .int .i64 c2, .int .i64 c3] 151 4)) :
    Snd Try.prog I (.func 105) [.slice (some ⟨id, 0, none⟩) 1 UNK, fv] h (.agg #[.int .i64 c0, .int .i64 c1, .int .i64 c2, .int .i64 c3]) h := by
  have h00 : (0 : Int) ≤ 0 ∧ (0 : Int) < ((1 : Nat) : Int) := ⟨by omega, by omega⟩
  have hrd : ∀ l : H, rdl I (h ++ l) id 0 4 = some [.int .i64 c0, .int .i64 c1, .int .i64 c2, .int .i64 c3] := fun l => by rw [rd_at_app hg, rdB_row (by simp)]; rfl
  refine Snd_tc0 (rs := [.cell 4 151]) Try.func105 (by kernel_rfl) rfl Try.ntmps105 rfl rfl ?_
  refine TC_cut 400 (by kernel_rfl) fun qA qAn qAr qAx => ?_
  simp -implicitDefEqProofs only [sB, Nat.reduceAdd, Nat.reduceSub, yieldL, popK, flat, nptr, Value.cells, H.new, eq_self, Int.reduceEq, Int.reduceLT, Int.reduceLE, Nat.reduceEqDiff, Nat.reduceLeDiff, thenQ, ContK, ty2, ty3, ty4, ty5, ty149, ty151, ty153, Bool.not_true, Bool.not_false, decide_true, decide_false, if_true, if_false, unk1]
  refine qAn _ ?_
  refine TC_cut 400 (by kernel_rfl) fun qB qBn qBr qBx => ?_
  simp -implicitDefEqProofs only [sB, Nat.reduceAdd, Nat.reduceSub, yieldL, popK, flat, nptr, Value.cells, H.new, eq_self, Int.reduceEq, Int.reduceLT, Int.reduceLE, Nat.reduceEqDiff, Nat.reduceLeDiff, thenQ, ContK, ty2, ty3, ty4, ty5, ty149, ty151, ty153, Bool.not_true, Bool.not_false, decide_true, decide_false, if_true, if_false, unk1, h00, hrd, Int.toNat_zero, Nat.zero_mul, st151]
  refine qBn _ ?_
  refine TC_seq (TC_seq (LC_region (LC_step rfl rfl rfl ?_)))
  refine LC_sliceEnd (e := 151) (len := 1) (id := id) (off := 0) (k := .i64) (s := 4) rfl rfl rfl rfl (by kernel_rfl) (by kernel_rfl) (H.get_append hg _) (fun v hv => ?_)
  refine LC_step rfl rfl (v := .int .i64 ((0 : Nat) : Int)) (h' := h ++ ([.cells [.int .i64 0, .int .i64 0, .int .i64 0, .int .i64 0] 151, .cells [.int .i64 c0, .int .i64 c1, .int .i64 c2, .int .i64 c3] 151])) (by
    rcases hv with rfl | rfl
    · exact lnd149 (I := I) (ty := 3) (p := some ⟨id, 0 + 1 * 4, none⟩) (n := 0) (c := UNK)
    · exact lnd149 (I := I) (ty := 3) (p := some ⟨id, 0, none⟩) (n := 0) (c := 0)) (LC_step rfl rfl rfl (LC_nil ?_))
  clear hv
  refine Run_TC (by kernel_rfl) (n := 300) ?_
  have z00 : ((0 : Nat) : Int) = 0 := rfl
  have z01 : ¬ (0 : Int) < 0 := by omega
  simp -implicitDefEqProofs only [sB, Nat.reduceAdd, Nat.reduceSub, yieldL, popK, flat, nptr, Value.cells, H.new, eq_self, Int.reduceEq, Int.reduceLT, Int.reduceLE, Nat.reduceEqDiff, Nat.reduceLeDiff, thenQ, ContK, ty2, ty3, ty4, ty5, ty149, ty151, ty153, Bool.not_true, Bool.not_false, decide_true, decide_false, if_true, if_false, unk1, z00, z01, st151]
  refine Loop_run (by kernel_rfl) 200 (fun s => s = _) (fun _ => 0) rfl ?_
  intro s hs
  subst hs
  simp -implicitDefEqProofs only [sB, Nat.reduceAdd, Nat.reduceSub, yieldL, popK, flat, nptr, Value.cells, H.new, eq_self, Int.reduceEq, Int.reduceLT, Int.reduceLE, Nat.reduceEqDiff, Nat.reduceLeDiff, thenQ, ContK, ty2, ty3, ty4, ty5, ty149, ty151, ty153, Bool.not_true, Bool.not_false, decide_true, decide_false, if_true, if_false, unk1, z00, z01, st151]
  refine TC_last 200 (by kernel_rfl) ?_
  simp -implicitDefEqProofs only [sB, Nat.reduceAdd, Nat.reduceSub, yieldL, popK, flat, nptr, Value.cells, H.new, eq_self, Int.reduceEq, Int.reduceLT, Int.reduceLE, Nat.reduceEqDiff, Nat.reduceLeDiff, thenQ, ContK, ty2, ty3, ty4, ty5, ty149, ty151, ty153, Bool.not_true, Bool.not_false, decide_true, decide_false, if_true, if_false, unk1, st151]
  first | exact ⟨⟨_, rfl⟩, rfl⟩ | exact ⟨_, rfl⟩
def memE (g : Nat) (args : List Value) (h : H) : Option Value :=
  match Nat.beq g 105, args with
  | true, [.slice (some ⟨id, 0, none⟩) 1 c, _] =>
    match Nat.beq c UNK, h.get id with
    | true, some (.row [.int .i64 c0, .int .i64 c1, .int .i64 c2, .int .i64 c3] 151 4) => some (.agg #[.int .i64 c0, .int .i64 c1, .int .i64 c2, .int .i64 c3])
    | _, _ => none
  | _, _ => none
theorem memE_ok (g : Nat) (args : List Value) (h : H) (v : Value) (hm : memE g args h = some v) : Snd Try.prog (fun _ => none) (.func g) args h v h := by
  unfold memE at hm
  split at hm
  · rename_i hg
    split at hm
    · rename_i hc hb
      cases hm
      rw [Nat.beq_eq] at hg hc
      subst hg; subst hc
      exact least105_1 _ hb
    · cases hm
  · cases hm
end Go.Proofs.Ytpgignenhiddkaa
