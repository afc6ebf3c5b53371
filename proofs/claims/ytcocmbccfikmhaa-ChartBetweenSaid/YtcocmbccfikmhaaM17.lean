/- The law ChartDips: its function answers true (own texts put together: C31) -/
import Derived.Test.YtcocmbccfikmhaaM16
import Derived.Test.YtcocmbccfikmhaaM8
import Derived.Test.YtcocmbccfikmhaaM15
import Derived.Test.YtcocmbccfikmhaaM4
set_option linter.unusedSimpArgs false
set_option linter.unusedVariables false
namespace Go.Proofs.Ytcocmbccfikmhaa
open Go.Sym
theorem un40 : Try.prog.underlying 40 = some (.struct #[⟨"Lo", 29, 0, false, "", "", 0⟩, ⟨"Hi", 29, 2, false, "", "", 16⟩]) := by kernel_rfl
theorem free_eq_two {d : Nat} {t : TypeId} {n1 n2 : String} {p1 p2 q1 q2 : String} {s1 s2 : Nat} {b1 b2 : Bool} {a b c e : Int} (hu : Try.prog.underlying t = some (.struct #[⟨n1, 2, 0, b1, p1, q1, s1⟩, ⟨n2, 2, 1, b2, p2, q2, s2⟩])) (hh : Try.prog.stoodInHeld t = false) (h1 : n1 ≠ "_") (h2 : n2 ≠ "_") :
    free Try.prog (Op.equalIn (d + 2) t (.agg #[.int .i64 a, .int .i64 b]) (.agg #[.int .i64 c, .int .i64 e])) = some (decide (a = c) && decide (b = e)) := by
  have key := free_eq_fields (d := d + 1) (xs := [.int .i64 a, .int .i64 b]) (ys := [.int .i64 c, .int .i64 e]) (r := fun f => if f.offset = 0 then decide (a = c) else decide (b = e)) hu hh (fun f hf => by
    simp only [List.mem_cons, List.not_mem_nil, or_false] at hf
    rcases hf with rfl | rfl
    · exact ⟨h1, .int .i64 a, .int .i64 c, by unfold partV; simp only [tg2]; rfl, by unfold partV; simp only [tg2]; rfl, free_eq_int un2⟩
    · exact ⟨h2, .int .i64 b, .int .i64 e, by unfold partV; simp only [tg2]; rfl, by unfold partV; simp only [tg2]; rfl, free_eq_int un2⟩)
  rw [key]
  simp
theorem eql40 {a b c d a' b' c' d' : Int} {x y : Operand} : abin Try.prog .eql 40 x y (.agg #[.int .i64 a, .int .i64 b, .int .i64 c, .int .i64 d]) (.agg #[.int .i64 a', .int .i64 b', .int .i64 c', .int .i64 d']) = some (.bool ((decide (a = a') && decide (b = b')) && (decide (c = c') && decide (d = d')))) := by
  refine bin_eql_agg (a := [.int .i64 a, .int .i64 b, .int .i64 c, .int .i64 d]) (b := [.int .i64 a', .int .i64 b', .int .i64 c', .int .i64 d']) rfl rfl (by kernel_rfl) ?_
  have k := fun a b c e => free_eq_two (d := 9997) (a := a) (b := b) (c := c) (e := e) un29 (by kernel_rfl) (by decide) (by decide)
  have key := free_eq_fields (d := 9999) (xs := [.int .i64 a, .int .i64 b, .int .i64 c, .int .i64 d]) (ys := [.int .i64 a', .int .i64 b', .int .i64 c', .int .i64 d']) (r := fun f => if f.offset = 0 then decide (a = a') && decide (b = b') else decide (c = c') && decide (d = d')) un40 (by kernel_rfl) (fun f hf => by
    simp only [List.mem_cons, List.not_mem_nil, or_false] at hf
    rcases hf with rfl | rfl
    · exact ⟨by decide, .agg #[.int .i64 a, .int .i64 b], .agg #[.int .i64 a', .int .i64 b'], by unfold partV; simp only [tg29, sz29]; rfl, by unfold partV; simp only [tg29, sz29]; rfl, k _ _ _ _⟩
    · exact ⟨by decide, .agg #[.int .i64 c, .int .i64 d], .agg #[.int .i64 c', .int .i64 d'], by unfold partV; simp only [tg29, sz29]; rfl, by unfold partV; simp only [tg29, sz29]; rfl, k _ _ _ _⟩)
  rw [key]
  simp
set_option maxRecDepth 100000 in
set_option maxHeartbeats 4000000 in
theorem chartDips4 (I : Nat → Option Obj) {h : H} {v : Value} {n : Nat} {D L U : Nat → Int} {pr l wl wh sl sh : Int} (hv : Rows I v n D L U) (hcv : ∀ N, closedV (okN N) v = true) :
    Snd Try.prog I (.func 4) [.agg #[v, .int .i64 pr], .int .i64 l, .agg #[.int .i64 wl, .int .i64 wh], .agg #[.int .i64 sl, .int .i64 sh]] h (.bool true) h := by
  refine Snd_run0 (rs := [.tmp 8]) 600 Try.func4 (by kernel_rfl) rfl Try.ntmps4 rfl rfl ?_
  simp -implicitDefEqProofs only [sB, Nat.reduceAdd, Nat.reduceSub, yieldL, popK, flat, nptr, Value.cells, H.new, eq_self, Int.reduceEq, Int.reduceLT, Int.reduceLE, Nat.reduceEqDiff, Nat.reduceLeDiff, thenQ, ContK, ty2, ty3, ty4, ty5, ty24, ty30, ty34, ty40, Bool.not_true, Bool.not_false, decide_true, decide_false, if_true, if_false, st34, st40, eql34, eql40, Bool.and_self]
  refine RunCall_of (great8 I hv) ?_
  cases hgr : decide (25 < n) with
  | true =>
    simp -implicitDefEqProofs only [sB, Nat.reduceAdd, Nat.reduceSub, yieldL, popK, flat, nptr, Value.cells, H.new, eq_self, Int.reduceEq, Int.reduceLT, Int.reduceLE, Nat.reduceEqDiff, Nat.reduceLeDiff, thenQ, ContK, ty2, ty3, ty4, ty5, ty24, ty30, ty34, ty40, Bool.not_true, Bool.not_false, decide_true, decide_false, if_true, if_false, st34, st40, eql34, eql40, Bool.and_self]
    refine RunCall_of (works9 I _) ?_
    simp -implicitDefEqProofs only [sB, Nat.reduceAdd, Nat.reduceSub, yieldL, popK, flat, nptr, Value.cells, H.new, eq_self, Int.reduceEq, Int.reduceLT, Int.reduceLE, Nat.reduceEqDiff, Nat.reduceLeDiff, thenQ, ContK, ty2, ty3, ty4, ty5, ty24, ty30, ty34, ty40, Bool.not_true, Bool.not_false, decide_true, decide_false, if_true, if_false, st34, st40, eql34, eql40, Bool.and_self]
    first | exact ⟨⟨_, rfl⟩, rfl⟩ | exact ⟨_, rfl⟩
  | false =>
    obtain ⟨a, b, e, hb⟩ := dipsV_form (n := n) (D := D) (L := L) (U := U) (pr := pr) (l := l)
    obtain ⟨a', b', c', d', e', hb'⟩ := comV_form (l := l) (wl := wl) (wh := wh) (sl := sl) (sh := sh)
    have k1 := fun h => dips14 I (h := h) (pr := pr) (l := l) hv hcv
    have k2 := fun h => dips15 I (h := h) (pr := pr) (l := l) hv
    have k3 := fun h => common16 I (h := h) (l := l) (wl := wl) (wh := wh) (sl := sl) (sh := sh)
    have k4 := fun h => common17 I (h := h) (l := l) (wl := wl) (wh := wh) (sl := sl) (sh := sh)
    rw [hb] at k1 k2
    rw [hb'] at k3 k4
    simp -implicitDefEqProofs only [sB, Nat.reduceAdd, Nat.reduceSub, yieldL, popK, flat, nptr, Value.cells, H.new, eq_self, Int.reduceEq, Int.reduceLT, Int.reduceLE, Nat.reduceEqDiff, Nat.reduceLeDiff, thenQ, ContK, ty2, ty3, ty4, ty5, ty24, ty30, ty34, ty40, Bool.not_true, Bool.not_false, decide_true, decide_false, if_true, if_false, st34, st40, eql34, eql40, Bool.and_self]
    refine RunCall_of (k1 _) ?_
    simp -implicitDefEqProofs only [sB, Nat.reduceAdd, Nat.reduceSub, yieldL, popK, flat, nptr, Value.cells, H.new, eq_self, Int.reduceEq, Int.reduceLT, Int.reduceLE, Nat.reduceEqDiff, Nat.reduceLeDiff, thenQ, ContK, ty2, ty3, ty4, ty5, ty24, ty30, ty34, ty40, Bool.not_true, Bool.not_false, decide_true, decide_false, if_true, if_false, st34, st40, eql34, eql40, Bool.and_self]
    refine RunCall_of (k2 _) ?_
    simp -implicitDefEqProofs only [sB, Nat.reduceAdd, Nat.reduceSub, yieldL, popK, flat, nptr, Value.cells, H.new, eq_self, Int.reduceEq, Int.reduceLT, Int.reduceLE, Nat.reduceEqDiff, Nat.reduceLeDiff, thenQ, ContK, ty2, ty3, ty4, ty5, ty24, ty30, ty34, ty40, Bool.not_true, Bool.not_false, decide_true, decide_false, if_true, if_false, st34, st40, eql34, eql40, Bool.and_self]
    refine RunCall_of (k3 _) ?_
    simp -implicitDefEqProofs only [sB, Nat.reduceAdd, Nat.reduceSub, yieldL, popK, flat, nptr, Value.cells, H.new, eq_self, Int.reduceEq, Int.reduceLT, Int.reduceLE, Nat.reduceEqDiff, Nat.reduceLeDiff, thenQ, ContK, ty2, ty3, ty4, ty5, ty24, ty30, ty34, ty40, Bool.not_true, Bool.not_false, decide_true, decide_false, if_true, if_false, st34, st40, eql34, eql40, Bool.and_self]
    refine RunCall_of (k4 _) ?_
    simp -implicitDefEqProofs only [sB, Nat.reduceAdd, Nat.reduceSub, yieldL, popK, flat, nptr, Value.cells, H.new, eq_self, Int.reduceEq, Int.reduceLT, Int.reduceLE, Nat.reduceEqDiff, Nat.reduceLeDiff, thenQ, ContK, ty2, ty3, ty4, ty5, ty24, ty30, ty34, ty40, Bool.not_true, Bool.not_false, decide_true, decide_false, if_true, if_false, st34, st40, eql34, eql40, Bool.and_self]
    refine RunCall_of (works9 I _) ?_
    simp -implicitDefEqProofs only [sB, Nat.reduceAdd, Nat.reduceSub, yieldL, popK, flat, nptr, Value.cells, H.new, eq_self, Int.reduceEq, Int.reduceLT, Int.reduceLE, Nat.reduceEqDiff, Nat.reduceLeDiff, thenQ, ContK, ty2, ty3, ty4, ty5, ty24, ty30, ty34, ty40, Bool.not_true, Bool.not_false, decide_true, decide_false, if_true, if_false, st34, st40, eql34, eql40, Bool.and_self]
    first | exact ⟨⟨_, rfl⟩, rfl⟩ | exact ⟨_, rfl⟩
set_option maxRecDepth 100000 in
theorem range_in {H : Type} {enc : TypeId × Value → H} {W : World} {r : Go.Reach} {bs : Nat} {v : Value} {d : DataW H} {p : List MemPlace} (h : DataW.Trod enc Try.prog W 0 (fun _ => true) true 34 v d p) (hok : Value.okWide Try.prog W r bs 34 v) : ∃ a b : Int, v = .agg #[.int .i64 a, .int .i64 b] := by
  obtain ⟨v0, v1, y0, y1, k, rfl, _, _, h0, h1⟩ := Go.Joins.open_agg2 un34 (by kernel_rfl) co34 hok h
  obtain ⟨a, e0, _, _⟩ := DataW.trod_int un2 h0
  obtain ⟨b, e1, _, _⟩ := DataW.trod_int un2 h1
  simp only [List.cons.injEq, and_true] at e0 e1
  subst e0; subst e1
  exact ⟨a, b, rfl⟩
end Go.Proofs.Ytcocmbccfikmhaa
