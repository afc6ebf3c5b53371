/- Contracts: sections, the least of questions (own texts put together: D9 D10) -/
import Derived.Test.YtpgignenhiddkaaM10
import Derived.Test.YtpgignenhiddkaaM4
set_option linter.unusedSimpArgs false
set_option linter.unusedVariables false
namespace Go.Proofs.Ytpgignenhiddkaa
open Go.Sym
attribute [local irreducible] Run RunS RunG RunDG RunDS RunDE RunDA RunDC RunCall RunX RunB
/-- what sections are -/
structure SD where
  n : Nat
  P : Nat → Option Addr
  m : Nat → Nat
  C : Nat → Nat
  x : Nat → Nat → Int
structure Secs (I : Nat → Option Obj) (h : H) (v : Value) (S : SD) : Prop where
  sl : ∃ p c, v = .slice p S.n c ∧ S.n ≤ 9223372036854775807 ∧ (0 < S.n → ∃ id off, p = some ⟨id, off, none⟩ ∧ ∀ i, i < S.n → rdl I h id (off + i) 1 = some [.slice (S.P i) (S.m i) (S.C i)])
  pt : ∀ i, i < S.n → Sees I h (.slice (S.P i) (S.m i) (S.C i)) (S.m i) (S.x i)
theorem Secs.app {I : Nat → Option Obj} {h : H} {v : Value} {S : SD} (t : Secs I h v S) (l : H) : Secs I (h ++ l) v S where
  sl := by
    obtain ⟨p, c, e, hn, hq⟩ := t.sl
    refine ⟨p, c, e, hn, fun h0 => ?_⟩
    obtain ⟨id, off, e1, hr⟩ := hq h0
    exact ⟨id, off, e1, fun i hi => rdl_mono (hr i hi) l⟩
  pt := fun i hi => (t.pt i hi).app l
def secOk (parts : Int) (S : SD) (i : Nat) : Bool := secB parts (S.m i) (S.x i)
/-- questions: cells -/
def qcells (A B : Nat → Int) : Nat → List Value
  | 0 => []
  | i + 1 => qcells A B i ++ [.int .i64 (A i), .int .i64 (B i)]
theorem qcells_length (A B : Nat → Int) : ∀ n, (qcells A B n).length = n * 2
  | 0 => rfl
  | n + 1 => by simp [qcells, qcells_length A B n]; omega
theorem qcells_get (A B : Nat → Int) : ∀ n i, i < n → (qcells A B n)[2 * i]? = some (.int .i64 (A i)) ∧ (qcells A B n)[2 * i + 1]? = some (.int .i64 (B i))
  | 0, i, h => by omega
  | n + 1, i, h => by
    have hl := qcells_length A B n
    by_cases e : i = n
    · subst e
      unfold qcells
      rw [List.getElem?_append_right (by omega), List.getElem?_append_right (by omega), hl]
      have e1 : 2 * i - i * 2 = 0 := by omega
      have e2 : 2 * i + 1 - i * 2 = 1 := by omega
      rw [e1, e2]; exact ⟨rfl, rfl⟩
    · obtain ⟨h1, h2⟩ := qcells_get A B n i (by omega)
      unfold qcells
      rw [List.getElem?_append_left (by omega), List.getElem?_append_left (by omega)]
      exact ⟨h1, h2⟩
theorem qcells_flat (A B : Nat → Int) : ∀ n, flatL (qcells A B n) = true
  | 0 => rfl
  | n + 1 => by
    have app : ∀ x y : List Value, flatL x = true → flatL y = true → flatL (x ++ y) = true := by
      intro x y hx hy
      induction x with
      | nil => exact hy
      | cons u l ih => simp only [flatL, Bool.and_eq_true] at hx; simp only [List.cons_append, flatL, hx.1, ih hx.2, Bool.and_self]
    exact app _ _ (qcells_flat A B n) rfl
theorem rd_qcells {A B : Nat → Int} {n sz j : Nat} {e : TypeId} (hj : j < n) : rdB (some (.row (qcells A B n) e sz)) (j * 2) 2 = some [.int .i64 (A j), .int .i64 (B j)] := by
  obtain ⟨h1, h2⟩ := qcells_get A B n j hj
  have hl := qcells_length A B n
  rw [rdB_row (by omega)]
  have e1 : j * 2 = 2 * j := by omega
  rw [e1]
  obtain ⟨l1, g1⟩ := List.getElem?_eq_some_iff.1 h1
  obtain ⟨l2, g2⟩ := List.getElem?_eq_some_iff.1 h2
  rw [List.drop_eq_getElem_cons l1, g1, List.drop_eq_getElem_cons l2, g2]
  rfl
/-- the first with the least B, among the first k + 1 -/
def bestI (Bf : Nat → Int) : Nat → Nat
  | 0 => 0
  | k + 1 => if Bf (k + 1) < Bf (bestI Bf k) then k + 1 else bestI Bf k

set_option maxRecDepth 100000 in
theorem closure87 (I : Nat → Option Obj) {h : H} {p : Option Addr} {m c pp : Nat} {x : Nat → Int} {parts : Int} (hx : Sees I h (.slice p m c) m x) (hp : rdl I h pp 0 1 = some [.int .i64 parts]) :
    Snd Try.prog I (.func 87) [.slice p m c, .pointer (some ⟨pp, 0, none⟩)] h (.bool (!secB parts m x)) h := by
  refine Snd_run0 (rs := [.tmp 3]) 400 Try.func87 (by kernel_rfl) rfl Try.ntmps87 rfl rfl ?_
  simp -implicitDefEqProofs only [sB, Nat.reduceAdd, Nat.reduceSub, yieldL, popK, flat, nptr, Value.cells, H.new, eq_self, Int.reduceEq, Int.reduceLT, Int.reduceLE, Nat.reduceEqDiff, Nat.reduceLeDiff, thenQ, ContK, ty3, ty4, ty79, Bool.not_true, Bool.not_false, decide_true, decide_false, if_true, if_false, unk1, unk2, z00, zn1, st130, hp]
  refine RunCall_of (isSection88 I hx) ?_
  simp -implicitDefEqProofs only [sB, Nat.reduceAdd, Nat.reduceSub, yieldL, popK, flat, nptr, Value.cells, H.new, eq_self, Int.reduceEq, Int.reduceLT, Int.reduceLE, Nat.reduceEqDiff, Nat.reduceLeDiff, thenQ, ContK, ty3, ty4, ty79, Bool.not_true, Bool.not_false, decide_true, decide_false, if_true, if_false, unk1, unk2, z00, zn1, st130]
  exact ⟨[], by simp⟩

set_option maxRecDepth 100000 in
theorem index109 (I : Nat → Option Obj) {h : H} {v : Value} {T : SD} {g : FuncId} {cap : List Value} {p : Nat → Bool} (hv : Secs I h v T)
    (hf : ∀ i, i < T.n → Snd Try.prog I (.func g) (.slice (T.P i) (T.m i) (T.C i) :: cap) h (.bool (p i)) h) :
    Snd Try.prog I (.func 109) [v, .func (.func g) #[] cap.toArray] h (.int .i64 (firstIx p T.n)) h := by
  obtain ⟨q, c, rfl, hn, hq⟩ := hv.sl
  refine Snd_run (rs := [.tmp 4]) 400 Try.func109 (by kernel_rfl) rfl Try.ntmps109 rfl ?_
  simp -implicitDefEqProofs only [sB, Nat.reduceAdd, Nat.reduceSub, yieldL, popK, flat, nptr, Value.cells, H.new, eq_self, Int.reduceEq, Int.reduceLT, Int.reduceLE, Nat.reduceEqDiff, Nat.reduceLeDiff, thenQ, ContK, ty2, ty3, ty4, ty5, ty77, ty79, ty126]
  obtain ⟨Ja, hJa⟩ : ∃ J : St → Prop, J = fun s => ∃ (k : Nat), s.df = [] ∧ s.h = h ∧ s.tm.length = 19 ∧ s.tm.getD 0 undef = .slice q T.n c ∧ s.tm.getD 1 undef = .func (.func g) #[] cap.toArray ∧ s.tm.getD 4 undef = .int .i64 0 ∧ s.tm.getD 7 undef = .int .i64 T.n ∧ s.tm.getD 8 undef = .int .i64 k ∧ (k ≤ T.n) ∧ (firstIx p T.n = firstFrom p T.n (T.n - k) k) := ⟨_, rfl⟩
  refine Loop_run (by kernel_rfl) 400 Ja (muI 8 T.n) (by rw [hJa]; exact ⟨0, rfl, rfl, rfl, rfl, rfl, rfl, rfl, rfl, Nat.zero_le _, rfl⟩) ?_
  intro sa hsa
  rw [hJa] at hsa
  obtain ⟨tma, dfa, hha⟩ := sa
  obtain ⟨k, ea1, ea2, ea3, la0, la1, la4, la7, la8, hk, hp⟩ := hsa
  simp only at ea1 ea2 ea3 la0 la1 la4 la7 la8
  subst dfa; subst hha
  have elita : tma = [.slice q T.n c, .func (.func g) #[] cap.toArray, tma.getD 2 undef, tma.getD 3 undef, .int .i64 0, tma.getD 5 undef, tma.getD 6 undef, .int .i64 T.n, .int .i64 k, tma.getD 9 undef, tma.getD 10 undef, tma.getD 11 undef, tma.getD 12 undef, tma.getD 13 undef, tma.getD 14 undef, tma.getD 15 undef, tma.getD 16 undef, tma.getD 17 undef, tma.getD 18 undef] := by
    have e0 := lit_eq ea3
    have er : List.range 19 = [0, 1, 2, 3, 4, 5, 6, 7, 8, 9, 10, 11, 12, 13, 14, 15, 16, 17, 18] := by rfl
    rw [er] at e0
    simp only [List.map_cons, List.map_nil, la0, la1, la4, la7, la8] at e0
    exact e0
  rw [elita]
  clear la0
  clear la1
  clear la4
  clear la7
  clear la8
  clear elita ea3
  by_cases hkn : k < T.n
  · obtain ⟨id, off, rfl, hr⟩ := hq (by omega)
    have h1 : (k : Int) < (T.n : Int) := by omega
    have h2 : (0 : Int) ≤ (k : Int) ∧ (k : Int) < (T.n : Int) := ⟨by omega, h1⟩
    have h3 := hr k hkn
    have h4 := wrap_add1 (i := k) (by omega)
    simp -implicitDefEqProofs only [sB, Nat.reduceAdd, Nat.reduceSub, yieldL, popK, flat, nptr, Value.cells, H.new, eq_self, Int.reduceEq, Int.reduceLT, Int.reduceLE, Nat.reduceEqDiff, Nat.reduceLeDiff, thenQ, ContK, ty2, ty3, ty4, ty5, ty77, ty79, ty126, h1, h2, h3]
    refine RunCall_of (hf k hkn) ?_
    simp -implicitDefEqProofs only [sB, Nat.reduceAdd, Nat.reduceSub, yieldL, popK, flat, nptr, Value.cells, H.new, eq_self, Int.reduceEq, Int.reduceLT, Int.reduceLE, Nat.reduceEqDiff, Nat.reduceLeDiff, thenQ, ContK, ty2, ty3, ty4, ty5, ty77, ty79, ty126, h4]
    refine RunB_of (fun hb => ?_) (fun hb => ?_)
    · simp -implicitDefEqProofs only [sB, Nat.reduceAdd, Nat.reduceSub, yieldL, popK, flat, nptr, Value.cells, H.new, eq_self, Int.reduceEq, Int.reduceLT, Int.reduceLE, Nat.reduceEqDiff, Nat.reduceLeDiff, thenQ, ContK, ty2, ty3, ty4, ty5, ty77, ty79, ty126, h4]
      rw [hp, firstFrom_pos hkn hb]
    · simp -implicitDefEqProofs only [sB, Nat.reduceAdd, Nat.reduceSub, yieldL, popK, flat, nptr, Value.cells, H.new, eq_self, Int.reduceEq, Int.reduceLT, Int.reduceLE, Nat.reduceEqDiff, Nat.reduceLeDiff, thenQ, ContK, ty2, ty3, ty4, ty5, ty77, ty79, ty126, h4]
      refine ⟨by rw [hJa]; exact ⟨k + 1, rfl, rfl, rfl, rfl, rfl, rfl, rfl, rfl, by omega, by rw [hp, firstFrom_neg hkn hb]⟩, ?_⟩
      show T.n - ((k + 1 : Nat) : Int).toNat < T.n - (k : Int).toNat
      omega
  · have h1 : ¬ (k : Int) < (T.n : Int) := by omega
    simp -implicitDefEqProofs only [sB, Nat.reduceAdd, Nat.reduceSub, yieldL, popK, flat, nptr, Value.cells, H.new, eq_self, Int.reduceEq, Int.reduceLT, Int.reduceLE, Nat.reduceEqDiff, Nat.reduceLeDiff, thenQ, ContK, ty2, ty3, ty4, ty5, ty77, ty79, ty126, h1]
    rw [hp, firstFrom_end hkn]
set_option maxRecDepth 100000 in
theorem contains86 (I : Nat → Option Obj) {h : H} {v : Value} {T : SD} {g : FuncId} {cap : List Value} {p : Nat → Bool} (hv : Secs I h v T)
    (hf : ∀ i, i < T.n → Snd Try.prog I (.func g) (.slice (T.P i) (T.m i) (T.C i) :: cap) h (.bool (p i)) h) :
    Snd Try.prog I (.func 86) [v, .func (.func g) #[] cap.toArray] h (.bool (anyN p T.n)) h := by
  refine Snd_run (rs := [.tmp 4]) 400 Try.func86 (by kernel_rfl) rfl Try.ntmps86 rfl ?_
  simp -implicitDefEqProofs only [sB, Nat.reduceAdd, Nat.reduceSub, yieldL, popK, flat, nptr, Value.cells, H.new, eq_self, Int.reduceEq, Int.reduceLT, Int.reduceLE, Nat.reduceEqDiff, Nat.reduceLeDiff, thenQ, ContK, ty3, ty4, ty77, ty126]
  refine RunCall_of (index109 I hv hf) ?_
  simp -implicitDefEqProofs only [sB, Nat.reduceAdd, Nat.reduceSub, yieldL, popK, flat, nptr, Value.cells, H.new, eq_self, Int.reduceEq, Int.reduceLT, Int.reduceLE, Nat.reduceEqDiff, Nat.reduceLeDiff, thenQ, ContK, ty3, ty4, ty77, ty126, firstIx_any]
set_option maxRecDepth 100000 in
theorem less91 (I : Nat → Option Obj) {h : H} {a b c d : Int} : Snd Try.prog I (.func 91) [.agg #[.int .i64 a, .int .i64 b], .agg #[.int .i64 c, .int .i64 d]] h (.bool (decide (b < d))) h := by
  refine Snd_run0 (rs := [.tmp 4]) 400 Try.func91 (by kernel_rfl) rfl Try.ntmps91 rfl rfl ?_
  simp -implicitDefEqProofs only [sB, Nat.reduceAdd, Nat.reduceSub, yieldL, popK, flat, nptr, Value.cells, H.new, eq_self, Int.reduceEq, Int.reduceLT, Int.reduceLE, Nat.reduceEqDiff, Nat.reduceLeDiff, thenQ, ContK, ty3, ty4, ty130, Bool.not_true, Bool.not_false, decide_true, decide_false, if_true, if_false, unk1, unk2, z00, zn1, st130]
  first | exact ⟨⟨_, rfl⟩, rfl⟩ | exact ⟨_, rfl⟩

set_option maxRecDepth 100000 in
set_option maxHeartbeats 4000000 in
theorem least90_1 (I : Nat → Option Obj) {h : H} {id : Nat} {fv : Value} {c0 c1 : Int} (hg : h.get id = some (.row [.int .i64 c0, .int .i64 c1] 130 2)) :
    Snd Try.prog I (.func 90) [.slice (some ⟨id, 0, none⟩) 1 UNK, fv] h (.agg #[.int .i64 c0, .int .i64 c1]) h := by
  have h00 : (0 : Int) ≤ 0 ∧ (0 : Int) < ((1 : Nat) : Int) := ⟨by omega, by omega⟩
  have hrd : ∀ l : H, rdl I (h ++ l) id 0 2 = some [.int .i64 c0, .int .i64 c1] := fun l => by rw [rd_at_app hg, rdB_row (by simp)]; rfl
  refine Snd_tc0 (rs := [.cell 4 130]) Try.func90 (by kernel_rfl) rfl Try.ntmps90 rfl rfl ?_
  refine TC_cut 400 (by kernel_rfl) fun qA qAn qAr qAx => ?_
  simp -implicitDefEqProofs only [sB, Nat.reduceAdd, Nat.reduceSub, yieldL, popK, flat, nptr, Value.cells, H.new, eq_self, Int.reduceEq, Int.reduceLT, Int.reduceLE, Nat.reduceEqDiff, Nat.reduceLeDiff, thenQ, ContK, ty2, ty3, ty4, ty5, ty127, ty130, ty132, Bool.not_true, Bool.not_false, decide_true, decide_false, if_true, if_false, unk1, unk2, z00, zn1, st130]
  refine qAn _ ?_
  refine TC_cut 400 (by kernel_rfl) fun qB qBn qBr qBx => ?_
  simp -implicitDefEqProofs only [sB, Nat.reduceAdd, Nat.reduceSub, yieldL, popK, flat, nptr, Value.cells, H.new, eq_self, Int.reduceEq, Int.reduceLT, Int.reduceLE, Nat.reduceEqDiff, Nat.reduceLeDiff, thenQ, ContK, ty2, ty3, ty4, ty5, ty127, ty130, ty132, Bool.not_true, Bool.not_false, decide_true, decide_false, if_true, if_false, unk1, unk2, z00, zn1, st130, h00, hrd, Int.toNat_zero, Nat.zero_mul, st130]
  refine qBn _ ?_
  refine TC_seq (TC_seq (LC_region (LC_step rfl rfl rfl ?_)))
  refine LC_sliceEnd (e := 130) (len := 1) (id := id) (off := 0) (k := .i64) (s := 2) rfl rfl rfl rfl (by kernel_rfl) (by kernel_rfl) (H.get_append hg _) (fun v hv => ?_)
  refine LC_step rfl rfl (v := .int .i64 ((0 : Nat) : Int)) (h' := h ++ ([.cells [.int .i64 0, .int .i64 0] 130, .cells [.int .i64 c0, .int .i64 c1] 130])) (by
    rcases hv with rfl | rfl
    · exact lnd127 (I := I) (ty := 3) (p := some ⟨id, 0 + 1 * 2, none⟩) (n := 0) (c := UNK)
    · exact lnd127 (I := I) (ty := 3) (p := some ⟨id, 0, none⟩) (n := 0) (c := 0)) (LC_step rfl rfl rfl (LC_nil ?_))
  clear hv
  refine Run_TC (by kernel_rfl) (n := 300) ?_
  have z00 : ((0 : Nat) : Int) = 0 := rfl
  have z01 : ¬ (0 : Int) < 0 := by omega
  simp -implicitDefEqProofs only [sB, Nat.reduceAdd, Nat.reduceSub, yieldL, popK, flat, nptr, Value.cells, H.new, eq_self, Int.reduceEq, Int.reduceLT, Int.reduceLE, Nat.reduceEqDiff, Nat.reduceLeDiff, thenQ, ContK, ty2, ty3, ty4, ty5, ty127, ty130, ty132, Bool.not_true, Bool.not_false, decide_true, decide_false, if_true, if_false, unk1, unk2, z00, zn1, st130, z00, z01, st130]
  refine Loop_run (by kernel_rfl) 200 (fun s => s = _) (fun _ => 0) rfl ?_
  intro s hs
  subst hs
  simp -implicitDefEqProofs only [sB, Nat.reduceAdd, Nat.reduceSub, yieldL, popK, flat, nptr, Value.cells, H.new, eq_self, Int.reduceEq, Int.reduceLT, Int.reduceLE, Nat.reduceEqDiff, Nat.reduceLeDiff, thenQ, ContK, ty2, ty3, ty4, ty5, ty127, ty130, ty132, Bool.not_true, Bool.not_false, decide_true, decide_false, if_true, if_false, unk1, unk2, z00, zn1, st130, z00, z01, st130]
  refine TC_last 200 (by kernel_rfl) ?_
  simp -implicitDefEqProofs only [sB, Nat.reduceAdd, Nat.reduceSub, yieldL, popK, flat, nptr, Value.cells, H.new, eq_self, Int.reduceEq, Int.reduceLT, Int.reduceLE, Nat.reduceEqDiff, Nat.reduceLeDiff, thenQ, ContK, ty2, ty3, ty4, ty5, ty127, ty130, ty132, Bool.not_true, Bool.not_false, decide_true, decide_false, if_true, if_false, unk1, unk2, z00, zn1, st130, st130]
  first | exact ⟨⟨_, rfl⟩, rfl⟩ | exact ⟨_, rfl⟩

theorem oi_none : optInt none = some none := rfl
theorem oi_some {k : IntKind} {a : Int} : optInt (some (.int k a)) = some (some a) := rfl
theorem sl127 {h : H} {id n sz : Nat} {e : TypeId} {vs : List Value} (hg : h.get id = some (.row vs e 2)) (hn : 0 < n) : aslice Try.prog 127 (.slice (some ⟨id, 0, none⟩) (n + 1) UNK) (some 1) none none h = some (.slice (some ⟨id, 0 + 1 * 2, none⟩) n UNK) := by
  have e1 : Try.prog.underlying 127 = some (.slice 130) := by kernel_rfl
  have e4 : abounds (n + 1) (n + 1) (some 1) none none = some (1, n + 1, n + 1) := by
    unfold abounds
    have : (0 : Int) ≤ 1 ∧ (1 : Int) ≤ ((n + 1 : Nat) : Int) := ⟨by omega, by omega⟩
    simp only [Option.bind_some, this, and_self, if_true, Option.map_some]
    rfl
  unfold aslice
  simp only [e1]
  rw [if_neg (by omega), e4]
  simp only [Option.bind_some, sz130, hg]
  rw [if_neg (by simp), if_pos ⟨trivial, .inr (by omega)⟩]
  simp
set_option maxRecDepth 100000 in
set_option maxHeartbeats 4000000 in
theorem least90 (I : Nat → Option Obj) {h : H} {id n : Nat} {A Bf : Nat → Int} (hg : h.get id = some (.row (qcells A Bf (n + 1)) 130 2)) (hn40 : n < 1000) :
    Snd Try.prog I (.func 90) [.slice (some ⟨id, 0, none⟩) (n + 1) UNK, .func (.func 91) #[] #[]] h (.agg #[.int .i64 (A (bestI Bf n)), .int .i64 (Bf (bestI Bf n))]) h := by
  by_cases hn : n = 0
  · subst hn
    exact least90_1 I hg
  have h00 : (0 : Int) ≤ 0 ∧ (0 : Int) < ((n + 1 : Nat) : Int) := ⟨by omega, by omega⟩
  have hrd : ∀ (l : H) (j : Nat), j < n + 1 → rdl I (h ++ l) id (j * 2) 2 = some [.int .i64 (A j), .int .i64 (Bf j)] := fun l j hj => by rw [rd_at_app hg, rd_qcells hj]
  have hr0 := fun l => hrd l 0 (by omega)
  simp only [Nat.zero_mul] at hr0
  have hsl := fun l : H => sl127 (h := h ++ l) (n := n) (sz := 2) (H.get_append hg l) (by omega)
  refine Snd_run0 (rs := [.cell 4 130]) 400 Try.func90 (by kernel_rfl) rfl Try.ntmps90 rfl rfl ?_
  simp -implicitDefEqProofs only [sB, Nat.reduceAdd, Nat.reduceSub, yieldL, popK, flat, nptr, Value.cells, H.new, eq_self, Int.reduceEq, Int.reduceLT, Int.reduceLE, Nat.reduceEqDiff, Nat.reduceLeDiff, thenQ, ContK, ty2, ty3, ty4, ty5, ty127, ty130, ty132, Bool.not_true, Bool.not_false, decide_true, decide_false, if_true, if_false, unk1, unk2, z00, zn1, st130, h00, hr0, Int.toNat_zero, Nat.zero_mul, oi_none, oi_some, Option.map_none, hsl]
  obtain ⟨Ja, hJa⟩ : ∃ J : St → Prop, J = fun s => ∃ (k : Nat) (Lx : H), s.df = [] ∧ s.h = h ++ (.cells [.int .i64 0, .int .i64 0] 130 :: .cells [.int .i64 (A (bestI Bf k)), .int .i64 (Bf (bestI Bf k))] 130 :: Lx) ∧ s.tm.length = 25 ∧ s.tm.getD 1 undef = .func (.func 91) #[] #[] ∧ s.tm.getD 4 undef = .pointer (some ⟨2 * h.length, 0, none⟩) ∧ s.tm.getD 5 undef = .pointer (some ⟨2 * (h.length + 1), 0, none⟩) ∧ s.tm.getD 12 undef = .slice (some ⟨id, 0 + 1 * 2, none⟩) n UNK ∧ s.tm.getD 13 undef = .int .i64 n ∧ s.tm.getD 14 undef = .int .i64 k ∧ (k ≤ n) := ⟨_, rfl⟩
  refine Loop_run (by kernel_rfl) 400 Ja (muI 14 n) (by rw [hJa]; exact ⟨0, [], rfl, rfl, rfl, rfl, rfl, rfl, rfl, rfl, rfl, Nat.zero_le _⟩) ?_
  intro sa hsa
  rw [hJa] at hsa
  obtain ⟨tma, dfa, hha⟩ := sa
  obtain ⟨k, Lx, ea1, ea2, ea3, la1, la4, la5, la12, la13, la14, hk⟩ := hsa
  simp only at ea1 ea2 ea3 la1 la4 la5 la12 la13 la14
  subst dfa; subst hha
  have elita : tma = [tma.getD 0 undef, .func (.func 91) #[] #[], tma.getD 2 undef, tma.getD 3 undef, .pointer (some ⟨2 * h.length, 0, none⟩), .pointer (some ⟨2 * (h.length + 1), 0, none⟩), tma.getD 6 undef, tma.getD 7 undef, tma.getD 8 undef, tma.getD 9 undef, tma.getD 10 undef, tma.getD 11 undef, .slice (some ⟨id, 0 + 1 * 2, none⟩) n UNK, .int .i64 n, .int .i64 k, tma.getD 15 undef, tma.getD 16 undef, tma.getD 17 undef, tma.getD 18 undef, tma.getD 19 undef, tma.getD 20 undef, tma.getD 21 undef, tma.getD 22 undef, tma.getD 23 undef, tma.getD 24 undef] := by
    have e0 := lit_eq ea3
    have er : List.range 25 = [0, 1, 2, 3, 4, 5, 6, 7, 8, 9, 10, 11, 12, 13, 14, 15, 16, 17, 18, 19, 20, 21, 22, 23, 24] := by rfl
    rw [er] at e0
    simp only [List.map_cons, List.map_nil, la1, la4, la5, la12, la13, la14] at e0
    exact e0
  rw [elita]
  clear la1
  clear la4
  clear la5
  clear la12
  clear la13
  clear la14
  clear elita ea3
  by_cases hkn : k < n
  · have h1 : (k : Int) < (n : Int) := by omega
    have h2 : (0 : Int) ≤ (k : Int) ∧ (k : Int) < (n : Int) := ⟨by omega, h1⟩
    have h4 := wrap_add1 (i := k) (by omega)
    have h3 : ∀ l : H, rdl I (h ++ l) id (0 + 1 * 2 + k * 2) 2 = some [.int .i64 (A (k + 1)), .int .i64 (Bf (k + 1))] := fun l => by rw [show 0 + 1 * 2 + k * 2 = (k + 1) * 2 by omega]; exact hrd l (k + 1) (by omega)
    simp -implicitDefEqProofs only [sB, Nat.reduceAdd, Nat.reduceSub, yieldL, popK, flat, nptr, Value.cells, H.new, eq_self, Int.reduceEq, Int.reduceLT, Int.reduceLE, Nat.reduceEqDiff, Nat.reduceLeDiff, thenQ, ContK, ty2, ty3, ty4, ty5, ty127, ty130, ty132, Bool.not_true, Bool.not_false, decide_true, decide_false, if_true, if_false, unk1, unk2, z00, zn1, st130, h1, h2, h3, getElem?_app_z, set_app_z, getElem?_app_k]
    refine RunCall_of (less91 I) ?_
    by_cases c1 : Bf (k + 1) < Bf (bestI Bf k)
    · have e : bestI Bf (k + 1) = k + 1 := if_pos c1
      simp -implicitDefEqProofs only [sB, Nat.reduceAdd, Nat.reduceSub, yieldL, popK, flat, nptr, Value.cells, H.new, eq_self, Int.reduceEq, Int.reduceLT, Int.reduceLE, Nat.reduceEqDiff, Nat.reduceLeDiff, thenQ, ContK, ty2, ty3, ty4, ty5, ty127, ty130, ty132, Bool.not_true, Bool.not_false, decide_true, decide_false, if_true, if_false, unk1, unk2, z00, zn1, st130, h4, c1, getElem?_app_z, getElem?_app_k]
      refine ⟨by rw [hJa]; exact ⟨k + 1, _, rfl, by rw [e], rfl, rfl, rfl, rfl, rfl, rfl, rfl, by omega⟩, ?_⟩
      show n - ((k + 1 : Nat) : Int).toNat < n - (k : Int).toNat
      omega
    · have e : bestI Bf (k + 1) = bestI Bf k := if_neg c1
      simp -implicitDefEqProofs only [sB, Nat.reduceAdd, Nat.reduceSub, yieldL, popK, flat, nptr, Value.cells, H.new, eq_self, Int.reduceEq, Int.reduceLT, Int.reduceLE, Nat.reduceEqDiff, Nat.reduceLeDiff, thenQ, ContK, ty2, ty3, ty4, ty5, ty127, ty130, ty132, Bool.not_true, Bool.not_false, decide_true, decide_false, if_true, if_false, unk1, unk2, z00, zn1, st130, h4, c1]
      refine ⟨by rw [hJa]; exact ⟨k + 1, _, rfl, by rw [e], rfl, rfl, rfl, rfl, rfl, rfl, rfl, by omega⟩, ?_⟩
      show n - ((k + 1 : Nat) : Int).toNat < n - (k : Int).toNat
      omega
  · have h1 : ¬ (k : Int) < (n : Int) := by omega
    have e : k = n := by omega
    subst e
    simp -implicitDefEqProofs only [sB, Nat.reduceAdd, Nat.reduceSub, yieldL, popK, flat, nptr, Value.cells, H.new, eq_self, Int.reduceEq, Int.reduceLT, Int.reduceLE, Nat.reduceEqDiff, Nat.reduceLeDiff, thenQ, ContK, ty2, ty3, ty4, ty5, ty127, ty130, ty132, Bool.not_true, Bool.not_false, decide_true, decide_false, if_true, if_false, unk1, unk2, z00, zn1, st130, h1]
    first | exact ⟨⟨_, rfl⟩, rfl⟩ | exact ⟨_, rfl⟩
end Go.Proofs.Ytpgignenhiddkaa
set_option linter.unusedSimpArgs false
set_option linter.unusedVariables false
namespace Go.Proofs.Ytpgignenhiddkaa
open Go.Sym
attribute [local irreducible] Run RunS RunG RunDG RunDS RunDE RunDA RunDC RunCall RunX RunB
/-- how many of the first k parts can leak and are in a section -/
def inC (T : TD) (m : Nat) (x : Nat → Int) : Nat → Nat
  | 0 => 0
  | k + 1 => if sus T k && inB m x k then inC T m x k + 1 else inC T m x k
theorem inC_le (T : TD) (m : Nat) (x : Nat → Int) : ∀ k, inC T m x k ≤ cS T k
  | 0 => Nat.le_refl _
  | k + 1 => by
    have := inC_le T m x k
    cases hs : sus T k with
    | true =>
      rw [cS_yes hs]
      show (if sus T k && inB m x k then _ else _) ≤ _
      split <;> omega
    | false =>
      rw [cS_no hs]
      show (if sus T k && inB m x k then _ else _) ≤ _
      rw [hs]; simpa using this
/-- how many suspects are left -/
def leftS (T : TD) (pn : Nat) (S : SD) (i : Nat) : Int := max (inC T (S.m i) (S.x i) pn : Int) ((cS T pn : Int) - inC T (S.m i) (S.x i) pn)
def tupI (a b e : Int) : Value := .tuple #[.int .i64 a, .int .i64 b, .int .i64 e]
def nextV (parts : Int) (T : TD) (S : SD) : Value :=
  if testsE parts T ≠ 0 then tupI 0 0 (testsE parts T)
  else if S.n = 0 ∨ 40 < S.n then tupI 0 0 6
  else if anyN (fun i => !secOk parts S i) S.n then tupI 0 0 3
  else tupI (bestI (leftS T parts.toNat S) (S.n - 1)) (leftS T parts.toNat S (bestI (leftS T parts.toNat S) (S.n - 1))) 0
theorem nextV_form {parts : Int} {T : TD} {S : SD} : ∃ a b e, nextV parts T S = .tuple #[.int .i64 a, .int .i64 b, .int .i64 e] := by
  unfold nextV tupI
  split
  · exact ⟨_, _, _, rfl⟩
  · split
    · exact ⟨_, _, _, rfl⟩
    · split <;> exact ⟨_, _, _, rfl⟩
theorem nextV_flat {parts : Int} {T : TD} {S : SD} : flat (nextV parts T S) = true := by
  obtain ⟨a, b, e, h⟩ := nextV_form (parts := parts) (T := T) (S := S)
  rw [h]; rfl
theorem bl130 {a b : Int} : abuild Try.prog 130 [(0, .int .i64 a), (1, .int .i64 b)] = some (.agg #[.int .i64 a, .int .i64 b]) := by kernel_rfl
theorem bs127_1 {h : H} {a b : Int} : abuildSlice Try.prog 127 1 [(0, .agg #[.int .i64 a, .int .i64 b])] h = some (.slice (some ⟨h.new, 0, none⟩) 1 1, h ++ [.cells [.int .i64 a, .int .i64 b] 130]) := by kernel_rfl
set_option maxRecDepth 100000 in
theorem app127 {I : Nat → Option Obj} {h X : H} {q m p : Nat} {A Bf : Nat → Int} (hk : m ≠ 0 → X[q]? = some (.row (qcells A Bf m) 130 2)) (hp : X[p]? = some (.cells [.int .i64 (A m), .int .i64 (Bf m)] 130)) (hm : m < 1000) :
    abi2 Try.prog I .append #[127, 127] 127 [slA (2 * (h.length + q)) m, .slice (some ⟨2 * (h.length + p), 0, none⟩) 1 1] (h ++ X) = some (slA (2 * (h.length + X.length)) (m + 1), h ++ (killL m X q ++ [.row (qcells A Bf (m + 1)) 130 2])) := by
  have e3 : tbytes Try.prog 130 = some 16 := by kernel_rfl
  have e4 : tzero Try.prog 130 = some (.agg #[.int .i64 0, .int .i64 0]) := by kernel_rfl
  have e5 : rdS I (h ++ X) 2 (.slice (some ⟨2 * (h.length + p), 0, none⟩) 1 1) = some (1, [.int .i64 (A m), .int .i64 (Bf m)]) := by
    unfold rdS; simp only; rw [rd_k, hp, rdB_cells (by simp)]; rfl
  show aappend Try.prog I 127 127 _ _ _ = _
  exact aappend_row un127 sz130 e3 e4 ⟨rfl, by omega, by omega⟩ hk (fun h => by subst h; rfl) (qcells_length A Bf m) e5 rfl (by omega)
theorem markF_01 {x : Nat → Int} {m p : Nat} (h : ∀ j, j < m → 0 ≤ x j) : markF x m p = if inB m x p then 1 else 0 := markF_in m h p
theorem susF_01 {T : TD} {pn p : Nat} : susF T pn p = if decide (p < pn) && sus T p then 1 else 0 := rfl
theorem killL_cons2 {n q : Nat} {a b : Blk} {l : H} (h : n ≠ 0 → 1 < q) : killL n (a :: b :: l) q = a :: b :: killL n l (q - 2) := by
  unfold killL
  split
  · rfl
  · rename_i hn
    have := h hn
    obtain ⟨j, rfl⟩ : ∃ j, q = j + 1 + 1 := ⟨q - 2, by omega⟩
    simp
/-- the sums by marks are the numbers -/
theorem step_in {T : TD} {pn m k : Nat} {x : Nat → Int} (h : ∀ j, j < m → 0 ≤ x j) : (inC T m x (min k pn) : Int) + susF T pn k * markF x m k = (inC T m x (min (k + 1) pn) : Int) ∧ ((cS T (min k pn) : Int) - inC T m x (min k pn)) + susF T pn k * (1 - markF x m k) = (cS T (min (k + 1) pn) : Int) - inC T m x (min (k + 1) pn) := by
  rw [markF_01 h, susF_01]
  by_cases e : k < pn
  · rw [show min k pn = k by omega, show min (k + 1) pn = k + 1 by omega]
    have hi : inC T m x (k + 1) = if sus T k && inB m x k then inC T m x k + 1 else inC T m x k := rfl
    rw [hi]
    cases hs : sus T k with
    | true =>
      rw [cS_yes hs]
      cases hb : inB m x k with
      | true => simp [e]; omega
      | false => simp [e]; omega
    | false =>
      rw [cS_no hs]
      simp
  · rw [show min (k + 1) pn = min k pn by omega]
    simp [e]

set_option maxRecDepth 100000 in
set_option maxHeartbeats 4000000 in
theorem next50 (I : Nat → Option Obj) {h : H} {v sv : Value} {T : TD} {S : SD} {parts : Int} (hv : Tests I h v T) (hs : Secs I h sv S) :
    Snd Try.prog I (.func 50) [.int .i64 parts, v, sv] h (nextV parts T S) h := by
  have hs0 := hs
  obtain ⟨qs, cs, rfl, hn, hqs⟩ := hs.sl
  refine Snd_run0 (rs := [.tmp 6, .tmp 7, .tmp 8]) 900 Try.func50 (by kernel_rfl) rfl Try.ntmps50 rfl nextV_flat ?_
  simp -implicitDefEqProofs only [sB, Nat.reduceAdd, Nat.reduceSub, yieldL, popK, flat, nptr, Value.cells, H.new, eq_self, Int.reduceEq, Int.reduceLT, Int.reduceLE, Nat.reduceEqDiff, Nat.reduceLeDiff, thenQ, ContK, ty2, ty3, ty4, ty5, ty22, ty23, ty24, ty27, ty64, ty77, ty79, ty123, ty126, ty127, ty130, ty132, Bool.not_true, Bool.not_false, decide_true, decide_false, if_true, if_false, unk1, unk2, z00, zn1, st123, st130, st43]
  refine RunCall_of (checkTests79 I (hv.app _)) ?_
  by_cases he : testsE parts T = 0
  case neg =>
    simp -implicitDefEqProofs only [sB, Nat.reduceAdd, Nat.reduceSub, yieldL, popK, flat, nptr, Value.cells, H.new, eq_self, Int.reduceEq, Int.reduceLT, Int.reduceLE, Nat.reduceEqDiff, Nat.reduceLeDiff, thenQ, ContK, ty2, ty3, ty4, ty5, ty22, ty23, ty24, ty27, ty64, ty77, ty79, ty123, ty126, ty127, ty130, ty132, Bool.not_true, Bool.not_false, decide_true, decide_false, if_true, if_false, unk1, unk2, z00, zn1, st123, st130, st43, he]
    exact ⟨⟨_, rfl⟩, by unfold nextV tupI; rw [if_pos he]⟩
  have t := tests_ok he
  by_cases c1 : S.n = 0
  · have c1' : (S.n : Int) = 0 := by omega
    simp -implicitDefEqProofs only [sB, Nat.reduceAdd, Nat.reduceSub, yieldL, popK, flat, nptr, Value.cells, H.new, eq_self, Int.reduceEq, Int.reduceLT, Int.reduceLE, Nat.reduceEqDiff, Nat.reduceLeDiff, thenQ, ContK, ty2, ty3, ty4, ty5, ty22, ty23, ty24, ty27, ty64, ty77, ty79, ty123, ty126, ty127, ty130, ty132, Bool.not_true, Bool.not_false, decide_true, decide_false, if_true, if_false, unk1, unk2, z00, zn1, st123, st130, st43, he, c1']
    exact ⟨⟨_, rfl⟩, by unfold nextV tupI; rw [if_neg (by rw [he]; simp), if_pos (.inl c1)]⟩
  by_cases c2 : 40 < S.n
  · have c1' : ¬ (S.n : Int) = 0 := by omega
    have c2' : (40 : Int) < (S.n : Int) := by omega
    simp -implicitDefEqProofs only [sB, Nat.reduceAdd, Nat.reduceSub, yieldL, popK, flat, nptr, Value.cells, H.new, eq_self, Int.reduceEq, Int.reduceLT, Int.reduceLE, Nat.reduceEqDiff, Nat.reduceLeDiff, thenQ, ContK, ty2, ty3, ty4, ty5, ty22, ty23, ty24, ty27, ty64, ty77, ty79, ty123, ty126, ty127, ty130, ty132, Bool.not_true, Bool.not_false, decide_true, decide_false, if_true, if_false, unk1, unk2, z00, zn1, st123, st130, st43, he, c1', c2']
    exact ⟨⟨_, rfl⟩, by unfold nextV tupI; rw [if_neg (by rw [he]; simp), if_pos (.inr c2)]⟩
  have c1' : ¬ (S.n : Int) = 0 := by omega
  have c2' : ¬ (40 : Int) < (S.n : Int) := by omega
  simp -implicitDefEqProofs only [sB, Nat.reduceAdd, Nat.reduceSub, yieldL, popK, flat, nptr, Value.cells, H.new, eq_self, Int.reduceEq, Int.reduceLT, Int.reduceLE, Nat.reduceEqDiff, Nat.reduceLeDiff, thenQ, ContK, ty2, ty3, ty4, ty5, ty22, ty23, ty24, ty27, ty64, ty77, ty79, ty123, ty126, ty127, ty130, ty132, Bool.not_true, Bool.not_false, decide_true, decide_false, if_true, if_false, unk1, unk2, z00, zn1, st123, st130, st43, he, c1', c2']
  refine RunCall_of (contains86 I (g := 87) (cap := [.pointer (some ⟨2 * h.length, 0, none⟩)]) (p := fun i => !secOk parts S i) (hs0.app _) (fun i hi => closure87 I ((hs0.pt i hi).app _) (by rw [rd_z]; rfl))) ?_
  cases ha : anyN (fun i => !secOk parts S i) S.n with
  | true =>
    simp -implicitDefEqProofs only [sB, Nat.reduceAdd, Nat.reduceSub, yieldL, popK, flat, nptr, Value.cells, H.new, eq_self, Int.reduceEq, Int.reduceLT, Int.reduceLE, Nat.reduceEqDiff, Nat.reduceLeDiff, thenQ, ContK, ty2, ty3, ty4, ty5, ty22, ty23, ty24, ty27, ty64, ty77, ty79, ty123, ty126, ty127, ty130, ty132, Bool.not_true, Bool.not_false, decide_true, decide_false, if_true, if_false, unk1, unk2, z00, zn1, st123, st130, st43]
    exact ⟨⟨_, rfl⟩, by unfold nextV tupI; rw [if_neg (by rw [he]; simp), if_neg (by omega), if_pos ha]⟩
  | false =>
  have hsec : ∀ i, i < S.n → secOk parts S i = true := fun i hi => by have := any_false ha i hi; simpa using this
  have hV : nextV parts T S = tupI (bestI (leftS T parts.toNat S) (S.n - 1)) (leftS T parts.toNat S (bestI (leftS T parts.toNat S) (S.n - 1))) 0 := by
    unfold nextV; rw [if_neg (by rw [he]; simp), if_neg (by omega), if_neg (by rw [ha]; simp)]
  obtain ⟨pn, rfl⟩ : ∃ pn : Nat, parts = pn := ⟨parts.toNat, by have := t.p1; omega⟩
  rw [Int.toNat_natCast] at hV
  have hp12 := t.p12
  simp -implicitDefEqProofs only [sB, Nat.reduceAdd, Nat.reduceSub, yieldL, popK, flat, nptr, Value.cells, H.new, eq_self, Int.reduceEq, Int.reduceLT, Int.reduceLE, Nat.reduceEqDiff, Nat.reduceLeDiff, thenQ, ContK, ty2, ty3, ty4, ty5, ty22, ty23, ty24, ty27, ty64, ty77, ty79, ty123, ty126, ty127, ty130, ty132, Bool.not_true, Bool.not_false, decide_true, decide_false, if_true, if_false, unk1, unk2, z00, zn1, st123, st130, st43]
  refine RunCall_of (suspects83 I (hv.app _) t) ?_
  simp -implicitDefEqProofs only [sB, Nat.reduceAdd, Nat.reduceSub, yieldL, popK, flat, nptr, Value.cells, H.new, eq_self, Int.reduceEq, Int.reduceLT, Int.reduceLE, Nat.reduceEqDiff, Nat.reduceLeDiff, thenQ, ContK, ty2, ty3, ty4, ty5, ty22, ty23, ty24, ty27, ty64, ty77, ty79, ty123, ty126, ty127, ty130, ty132, Bool.not_true, Bool.not_false, decide_true, decide_false, if_true, if_false, unk1, unk2, z00, zn1, st123, st130, st43]
  obtain ⟨Ja, hJa⟩ : ∃ J : St → Prop, J = fun s => ∃ (i : Nat) (q : Nat) (X : H), s.df = [] ∧ s.h = h ++ (.cells [.int .i64 pn] 3 :: .cells (arrL 12 (susF T pn)) 123 :: X) ∧ s.tm.length = 88 ∧ s.tm.getD 10 undef = .pointer (some ⟨2 * (h.length + 1), 0, none⟩) ∧ s.tm.getD 11 undef = slA (2 * (h.length + q)) i ∧ s.tm.getD 43 undef = .slice qs S.n cs ∧ s.tm.getD 44 undef = .int .i64 S.n ∧ s.tm.getD 45 undef = .int .i64 i ∧ (i ≤ S.n) ∧ (i ≠ 0 → 1 < q ∧ (.cells [.int .i64 pn] 3 :: .cells (arrL 12 (susF T pn)) 123 :: X)[q]? = some (.row (qcells (fun i => (i : Int)) (leftS T pn S) i) 130 2)) := ⟨_, rfl⟩
  refine Loop_run (by kernel_rfl) 900 Ja (muI 45 S.n) (by rw [hJa]; exact ⟨0, 0, [], rfl, rfl, rfl, rfl, rfl, rfl, rfl, rfl, Nat.zero_le _, fun h => absurd rfl h⟩) ?_
  intro sa hsa
  rw [hJa] at hsa
  obtain ⟨tma, dfa, hha⟩ := sa
  obtain ⟨i, q, X, ea1, ea2, ea3, la10, la11, la43, la44, la45, hi, hq⟩ := hsa
  simp only at ea1 ea2 ea3 la10 la11 la43 la44 la45
  subst dfa; subst hha
  have elita : tma = [tma.getD 0 undef, tma.getD 1 undef, tma.getD 2 undef, tma.getD 3 undef, tma.getD 4 undef, tma.getD 5 undef, tma.getD 6 undef, tma.getD 7 undef, tma.getD 8 undef, tma.getD 9 undef, .pointer (some ⟨2 * (h.length + 1), 0, none⟩), slA (2 * (h.length + q)) i, tma.getD 12 undef, tma.getD 13 undef, tma.getD 14 undef, tma.getD 15 undef, tma.getD 16 undef, tma.getD 17 undef, tma.getD 18 undef, tma.getD 19 undef, tma.getD 20 undef, tma.getD 21 undef, tma.getD 22 undef, tma.getD 23 undef, tma.getD 24 undef, tma.getD 25 undef, tma.getD 26 undef, tma.getD 27 undef, tma.getD 28 undef, tma.getD 29 undef, tma.getD 30 undef, tma.getD 31 undef, tma.getD 32 undef, tma.getD 33 undef, tma.getD 34 undef, tma.getD 35 undef, tma.getD 36 undef, tma.getD 37 undef, tma.getD 38 undef, tma.getD 39 undef, tma.getD 40 undef, tma.getD 41 undef, tma.getD 42 undef, .slice qs S.n cs, .int .i64 S.n, .int .i64 i, tma.getD 46 undef, tma.getD 47 undef, tma.getD 48 undef, tma.getD 49 undef, tma.getD 50 undef, tma.getD 51 undef, tma.getD 52 undef, tma.getD 53 undef, tma.getD 54 undef, tma.getD 55 undef, tma.getD 56 undef, tma.getD 57 undef, tma.getD 58 undef, tma.getD 59 undef, tma.getD 60 undef, tma.getD 61 undef, tma.getD 62 undef, tma.getD 63 undef, tma.getD 64 undef, tma.getD 65 undef, tma.getD 66 undef, tma.getD 67 undef, tma.getD 68 undef, tma.getD 69 undef, tma.getD 70 undef, tma.getD 71 undef, tma.getD 72 undef, tma.getD 73 undef, tma.getD 74 undef, tma.getD 75 undef, tma.getD 76 undef, tma.getD 77 undef, tma.getD 78 undef, tma.getD 79 undef, tma.getD 80 undef, tma.getD 81 undef, tma.getD 82 undef, tma.getD 83 undef, tma.getD 84 undef, tma.getD 85 undef, tma.getD 86 undef, tma.getD 87 undef] := by
    have e0 := lit_eq ea3
    have er : List.range 88 = [0, 1, 2, 3, 4, 5, 6, 7, 8, 9, 10, 11, 12, 13, 14, 15, 16, 17, 18, 19, 20, 21, 22, 23, 24, 25, 26, 27, 28, 29, 30, 31, 32, 33, 34, 35, 36, 37, 38, 39, 40, 41, 42, 43, 44, 45, 46, 47, 48, 49, 50, 51, 52, 53, 54, 55, 56, 57, 58, 59, 60, 61, 62, 63, 64, 65, 66, 67, 68, 69, 70, 71, 72, 73, 74, 75, 76, 77, 78, 79, 80, 81, 82, 83, 84, 85, 86, 87] := by rfl
    rw [er] at e0
    simp only [List.map_cons, List.map_nil, la10, la11, la43, la44, la45] at e0
    exact e0
  rw [elita]
  clear la10
  clear la11
  clear la43
  clear la44
  clear la45
  clear elita ea3
  by_cases hin : i < S.n
  · obtain ⟨id, off, rfl, hr⟩ := hqs (by omega)
    have h1 : (i : Int) < (S.n : Int) := by omega
    have h2 : (0 : Int) ≤ (i : Int) ∧ (i : Int) < (S.n : Int) := ⟨by omega, h1⟩
    have h3 := rdl_mono (hr i hin)
    have h4 := wrap_add1 (i := i) (by omega)
    have hname : namesB pn (S.m i) (S.x i) = true := by
      have := hsec i hin
      unfold secOk secB at this
      rw [Bool.and_eq_true] at this; exact this.2
    have hx12 : ∀ j, j < S.m i → 0 ≤ S.x i j ∧ S.x i j < 12 := fun j hj => by
      have := names_in hname hj
      omega
    simp -implicitDefEqProofs only [sB, Nat.reduceAdd, Nat.reduceSub, yieldL, popK, flat, nptr, Value.cells, H.new, eq_self, Int.reduceEq, Int.reduceLT, Int.reduceLE, Nat.reduceEqDiff, Nat.reduceLeDiff, thenQ, ContK, ty2, ty3, ty4, ty5, ty22, ty23, ty24, ty27, ty64, ty77, ty79, ty123, ty126, ty127, ty130, ty132, Bool.not_true, Bool.not_false, decide_true, decide_false, if_true, if_false, unk1, unk2, z00, zn1, st123, st130, st43, h1, h2, h3]
    refine RunCall_of (mark89 I ((hs0.pt i hin).app _) hx12) ?_
    simp -implicitDefEqProofs only [sB, Nat.reduceAdd, Nat.reduceSub, yieldL, popK, flat, nptr, Value.cells, H.new, eq_self, Int.reduceEq, Int.reduceLT, Int.reduceLE, Nat.reduceEqDiff, Nat.reduceLeDiff, thenQ, ContK, ty2, ty3, ty4, ty5, ty22, ty23, ty24, ty27, ty64, ty77, ty79, ty123, ty126, ty127, ty130, ty132, Bool.not_true, Bool.not_false, decide_true, decide_false, if_true, if_false, unk1, unk2, z00, zn1, st123, st130, st43, getElem?_app_z, set_app_z]
    obtain ⟨Jb, hJb⟩ : ∃ J : St → Prop, J = fun s => ∃ (k : Nat), s.df = [] ∧ s.h = h ++ (.cells [.int .i64 pn] 3 :: .cells (arrL 12 (susF T pn)) 123 :: (X ++ [(.cells (arrL 12 (markF (S.x i) (S.m i))) 123)])) ∧ s.tm.length = 88 ∧ s.tm.getD 10 undef = .pointer (some ⟨2 * (h.length + 1), 0, none⟩) ∧ s.tm.getD 11 undef = slA (2 * (h.length + q)) i ∧ s.tm.getD 43 undef = .slice (some ⟨id, off, none⟩) S.n cs ∧ s.tm.getD 44 undef = .int .i64 S.n ∧ s.tm.getD 45 undef = .int .i64 i ∧ s.tm.getD 12 undef = .int .i64 i ∧ s.tm.getD 14 undef = .int .i64 (inC T (S.m i) (S.x i) (min k pn)) ∧ s.tm.getD 15 undef = .int .i64 ((cS T (min k pn) : Int) - inC T (S.m i) (S.x i) (min k pn)) ∧ s.tm.getD 16 undef = .pointer (some ⟨2 * (h.length + (X.length + 1 + 1)), 0, none⟩) ∧ s.tm.getD 52 undef = .agg (arrL 12 (susF T pn)).toArray ∧ s.tm.getD 53 undef = .int .i64 k ∧ (k ≤ 12) := ⟨_, rfl⟩
    refine Loop_run (by kernel_rfl) 900 Jb (muI 53 12) (by rw [hJb]; exact ⟨0, rfl, rfl, rfl, rfl, rfl, rfl, rfl, rfl, rfl, by rw [show min 0 pn = 0 by omega]; rfl, by rw [show min 0 pn = 0 by omega]; rfl, rfl, rfl, rfl, by omega⟩) ?_
    intro sb hsb
    rw [hJb] at hsb
    obtain ⟨tmb, dfb, hhb⟩ := sb
    obtain ⟨k, eb1, eb2, eb3, lb10, lb11, lb43, lb44, lb45, lb12, lb14, lb15, lb16, lb52, lb53, hk⟩ := hsb
    simp only at eb1 eb2 eb3 lb10 lb11 lb43 lb44 lb45 lb12 lb14 lb15 lb16 lb52 lb53
    subst dfb; subst hhb
    have elitb : tmb = [tmb.getD 0 undef, tmb.getD 1 undef, tmb.getD 2 undef, tmb.getD 3 undef, tmb.getD 4 undef, tmb.getD 5 undef, tmb.getD 6 undef, tmb.getD 7 undef, tmb.getD 8 undef, tmb.getD 9 undef, .pointer (some ⟨2 * (h.length + 1), 0, none⟩), slA (2 * (h.length + q)) i, .int .i64 i, tmb.getD 13 undef, .int .i64 (inC T (S.m i) (S.x i) (min k pn)), .int .i64 ((cS T (min k pn) : Int) - inC T (S.m i) (S.x i) (min k pn)), .pointer (some ⟨2 * (h.length + (X.length + 1 + 1)), 0, none⟩), tmb.getD 17 undef, tmb.getD 18 undef, tmb.getD 19 undef, tmb.getD 20 undef, tmb.getD 21 undef, tmb.getD 22 undef, tmb.getD 23 undef, tmb.getD 24 undef, tmb.getD 25 undef, tmb.getD 26 undef, tmb.getD 27 undef, tmb.getD 28 undef, tmb.getD 29 undef, tmb.getD 30 undef, tmb.getD 31 undef, tmb.getD 32 undef, tmb.getD 33 undef, tmb.getD 34 undef, tmb.getD 35 undef, tmb.getD 36 undef, tmb.getD 37 undef, tmb.getD 38 undef, tmb.getD 39 undef, tmb.getD 40 undef, tmb.getD 41 undef, tmb.getD 42 undef, .slice (some ⟨id, off, none⟩) S.n cs, .int .i64 S.n, .int .i64 i, tmb.getD 46 undef, tmb.getD 47 undef, tmb.getD 48 undef, tmb.getD 49 undef, tmb.getD 50 undef, tmb.getD 51 undef, .agg (arrL 12 (susF T pn)).toArray, .int .i64 k, tmb.getD 54 undef, tmb.getD 55 undef, tmb.getD 56 undef, tmb.getD 57 undef, tmb.getD 58 undef, tmb.getD 59 undef, tmb.getD 60 undef, tmb.getD 61 undef, tmb.getD 62 undef, tmb.getD 63 undef, tmb.getD 64 undef, tmb.getD 65 undef, tmb.getD 66 undef, tmb.getD 67 undef, tmb.getD 68 undef, tmb.getD 69 undef, tmb.getD 70 undef, tmb.getD 71 undef, tmb.getD 72 undef, tmb.getD 73 undef, tmb.getD 74 undef, tmb.getD 75 undef, tmb.getD 76 undef, tmb.getD 77 undef, tmb.getD 78 undef, tmb.getD 79 undef, tmb.getD 80 undef, tmb.getD 81 undef, tmb.getD 82 undef, tmb.getD 83 undef, tmb.getD 84 undef, tmb.getD 85 undef, tmb.getD 86 undef, tmb.getD 87 undef] := by
      have e0 := lit_eq eb3
      have er : List.range 88 = [0, 1, 2, 3, 4, 5, 6, 7, 8, 9, 10, 11, 12, 13, 14, 15, 16, 17, 18, 19, 20, 21, 22, 23, 24, 25, 26, 27, 28, 29, 30, 31, 32, 33, 34, 35, 36, 37, 38, 39, 40, 41, 42, 43, 44, 45, 46, 47, 48, 49, 50, 51, 52, 53, 54, 55, 56, 57, 58, 59, 60, 61, 62, 63, 64, 65, 66, 67, 68, 69, 70, 71, 72, 73, 74, 75, 76, 77, 78, 79, 80, 81, 82, 83, 84, 85, 86, 87] := by rfl
      rw [er] at e0
      simp only [List.map_cons, List.map_nil, lb10, lb11, lb43, lb44, lb45, lb12, lb14, lb15, lb16, lb52, lb53] at e0
      exact e0
    rw [elitb]
    clear lb10
    clear lb11
    clear lb43
    clear lb44
    clear lb45
    clear lb12
    clear lb14
    clear lb15
    clear lb16
    clear lb52
    clear lb53
    clear elitb eb3
    by_cases hkn : k < 12
    · have k1 : (k : Int) < 12 := by omega
      have k2 : (0 : Int) ≤ (k : Int) ∧ (k : Int) < ((12 : Nat) : Int) := ⟨by omega, by omega⟩
      have k4 := wrap_add1 (i := k) (by omega)
      obtain ⟨s1, s2⟩ := step_in (T := T) (pn := pn) (k := k) (m := S.m i) (x := S.x i) (fun j hj => (hx12 j hj).1)
      have hm01 : markF (S.x i) (S.m i) k = 0 ∨ markF (S.x i) (S.m i) k = 1 := by
        rw [markF_01 (fun j hj => (hx12 j hj).1)]; split <;> simp
      have hs01 : susF T pn k = 0 ∨ susF T pn k = 1 := by unfold susF; split <;> simp
      have b1 := inC_le T (S.m i) (S.x i) (min k pn)
      have b2 := cS_le T (min k pn)
      have b3 := inC_le T (S.m i) (S.x i) (min (k + 1) pn)
      have b4 := cS_le T (min (k + 1) pn)
      have hpr : 0 ≤ susF T pn k * markF (S.x i) (S.m i) k ∧ susF T pn k * markF (S.x i) (S.m i) k ≤ 1 ∧ 0 ≤ susF T pn k * (1 - markF (S.x i) (S.m i) k) ∧ susF T pn k * (1 - markF (S.x i) (S.m i) k) ≤ 1 := by
        rcases hm01 with e1 | e1 <;> rcases hs01 with e2 | e2 <;> rw [e1, e2] <;> simp
      have w1 : IntKind.i64.wrap (susF T pn k * markF (S.x i) (S.m i) k) = susF T pn k * markF (S.x i) (S.m i) k := wrap_i64 (by omega) (by omega)
      have w2 : IntKind.i64.wrap ((inC T (S.m i) (S.x i) (min k pn) : Int) + susF T pn k * markF (S.x i) (S.m i) k) = (inC T (S.m i) (S.x i) (min (k + 1) pn) : Int) := by rw [s1]; exact wrap_i64 (by omega) (by omega)
      have w3 : IntKind.i64.wrap (1 - markF (S.x i) (S.m i) k) = 1 - markF (S.x i) (S.m i) k := wrap_i64 (by omega) (by omega)
      have w4 : IntKind.i64.wrap (susF T pn k * (1 - markF (S.x i) (S.m i) k)) = susF T pn k * (1 - markF (S.x i) (S.m i) k) := wrap_i64 (by omega) (by omega)
      have w5 : IntKind.i64.wrap ((cS T (min k pn) : Int) - inC T (S.m i) (S.x i) (min k pn) + susF T pn k * (1 - markF (S.x i) (S.m i) k)) = (cS T (min (k + 1) pn) : Int) - inC T (S.m i) (S.x i) (min (k + 1) pn) := by rw [s2]; exact wrap_i64 (by omega) (by omega)
      have hmk : rdB (some (.cells (arrL 12 (markF (S.x i) (S.m i))) 123)) k 1 = some [.int .i64 (markF (S.x i) (S.m i) k)] := by rw [rdB_cells (by rw [arrL_length]; omega), arrL_part 12 _ hkn]
      simp -implicitDefEqProofs only [sB, Nat.reduceAdd, Nat.reduceSub, yieldL, popK, flat, nptr, Value.cells, H.new, eq_self, Int.reduceEq, Int.reduceLT, Int.reduceLE, Nat.reduceEqDiff, Nat.reduceLeDiff, thenQ, ContK, ty2, ty3, ty4, ty5, ty22, ty23, ty24, ty27, ty64, ty77, ty79, ty123, ty126, ty127, ty130, ty132, Bool.not_true, Bool.not_false, decide_true, decide_false, if_true, if_false, unk1, unk2, z00, zn1, st123, st130, st43, k1, k2, k4, ax123 hkn, getElem?_app_z, hmk, w1, w2, w3, w4, w5]
      refine ⟨by rw [hJb]; exact ⟨k + 1, rfl, rfl, rfl, rfl, rfl, rfl, rfl, rfl, rfl, rfl, rfl, rfl, rfl, rfl, by omega⟩, ?_⟩
      show 12 - ((k + 1 : Nat) : Int).toNat < 12 - (k : Int).toNat
      omega
    · have k1 : ¬ (k : Int) < 12 := by omega
      have hkp : min k pn = pn := by omega
      have hlf : max (inC T (S.m i) (S.x i) pn : Int) ((cS T pn : Int) - inC T (S.m i) (S.x i) pn) = leftS T pn S i := rfl
      have hq1 : i ≠ 0 → q < ((.cells [.int .i64 pn] 3 :: .cells (arrL 12 (susF T pn)) 123 :: X) : H).length := fun h => (List.getElem?_eq_some_iff.1 (hq h).2).1
      have hA := app127 (I := I) (h := h) (X := (.cells [.int .i64 pn] 3 :: .cells (arrL 12 (susF T pn)) 123 :: (X ++ [(.cells (arrL 12 (markF (S.x i) (S.m i))) 123), .cells [.int .i64 i, .int .i64 (leftS T pn S i)] 130]))) (q := q) (m := i) (p := X.length + 1 + 1 + 1) (A := (fun i => (i : Int))) (Bf := (leftS T pn S)) (fun h => by
        have := getElem?_app_lt (m := [(.cells (arrL 12 (markF (S.x i) (S.m i))) 123), .cells [.int .i64 i, .int .i64 (leftS T pn S i)] 130]) (hq h).2
        simpa using this) (by simp) (by omega)
      rw [killL_cons2 (fun h => (hq h).1)] at hA
      simp only [List.length_append, List.append_assoc, List.cons_append, List.nil_append, List.length_cons, List.length_nil, killL_len, Nat.reduceAdd] at hA
      have eN : X.length + (2 + 1 + 1) = X.length + 4 := by omega
      simp -implicitDefEqProofs only [sB, Nat.reduceAdd, Nat.reduceSub, yieldL, popK, flat, nptr, Value.cells, H.new, eq_self, Int.reduceEq, Int.reduceLT, Int.reduceLE, Nat.reduceEqDiff, Nat.reduceLeDiff, thenQ, ContK, ty2, ty3, ty4, ty5, ty22, ty23, ty24, ty27, ty64, ty77, ty79, ty123, ty126, ty127, ty130, ty132, Bool.not_true, Bool.not_false, decide_true, decide_false, if_true, if_false, unk1, unk2, z00, zn1, st123, st130, st43, k1, hkp, hlf, bl130, bs127_1, h4, hA]
      refine ⟨by rw [hJa]; exact ⟨i + 1, X.length + 2 + 1 + 1, _, rfl, rfl, rfl, rfl, rfl, rfl, rfl, rfl, by omega, fun _ => ⟨by omega, by rw [show X.length + 2 + 1 + 1 = (X.length + 2) + 1 + 1 by omega, List.getElem?_cons_succ, List.getElem?_cons_succ, List.getElem?_append_right (by rw [killL_len]; simp), killL_len]; simp⟩⟩, ?_⟩
      show S.n - ((i + 1 : Nat) : Int).toNat < S.n - (i : Int).toNat
      omega
  · have hin' : i = S.n := by omega
    have h1 : ¬ (i : Int) < (S.n : Int) := by omega
    obtain ⟨hq0, hq1⟩ := hq (by omega)
    obtain ⟨n', hn'⟩ : ∃ n', S.n = n' + 1 := ⟨S.n - 1, by omega⟩
    have hle := least90 I (h := h ++ (.cells [.int .i64 pn] 3 :: .cells (arrL 12 (susF T pn)) 123 :: X)) (id := 2 * (h.length + q)) (n := n') (A := (fun i => (i : Int))) (Bf := (leftS T pn S)) (by rw [get_k, hq1, hin', hn']) (by omega)
    have hsl : slA (2 * (h.length + q)) i = .slice (some ⟨2 * (h.length + q), 0, none⟩) (n' + 1) UNK := by rw [slA_pos (by omega), hin', hn']
    rw [show S.n - 1 = n' by omega] at hV
    rw [hV]
    simp -implicitDefEqProofs only [sB, Nat.reduceAdd, Nat.reduceSub, yieldL, popK, flat, nptr, Value.cells, H.new, eq_self, Int.reduceEq, Int.reduceLT, Int.reduceLE, Nat.reduceEqDiff, Nat.reduceLeDiff, thenQ, ContK, ty2, ty3, ty4, ty5, ty22, ty23, ty24, ty27, ty64, ty77, ty79, ty123, ty126, ty127, ty130, ty132, Bool.not_true, Bool.not_false, decide_true, decide_false, if_true, if_false, unk1, unk2, z00, zn1, st123, st130, st43, h1, hsl]
    refine RunCall_of hle ?_
    simp -implicitDefEqProofs only [sB, Nat.reduceAdd, Nat.reduceSub, yieldL, popK, flat, nptr, Value.cells, H.new, eq_self, Int.reduceEq, Int.reduceLT, Int.reduceLE, Nat.reduceEqDiff, Nat.reduceLeDiff, thenQ, ContK, ty2, ty3, ty4, ty5, ty22, ty23, ty24, ty27, ty64, ty77, ty79, ty123, ty126, ty127, ty130, ty132, sD, mixT, isAlloc, ridOf, blockOf, Bool.not_true, Bool.not_false, decide_true, decide_false, if_true, if_false, unk1, unk2, z00, zn1, st123, st130, st43, getElem?_app_z, set_app_z]
    exact ⟨drawOk_ren (fun _ => 0) rfl (by kernel_rfl), ⟨_, rfl⟩, rfl⟩
end Go.Proofs.Ytpgignenhiddkaa
