/- The examples of the chapter: a closed call, run by the kernel, the long ones each by itself. (own texts put together: T9) -/
import Derived.Test.YtcocmbccfikmhaaM7
import Derived.Test.YtcocmbccfikmhaaM3
namespace Go.Proofs.Ytcocmbccfikmhaa
open Go.Sym
noncomputable def named (g : Nat) : Bool := match Try.prog.funcs[g]? with | some fn => !(fn.name == "runtime.NumGoroutine") | none => true
theorem named_all : (List.range 90).all named = true := by kernel_rfl
noncomputable def X0 : Kit := ⟨Try.prog, fun _ => none, fun g => match Nat.blt g 90 with | true => Try.prog.funcs[g]? | false => none, spMin, fun _ _ _ => none⟩
theorem X_fn (g : Nat) (fn : Func) (h : (match Nat.blt g 90 with | true => Try.prog.funcs[g]? | false => none) = some fn) : Try.prog.funcs[g]? = some fn ∧ fn.name ≠ "runtime.NumGoroutine" := by
  split at h
  · rename_i hg
    refine ⟨h, ?_⟩
    have := List.all_eq_true.1 named_all g (List.mem_range.2 (by simpa using hg))
    unfold named at this
    rw [h] at this
    simpa using this
  · cases h
theorem X0_ok : X0.Ok where
  fn := X_fn
  mixed := by kernel_rfl
  sp := fun n l al h l' al' h' hs tm r => spMin_ok _ n l al h l' al' h' hs tm r
  mem := by intro g args h v hm; cases hm
def saysAt (X : Kit) (n : Nat) (g : FuncId) (args : List Value) (h : H) (v : Value) : Bool :=
  match exec X n (.fn (.func g) args h) with
  | some (.val u h') => eqV u v && eqH h' h
  | _ => false
theorem Snd_saysAt {X : Kit} (ok : X.Ok) {n : Nat} {g : FuncId} {args : List Value} {h : H} {v : Value} (hs : saysAt X n g args h v = true) : Snd X.P X.I (.func g) args h v h := by
  unfold saysAt at hs
  split at hs
  · rename_i u h' he
    simp only [Bool.and_eq_true] at hs
    have e1 := eqV_eq _ _ hs.1
    have e2 := eqH_eq _ _ hs.2
    subst e1; subst e2
    exact (exec_sound ok n).fn _ _ _ _ _ he
  · cases hs
/-- the heap behind 'Tank()' -/
def hT : H := [.cells [.slice (some ⟨2, 0, none⟩) 4 4, .int .i64 0] 24, .cells [.int .i64 0, .int .i64 0, .int .i64 0, .int .i64 100, .int .i64 380, .int .i64 420, .int .i64 200, .int .i64 400, .int .i64 900, .int .i64 400, .int .i64 1900, .int .i64 2100] 64]
theorem ent0 : Snd Try.prog (fun _ => none) (.func 12) [.agg #[.slice (some ⟨2, 0, none⟩) 4 4, .int .i64 0], .int .i64 1, .int .i64 3] hT (.tuple #[.agg #[.int .i64 1480, .int .i64 1720], .int .i64 0]) hT := Snd_saysAt (X := X0) (n := 1000) X0_ok (by kernel_rfl)
theorem ent1 : Snd Try.prog (fun _ => none) (.func 14) [.agg #[.slice (some ⟨2, 0, none⟩) 4 4, .int .i64 0], .int .i64 500] hT (.tuple #[.agg #[.int .i64 117, .int .i64 213], .int .i64 0]) hT := Snd_saysAt (X := X0) (n := 1000) X0_ok (by kernel_rfl)
theorem ent2 : Snd Try.prog (fun _ => none) (.func 14) [.agg #[.slice (some ⟨2, 0, none⟩) 4 4, .int .i64 0], .int .i64 2200] hT (.tuple #[.agg #[.int .i64 0, .int .i64 0], .int .i64 17]) hT := Snd_saysAt (X := X0) (n := 1000) X0_ok (by kernel_rfl)
theorem ent3 : Snd Try.prog (fun _ => none) (.func 59) [.agg #[.slice (some ⟨2, 0, none⟩) 4 4, .int .i64 0], .int .i64 50, .int .i64 300] hT (.tuple #[.agg #[.int .i64 50, .int .i64 300, .int .i64 0, .int .i64 400, .int .i64 400, .int .i64 1900, .int .i64 0, .int .i64 0, .int .i64 0, .int .i64 0, .int .i64 0, .int .i64 0, .int .i64 0, .int .i64 0, .int .i64 0, .int .i64 0, .int .i64 0, .int .i64 0, .int .i64 950, .int .i64 1, .int .i64 50, .int .i64 300, .int .i64 0, .int .i64 380, .int .i64 900, .int .i64 2100, .int .i64 0, .int .i64 0, .int .i64 0, .int .i64 0, .int .i64 0, .int .i64 0, .int .i64 0, .int .i64 0, .int .i64 0, .int .i64 0, .int .i64 0, .int .i64 0, .int .i64 1310, .int .i64 1], .int .i64 0]) hT := Snd_saysAt (X := X0) (n := 1000) X0_ok (by kernel_rfl)
structure Ent where
  g : Nat
  args : List Value
  v : Value
def ents : List Ent := [⟨12, [.agg #[.slice (some ⟨2, 0, none⟩) 4 4, .int .i64 0], .int .i64 1, .int .i64 3], .tuple #[.agg #[.int .i64 1480, .int .i64 1720], .int .i64 0]⟩, ⟨14, [.agg #[.slice (some ⟨2, 0, none⟩) 4 4, .int .i64 0], .int .i64 500], .tuple #[.agg #[.int .i64 117, .int .i64 213], .int .i64 0]⟩, ⟨14, [.agg #[.slice (some ⟨2, 0, none⟩) 4 4, .int .i64 0], .int .i64 2200], .tuple #[.agg #[.int .i64 0, .int .i64 0], .int .i64 17]⟩, ⟨59, [.agg #[.slice (some ⟨2, 0, none⟩) 4 4, .int .i64 0], .int .i64 50, .int .i64 300], .tuple #[.agg #[.int .i64 50, .int .i64 300, .int .i64 0, .int .i64 400, .int .i64 400, .int .i64 1900, .int .i64 0, .int .i64 0, .int .i64 0, .int .i64 0, .int .i64 0, .int .i64 0, .int .i64 0, .int .i64 0, .int .i64 0, .int .i64 0, .int .i64 0, .int .i64 0, .int .i64 950, .int .i64 1, .int .i64 50, .int .i64 300, .int .i64 0, .int .i64 380, .int .i64 900, .int .i64 2100, .int .i64 0, .int .i64 0, .int .i64 0, .int .i64 0, .int .i64 0, .int .i64 0, .int .i64 0, .int .i64 0, .int .i64 0, .int .i64 0, .int .i64 0, .int .i64 0, .int .i64 1310, .int .i64 1], .int .i64 0]⟩]
theorem ents_ok : ∀ e ∈ ents, Snd Try.prog (fun _ => none) (.func e.g) e.args hT e.v hT := by
  intro e he
  simp only [ents, List.mem_cons, List.not_mem_nil, or_false] at he
  rcases he with rfl | rfl | rfl | rfl
  · exact ent0
  · exact ent1
  · exact ent2
  · exact ent3
theorem ents_closed : ents.all (fun e => closedL (okN 2) e.args && flat e.v) = true := by kernel_rfl
theorem hT_closed : hT.all (closedB (okN 2)) = true := by kernel_rfl
def memE (g : Nat) (args : List Value) (h : H) : Option Value :=
  match Nat.beq g 12 || Nat.beq g 14 || Nat.beq g 59 with
  | true =>
    match ents.find? fun e => Nat.beq e.g g && eqL e.args args with
    | some e => (match eqH (h.take 2) hT with | true => some e.v | false => none)
    | none => none
  | false => none
theorem memE_ok (g : Nat) (args : List Value) (h : H) (v : Value) (hm : memE g args h = some v) : Snd Try.prog (fun _ => none) (.func g) args h v h := by
  unfold memE at hm
  split at hm
  · split at hm
    · rename_i e he
      split at hm
      · rename_i hh
        cases hm
        have h1 := List.find?_some he
        simp only [Bool.and_eq_true, Nat.beq_eq] at h1
        have h2 := eqL_eq _ _ h1.2
        have h3 := eqH_eq _ _ hh
        have hme := List.mem_of_find?_eq_some he
        have h4 := List.all_eq_true.1 ents_closed e hme
        simp only [Bool.and_eq_true] at h4
        have hs := (ents_ok e hme).front h4.1 h4.2 hT_closed (h.drop 2)
        have h5 : hT ++ h.drop 2 = h := by rw [← h3]; exact List.take_append_drop 2 h
        rw [h5, h1.1, h2] at hs
        exact hs
      · cases hm
    · cases hm
  · cases hm
noncomputable def X : Kit := ⟨Try.prog, fun _ => none, fun g => match Nat.blt g 90 with | true => Try.prog.funcs[g]? | false => none, spMin, memE⟩
theorem X_ok : X.Ok where
  fn := X_fn
  mixed := by kernel_rfl
  sp := fun n l al h l' al' h' hs tm r => spMin_ok _ n l al h l' al' h' hs tm r
  mem := memE_ok
theorem works9 (I : Nat → Option Obj) (h : H) : Snd Try.prog I (.func 9) [] h (.bool true) h :=
  Snd_says (X := X) (n := 1000) X_ok rfl (by kernel_rfl) (by kernel_rfl) (by kernel_rfl) I h
end Go.Proofs.Ytcocmbccfikmhaa
