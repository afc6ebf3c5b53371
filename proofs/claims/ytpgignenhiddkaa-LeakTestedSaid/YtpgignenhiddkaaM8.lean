/- The examples of the chapter: closed calls, run by the kernel, the long ones each by itself. (own texts put together: T9) -/
import Derived.Test.YtpgignenhiddkaaProg
import Derived.KernelRfl
import Derived.Test.YtpgignenhiddkaaM3
import Derived.Test.YtpgignenhiddkaaM7
set_option maxRecDepth 100000
namespace Go.Proofs.Ytpgignenhiddkaa
open Go.Sym
noncomputable def named (g : Nat) : Bool := match Try.prog.funcs[g]? with | some fn => !(fn.name == "runtime.NumGoroutine") | none => true
theorem named_all : (List.range 119).all named = true := by kernel_rfl
noncomputable def fnAt : Nat → Option Func := fun g => match Nat.blt g 119 with | true => Try.prog.funcs[g]? | false => none
theorem X_fn (g : Nat) (fn : Func) (h : fnAt g = some fn) : Try.prog.funcs[g]? = some fn ∧ fn.name ≠ "runtime.NumGoroutine" := by
  unfold fnAt at h
  split at h
  · rename_i hg
    refine ⟨h, ?_⟩
    have := List.all_eq_true.1 named_all g (List.mem_range.2 (by simpa using hg))
    unfold named at this
    rw [h] at this
    simpa using this
  · cases h
noncomputable def X0 : Kit := ⟨Try.prog, fun _ => none, fnAt, fun _ _ _ _ => none, memE⟩
theorem X0_ok : X0.Ok where
  fn := X_fn
  mixed := by kernel_rfl
  sp := fun n l al h l' al' h' hs => by cases hs
  mem := memE_ok
def saysAt (X : Kit) (n : Nat) (g : FuncId) (args : List Value) (h : H) (v : Value) : Bool :=
  match exec X n (.fn (.func g) args h) with
  | some (.val u h') => eqV u v && eqH h' h
  | _ => false
theorem Snd_saysAt {X : Kit} (ok : X.Ok) {n : Nat} {g : FuncId} {args : List Value} {h : H} {v : Value} (hs : saysAt X n g args h v = true) : Snd X.P X.I (.func g) args h v h := by
  unfold saysAt at hs
  split at hs
  · rename_i u h' he
    simp only [Bool.and_eq_true] at hs
    have e1 := eqV_eq _ _ hs.1
    have e2 := eqH_eq _ _ hs.2
    subst e1; subst e2
    exact (exec_sound ok n).fn _ _ _ _ _ he
  · cases hs
/-- the heap behind 'Sheet()' -/
def hT : H := [.cells [.int .i64 0, .int .i64 0, .int .i64 10, .int .i64 60, .int .i64 5, .int .i64 12, .int .i64 120, .int .i64 14, .int .i64 20, .int .i64 180, .int .i64 29, .int .i64 35] 45]
end Go.Proofs.Ytpgignenhiddkaa
