/- The examples of the chapter: Works answers true, and so does LeakKnown. (own texts put together: T9w) -/
import Derived.Test.YtpgignenhiddkaaM8e0
import Derived.Test.YtpgignenhiddkaaM8e1
import Derived.Test.YtpgignenhiddkaaM8e2
import Derived.Test.YtpgignenhiddkaaM8e3
import Derived.Test.YtpgignenhiddkaaM8e4
import Derived.Test.YtpgignenhiddkaaM8e5
import Derived.Test.YtpgignenhiddkaaM8e6
import Derived.Test.YtpgignenhiddkaaM8e7
set_option maxRecDepth 100000
namespace Go.Proofs.Ytpgignenhiddkaa
open Go.Sym
structure Ent where
  g : Nat
  args : List Value
  v : Value
def ents : List Ent := [⟨30, [.slice (some ⟨0, 0, none⟩) 4 4], .tuple #[.agg #[.int .i64 3, .int .i64 20], .agg #[.int .i64 1, .int .i64 6], .int .i64 0]⟩, ⟨16, [.slice (some ⟨0, 0, none⟩) 4 4, .int .i64 240], .tuple #[.agg #[.int .i64 38, .int .i64 1], .agg #[.int .i64 40, .int .i64 1], .int .i64 0]⟩, ⟨22, [.slice (some ⟨0, 0, none⟩) 4 4, .agg #[.int .i64 1, .int .i64 10]], .int .i64 18⟩, ⟨22, [.slice (some ⟨0, 0, none⟩) 4 4, .agg #[.int .i64 3, .int .i64 20]], .int .i64 0⟩, ⟨18, [.slice (some ⟨0, 0, none⟩) 4 4, .agg #[.int .i64 1, .int .i64 10]], .tuple #[.int .i64 4, .int .i64 0]⟩, ⟨16, [.slice (some ⟨0, 0, none⟩) 4 4, .int .i64 0], .tuple #[.agg #[.int .i64 0, .int .i64 1], .agg #[.int .i64 2, .int .i64 1], .int .i64 0]⟩, ⟨18, [.slice (some ⟨0, 0, none⟩) 4 4, .agg #[.int .i64 1, .int .i64 100]], .tuple #[.int .i64 3, .int .i64 0]⟩, ⟨18, [.slice (some ⟨0, 0, none⟩) 4 4, .agg #[.int .i64 1, .int .i64 6]], .tuple #[.int .i64 0, .int .i64 5]⟩]
theorem ents_ok : ∀ e ∈ ents, Snd Try.prog (fun _ => none) (.func e.g) e.args hT e.v hT := by
  intro e he
  simp only [ents, List.mem_cons, List.not_mem_nil, or_false] at he
  rcases he with rfl | rfl | rfl | rfl | rfl | rfl | rfl | rfl
  · exact ent0
  · exact ent1
  · exact ent2
  · exact ent3
  · exact ent4
  · exact ent5
  · exact ent6
  · exact ent7
theorem ents_closed : ents.all (fun e => closedL (okN 1) e.args && flat e.v) = true := by kernel_rfl
theorem hT_closed : hT.all (closedB (okN 1)) = true := by kernel_rfl
def memF (g : Nat) (args : List Value) (h : H) : Option Value :=
  match Nat.beq g 16 || Nat.beq g 18 || Nat.beq g 22 || Nat.beq g 30 with
  | true =>
    match ents.find? fun e => Nat.beq e.g g && eqL e.args args with
    | some e => (match eqH (h.take 1) hT with | true => some e.v | false => none)
    | none => none
  | false => memE g args h
theorem memF_ok (g : Nat) (args : List Value) (h : H) (v : Value) (hm : memF g args h = some v) : Snd Try.prog (fun _ => none) (.func g) args h v h := by
  unfold memF at hm
  split at hm
  · split at hm
    · rename_i e he
      split at hm
      · rename_i hh
        cases hm
        have h1 := List.find?_some he
        simp only [Bool.and_eq_true, Nat.beq_eq] at h1
        have h2 := eqL_eq _ _ h1.2
        have h3 := eqH_eq _ _ hh
        have hme := List.mem_of_find?_eq_some he
        have h4 := List.all_eq_true.1 ents_closed e hme
        simp only [Bool.and_eq_true] at h4
        have hs := (ents_ok e hme).front h4.1 h4.2 hT_closed (h.drop 1)
        have h5 : hT ++ h.drop 1 = h := by rw [← h3]; exact List.take_append_drop 1 h
        rw [h5, h1.1, h2] at hs
        exact hs
      · cases hm
    · cases hm
  · exact memE_ok g args h v hm
noncomputable def X : Kit := ⟨Try.prog, fun _ => none, fnAt, fun _ _ _ _ => none, memF⟩
theorem X_ok : X.Ok where
  fn := X_fn
  mixed := by kernel_rfl
  sp := fun n l al h l' al' h' hs => by cases hs
  mem := memF_ok
theorem works15 (I : Nat → Option Obj) (h : H) : Snd Try.prog I (.func 15) [] h (.bool true) h :=
  Snd_says (X := X) (n := 1000) X_ok rfl (by kernel_rfl) (by kernel_rfl) (by kernel_rfl) I h
def memG (g : Nat) (args : List Value) (h : H) : Option Value :=
  match Nat.beq g 15, args with
  | true, [] => some (.bool true)
  | _, _ => memF g args h
theorem memG_ok (g : Nat) (args : List Value) (h : H) (v : Value) (hm : memG g args h = some v) : Snd Try.prog (fun _ => none) (.func g) args h v h := by
  unfold memG at hm
  split at hm
  · rename_i hg
    rw [Nat.beq_eq] at hg
    subst hg
    cases hm
    exact works15 _ h
  · exact memF_ok _ _ h v hm
noncomputable def Y : Kit := ⟨Try.prog, fun _ => none, fnAt, fun _ _ _ _ => none, memG⟩
theorem Y_ok : Y.Ok where
  fn := X_fn
  mixed := by kernel_rfl
  sp := fun n l al h l' al' h' hs => by cases hs
  mem := memG_ok
theorem leakKnown8 (I : Nat → Option Obj) (h : H) : Snd Try.prog I (.func 8) [] h (.bool true) h :=
  Snd_says (X := Y) (n := 1000) Y_ok rfl (by kernel_rfl) (by kernel_rfl) (by kernel_rfl) I h
end Go.Proofs.Ytpgignenhiddkaa
