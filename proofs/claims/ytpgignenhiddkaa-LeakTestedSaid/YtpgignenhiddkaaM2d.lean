/- Lemmas for the simplifier: one for each kind of operation of a region that draws. No program is named here. (own texts put together: SymNd) -/
import Derived.Test.YtpgignenhiddkaaM2c
namespace Go.Sym
section
variable (P : Program) (I : Nat → Option Obj) (ro : Option Nat)
def RunDS (c : Ct) (x : Option (Value × H)) (n : Nat) (ops : List Oper) (N0 j : Nat) (dst : Option Tmp) (rest : List Oper) (acc : List Ct) (k : List K) (Q : Exit → St → Prop) (tm : List Value) (df : List Nat) (h : H) : Prop :=
  match x with
  | some (v, h') => h' = h ∧ Run P I ro n (.dops ops N0 (j + 1) rest (c :: acc) :: k) Q ⟨putT tm dst v, df, h⟩
  | none => False
def RunDA (x : Option (Value × Blk)) (rid : Nat) (n : Nat) (ops : List Oper) (N0 j : Nat) (dst : Option Tmp) (rest : List Oper) (acc : List Ct) (k : List K) (Q : Exit → St → Prop) (tm : List Value) (df : List Nat) (h : H) : Prop :=
  match x with
  | some (v, B) => h.get rid = some .dead ∧ Run P I ro n (.dops ops N0 (j + 1) rest (.alloc :: acc) :: k) Q ⟨putT tm dst v, df, h.put rid B⟩
  | none => False
def RunDE (wr : Option Nat) (x : Option (Value × H)) (n : Nat) (ops : List Oper) (N0 j : Nat) (dst : Option Tmp) (rest : List Oper) (acc : List Ct) (k : List K) (Q : Exit → St → Prop) (tm : List Value) (df : List Nat) (h : H) : Prop :=
  match x with
  | some (v, h') => effOk ops N0 j h h' ∧ Run P I ro n (.dops ops N0 (j + 1) rest (.eff wr :: acc) :: k) Q ⟨putT tm dst v, df, h'⟩
  | none => False
def RunDC (x : Option (Fn × List Value)) (n : Nat) (ops : List Oper) (N0 j : Nat) (dst : Option Tmp) (rest : List Oper) (acc : List Ct) (k : List K) (Q : Exit → St → Prop) (tm : List Value) (df : List Nat) (h : H) : Prop :=
  ∃ fn args v h', x = some (fn, args) ∧ Snd P I fn args h v h' ∧ ((h' = h ∧ flat v = true ∧ Run P I ro n (.dops ops N0 (j + 1) rest (.quiet :: acc) :: k) Q ⟨putT tm dst v, df, h⟩) ∨
    (∃ w, (∀ a, w = some a → ∀ i, i ≠ a → (i % 2 = 0 → i < h.new) → h'.get i = h.get i) ∧ effOk ops N0 j h h' ∧ Run P I ro n (.dops ops N0 (j + 1) rest (.eff w :: acc) :: k) Q ⟨putT tm dst v, df, h'⟩))
def RunDG (b : Option Bool) (want : Bool) (n : Nat) (ops : List Oper) (N0 j : Nat) (o : Oper) (rest : List Oper) (acc : List Ct) (k : List K) (Q : Exit → St → Prop) (s : St) : Prop :=
  if b = some want then Run P I ro (n + 1) (.dops ops N0 j (o :: rest) acc :: k) Q s else Run P I ro n (.dops ops N0 (j + 1) rest (.pure :: acc) :: k) Q ⟨putT s.tm o.dst undef, s.df, s.h⟩
end

section
variable {P : Program} {I : Nat → Option Obj} {ro : Option Nat} {n : Nat} {k : List K} {Q : Exit → St → Prop} {s : St} {tm : List Value} {df : List Nat} {h : H} {ops rest : List Oper}
variable {dst : Option Tmp} {ty : TypeId} {pos : String} {aft : Array Edge} {N0 j : Nat} {acc : List Ct}

theorem Rd_pure {op : Op} (h1 : isCall op = false) (h2 : isAlloc op = false) (h3 : isPure op = true) : Run P I ro (n + 1) (.dops ops N0 j (⟨dst, op, ty, pos, aft, none⟩ :: rest) acc :: k) Q ⟨tm, df, h⟩ = RunDS P I ro .pure (stepOp P I tm h ty op) n ops N0 j dst rest acc k Q tm df h := by
  show step1 P I ro (Run P I ro n) _ Q _ = _
  unfold step1 RunDS goD
  simp only [h1, h2, h3, Bool.false_eq_true, if_false, if_true]
  cases stepOp P I tm h ty op <;> rfl
theorem Rd_read {op : Op} (h1 : isCall op = false) (h2 : isAlloc op = false) (h3 : isPure op = false) (h4 : isRead op = true) : Run P I ro (n + 1) (.dops ops N0 j (⟨dst, op, ty, pos, aft, none⟩ :: rest) acc :: k) Q ⟨tm, df, h⟩ = RunDS P I ro (.read (rdId tm op)) (stepOp P I tm h ty op) n ops N0 j dst rest acc k Q tm df h := by
  show step1 P I ro (Run P I ro n) _ Q _ = _
  unfold step1 RunDS goD
  simp only [h1, h2, h3, h4, Bool.false_eq_true, if_false, if_true]
  cases stepOp P I tm h ty op <;> rfl
theorem Rd_eff {op : Op} (h1 : isCall op = false) (h2 : isAlloc op = false) (h3 : isPure op = false) (h4 : isRead op = false) : Run P I ro (n + 1) (.dops ops N0 j (⟨dst, op, ty, pos, aft, none⟩ :: rest) acc :: k) Q ⟨tm, df, h⟩ = RunDE P I ro (wrId tm op) (step2 P I tm h ty op) n ops N0 j dst rest acc k Q tm df h := by
  show step1 P I ro (Run P I ro n) _ Q _ = _
  unfold step1 RunDE goD
  simp only [h1, h2, h3, h4, Bool.false_eq_true, if_false]
  cases step2 P I tm h ty op <;> rfl
theorem Rd_al {op : Op} (h1 : isCall op = false) (h2 : isAlloc op = true) : Run P I ro (n + 1) (.dops ops N0 j (⟨dst, op, ty, pos, aft, none⟩ :: rest) acc :: k) Q ⟨tm, df, h⟩ = RunDA P I ro (allocOp P tm (ridOf ops N0 j) op) (ridOf ops N0 j) n ops N0 j dst rest acc k Q tm df h := by
  show step1 P I ro (Run P I ro n) _ Q _ = _
  unfold step1 RunDA goD
  simp only [h1, h2, Bool.false_eq_true, if_false, if_true]
  cases allocOp P tm (ridOf ops N0 j) op <;> rfl
theorem Rd_opcall {f : Operand} {args : Array Operand} {ts : Array TypeId} : Run P I ro (n + 1) (.dops ops N0 j (⟨dst, .call ⟨.value f, args, ts⟩, ty, pos, aft, none⟩ :: rest) acc :: k) Q ⟨tm, df, h⟩ = RunDC P I ro (acall tm (.call ⟨.value f, args, ts⟩)) n ops N0 j dst rest acc k Q tm df h := by
  show step1 P I ro (Run P I ro n) _ Q _ = _
  unfold step1 RunDC goD
  simp only [isCall, if_true]
theorem Rd_guard {op : Op} {i : Nat} {w : Bool} : Run P I ro (n + 1) (.dops ops N0 j (⟨dst, op, ty, pos, aft, some (i, w)⟩ :: rest) acc :: k) Q ⟨tm, df, h⟩ = RunDG P I ro (yieldL ops tm i) w n ops N0 j ⟨dst, op, ty, pos, aft, none⟩ rest acc k Q ⟨tm, df, h⟩ := by
  unfold RunDG
  show step1 P I ro (Run P I ro n) _ Q _ = if _ then step1 P I ro (Run P I ro n) _ Q _ else _
  unfold step1
  rfl
theorem RunDG_yes {o : Oper} {w : Bool} : RunDG P I ro (some w) w n ops N0 j o rest acc k Q s = Run P I ro (n + 1) (.dops ops N0 j (o :: rest) acc :: k) Q s := by
  unfold RunDG; simp only [if_true]
theorem RunDG_no {o : Oper} {b : Option Bool} {w : Bool} (hb : b ≠ some w) : RunDG P I ro b w n ops N0 j o rest acc k Q s = Run P I ro n (.dops ops N0 (j + 1) rest (.pure :: acc) :: k) Q ⟨putT s.tm o.dst undef, s.df, s.h⟩ := by
  unfold RunDG; simp only [if_neg hb]
theorem RunDG_tt {o : Oper} : RunDG P I ro (some true) true n ops N0 j o rest acc k Q s = Run P I ro (n + 1) (.dops ops N0 j (o :: rest) acc :: k) Q s := RunDG_yes
theorem RunDG_ff {o : Oper} : RunDG P I ro (some false) false n ops N0 j o rest acc k Q s = Run P I ro (n + 1) (.dops ops N0 j (o :: rest) acc :: k) Q s := RunDG_yes
theorem RunDG_tf {o : Oper} : RunDG P I ro (some true) false n ops N0 j o rest acc k Q ⟨tm, df, h⟩ = Run P I ro n (.dops ops N0 (j + 1) rest (.pure :: acc) :: k) Q ⟨putT tm o.dst undef, df, h⟩ := RunDG_no (by simp)
theorem RunDG_ft {o : Oper} : RunDG P I ro (some false) true n ops N0 j o rest acc k Q ⟨tm, df, h⟩ = Run P I ro n (.dops ops N0 (j + 1) rest (.pure :: acc) :: k) Q ⟨putT tm o.dst undef, df, h⟩ := RunDG_no (by simp)
theorem RunDG_none {o : Oper} {w : Bool} : RunDG P I ro none w n ops N0 j o rest acc k Q ⟨tm, df, h⟩ = Run P I ro n (.dops ops N0 (j + 1) rest (.pure :: acc) :: k) Q ⟨putT tm o.dst undef, df, h⟩ := RunDG_no (by simp)
theorem RunDS_some {c : Ct} {v : Value} : RunDS P I ro c (some (v, h)) n ops N0 j dst rest acc k Q tm df h = Run P I ro n (.dops ops N0 (j + 1) rest (c :: acc) :: k) Q ⟨putT tm dst v, df, h⟩ := by
  simp [RunDS]
theorem RunDA_some {v : Value} {B : Blk} {rid : Nat} : RunDA P I ro (some (v, B)) rid n ops N0 j dst rest acc k Q tm df h = (h.get rid = some .dead ∧ Run P I ro n (.dops ops N0 (j + 1) rest (.alloc :: acc) :: k) Q ⟨putT tm dst v, df, h.put rid B⟩) := rfl
theorem RunDE_some {wr : Option Nat} {v : Value} {h' : H} : RunDE P I ro wr (some (v, h')) n ops N0 j dst rest acc k Q tm df h = (effOk ops N0 j h h' ∧ Run P I ro n (.dops ops N0 (j + 1) rest (.eff wr :: acc) :: k) Q ⟨putT tm dst v, df, h'⟩) := rfl
/-- a call that leaves all as it is -/
theorem RunDC_quiet {fn : Fn} {args : List Value} {v : Value} (hs : Snd P I fn args h v h) (hf : flat v = true) (hr : Run P I ro n (.dops ops N0 (j + 1) rest (.quiet :: acc) :: k) Q ⟨putT tm dst v, df, h⟩) :
    RunDC P I ro (some (fn, args)) n ops N0 j dst rest acc k Q tm df h := ⟨fn, args, v, h, rfl, hs, .inl ⟨rfl, hf, hr⟩⟩
theorem RunDC_eff {fn : Fn} {args : List Value} {v : Value} {h' : H} (hs : Snd P I fn args h v h') (he : effOk ops N0 j h h') (hr : Run P I ro n (.dops ops N0 (j + 1) rest (.eff none :: acc) :: k) Q ⟨putT tm dst v, df, h'⟩) :
    RunDC P I ro (some (fn, args)) n ops N0 j dst rest acc k Q tm df h := ⟨fn, args, v, h', rfl, hs, .inr ⟨none, fun a ha => (by cases ha), he, hr⟩⟩
/-- a call that turns one old block alone, or none -/
theorem RunDC_effW {fn : Fn} {args : List Value} {v : Value} {h' : H} (a : Nat) (hs : Snd P I fn args h v h') (hw : ∀ i, i ≠ a → (i % 2 = 0 → i < h.new) → h'.get i = h.get i) (he : effOk ops N0 j h h') (hr : Run P I ro n (.dops ops N0 (j + 1) rest (.eff (some a) :: acc) :: k) Q ⟨putT tm dst v, df, h'⟩) :
    RunDC P I ro (some (fn, args)) n ops N0 j dst rest acc k Q tm df h := ⟨fn, args, v, h', rfl, hs, .inr ⟨some a, fun b hb => (by cases hb; exact hw), he, hr⟩⟩

def allocA (z : Option Value) (t : TypeId) (rid : Nat) : Option (Value × Blk) := match z with | some z => if flat z = true then some (.pointer (some ⟨rid, 0, none⟩), .cells z.cells.toList t) else none | none => none
theorem Rd_alloc {t : TypeId} : Run P I ro (n + 1) (.dops ops N0 j (⟨dst, .alloc t, ty, pos, aft, none⟩ :: rest) acc :: k) Q ⟨tm, df, h⟩ = RunDA P I ro (allocA (tzero P t) t (ridOf ops N0 j)) (ridOf ops N0 j) n ops N0 j dst rest acc k Q tm df h := Rd_al rfl rfl
theorem Rd_box {t : TypeId} {x : Operand} : Run P I ro (n + 1) (.dops ops N0 j (⟨dst, .box t x, ty, pos, aft, none⟩ :: rest) acc :: k) Q ⟨tm, df, h⟩ = RunDA P I ro (some (.pointer (some ⟨ridOf ops N0 j, 0, none⟩), .cells (ev tm x).cells.toList t)) (ridOf ops N0 j) n ops N0 j dst rest acc k Q tm df h := Rd_al rfl rfl
theorem Rd_buildSlice {t : TypeId} {m : Nat} {ps : Array (Nat × Operand)} : Run P I ro (n + 1) (.dops ops N0 j (⟨dst, .buildSlice t m ps, ty, pos, aft, none⟩ :: rest) acc :: k) Q ⟨tm, df, h⟩ = RunDA P I ro (if m < UNK then (sliceLit P t m (ps.toList.map fun p => (p.1, ev tm p.2))).map fun x => (.slice (some ⟨ridOf ops N0 j, 0, none⟩) m m, .cells x.1 x.2) else none) (ridOf ops N0 j) n ops N0 j dst rest acc k Q tm df h := Rd_al rfl rfl
theorem Rd_pick {c x y : Operand} : Run P I ro (n + 1) (.dops ops N0 j (⟨dst, .pick c x y, ty, pos, aft, none⟩ :: rest) acc :: k) Q ⟨tm, df, h⟩ = RunDS P I ro .pure (pickV (ev tm c) (ev tm x) (ev tm y) h) n ops N0 j dst rest acc k Q tm df h := Rd_pure rfl rfl rfl
theorem Rd_build {t : TypeId} {ps : Array (Nat × Operand)} : Run P I ro (n + 1) (.dops ops N0 j (⟨dst, .build t ps, ty, pos, aft, none⟩ :: rest) acc :: k) Q ⟨tm, df, h⟩ = RunDS P I ro .pure (liftV (abuild P t (ps.toList.map fun p => (p.1, ev tm p.2))) h) n ops N0 j dst rest acc k Q tm df h := Rd_pure rfl rfl rfl
theorem Rd_nilCheck {x : Operand} : Run P I ro (n + 1) (.dops ops N0 j (⟨dst, .nilCheck x, ty, pos, aft, none⟩ :: rest) acc :: k) Q ⟨tm, df, h⟩ = RunDS P I ro .pure (liftV (nilV (ev tm x)) h) n ops N0 j dst rest acc k Q tm df h := by
  rw [Rd_pure rfl rfl rfl]; congr 1
  simp only [stepOp]; generalize ev tm x = v; cases v with
  | pointer a => cases a <;> rfl
  | _ => rfl
theorem Rd_binOp {op : BinOp} {t t2 : TypeId} {x y : Operand} : Run P I ro (n + 1) (.dops ops N0 j (⟨dst, .binOp op t x y t2, ty, pos, aft, none⟩ :: rest) acc :: k) Q ⟨tm, df, h⟩ = RunDS P I ro .pure (liftV (abin P op t x y (ev tm x) (ev tm y)) h) n ops N0 j dst rest acc k Q tm df h := Rd_pure rfl rfl rfl
theorem Rd_unOp {op : UnOp} {t : TypeId} {x : Operand} : Run P I ro (n + 1) (.dops ops N0 j (⟨dst, .unOp op t x, ty, pos, aft, none⟩ :: rest) acc :: k) Q ⟨tm, df, h⟩ = RunDS P I ro .pure (liftV (aun P op (ev tm x)) h) n ops N0 j dst rest acc k Q tm df h := Rd_pure rfl rfl rfl
theorem Rd_convert {t d : TypeId} {x : Operand} : Run P I ro (n + 1) (.dops ops N0 j (⟨dst, .convert t d x, ty, pos, aft, none⟩ :: rest) acc :: k) Q ⟨tm, df, h⟩ = RunDS P I ro .pure (liftV (aconv P t d (ev tm x)) h) n ops N0 j dst rest acc k Q tm df h := Rd_pure rfl rfl rfl
theorem Rd_fieldAddr {t : TypeId} {x : Operand} {f : Nat} : Run P I ro (n + 1) (.dops ops N0 j (⟨dst, .fieldAddr t x f, ty, pos, aft, none⟩ :: rest) acc :: k) Q ⟨tm, df, h⟩ = RunDS P I ro .pure (liftV (afield P t (ev tm x) f) h) n ops N0 j dst rest acc k Q tm df h := Rd_pure rfl rfl rfl
theorem Rd_field {t : TypeId} {x : Operand} {f : Nat} : Run P I ro (n + 1) (.dops ops N0 j (⟨dst, .field t x f, ty, pos, aft, none⟩ :: rest) acc :: k) Q ⟨tm, df, h⟩ = RunDS P I ro .pure (liftV (afieldV P t (ev tm x) f) h) n ops N0 j dst rest acc k Q tm df h := Rd_pure rfl rfl rfl
theorem Rd_indexAddr {t : TypeId} {x y : Operand} : Run P I ro (n + 1) (.dops ops N0 j (⟨dst, .indexAddr t x y, ty, pos, aft, none⟩ :: rest) acc :: k) Q ⟨tm, df, h⟩ = RunDS P I ro .pure (if flat (ev tm y) = true then liftV (aindex P t (ev tm x) (ev tm y)) h else none) n ops N0 j dst rest acc k Q tm df h := Rd_pure rfl rfl rfl
theorem Rd_index {t : TypeId} {x y : Operand} : Run P I ro (n + 1) (.dops ops N0 j (⟨dst, .index t x y, ty, pos, aft, none⟩ :: rest) acc :: k) Q ⟨tm, df, h⟩ = RunDS P I ro .pure (liftV (aidx P t (ev tm x) (ev tm y)) h) n ops N0 j dst rest acc k Q tm df h := Rd_pure rfl rfl rfl
theorem Rd_extract {x : Operand} {i : Nat} : Run P I ro (n + 1) (.dops ops N0 j (⟨dst, .extract x i, ty, pos, aft, none⟩ :: rest) acc :: k) Q ⟨tm, df, h⟩ = RunDS P I ro .pure (liftV (extV (ev tm x) i) h) n ops N0 j dst rest acc k Q tm df h := by
  rw [Rd_pure rfl rfl rfl]; congr 1
  simp only [stepOp]; generalize ev tm x = v; cases v <;> rfl
theorem Rd_move {x : Operand} : Run P I ro (n + 1) (.dops ops N0 j (⟨dst, .move x, ty, pos, aft, none⟩ :: rest) acc :: k) Q ⟨tm, df, h⟩ = Run P I ro n (.dops ops N0 (j + 1) rest (.pure :: acc) :: k) Q ⟨putT tm dst (ev tm x), df, h⟩ := (Rd_pure rfl rfl rfl).trans RunDS_some
theorem Rd_assign {x : Operand} : Run P I ro (n + 1) (.dops ops N0 j (⟨dst, .assign x, ty, pos, aft, none⟩ :: rest) acc :: k) Q ⟨tm, df, h⟩ = Run P I ro n (.dops ops N0 (j + 1) rest (.pure :: acc) :: k) Q ⟨putT tm dst (ev tm x), df, h⟩ := (Rd_pure rfl rfl rfl).trans RunDS_some
theorem Rd_makeFunc {f : FuncId} {a b : Array Operand} : Run P I ro (n + 1) (.dops ops N0 j (⟨dst, .makeFunc (.func f) a b, ty, pos, aft, none⟩ :: rest) acc :: k) Q ⟨tm, df, h⟩ = Run P I ro n (.dops ops N0 (j + 1) rest (.pure :: acc) :: k) Q ⟨putT tm dst (.func (.func f) (a.map (ev tm)) (b.map (ev tm))), df, h⟩ := (Rd_pure rfl rfl rfl).trans RunDS_some
theorem Rd_load {t : TypeId} {x : Operand} : Run P I ro (n + 1) (.dops ops N0 j (⟨dst, .load t x, ty, pos, aft, none⟩ :: rest) acc :: k) Q ⟨tm, df, h⟩ = RunDS P I ro (.read (blockOf (ev tm x))) (liftV (aload P I t (ev tm x) h) h) n ops N0 j dst rest acc k Q tm df h := Rd_read rfl rfl rfl rfl
theorem Rd_slice {t : TypeId} {x : Operand} {lo hi mx : Option Operand} : Run P I ro (n + 1) (.dops ops N0 j (⟨dst, .slice t x lo hi mx, ty, pos, aft, none⟩ :: rest) acc :: k) Q ⟨tm, df, h⟩ = RunDS P I ro (.read none) (sliceV P t (ev tm x) (optInt (lo.map (ev tm))) (optInt (hi.map (ev tm))) (optInt (mx.map (ev tm))) h) n ops N0 j dst rest acc k Q tm df h := Rd_read rfl rfl rfl rfl
theorem Rd_store {t : TypeId} {x y : Operand} : Run P I ro (n + 1) (.dops ops N0 j (⟨dst, .store t x y, ty, pos, aft, none⟩ :: rest) acc :: k) Q ⟨tm, df, h⟩ = RunDE P I ro (blockOf (ev tm x)) (storeV (astore P t (ev tm x) (ev tm y) h)) n ops N0 j dst rest acc k Q tm df h := Rd_eff rfl rfl rfl rfl
theorem Rd_makeSlice {t : TypeId} {x y : Operand} : Run P I ro (n + 1) (.dops ops N0 j (⟨dst, .makeSlice t x y, ty, pos, aft, none⟩ :: rest) acc :: k) Q ⟨tm, df, h⟩ = RunDE P I ro none (if flat (ev tm x) = true ∧ flat (ev tm y) = true then amakeSlice P t (ev tm x) (ev tm y) h else none) n ops N0 j dst rest acc k Q tm df h := Rd_eff rfl rfl rfl rfl
theorem Rd_len {args : Array Operand} {ts : Array TypeId} : Run P I ro (n + 1) (.dops ops N0 j (⟨dst, .call ⟨.builtin .len, args, ts⟩, ty, pos, aft, none⟩ :: rest) acc :: k) Q ⟨tm, df, h⟩ = RunDS P I ro .pure (abi P I .len ts ty (args.toList.map (ev tm)) h) n ops N0 j dst rest acc k Q tm df h := Rd_pure rfl rfl rfl
theorem Rd_min {args : Array Operand} {ts : Array TypeId} : Run P I ro (n + 1) (.dops ops N0 j (⟨dst, .call ⟨.builtin .min, args, ts⟩, ty, pos, aft, none⟩ :: rest) acc :: k) Q ⟨tm, df, h⟩ = RunDS P I ro .pure (abi P I .min ts ty (args.toList.map (ev tm)) h) n ops N0 j dst rest acc k Q tm df h := Rd_pure rfl rfl rfl
theorem Rd_max {args : Array Operand} {ts : Array TypeId} : Run P I ro (n + 1) (.dops ops N0 j (⟨dst, .call ⟨.builtin .max, args, ts⟩, ty, pos, aft, none⟩ :: rest) acc :: k) Q ⟨tm, df, h⟩ = RunDS P I ro .pure (abi P I .max ts ty (args.toList.map (ev tm)) h) n ops N0 j dst rest acc k Q tm df h := Rd_pure rfl rfl rfl
theorem Rd_append {args : Array Operand} {ts : Array TypeId} : Run P I ro (n + 1) (.dops ops N0 j (⟨dst, .call ⟨.builtin .append, args, ts⟩, ty, pos, aft, none⟩ :: rest) acc :: k) Q ⟨tm, df, h⟩ = RunDE P I ro (apL (args.toList.map (ev tm))) (abi2 P I .append ts ty (args.toList.map (ev tm)) h) n ops N0 j dst rest acc k Q tm df h := Rd_eff rfl rfl rfl rfl
theorem Rd_copy {args : Array Operand} {ts : Array TypeId} : Run P I ro (n + 1) (.dops ops N0 j (⟨dst, .call ⟨.builtin .copy, args, ts⟩, ty, pos, aft, none⟩ :: rest) acc :: k) Q ⟨tm, df, h⟩ = RunDE P I ro none (abi2 P I .copy ts ty (args.toList.map (ev tm)) h) n ops N0 j dst rest acc k Q tm df h := Rd_eff rfl rfl rfl rfl

/-! the heap: what stood there, and what is new -/
theorem effOk_of {h' : H} (h1 : (slotsL ops).all (fun i => anc ops j i) = true) (h2 : h.length ≤ h'.length) : effOk ops N0 j h h' := by
  refine ⟨fun id hid => ?_, h2⟩
  exfalso
  unfold freeIds at hid
  obtain ⟨i, hi, _⟩ := List.mem_map.1 hid
  obtain ⟨hi1, hi2⟩ := List.mem_filter.1 hi
  have := List.all_eq_true.1 h1 i hi1
  rw [this] at hi2; cases hi2
theorem get_app {l : H} {i : Nat} (c : Nat) (hi : i = 2 * (h.length + c)) : (h ++ l : H).get i = l[c]? := by
  subst hi
  unfold H.get
  rw [if_pos (by omega), List.getElem?_append_right (by omega)]
  congr 1; omega
theorem put_app {l : H} {i : Nat} {B : Blk} (c : Nat) (hi : i = 2 * (h.length + c)) : (h ++ l : H).put i B = h ++ l.set c B := by
  subst hi
  unfold H.put
  rw [if_pos (by omega), List.set_append_right _ _ (by omega)]
  congr 2; omega
end
end Go.Sym
