/- Lemmas for the simplifier: one for each kind of operation. No program is named here. (own texts put together: SymN) -/
import Derived.Test.YtpgignenhiddkaaM2b
namespace Go.Sym
section
variable {P : Program} {I : Nat → Option Obj} {ro : Option Nat} {n : Nat} {k : List K} {Q : Exit → St → Prop} {s : St} {tm : List Value} {df : List Nat} {h : H} {ops rest : List Oper}
variable {dst : Option Tmp} {ty : TypeId} {pos : String} {aft : Array Edge}

theorem Rn_move {x : Operand} : Run P I ro (n + 1) (.ops ops (⟨dst, .move x, ty, pos, aft, none⟩ :: rest) :: k) Q ⟨tm, df, h⟩ = Run P I ro n (.ops ops rest :: k) Q ⟨putT tm dst (ev tm x), df, h⟩ := rfl
theorem Rn_assign {x : Operand} : Run P I ro (n + 1) (.ops ops (⟨dst, .assign x, ty, pos, aft, none⟩ :: rest) :: k) Q ⟨tm, df, h⟩ = Run P I ro n (.ops ops rest :: k) Q ⟨putT tm dst (ev tm x), df, h⟩ := rfl
def pickV (c a b : Value) (h : H) : Option (Value × H) := match c with | .bool t => some (if t then a else b, h) | _ => none
theorem pickV_true {a b : Value} : pickV (.bool true) a b h = some (a, h) := rfl
theorem pickV_false {a b : Value} : pickV (.bool false) a b h = some (b, h) := rfl
theorem pickV_bool {t : Bool} {a b : Bool} : pickV (.bool t) (.bool a) (.bool b) h = some (.bool (if t then a else b), h) := by cases t <;> rfl
theorem Rn_pick {c x y : Operand} : Run P I ro (n + 1) (.ops ops (⟨dst, .pick c x y, ty, pos, aft, none⟩ :: rest) :: k) Q ⟨tm, df, h⟩ = RunS P I ro (pickV (ev tm c) (ev tm x) (ev tm y) h) n ops dst rest k Q tm df := Run_op rfl
def allocV (z : Option Value) (t : TypeId) (h : H) : Option (Value × H) := match z with | some z => if flat z = true then some (nptr h, h ++ [.cells z.cells.toList t]) else none | none => none
theorem Rn_alloc {t : TypeId} : Run P I ro (n + 1) (.ops ops (⟨dst, .alloc t, ty, pos, aft, none⟩ :: rest) :: k) Q ⟨tm, df, h⟩ = RunS P I ro (allocV (tzero P t) t h) n ops dst rest k Q tm df := Run_op rfl
theorem Rn_box {t : TypeId} {x : Operand} : Run P I ro (n + 1) (.ops ops (⟨dst, .box t x, ty, pos, aft, none⟩ :: rest) :: k) Q ⟨tm, df, h⟩ = Run P I ro n (.ops ops rest :: k) Q ⟨putT tm dst (nptr h), df, h ++ [.cells (ev tm x).cells.toList t]⟩ := rfl
def liftV (x : Option Value) (h : H) : Option (Value × H) := x.map fun v => (v, h)
theorem liftV_some {v : Value} : liftV (some v) h = some (v, h) := rfl
theorem Rn_build {t : TypeId} {ps : Array (Nat × Operand)} : Run P I ro (n + 1) (.ops ops (⟨dst, .build t ps, ty, pos, aft, none⟩ :: rest) :: k) Q ⟨tm, df, h⟩ = RunS P I ro (liftV (abuild P t (ps.toList.map fun p => (p.1, ev tm p.2))) h) n ops dst rest k Q tm df := Run_op rfl
theorem Rn_buildSlice {t : TypeId} {m : Nat} {ps : Array (Nat × Operand)} : Run P I ro (n + 1) (.ops ops (⟨dst, .buildSlice t m ps, ty, pos, aft, none⟩ :: rest) :: k) Q ⟨tm, df, h⟩ = RunS P I ro (if m < UNK then abuildSlice P t m (ps.toList.map fun p => (p.1, ev tm p.2)) h else none) n ops dst rest k Q tm df := Run_op rfl
theorem Rn_load {t : TypeId} {x : Operand} : Run P I ro (n + 1) (.ops ops (⟨dst, .load t x, ty, pos, aft, none⟩ :: rest) :: k) Q ⟨tm, df, h⟩ = RunS P I ro (liftV (aload P I t (ev tm x) h) h) n ops dst rest k Q tm df := Run_op rfl
def storeV (x : Option H) : Option (Value × H) := x.map fun h' => (undef, h')
theorem storeV_some : storeV (some h) = some (undef, h) := rfl
theorem Rn_store {t : TypeId} {x y : Operand} : Run P I ro (n + 1) (.ops ops (⟨dst, .store t x y, ty, pos, aft, none⟩ :: rest) :: k) Q ⟨tm, df, h⟩ = RunS P I ro (storeV (astore P t (ev tm x) (ev tm y) h)) n ops dst rest k Q tm df := Run_op rfl
def nilV (x : Value) : Option Value := match x with | .pointer (some a) => some (.pointer (some a)) | _ => none
theorem nilV_ptr {a : Addr} : nilV (.pointer (some a)) = some (.pointer (some a)) := rfl
theorem Rn_nilCheck {x : Operand} : Run P I ro (n + 1) (.ops ops (⟨dst, .nilCheck x, ty, pos, aft, none⟩ :: rest) :: k) Q ⟨tm, df, h⟩ = RunS P I ro (liftV (nilV (ev tm x)) h) n ops dst rest k Q tm df := by
  rw [Run_op rfl]; congr 1
  simp only [step2, stepOp]; generalize ev tm x = v; cases v with
  | pointer a => cases a <;> rfl
  | _ => rfl
theorem Rn_binOp {op : BinOp} {t t2 : TypeId} {x y : Operand} : Run P I ro (n + 1) (.ops ops (⟨dst, .binOp op t x y t2, ty, pos, aft, none⟩ :: rest) :: k) Q ⟨tm, df, h⟩ = RunS P I ro (liftV (abin P op t x y (ev tm x) (ev tm y)) h) n ops dst rest k Q tm df := Run_op rfl
theorem Rn_unOp {op : UnOp} {t : TypeId} {x : Operand} : Run P I ro (n + 1) (.ops ops (⟨dst, .unOp op t x, ty, pos, aft, none⟩ :: rest) :: k) Q ⟨tm, df, h⟩ = RunS P I ro (liftV (aun P op (ev tm x)) h) n ops dst rest k Q tm df := Run_op rfl
theorem Rn_convert {t d : TypeId} {x : Operand} : Run P I ro (n + 1) (.ops ops (⟨dst, .convert t d x, ty, pos, aft, none⟩ :: rest) :: k) Q ⟨tm, df, h⟩ = RunS P I ro (liftV (aconv P t d (ev tm x)) h) n ops dst rest k Q tm df := Run_op rfl
theorem Rn_makeFunc {f : FuncId} {a b : Array Operand} : Run P I ro (n + 1) (.ops ops (⟨dst, .makeFunc (.func f) a b, ty, pos, aft, none⟩ :: rest) :: k) Q ⟨tm, df, h⟩ = Run P I ro n (.ops ops rest :: k) Q ⟨putT tm dst (.func (.func f) (a.map (ev tm)) (b.map (ev tm))), df, h⟩ := rfl
theorem Rn_makeSlice {t : TypeId} {x y : Operand} : Run P I ro (n + 1) (.ops ops (⟨dst, .makeSlice t x y, ty, pos, aft, none⟩ :: rest) :: k) Q ⟨tm, df, h⟩ = RunS P I ro (if flat (ev tm x) = true ∧ flat (ev tm y) = true then amakeSlice P t (ev tm x) (ev tm y) h else none) n ops dst rest k Q tm df := Run_op rfl
def sliceV (P : Program) (t : TypeId) (x : Value) (lo hi mx : Option (Option Int)) (h : H) : Option (Value × H) :=
  match lo, hi, mx with
  | some lo', some hi', some mx' => (aslice P t x lo' hi' mx' h).map fun v => (v, h)
  | _, _, _ => none
theorem sliceV_some {t : TypeId} {x : Value} {lo hi mx : Option Int} : sliceV P t x (some lo) (some hi) (some mx) h = liftV (aslice P t x lo hi mx h) h := rfl
theorem Rn_slice {t : TypeId} {x : Operand} {lo hi mx : Option Operand} : Run P I ro (n + 1) (.ops ops (⟨dst, .slice t x lo hi mx, ty, pos, aft, none⟩ :: rest) :: k) Q ⟨tm, df, h⟩ = RunS P I ro (sliceV P t (ev tm x) (optInt (lo.map (ev tm))) (optInt (hi.map (ev tm))) (optInt (mx.map (ev tm))) h) n ops dst rest k Q tm df := Run_op rfl
theorem Rn_fieldAddr {t : TypeId} {x : Operand} {f : Nat} : Run P I ro (n + 1) (.ops ops (⟨dst, .fieldAddr t x f, ty, pos, aft, none⟩ :: rest) :: k) Q ⟨tm, df, h⟩ = RunS P I ro (liftV (afield P t (ev tm x) f) h) n ops dst rest k Q tm df := Run_op rfl
theorem Rn_field {t : TypeId} {x : Operand} {f : Nat} : Run P I ro (n + 1) (.ops ops (⟨dst, .field t x f, ty, pos, aft, none⟩ :: rest) :: k) Q ⟨tm, df, h⟩ = RunS P I ro (liftV (afieldV P t (ev tm x) f) h) n ops dst rest k Q tm df := Run_op rfl
theorem Rn_indexAddr {t : TypeId} {x y : Operand} : Run P I ro (n + 1) (.ops ops (⟨dst, .indexAddr t x y, ty, pos, aft, none⟩ :: rest) :: k) Q ⟨tm, df, h⟩ = RunS P I ro (if flat (ev tm y) = true then liftV (aindex P t (ev tm x) (ev tm y)) h else none) n ops dst rest k Q tm df := Run_op rfl
theorem Rn_index {t : TypeId} {x y : Operand} : Run P I ro (n + 1) (.ops ops (⟨dst, .index t x y, ty, pos, aft, none⟩ :: rest) :: k) Q ⟨tm, df, h⟩ = RunS P I ro (liftV (aidx P t (ev tm x) (ev tm y)) h) n ops dst rest k Q tm df := Run_op rfl
def extV (t : Value) (i : Nat) : Option Value := match t with | .tuple vs => vs[i]? | _ => none
theorem extV_tuple {l : List Value} {i : Nat} : extV (.tuple l.toArray) i = l[i]? := by simp [extV]
theorem Rn_extract {x : Operand} {i : Nat} : Run P I ro (n + 1) (.ops ops (⟨dst, .extract x i, ty, pos, aft, none⟩ :: rest) :: k) Q ⟨tm, df, h⟩ = RunS P I ro (liftV (extV (ev tm x) i) h) n ops dst rest k Q tm df := by
  rw [Run_op rfl]; congr 1
  simp only [step2, stepOp]; generalize ev tm x = v; cases v <;> rfl
theorem Rn_builtin {b : Builtin} {args : Array Operand} {ts : Array TypeId} : Run P I ro (n + 1) (.ops ops (⟨dst, .call ⟨.builtin b, args, ts⟩, ty, pos, aft, none⟩ :: rest) :: k) Q ⟨tm, df, h⟩ = RunS P I ro (abi2 P I b ts ty (args.toList.map (ev tm)) h) n ops dst rest k Q tm df := Run_op rfl

theorem putT_some {d : Tmp} {v : Value} : putT tm (some d) v = tm.set d v := rfl
theorem putT_none {v : Value} : putT tm none v = tm := rfl
theorem ev_tmp {t : Tmp} : ev tm (.tmp t) = tm.getD t undef := rfl
theorem ev_const {v : Value} : ev tm (.const v) = v := rfl
theorem ev_func {f : FuncId} : ev tm (.func f) = .func (.func f) #[] #[] := rfl
theorem fin_ret {rs : List ResultVar} {v : Value} {h' : H} : finR P I rs v h' .ret ⟨tm, df, h⟩ = (leave df h = some h' ∧ (aresL P I tm h' rs).map one = some v) := by simp [finR]
theorem fin_normal {rs : List ResultVar} {v : Value} {h' : H} : finR P I rs v h' .normal ⟨tm, df, h⟩ = (leave df h = some h' ∧ (aresL P I tm h' rs).map one = some v) := by simp [finR]
theorem leave_nil : leave [] h = some h := rfl
theorem aresL_nil : aresL P I tm h [] = some [] := rfl
theorem aresL_tmp {t : Tmp} {l : List ResultVar} : aresL P I tm h (.tmp t :: l) = (aresL P I tm h l).map fun m => tm.getD t undef :: m := rfl
theorem aresL_cell {t : Tmp} {u : TypeId} {l : List ResultVar} : aresL P I tm h (.cell t u :: l) = (aload P I u (tm.getD t undef) h).bind fun v => (aresL P I tm h l).map fun m => v :: m := rfl
theorem one_one {v : Value} : one [v] = v := rfl
theorem one_two {u v : Value} : one [u, v] = .tuple #[u, v] := rfl
theorem one_three {u v w : Value} : one [u, v, w] = .tuple #[u, v, w] := rfl

/-! arithmetic -/
theorem bin_add {k : IntKind} {t : TypeId} {x y : Operand} {a b : Int} : abin P .add t x y (.int k a) (.int k b) = some (.int k (k.wrap (a + b))) := by
  simp [abin, flat, binOp, Op.intArith, eqGuard_add, chk]
theorem bin_sub {k : IntKind} {t : TypeId} {x y : Operand} {a b : Int} : abin P .sub t x y (.int k a) (.int k b) = some (.int k (k.wrap (a - b))) := by
  simp [abin, flat, binOp, Op.intArith, eqGuard_sub, chk]
theorem bin_mul {k : IntKind} {t : TypeId} {x y : Operand} {a b : Int} : abin P .mul t x y (.int k a) (.int k b) = some (.int k (k.wrap (a * b))) := by
  simp [abin, flat, binOp, Op.intArith, eqGuard_mul, chk]
theorem bin_lss {k : IntKind} {t : TypeId} {x y : Operand} {a b : Int} : abin P .lss t x y (.int k a) (.int k b) = some (.bool (decide (a < b))) := by
  simp [abin, flat, binOp_lss, eqGuard_lss, chk]
theorem bin_leq {k : IntKind} {t : TypeId} {x y : Operand} {a b : Int} : abin P .leq t x y (.int k a) (.int k b) = some (.bool (decide (a ≤ b))) := by
  simp [abin, flat, binOp_leq, eqGuard_leq, chk]
theorem bin_gtr {k : IntKind} {t : TypeId} {x y : Operand} {a b : Int} : abin P .gtr t x y (.int k a) (.int k b) = some (.bool (decide (b < a))) := by
  simp [abin, flat, binOp_gtr, eqGuard_gtr, chk]
theorem bin_geq {k : IntKind} {t : TypeId} {x y : Operand} {a b : Int} : abin P .geq t x y (.int k a) (.int k b) = some (.bool (decide (b ≤ a))) := by
  simp [abin, flat, binOp_geq, eqGuard_geq, chk]
theorem bin_eql {k : IntKind} {t : TypeId} {x y : Operand} {a b : Int} : abin P .eql t x y (.int k a) (.int k b) = some (.bool (decide (a = b))) := by
  simp [abin, flat, binOp_eql, eqGuard_at_int, chk, BEq.beq]
theorem bin_neq {k : IntKind} {t : TypeId} {x y : Operand} {a b : Int} : abin P .neq t x y (.int k a) (.int k b) = some (.bool (!decide (a = b))) := by
  simp [abin, flat, binOp_neq, eqGuard_at_int, chk, bne, BEq.beq]
theorem un_not {b : Bool} : aun P .not (.bool b) = some (.bool !b) := by simp [aun, flat, Op.unary, chk]
theorem un_neg {k : IntKind} {a : Int} : aun P .neg (.int k a) = some (.int k (k.wrap (0 - a))) := by simp [aun, flat, Op.unary, Op.intArith, chk]
end
end Go.Sym
