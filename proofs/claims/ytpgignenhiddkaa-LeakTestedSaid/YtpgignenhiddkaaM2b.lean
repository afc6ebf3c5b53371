/- Code, run with what is left to do as a list: for the simplifier. No program is named here. (own texts put together: SymM) -/
import Derived.Test.YtpgignenhiddkaaM2
namespace Go.Sym

inductive K where
  | code (c : Code)
  | ops (ops : List Oper) (rest : List Oper)
  | dops (ops : List Oper) (N0 j : Nat) (rest : List Oper) (acc : List Ct)
  | endB (id : Nat)

/-- what is left behind a block that is left -/
def popK (id : Nat) : List K → Option (List K)
  | [] => none
  | .endB i :: k => if i = id then some k else popK id k
  | .code _ :: k => popK id k
  | .ops _ _ :: k => popK id k
  | .dops _ _ _ _ _ :: k => popK id k

def yieldL (ops : List Oper) (tm : List Value) (j : Nat) : Option Bool :=
  match ((ops[j]?).bind (·.dst)).bind (tm[·]?) with
  | some (.bool b) => some b
  | _ => none

section
variable (P : Program) (I : Nat → Option Obj) (ro : Option Nat)

def effOk (ops : List Oper) (N0 j : Nat) (h h' : H) : Prop := (∀ id ∈ freeIds ops N0 j, h'.get id = h.get id) ∧ h.length ≤ h'.length
/-- an operation of a region that draws; r: how it goes on, by its class, its value and the heap -/
def goD (ops : List Oper) (N0 j : Nat) (o : Oper) (tm : List Value) (h : H) (r : Ct → Value → H → Prop) : Prop :=
  if isCall o.op = true then ∃ fn args v h', acall tm o.op = some (fn, args) ∧ Snd P I fn args h v h' ∧ ((h' = h ∧ flat v = true ∧ r .quiet v h) ∨ (∃ w, (∀ a, w = some a → ∀ i, i ≠ a → (i % 2 = 0 → i < h.new) → h'.get i = h.get i) ∧ effOk ops N0 j h h' ∧ r (.eff w) v h'))
  else if isAlloc o.op = true then
    match allocOp P tm (ridOf ops N0 j) o.op with
    | some (v, B) => h.get (ridOf ops N0 j) = some .dead ∧ r .alloc v (h.put (ridOf ops N0 j) B)
    | none => False
  else if isPure o.op = true then
    match stepOp P I tm h o.type o.op with
    | some (v, h') => h' = h ∧ r .pure v h
    | none => False
  else if isRead o.op = true then
    match stepOp P I tm h o.type o.op with
    | some (v, h') => h' = h ∧ r (.read (rdId tm o.op)) v h
    | none => False
  else match step2 P I tm h o.type o.op with
    | some (v, h') => effOk ops N0 j h h' ∧ r (.eff (wrId tm o.op)) v h'
    | none => False

/-- one step; r: how it goes on -/
def step1 (r : List K → (Exit → St → Prop) → St → Prop) (k : List K) (Q : Exit → St → Prop) (s : St) : Prop :=
  match k with
  | [] => Q .normal s
  | .endB _ :: k => r k Q s
  | .ops _ [] :: k => r k Q s
  | .dops ops _ _ [] acc :: k => drawOk ops acc.reverse = true ∧ r k Q s
  | .dops ops N0 j (o :: rest) acc :: k =>
    let go : Prop := goD P I ops N0 j o s.tm s.h fun c v h' => r (.dops ops N0 (j + 1) rest (c :: acc) :: k) Q ⟨putT s.tm o.dst v, s.df, h'⟩
    match o.guard with
    | none => go
    | some (i, b) => if yieldL ops s.tm i = some b then go else r (.dops ops N0 (j + 1) rest (.pure :: acc) :: k) Q ⟨putT s.tm o.dst undef, s.df, s.h⟩
  | .ops ops (o :: rest) :: k =>
    let go : Prop :=
      if isCall o.op = true then ∃ fn args v h', acall s.tm o.op = some (fn, args) ∧ Snd P I fn args s.h v h' ∧ r (.ops ops rest :: k) Q ⟨putT s.tm o.dst v, s.df, h'⟩
      else match step2 P I s.tm s.h o.type o.op with
        | some (v, h') => r (.ops ops rest :: k) Q ⟨putT s.tm o.dst v, s.df, h'⟩
        | none => False
    match o.guard with
    | none => go
    | some (j, b) => if yieldL ops s.tm j = some b then go else r (.ops ops rest :: k) Q ⟨putT s.tm o.dst undef, s.df, s.h⟩
  | .code c :: k =>
    match c with
    | .skip => r k Q s
    | .label _ => r k Q s
    | .ret => Q .ret s
    | .exit id => match popK id k with | some k' => r k' Q s | none => Q (.exit id) s
    | .seq a b => r (.code a :: .code b :: k) Q s
    | .cond c a b => ∃ t, ev s.tm c = .bool t ∧ (t = true → r (.code a :: k) Q s) ∧ (t = false → r (.code b :: k) Q s)
    | .block id a => r (.code a :: .endB id :: k) Q s
    | .region _ ops false => r (.ops ops.toList ops.toList :: k) Q s
    | .region _ ops true => P.follows .mixedOrders = true ∧ r (.dops ops.toList s.h.length 0 ops.toList [] :: k) Q ⟨s.tm, s.df, s.h ++ List.replicate (slotsL ops.toList).length .dead⟩
    | c => TC P I ro c (fun e s => match e with
        | .normal => r k Q s
        | .exit id => (match popK id k with | some k' => r k' Q s | none => Q (.exit id) s)
        | e => Q e s) s

def Run : Nat → List K → (Exit → St → Prop) → St → Prop
  | 0 => fun _ _ _ => False
  | n + 1 => step1 P I ro (Run n)

/-- the ends of code, what is left behind it taken in -/
def ContK (n : Nat) (k : List K) (Q : Exit → St → Prop) : Exit → St → Prop
  | .normal, s => Run P I ro n k Q s
  | .exit id, s => (match popK id k with | some k' => Run P I ro n k' Q s | none => Q (.exit id) s)
  | e, s => Q e s

/-- a decision that is not made yet -/
def RunG (b : Option Bool) (want : Bool) (n : Nat) (ops : List Oper) (o : Oper) (rest : List Oper) (k : List K) (Q : Exit → St → Prop) (s : St) : Prop :=
  Run P I ro (n + 1) (.ops ops ((if b = some want then { o with guard := none } else { o with guard := none, op := .move (.const undef) }) :: rest) :: k) Q s
def RunS (x : Option (Value × H)) (n : Nat) (ops : List Oper) (dst : Option Tmp) (rest : List Oper) (k : List K) (Q : Exit → St → Prop) (tm : List Value) (df : List Nat) : Prop :=
  match x with
  | some (v, h') => Run P I ro n (.ops ops rest :: k) Q ⟨putT tm dst v, df, h'⟩
  | none => False
def RunCall (x : Option (Fn × List Value)) (n : Nat) (ops : List Oper) (dst : Option Tmp) (rest : List Oper) (k : List K) (Q : Exit → St → Prop) (s : St) : Prop :=
  ∃ fn args v h', x = some (fn, args) ∧ Snd P I fn args s.h v h' ∧ Run P I ro n (.ops ops rest :: k) Q ⟨putT s.tm dst v, s.df, h'⟩
def RunB (v : Value) (n : Nat) (a b : Code) (k : List K) (Q : Exit → St → Prop) (s : St) : Prop :=
  ∃ t, v = .bool t ∧ (t = true → Run P I ro n (.code a :: k) Q s) ∧ (t = false → Run P I ro n (.code b :: k) Q s)
def RunX (x : Option (List K)) (id : Nat) (n : Nat) (Q : Exit → St → Prop) (s : St) : Prop :=
  match x with | some k' => Run P I ro n k' Q s | none => Q (.exit id) s
end

section
variable {P : Program} {I : Nat → Option Obj} {ro : Option Nat} {n : Nat} {k : List K} {Q : Exit → St → Prop} {s : St} {tm : List Value} {df : List Nat} {h : H} {ops rest : List Oper} {a b : Code}

theorem Run_nil : Run P I ro (n + 1) [] Q s = Q .normal s := rfl
theorem Run_endB {id : Nat} : Run P I ro (n + 1) (.endB id :: k) Q s = Run P I ro n k Q s := rfl
theorem Run_ops_nil : Run P I ro (n + 1) (.ops ops [] :: k) Q s = Run P I ro n k Q s := rfl
theorem Run_skip : Run P I ro (n + 1) (.code .skip :: k) Q s = Run P I ro n k Q s := rfl
theorem Run_label {l : Nat} : Run P I ro (n + 1) (.code (.label l) :: k) Q s = Run P I ro n k Q s := rfl
theorem Run_ret : Run P I ro (n + 1) (.code .ret :: k) Q s = Q .ret s := rfl
theorem Run_exit {id : Nat} : Run P I ro (n + 1) (.code (.exit id) :: k) Q s = RunX P I ro (popK id k) id n Q s := rfl
theorem RunX_some {id : Nat} {k' : List K} : RunX P I ro (some k') id n Q s = Run P I ro n k' Q s := rfl
theorem RunX_none {id : Nat} : RunX P I ro none id n Q s = Q (.exit id) s := rfl
theorem Run_seq : Run P I ro (n + 1) (.code (.seq a b) :: k) Q s = Run P I ro n (.code a :: .code b :: k) Q s := rfl
theorem Run_cond {c : Operand} : Run P I ro (n + 1) (.code (.cond c a b) :: k) Q ⟨tm, df, h⟩ = RunB P I ro (ev tm c) n a b k Q ⟨tm, df, h⟩ := rfl
theorem RunB_true : RunB P I ro (.bool true) n a b k Q s = Run P I ro n (.code a :: k) Q s := by
  unfold RunB
  apply propext
  constructor
  · rintro ⟨t, ht, h1, _⟩; cases ht; exact h1 rfl
  · intro h; exact ⟨true, rfl, fun _ => h, fun h => by cases h⟩
theorem RunB_false : RunB P I ro (.bool false) n a b k Q s = Run P I ro n (.code b :: k) Q s := by
  unfold RunB
  apply propext
  constructor
  · rintro ⟨t, ht, _, h1⟩; cases ht; exact h1 rfl
  · intro h; exact ⟨false, rfl, fun h => by (cases h), fun _ => h⟩
theorem Run_block {id : Nat} : Run P I ro (n + 1) (.code (.block id a) :: k) Q s = Run P I ro n (.code a :: .endB id :: k) Q s := rfl
theorem Run_region {id : Nat} {l : List Oper} : Run P I ro (n + 1) (.code (.region id l.toArray false) :: k) Q s = Run P I ro n (.ops l l :: k) Q s := rfl
theorem Run_op {dst : Option Tmp} {op : Op} {ty : TypeId} {pos : String} {aft : Array Edge} (hc : isCall op = false) :
    Run P I ro (n + 1) (.ops ops (⟨dst, op, ty, pos, aft, none⟩ :: rest) :: k) Q ⟨tm, df, h⟩ = RunS P I ro (step2 P I tm h ty op) n ops dst rest k Q tm df := by
  show step1 P I ro (Run P I ro n) _ Q _ = _
  unfold step1 RunS
  simp only [hc, Bool.false_eq_true, if_false]
theorem RunS_some {v : Value} {dst : Option Tmp} : RunS P I ro (some (v, h)) n ops dst rest k Q tm df = Run P I ro n (.ops ops rest :: k) Q ⟨putT tm dst v, df, h⟩ := rfl
theorem Run_opcall {dst : Option Tmp} {f : Operand} {args : Array Operand} {ts : Array TypeId} {ty : TypeId} {pos : String} {aft : Array Edge} :
    Run P I ro (n + 1) (.ops ops (⟨dst, .call ⟨.value f, args, ts⟩, ty, pos, aft, none⟩ :: rest) :: k) Q ⟨tm, df, h⟩ = RunCall P I ro (acall tm (.call ⟨.value f, args, ts⟩)) n ops dst rest k Q ⟨tm, df, h⟩ := by
  show step1 P I ro (Run P I ro n) _ Q _ = _
  unfold step1 RunCall
  simp only [isCall, if_true]
theorem Run_guard {dst : Option Tmp} {op : Op} {ty : TypeId} {pos : String} {aft : Array Edge} {j : Nat} {w : Bool} :
    Run P I ro (n + 1) (.ops ops (⟨dst, op, ty, pos, aft, some (j, w)⟩ :: rest) :: k) Q ⟨tm, df, h⟩ = RunG P I ro (yieldL ops tm j) w n ops ⟨dst, op, ty, pos, aft, none⟩ rest k Q ⟨tm, df, h⟩ := by
  unfold RunG
  show step1 P I ro (Run P I ro n) _ Q _ = step1 P I ro (Run P I ro n) _ Q _
  unfold step1
  by_cases hy : yieldL ops tm j = some w
  · simp only [hy, if_true]
  · simp only [hy, if_false, isCall, Bool.false_eq_true, step2, stepOp, ev]
theorem RunG_yes {o : Oper} {w : Bool} (hg : o.guard = none) : RunG P I ro (some w) w n ops o rest k Q s = Run P I ro (n + 1) (.ops ops (o :: rest) :: k) Q s := by
  unfold RunG; simp only [if_true]; cases o; simp only at hg; subst hg; rfl
theorem RunG_tt {dst : Option Tmp} {op : Op} {ty : TypeId} {pos : String} {aft : Array Edge} : RunG P I ro (some true) true n ops ⟨dst, op, ty, pos, aft, none⟩ rest k Q s = Run P I ro (n + 1) (.ops ops (⟨dst, op, ty, pos, aft, none⟩ :: rest) :: k) Q s := RunG_yes rfl
theorem RunG_ff {dst : Option Tmp} {op : Op} {ty : TypeId} {pos : String} {aft : Array Edge} : RunG P I ro (some false) false n ops ⟨dst, op, ty, pos, aft, none⟩ rest k Q s = Run P I ro (n + 1) (.ops ops (⟨dst, op, ty, pos, aft, none⟩ :: rest) :: k) Q s := RunG_yes rfl
theorem RunG_no {o : Oper} {b : Option Bool} {w : Bool} (hb : b ≠ some w) : RunG P I ro b w n ops o rest k Q ⟨tm, df, h⟩ = Run P I ro n (.ops ops rest :: k) Q ⟨putT tm o.dst undef, df, h⟩ := by
  unfold RunG; simp only [if_neg hb]; rfl
theorem RunG_tf {o : Oper} : RunG P I ro (some true) false n ops o rest k Q ⟨tm, df, h⟩ = Run P I ro n (.ops ops rest :: k) Q ⟨putT tm o.dst undef, df, h⟩ := RunG_no (by simp)
theorem RunG_ft {o : Oper} : RunG P I ro (some false) true n ops o rest k Q ⟨tm, df, h⟩ = Run P I ro n (.ops ops rest :: k) Q ⟨putT tm o.dst undef, df, h⟩ := RunG_no (by simp)
theorem RunG_none {o : Oper} {w : Bool} : RunG P I ro none w n ops o rest k Q ⟨tm, df, h⟩ = Run P I ro n (.ops ops rest :: k) Q ⟨putT tm o.dst undef, df, h⟩ := RunG_no (by simp)
theorem Run_loop : Run P I ro (n + 1) (.code (.loop a) :: k) Q s = TC P I ro (.loop a) (ContK P I ro n k Q) s := by
  show TC P I ro (.loop a) _ s = _
  congr 1
  funext e s'
  cases e <;> rfl
theorem Run_rangeFunc {f : Operand} {ps : Array Tmp} : Run P I ro (n + 1) (.code (.rangeFunc f ps a b) :: k) Q s = TC P I ro (.rangeFunc f ps a b) (ContK P I ro n k Q) s := by
  show TC P I ro (.rangeFunc f ps a b) _ s = _
  congr 1
  funext e s'
  cases e <;> rfl
theorem Run_draw {id : Nat} {l : List Oper} : Run P I ro (n + 1) (.code (.region id l.toArray true) :: k) Q ⟨tm, df, h⟩ = (P.follows .mixedOrders = true ∧ Run P I ro n (.dops l h.length 0 l [] :: k) Q ⟨tm, df, h ++ List.replicate (slotsL l).length .dead⟩) := rfl
theorem Run_dnil {N0 j : Nat} {acc : List Ct} : Run P I ro (n + 1) (.dops ops N0 j [] acc :: k) Q s = (drawOk ops acc.reverse = true ∧ Run P I ro n k Q s) := rfl

theorem RunCall_of {fn : Fn} {args : List Value} {v : Value} {h' : H} {dst : Option Tmp} (hs : Snd P I fn args h v h') (hr : Run P I ro n (.ops ops rest :: k) Q ⟨putT tm dst v, df, h'⟩) :
    RunCall P I ro (some (fn, args)) n ops dst rest k Q ⟨tm, df, h⟩ := ⟨fn, args, v, h', rfl, hs, hr⟩
theorem RunB_of {t : Bool} (h1 : t = true → Run P I ro n (.code a :: k) Q s) (h2 : t = false → Run P I ro n (.code b :: k) Q s) : RunB P I ro (.bool t) n a b k Q s := ⟨t, rfl, h1, h2⟩

/-! it is sound -/
def Cont (P : Program) (I : Nat → Option Obj) (ro : Option Nat) (k : List K) (Q : Exit → St → Prop) (e : Exit) (s : St) : Prop := ∃ n, ContK P I ro n k Q e s

theorem yieldL_eq (ops : List Oper) (tm : List Value) (j : Nat) : yieldL ops tm j = ayield ops.toArray tm j := by
  unfold yieldL ayield; simp only [List.getElem?_toArray]; rfl

theorem Run_WO : ∀ (rest : List Oper) (n : Nat) (tm : List Value) (h : H), Run P I ro n (.ops ops rest :: k) Q ⟨tm, df, h⟩ → WO P I ops.toArray rest (fun tm h => ∃ n, Run P I ro n k Q ⟨tm, df, h⟩) tm h
  | rest, 0, tm, h, hr => hr.elim
  | [], n + 1, tm, h, hr => ⟨n, hr⟩
  | o :: rest, n + 1, tm, h, hr => by
    have hr' : step1 P I ro (Run P I ro n) (.ops ops (o :: rest) :: k) Q ⟨tm, df, h⟩ := hr
    unfold step1 at hr'
    simp only at hr'
    unfold WO
    have hgo : (if isCall o.op = true then ∃ fn args v h', acall tm o.op = some (fn, args) ∧ Snd P I fn args h v h' ∧ Run P I ro n (.ops ops rest :: k) Q ⟨putT tm o.dst v, df, h'⟩
        else match step2 P I tm h o.type o.op with
          | some (v, h') => Run P I ro n (.ops ops rest :: k) Q ⟨putT tm o.dst v, df, h'⟩
          | none => False) →
        (if isCall o.op = true then ∃ fn args v h', acall tm o.op = some (fn, args) ∧ Snd P I fn args h v h' ∧ WO P I ops.toArray rest (fun tm h => ∃ n, Run P I ro n k Q ⟨tm, df, h⟩) (putT tm o.dst v) h'
        else match step2 P I tm h o.type o.op with
          | some (v, h') => WO P I ops.toArray rest (fun tm h => ∃ n, Run P I ro n k Q ⟨tm, df, h⟩) (putT tm o.dst v) h'
          | none => False) := by
      intro hg
      split at hg
      · rename_i hc
        rw [if_pos hc]
        obtain ⟨fn, args, v, h', h1, h2, h3⟩ := hg
        exact ⟨fn, args, v, h', h1, h2, Run_WO rest n _ _ h3⟩
      · rename_i hc
        rw [if_neg hc]
        split at hg
        · exact Run_WO rest n _ _ hg
        · exact hg.elim
    split at hr'
    · rename_i hn
      rw [if_pos (by simp [Region.wanted, hn])]
      exact hgo hr'
    · rename_i j b hs
      split at hr'
      · rename_i hy
        rw [if_pos (by simp only [Region.wanted, hs]; rw [← yieldL_eq, hy]; simp)]
        exact hgo hr'
      · rename_i hy
        rw [if_neg (by simp only [Region.wanted, hs]; rw [← yieldL_eq]; simpa using hy)]
        exact Run_WO rest n _ _ hr'

def Log.next (L : Log) (j : Nat) (c : Cl) (v : Value) (tm : List Value) (h : H) : Log where
  tm := fun i => if i = j + 1 then tm else L.tm i
  h := fun i => if i = j + 1 then h else L.h i
  c := fun i => if i = j then c else L.c i
  v := fun i => if i = j then v else L.v i

theorem EntOk.congr {N0 i : Nat} {o : Oper} {L L' : Log} (e : EntOk P I ops N0 L i o) (h1 : L'.tm i = L.tm i) (h2 : L'.tm (i + 1) = L.tm (i + 1)) (h3 : L'.h i = L.h i) (h4 : L'.h (i + 1) = L.h (i + 1)) (h5 : L'.c i = L.c i) (h6 : L'.v i = L.v i) :
    EntOk P I ops N0 L' i o := by
  unfold EntOk at *
  rw [h1, h2, h3, h4, h5, h6]; exact e

theorem Run_D {N0 : Nat} : ∀ (rest : List Oper) (n : Nat) (tm : List Value) (h : H) (acc : List Ct) (done : List Oper) (L : Log), ops = done ++ rest → Run P I ro n (.dops ops N0 done.length rest acc :: k) Q ⟨tm, df, h⟩ →
    (∀ i o, i < done.length → ops[i]? = some o → EntOk P I ops N0 L i o) → L.tm done.length = tm → L.h done.length = h → acc.reverse = (List.range done.length).map (fun i => (L.c i).tag) →
    ∃ L' : Log, (∀ i o, ops[i]? = some o → EntOk P I ops N0 L' i o) ∧ L'.tm 0 = L.tm 0 ∧ L'.h 0 = L.h 0 ∧ drawOk ops ((List.range ops.length).map fun i => (L'.c i).tag) = true ∧ ∃ n, Run P I ro n k Q ⟨L'.tm ops.length, df, L'.h ops.length⟩
  | rest, 0, tm, h, acc, done, L, _, hr, _, _, _, _ => hr.elim
  | [], n + 1, tm, h, acc, done, L, he, hr, hent, ht, hh, ha => by
    rw [Run_dnil] at hr
    have hd : ops.length = done.length := by rw [he]; simp
    refine ⟨L, fun i o ho => hent i o ?_ ho, rfl, rfl, ?_, n, ?_⟩
    · have := (List.getElem?_eq_some_iff.1 ho).1; omega
    · rw [hd, ← ha]; exact hr.1
    · rw [hd, ht, hh]; exact hr.2
  | o :: rest, n + 1, tm, h, acc, done, L, he, hr, hent, ht, hh, ha => by
    have hr' : step1 P I ro (Run P I ro n) (.dops ops N0 done.length (o :: rest) acc :: k) Q ⟨tm, df, h⟩ := hr
    unfold step1 at hr'
    simp only at hr'
    have ho : ops[done.length]? = some o := by rw [he]; simp
    have key : ∀ (c : Cl) (v : Value) (h' : H), (Region.wanted o (ayield ops.toArray tm) = true → EntOk P I ops N0 (L.next done.length c v (putT tm o.dst v) h') done.length o) → (Region.wanted o (ayield ops.toArray tm) ≠ true → c = .pure ∧ v = undef ∧ h' = h) →
        Run P I ro n (.dops ops N0 (done.length + 1) rest (c.tag :: acc) :: k) Q ⟨putT tm o.dst v, df, h'⟩ →
        ∃ L' : Log, (∀ i o, ops[i]? = some o → EntOk P I ops N0 L' i o) ∧ L'.tm 0 = L.tm 0 ∧ L'.h 0 = L.h 0 ∧ drawOk ops ((List.range ops.length).map fun i => (L'.c i).tag) = true ∧ ∃ n, Run P I ro n k Q ⟨L'.tm ops.length, df, L'.h ops.length⟩ := by
      intro c v h' h1 h2 h3
      have hl : (done ++ [o]).length = done.length + 1 := by simp
      have := Run_D (N0 := N0) rest n (putT tm o.dst v) h' (c.tag :: acc) (done ++ [o]) (L.next done.length c v (putT tm o.dst v) h') (by simp [he]) (by rw [hl]; exact h3) ?_ (by rw [hl]; simp [Log.next]) (by rw [hl]; simp [Log.next]) ?_
      · obtain ⟨L', q1, q2, q3, q4⟩ := this
        exact ⟨L', q1, by rw [q2]; simp [Log.next], by rw [q3]; simp [Log.next], q4⟩
      · intro i oi hi hoi
        rw [hl] at hi
        by_cases e : i = done.length
        · subst e
          rw [ho] at hoi; cases hoi
          by_cases hw : Region.wanted o (ayield ops.toArray tm) = true
          · exact h1 hw
          · obtain ⟨rfl, rfl, rfl⟩ := h2 hw
            unfold EntOk
            simp only [Log.next, if_true, show ¬ done.length = done.length + 1 by omega, if_false, ht, hh, if_neg hw, and_self]
        · refine (hent i oi (by omega) hoi).congr ?_ ?_ ?_ ?_ ?_ ?_ <;> simp only [Log.next] <;> rw [if_neg (by omega)]
      · rw [hl, List.range_succ, List.map_append, List.reverse_cons, ha]
        congr 1
        · refine List.map_congr_left fun i hi => ?_
          have := List.mem_range.1 hi
          simp only [Log.next]
          rw [if_neg (by omega)]
        · simp [Log.next]
    have ent : ∀ (c : Cl) (v : Value) (h' : H), (Region.wanted o (ayield ops.toArray tm) = true → match c with
          | .pure => isPure o.op = true ∧ stepOp P I tm h o.type o.op = some (v, h) ∧ h' = h
          | .read id => isRead o.op = true ∧ stepOp P I tm h o.type o.op = some (v, h) ∧ h' = h ∧ ∀ i, id = some i → (i % 2 = 0 → i < h.new) ∧ ∀ h2 : H, h2.get i = h.get i → stepOp P I tm h2 o.type o.op = some (v, h2)
          | .alloc B => isAlloc o.op = true ∧ allocOp P tm (ridOf ops N0 done.length) o.op = some (v, B) ∧ h' = h.put (ridOf ops N0 done.length) B ∧ h.get (ridOf ops N0 done.length) = some .dead
          | .quiet => ∃ fn args, acall tm o.op = some (fn, args) ∧ Snd P I fn args h v h ∧ flat v = true ∧ h' = h
          | .eff w => (step2 P I tm h o.type o.op = some (v, h') ∨ (∃ fn args, acall tm o.op = some (fn, args) ∧ Snd P I fn args h v h')) ∧ effOk ops N0 done.length h h' ∧ ∀ a, w = some a → ∀ i, i ≠ a → (i % 2 = 0 → i < h.new) → h'.get i = h.get i) →
        Region.wanted o (ayield ops.toArray tm) = true → EntOk P I ops N0 (L.next done.length c v (putT tm o.dst v) h') done.length o := by
      intro c v h' hh1 hw
      have hh1 := hh1 hw
      unfold EntOk
      simp only [Log.next, if_true, show ¬ done.length = done.length + 1 by omega, if_false, ht, hh, if_pos hw, true_and]
      cases c with
      | eff w => exact ⟨hh1.1, hh1.2.1.1, hh1.2.1.2, hh1.2.2⟩
      | _ => exact hh1
    have hgo : Region.wanted o (ayield ops.toArray tm) = true → goD P I ops N0 done.length o tm h (fun c v h' => Run P I ro n (.dops ops N0 (done.length + 1) rest (c :: acc) :: k) Q ⟨putT tm o.dst v, df, h'⟩) →
        ∃ L' : Log, (∀ i o, ops[i]? = some o → EntOk P I ops N0 L' i o) ∧ L'.tm 0 = L.tm 0 ∧ L'.h 0 = L.h 0 ∧ drawOk ops ((List.range ops.length).map fun i => (L'.c i).tag) = true ∧ ∃ n, Run P I ro n k Q ⟨L'.tm ops.length, df, L'.h ops.length⟩ := by
      intro hw hg
      unfold goD at hg
      split at hg
      · obtain ⟨fn, args, v, h', h1, h2, ⟨rfl, h3, h4⟩ | ⟨w, hw2, h3, h4⟩⟩ := hg
        · exact key .quiet v _ (ent .quiet v _ fun _ => ⟨fn, args, h1, h2, h3, rfl⟩) (fun hn => absurd hw hn) h4
        · exact key (.eff w) v _ (ent (.eff w) v _ fun _ => ⟨.inr ⟨fn, args, h1, h2⟩, h3, hw2⟩) (fun hn => absurd hw hn) h4
      · split at hg
        · rename_i hal
          split at hg
          · rename_i v B hB
            exact key (.alloc B) v _ (ent (.alloc B) v _ fun _ => ⟨hal, hB, rfl, hg.1⟩) (fun hn => absurd hw hn) hg.2
          · exact hg.elim
        · split at hg
          · rename_i hp
            split at hg
            · rename_i v h' hs
              obtain ⟨rfl, hg⟩ := hg
              exact key .pure v _ (ent .pure v _ fun _ => ⟨hp, hs, rfl⟩) (fun hn => absurd hw hn) hg
            · exact hg.elim
          · split at hg
            · rename_i hp
              split at hg
              · rename_i v h' hs
                obtain ⟨rfl, hg⟩ := hg
                exact key (.read (rdId tm o.op)) v _ (ent (.read (rdId tm o.op)) v _ fun _ => ⟨hp, hs, rfl, rd_local hs⟩) (fun hn => absurd hw hn) hg
              · exact hg.elim
            · split at hg
              · rename_i v h' hs
                exact key (.eff (wrId tm o.op)) v _ (ent (.eff (wrId tm o.op)) v _ fun _ => ⟨.inl hs, hg.1, wr_local hs⟩) (fun hn => absurd hw hn) hg.2
              · exact hg.elim
    split at hr'
    · rename_i hn
      exact hgo (by simp [Region.wanted, hn]) hr'
    · rename_i j b hs
      split at hr'
      · rename_i hy
        exact hgo (by simp only [Region.wanted, hs]; rw [← yieldL_eq, hy]; simp) hr'
      · rename_i hy
        have hw : Region.wanted o (ayield ops.toArray tm) ≠ true := by
          simp only [Region.wanted, hs]; rw [← yieldL_eq]; simpa using hy
        exact key .pure undef h (fun hw' => absurd hw' hw) (fun _ => ⟨rfl, rfl, rfl⟩) hr'

theorem Run_sound : ∀ (c : Code), codeOk c = true → ∀ (n : Nat) (k : List K) (s : St), Run P I ro n (.code c :: k) Q s → TC P I ro c (Cont P I ro k Q) s
  | c, _, 0, k, s, h => h.elim
  | .skip, _, n + 1, k, s, h => TC_skip ⟨n, h⟩
  | .label _, _, n + 1, k, s, h => TC_label ⟨n, h⟩
  | .ret, _, n + 1, k, s, h => TC_ret ⟨n, h⟩
  | .exit _, _, n + 1, k, s, h => TC_exit ⟨n, h⟩
  | .seq a b, hok, n + 1, k, s, h => by
    simp only [codeOk, Bool.and_eq_true] at hok
    refine TC_seq ((Run_sound a hok.1 n (.code b :: k) s h).mono ?_)
    rintro e s' ⟨m, q⟩
    cases e with
    | normal => exact Run_sound b hok.2 m k s' q
    | _ => exact ⟨m, q⟩
  | .cond c a b, hok, n + 1, k, s, h => by
    simp only [codeOk, Bool.and_eq_true] at hok
    obtain ⟨t, ht, h1, h2⟩ := h
    exact TC_cond hok.1.1 ht (fun e => Run_sound a hok.1.2 n k s (h1 e)) (fun e => Run_sound b hok.2 n k s (h2 e))
  | .block id a, hok, n + 1, k, s, h => by
    refine TC_block ((Run_sound a hok n (.endB id :: k) s h).mono ?_)
    rintro e s' ⟨m, q⟩
    cases e with
    | normal =>
      cases m with
      | zero => exact q.elim
      | succ m => exact ⟨m, q⟩
    | exit i =>
      simp only [blockQ]
      simp only [ContK, popK] at q
      by_cases hi : i = id
      · subst hi
        rw [if_pos rfl] at q
        rw [if_pos rfl]
        exact ⟨m, q⟩
      · rw [if_neg (fun e => hi e.symm)] at q
        rw [if_neg hi]
        exact ⟨m, q⟩
    | _ => exact ⟨m, q⟩
  | .region id ops false, hok, n + 1, k, s, h => TC_region hok (Run_WO (ops := ops.toList) ops.toList n s.tm s.h h)
  | .region id ops true, hok, n + 1, k, ⟨tm, df, h⟩, hr => by
    obtain ⟨hm, hr⟩ := (show P.follows .mixedOrders = true ∧ Run P I ro n (.dops ops.toList h.length 0 ops.toList [] :: k) Q ⟨tm, df, h ++ List.replicate (slotsL ops.toList).length .dead⟩ from hr)
    obtain ⟨L, h1, h2, h3, h4, m, h5⟩ := Run_D (N0 := h.length) ops.toList n _ _ [] [] ⟨fun _ => tm, fun _ => h ++ List.replicate (slotsL ops.toList).length .dead, fun _ => .pure, fun _ => undef⟩ rfl hr
      (fun i o hi => absurd hi (Nat.not_lt_zero _)) rfl rfl rfl
    have d : DC P I ops.toList h.length L := ⟨fun j o ho => h1 j o ho, h4, fun j o ho => List.all_eq_true.1 hok o (List.mem_of_getElem? ho), by rw [h3]; simp⟩
    exact TC_draw (l := ops.toList) hm d h2 h3 ⟨m, h5⟩
  | .loop a, _, n + 1, k, s, h => by
    rw [Run_loop] at h
    exact h.mono fun e s q => ⟨n, q⟩
  | .rangeFunc _ _ _ _, _, n + 1, k, s, h => by
    rw [Run_rangeFunc] at h
    exact h.mono fun e s q => ⟨n, q⟩
  | .scope a, _, n + 1, k, s, h => by
    have h' : TC P I ro (.scope a) (ContK P I ro n k Q) s := by
      refine TC.mono (show TC P I ro (.scope a) _ s from h) fun e s q => ?_
      cases e <;> exact q
    exact h'.mono fun e s q => ⟨n, q⟩
  | .goto _, hok, _, k, s, h => by simp [codeOk] at hok
  | .refuse _, hok, _, k, s, h => by simp [codeOk] at hok

theorem Run_TC {c : Code} (hok : codeOk c = true) {n : Nat} (h : Run P I ro n [.code c] Q s) : TC P I ro c Q s :=
  (Run_sound c hok n [] s h).mono fun e s q => by
    obtain ⟨m, q⟩ := q
    cases e with
    | normal =>
      cases m with
      | zero => exact q.elim
      | succ m => exact q
    | exit i => exact q
    | _ => exact q

/-- a whole function -/
theorem Snd_run {g : FuncId} {fn : Func} {c : Code} {nt : Nat} {rs : List ResultVar} {args : List Value} {h h' : H} {v : Value} (n : Nat) (hf : P.funcs[g]? = some fn) (hok : fnOk fn = true) (hb : fn.body = some c) (hn : fn.ntmps = nt) (hr : fn.results.toList = rs)
    (hc : Run P I none n [.code c] (finR P I rs v h') ⟨args ++ List.replicate (nt - args.length) undef, [], h⟩) : Snd P I (.func g) args h v h' := by
  have hok' := hok
  simp only [fnOk, hb, Bool.and_eq_true, Bool.not_eq_true', beq_eq_false_iff_ne] at hok
  refine Snd_of hf hb hok.1 ?_
  rw [hn]
  unfold finQ
  rw [hr]
  exact Run_TC hok.2 hc

/-- a loop, by a relation and a measure, its round run -/
theorem Loop_run {c : Code} (hok : codeOk c = true) (m : Nat) (J : St → Prop) (μ : St → Nat) (h0 : J s) (round : ∀ s, J s → Run P I ro m [.code c] (thenQ Q (fun s' => J s' ∧ μ s' < μ s)) s) : TC P I ro (.loop c) Q s :=
  TC_loop J μ h0 fun s hs => Run_TC hok (round s hs)
end
end Go.Sym
