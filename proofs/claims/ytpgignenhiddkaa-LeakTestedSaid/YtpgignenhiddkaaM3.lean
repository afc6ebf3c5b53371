/- Equal values, blocks and heaps, found out. No program is named here. (own texts put together: SymTe SymRho SymT SymTs SymTt SymTu SymTv SymTw SymQn) -/
import Derived.Test.YtpgignenhiddkaaM2e
namespace Go.Sym
mutual
def eqV : Value → Value → Bool
  | .bool a, .bool b => a == b
  | .int j a, .int k b => decide (j = k) && decide (a = b)
  | .pointer a, .pointer b => decide (a = b)
  | .slice a n m, .slice b n' m' => decide (a = b) && decide (n = n') && decide (m = m')
  | .map a, .map b => decide (a = b)
  | .nilFunc, .nilFunc => true
  | .nilIface, .nilIface => true
  | .agg a, .agg b => eqA a b
  | .tuple a, .tuple b => eqA a b
  | .func (.func f) a b, .func (.func g) c d => decide (f = g) && eqA a c && eqA b d
  | .func (.yield f) a b, .func (.yield g) c d => decide (f = g) && eqA a c && eqA b d
  | _, _ => false
def eqA : Array Value → Array Value → Bool
  | ⟨a⟩, ⟨b⟩ => eqL a b
def eqL : List Value → List Value → Bool
  | [], [] => true
  | a :: l, b :: m => eqV a b && eqL l m
  | _, _ => false
end
mutual
theorem eqV_eq : ∀ a b, eqV a b = true → a = b
  | .bool a, b, h => by cases b <;> simp_all [eqV]
  | .int j a, b, h => by cases b <;> simp_all [eqV]
  | .pointer a, b, h => by cases b <;> simp_all [eqV]
  | .slice a n m, b, h => by cases b <;> simp_all [eqV]
  | .map a, b, h => by cases b <;> simp_all [eqV]
  | .nilFunc, b, h => by cases b <;> simp_all [eqV]
  | .nilIface, b, h => by cases b <;> simp_all [eqV]
  | .agg a, b, h => by
    cases b with
    | agg c => simp only [eqV] at h; rw [eqA_eq a c h]
    | _ => simp [eqV] at h
  | .tuple a, b, h => by
    cases b with
    | tuple c => simp only [eqV] at h; rw [eqA_eq a c h]
    | _ => simp [eqV] at h
  | .func (.func f) a b, x, h => by
    cases x with
    | func g c d =>
      cases g with
      | func g => simp only [eqV, Bool.and_eq_true, decide_eq_true_eq] at h; rw [h.1.1, eqA_eq a c h.1.2, eqA_eq b d h.2]
      | _ => simp [eqV] at h
    | _ => simp [eqV] at h
  | .func (.yield f) a b, x, h => by
    cases x with
    | func g c d =>
      cases g with
      | yield g => simp only [eqV, Bool.and_eq_true, decide_eq_true_eq] at h; rw [h.1.1, eqA_eq a c h.1.2, eqA_eq b d h.2]
      | _ => simp [eqV] at h
    | _ => simp [eqV] at h
  | .func (.method _) a b, x, h => by simp [eqV] at h
  | .func (.methodOf _ _) a b, x, h => by simp [eqV] at h
  | .func (.via _ _ _ _) a b, x, h => by simp [eqV] at h
  | .iface _ _, x, h => by simp [eqV] at h
  | .string _, x, h => by simp [eqV] at h
  | .float _ _, x, h => by simp [eqV] at h
  | .complex _ _ _, x, h => by simp [eqV] at h
  | .chan _, x, h => by simp [eqV] at h
theorem eqA_eq : ∀ a b, eqA a b = true → a = b
  | ⟨a⟩, ⟨b⟩, h => by simp only [eqA] at h; rw [eqL_eq a b h]
theorem eqL_eq : ∀ a b, eqL a b = true → a = b
  | [], b, h => by cases b <;> simp_all [eqL]
  | a :: l, b, h => by
    cases b with
    | nil => simp [eqL] at h
    | cons b m => simp only [eqL, Bool.and_eq_true] at h; rw [eqV_eq a b h.1, eqL_eq l m h.2]
end

def eqE : List MapEntry → List MapEntry → Bool
  | [], [] => true
  | a :: l, b :: m => eqV a.key b.key && eqV a.val b.val && decide (a.born = b.born) && eqE l m
  | _, _ => false
theorem eqE_eq : ∀ a b, eqE a b = true → a = b
  | [], b, h => by cases b <;> simp_all [eqE]
  | ⟨k, v, n⟩ :: l, b, h => by
    cases b with
    | nil => simp [eqE] at h
    | cons b m =>
      obtain ⟨k2, v2, n2⟩ := b
      simp only [eqE, Bool.and_eq_true, decide_eq_true_eq] at h
      rw [eqV_eq _ _ h.1.1.1, eqV_eq _ _ h.1.1.2, h.1.2, eqE_eq l m h.2]

def eqB : Blk → Blk → Bool
  | .cells a t, .cells b u => decide (t = u) && eqL a b
  | .row a t n, .row b u m => decide (t = u) && decide (n = m) && eqL a b
  | .obj (.map ⟨a⟩ n), .obj (.map ⟨b⟩ m) => decide (n = m) && eqE a b
  | .obj (.deferred (some [])), .obj (.deferred (some [])) => true
  | .dead, .dead => true
  | _, _ => false
theorem eqB_eq (a b : Blk) (h : eqB a b = true) : a = b := by
  unfold eqB at h
  split at h
  · simp only [Bool.and_eq_true, decide_eq_true_eq] at h; rw [h.1, eqL_eq _ _ h.2]
  · simp only [Bool.and_eq_true, decide_eq_true_eq] at h; rw [h.1.1, h.1.2, eqL_eq _ _ h.2]
  · simp only [Bool.and_eq_true, decide_eq_true_eq] at h; rw [h.1, eqE_eq _ _ h.2]
  · rfl
  · rfl
  · cases h
def eqH : H → H → Bool
  | [], [] => true
  | a :: l, b :: m => eqB a b && eqH l m
  | _, _ => false
theorem eqH_eq : ∀ a b, eqH a b = true → a = b
  | [], b, h => by cases b <;> simp_all [eqH]
  | a :: l, b, h => by
    cases b with
    | nil => simp [eqH] at h
    | cons b m => simp only [eqH, Bool.and_eq_true] at h; rw [eqB_eq a b h.1, eqH_eq l m h.2]
end Go.Sym
namespace Go.Sym
def stepR (P : Program) (I : Nat → Option Obj) (ρ : Operand → Value) (h : H) (ty : TypeId) (op : Op) : Option (Value × H) :=
  match op with
  | .move x => some (ρ x, h)
  | .assign x => some (ρ x, h)
  | .pick c a b => match ρ c with | .bool t => some (if t then ρ a else ρ b, h) | _ => none
  | .alloc t => match tzero P t with | some z => if flat z = true then some (nptr h, h ++ [.cells z.cells.toList t]) else none | none => none
  | .box t x => some (nptr h, h ++ [.cells (ρ x).cells.toList t])
  | .build t ps => (abuild P t (ps.toList.map fun p => (p.1, ρ p.2))).map fun v => (v, h)
  | .buildSlice t n ps => if n < UNK then abuildSlice P t n (ps.toList.map fun p => (p.1, ρ p.2)) h else none
  | .load t a => (aload P I t (ρ a) h).map fun v => (v, h)
  | .store t a x => (astore P t (ρ a) (ρ x) h).map fun h' => (undef, h')
  | .nilCheck x => match ρ x with | .pointer (some a) => some (.pointer (some a), h) | _ => none
  | .binOp op t x y _ => (abin P op t x y (ρ x) (ρ y)).map fun v => (v, h)
  | .unOp op _ x => (aun P op (ρ x)).map fun v => (v, h)
  | .convert s d x => (aconv P s d (ρ x)).map fun v => (v, h)
  | .makeFunc (.func f) first cap => some (.func (.func f) (first.map ρ) (cap.map ρ), h)
  | .makeSlice t l c => if flat (ρ l) = true ∧ flat (ρ c) = true then amakeSlice P t (ρ l) (ρ c) h else none
  | .slice t x lo hi mx =>
    match optInt (lo.map ρ), optInt (hi.map ρ), optInt (mx.map ρ) with
    | some lo', some hi', some mx' => (aslice P t (ρ x) lo' hi' mx' h).map fun v => (v, h)
    | _, _, _ => none
  | .fieldAddr s x f => (afield P s (ρ x) f).map fun v => (v, h)
  | .field t x f => (afieldV P t (ρ x) f).map fun v => (v, h)
  | .indexAddr t x i => if flat (ρ i) = true then (aindex P t (ρ x) (ρ i)).map fun v => (v, h) else none
  | .index t x i => (aidx P t (ρ x) (ρ i)).map fun v => (v, h)
  | .extract t i => match ρ t with | .tuple vs => (vs[i]?).map fun v => (v, h) | _ => none
  | .call c => match c.callee with | .builtin b => abi P I b c.argTypes ty (c.args.toList.map ρ) h | _ => none
  | _ => none

def step2R (P : Program) (I : Nat → Option Obj) (ρ : Operand → Value) (h : H) (ty : TypeId) (op : Op) : Option (Value × H) :=
  match op with
  | .makeMap _ none => some (.map (some h.new), h ++ [.obj (.map #[] 0)])
  | .mapEntry t m k => amapEntry P t (ρ m) (ρ k) h
  | .entryStore _ m s x => aentryStore (ρ m) (ρ s) (ρ x) h
  | .mapUpdate t m k x => amapUpdate P t (ρ m) (ρ k) (ρ x) h
  | .lookup t m k ok => alookup P t (ρ m) (ρ k) ok h
  | .call c => match c.callee with | .builtin b => abi2 P I b c.argTypes ty (c.args.toList.map ρ) h | _ => none
  | op => stepR P I ρ h ty op

def acallR (ρ : Operand → Value) (op : Op) : Option (Fn × List Value) :=
  match op with
  | .call c => match c.callee with
    | .value f => match ρ f with
      | .func (.func g) first cap => some (.func g, first.toList ++ c.args.toList.map ρ ++ cap.toList)
      | .func (.yield l) first _ => some (.yield l, first.toList ++ c.args.toList.map ρ)
      | _ => none
    | _ => none
  | _ => none

def allocR (P : Program) (ρ : Operand → Value) (rid : Nat) : Op → Option (Value × Blk)
  | .alloc t => match tzero P t with | some z => if flat z = true then some (.pointer (some ⟨rid, 0, none⟩), .cells z.cells.toList t) else none | none => none
  | .box t x => some (.pointer (some ⟨rid, 0, none⟩), .cells (ρ x).cells.toList t)
  | .buildSlice t n ps => if n < UNK then (sliceLit P t n (ps.toList.map fun p => (p.1, ρ p.2))).map fun x => (.slice (some ⟨rid, 0, none⟩) n n, .cells x.1 x.2) else none
  | _ => none

def rdR (ρ : Operand → Value) : Op → Option Nat
  | .load _ a => blockOf (ρ a)
  | _ => none
def wrR (ρ : Operand → Value) : Op → Option Nat
  | .call c => match c.callee with | .builtin .append => apL (c.args.toList.map ρ) | _ => none
  | .store _ a _ => blockOf (ρ a)
  | .mapEntry _ m _ => blockOf (ρ m)
  | .entryStore _ m _ _ => blockOf (ρ m)
  | .mapUpdate _ m _ _ => blockOf (ρ m)
  | _ => none


theorem stepR_eq (P : Program) (I : Nat → Option Obj) (tm : List Value) (h : H) (ty : TypeId) (op : Op) : stepR P I (ev tm) h ty op = stepOp P I tm h ty op := by
  cases op <;> rfl
theorem step2R_eq (P : Program) (I : Nat → Option Obj) (tm : List Value) (h : H) (ty : TypeId) (op : Op) : step2R P I (ev tm) h ty op = step2 P I tm h ty op := by
  cases op <;> first | rfl | (unfold step2R step2; first | rfl | (split <;> first | rfl | exact stepR_eq _ _ _ _ _ _) | exact stepR_eq _ _ _ _ _ _)
theorem acallR_eq (tm : List Value) (op : Op) : acallR (ev tm) op = acall tm op := by
  cases op <;> rfl
theorem allocR_eq (P : Program) (tm : List Value) (rid : Nat) (op : Op) : allocR P (ev tm) rid op = allocOp P tm rid op := by
  cases op <;> rfl
theorem rdR_eq (tm : List Value) (op : Op) : rdR (ev tm) op = rdId tm op := by
  cases op <;> rfl
theorem wrR_eq (tm : List Value) (op : Op) : wrR (ev tm) op = wrId tm op := by
  cases op <;> rfl
end Go.Sym
namespace Go.Sym

/-- what temporaries hold: the last one first -/
abbrev AL := List (Nat × Value)
def look : AL → Nat → Value
  | [], _ => undef
  | (k, v) :: l, t => match Nat.beq k t with | true => v | false => look l t
def trim : AL → Nat → AL
  | [], _ => []
  | (k, v) :: l, m => match m.testBit k with | true => trim l m | false => (k, v) :: trim l (m ||| 1 <<< k)
def enumA : Nat → List Value → AL
  | _, [] => []
  | k, v :: l => (k, v) :: enumA (k + 1) l
def evA (al : AL) : Operand → Value
  | .tmp t => look al t
  | x => ev [] x
def toL (n : Nat) (al : AL) : List Value := (List.range n).map (look al)
def yieldA (ops : List Oper) (al : AL) (j : Nat) : Option Bool :=
  match (ops[j]?).bind (·.dst) with
  | some d => (match look al d with | .bool b => some b | _ => none)
  | none => none
structure S2 where
  n : Nat
  al : AL
  df : List Nat
  h : H
def putA (n : Nat) (al : AL) (dst : Option Tmp) (v : Value) : Option AL := match dst with | some d => (match Nat.blt d n with | true => some ((d, v) :: al) | false => none) | none => some al

inductive Task where
  | fn (f : Fn) (args : List Value) (h : H)
  | code (ro : Option Nat) (c : Code) (st : S2)
inductive Res where
  | val (v : Value) (h : H)
  | ex (e : Exit) (s : S2)

def isDead : Option Blk → Bool
  | some .dead => true
  | _ => false

def gcH (v : Value) (h h' : H) : H :=
  if h'.length ≤ h.length then h'
  else if closedV (okN h.length) v && (h'.take h.length).all (closedB (okN h.length)) then h'.take h.length else h'

/-- what the evaluator is told: the program, its functions, and runs of operations that it takes at once -/
structure Kit where
  P : Program
  I : Nat → Option Obj
  F : Nat → Option Func
  sp : Nat → List Oper → AL → H → Option (List Oper × AL × H)
  mem : Nat → List Value → H → Option Value := fun _ _ _ => none

def wants (ops : List Oper) (al : AL) (o : Oper) : Bool := match o.guard with | none => true | some (i, b) => (match yieldA ops al i with | some c => c == b | none => false)

section
variable (X : Kit) (r : Task → Option Res)

def exOps (ops : List Oper) (n : Nat) : Nat → List Oper → AL → H → Option (AL × H)
  | 0, _, _, _ => none
  | m + 1, l, al, h =>
    match l with
    | [] => some (al, h)
    | o :: rest =>
      match okOp o.op with
      | false => none
      | true =>
        match X.sp n (o :: rest) al h with
        | some (l', al', h') => exOps ops n m l' al' h'
        | none =>
          match wants ops al o with
          | true =>
            match isCall o.op with
            | true =>
              match acallR (evA al) o.op with
              | some (fn, args) =>
                match r (.fn fn args h) with
                | some (.val v h') => (match putA n al o.dst v with | some al' => exOps ops n m rest al' h' | none => none)
                | _ => none
              | none => none
            | false =>
              match step2R X.P X.I (evA al) h o.type o.op with
              | some (v, h') => (match putA n al o.dst v with | some al' => exOps ops n m rest al' h' | none => none)
              | none => none
          | false => (match putA n al o.dst undef with | some al' => exOps ops n m rest al' h | none => none)

def effB (ops : List Oper) (N0 j : Nat) (h h' : H) : Bool := Nat.ble h.length h'.length && (freeIds ops N0 j).all fun id => isDead (h.get id) && isDead (h'.get id)

def stCls (o : Oper) : Ct := if isCall o.op = true then .eff none else if isAlloc o.op = true then .alloc else if isPure o.op = true then .pure else if isRead o.op = true then .read none else .eff none
def drawSt (ops : List Oper) : Bool := drawOk ops (ops.map stCls)

def exD (st : Bool) (ops : List Oper) (N0 n : Nat) : Nat → List Oper → List Ct → AL → H → Option (AL × H)
  | _, [], acc, al, h => match (st || drawOk ops acc.reverse) with | true => some (al, h) | false => none
  | j, o :: rest, acc, al, h =>
    let go (c : Ct) (v : Value) (h' : H) : Option (AL × H) := match putA n al o.dst v with | some al' => exD st ops N0 n (j + 1) rest (c :: acc) al' h' | none => none
    match wants ops al o with
    | true =>
      match isCall o.op with
      | true =>
        match acallR (evA al) o.op with
        | some (fn, args) =>
          match r (.fn fn args h) with
          | some (.val v h') =>
            match (!st && flat v && eqH h' h) with
            | true => go .quiet v h
            | false => (match effB ops N0 j h h' with | true => go (.eff none) v h' | false => none)
          | _ => none
        | none => none
      | false =>
        match isAlloc o.op with
        | true =>
          match allocR X.P (evA al) (ridOf ops N0 j) o.op with
          | some (v, B) => (match isDead (h.get (ridOf ops N0 j)) with | true => go .alloc v (h.put (ridOf ops N0 j) B) | false => none)
          | none => none
        | false =>
          match isPure o.op with
          | true => (match stepR X.P X.I (evA al) h o.type o.op with | some (v, _) => go .pure v h | none => none)
          | false =>
            match isRead o.op with
            | true => (match stepR X.P X.I (evA al) h o.type o.op with | some (v, _) => go (.read (rdR (evA al) o.op)) v h | none => none)
            | false =>
              match step2R X.P X.I (evA al) h o.type o.op with
              | some (v, h') => (match effB ops N0 j h h' with | true => go (.eff (wrR (evA al) o.op)) v h' | false => none)
              | none => none
    | false => go .pure undef h

def exLoop (ro : Option Nat) (c : Code) : Nat → S2 → Option (Exit × S2)
  | 0, _ => none
  | m + 1, s =>
    match r (.code ro c s) with
    | some (.ex .normal s') => exLoop ro c m ⟨s'.n, trim s'.al 0, s'.df, s'.h⟩
    | some (.ex e s') => some (e, s')
    | _ => none

def aresR (P : Program) (I : Nat → Option Obj) (al : AL) (h : H) : List ResultVar → Option (List Value)
  | [] => some []
  | .tmp t :: l => (aresR P I al h l).map fun m => look al t :: m
  | .cell a t :: l => (aload P I t (look al a) h).bind fun v => (aresR P I al h l).map fun m => v :: m

def exFn (f : Fn) (args : List Value) (h : H) : Option Res :=
  match f with
  | .func g =>
    match X.F g with
    | some fn =>
      match fn.body with
      | some c =>
        match Nat.ble args.length fn.ntmps with
        | true =>
          match r (.code none c ⟨fn.ntmps, enumA 0 args, [], h⟩) with
          | some (.ex e s) =>
            match (match e with | .normal => true | .ret => true | _ => false) with
            | true =>
              match leave s.df s.h with
              | some h' =>
                match aresR X.P X.I s.al h' fn.results.toList with
                | some vs => some (.val (one vs) (gcH (one vs) h h'))
                | none => none
              | none => none
            | false => none
          | _ => none
        | false => none
      | none => none
    | none => none
  | .yield l =>
    match h.get l with
    | some (.loop tm ps as body .ready _ _) =>
      match Nat.beq args.length ps.size with
      | true =>
        match r (.code (some l) as ⟨tm.length, enumA 0 (setAll ps.toList args tm), [], h⟩) with
        | some (.ex .normal s) =>
          match s.h.get l with
          | some (.loop tm1 ps1 as1 b1 .ready p1 d1) =>
            match r (.code (some l) body ⟨s.n, s.al, s.df, s.h.put l (.loop tm1 ps1 as1 b1 .busy p1 d1)⟩) with
            | some (.ex e s2) =>
              match s2.h.get l with
              | some (.loop tm2 ps2 as2 b2 _ _ d2) =>
                match e with
                | .normal => some (.val (.bool true) (s2.h.put l (.loop tm2 ps2 as2 b2 .ready none d2)))
                | .ret => some (.val (.bool false) (s2.h.put l (.loop tm2 ps2 as2 b2 .done (some .ret) d2)))
                | .exit id => some (.val (.bool false) (s2.h.put l (.loop tm2 ps2 as2 b2 .done (some (.exit id)) d2)))
                | _ => none
              | _ => none
            | _ => none
          | _ => none
        | _ => none
      | false => none
    | _ => none
  | _ => none

def exRange (f : Operand) (ps : Array Tmp) (as body : Code) (s : S2) : Option Res :=
  match okO f with
  | false => none
  | true =>
    match evA s.al f with
    | .func (.func g) first cap =>
      match r (.fn (.func g) (first.toList ++ [.func (.yield (2 * (s.h.length + 1))) #[] #[]] ++ cap.toList) (s.h ++ [.obj (.deferred (some [])), .loop (toL s.n s.al) ps as body .ready none (2 * s.h.length)])) with
      | some (.val _ h2) =>
        match h2.get (2 * (s.h.length + 1)) with
        | some (.loop _ _ _ _ st1 pend _) =>
          match st1 with
          | .busy => none
          | _ =>
            match pend with
            | none => some (.ex .normal ⟨s.n, s.al, (2 * s.h.length) :: s.df, h2.put (2 * (s.h.length + 1)) .dead⟩)
            | some .ret => some (.ex .ret ⟨s.n, s.al, (2 * s.h.length) :: s.df, h2.put (2 * (s.h.length + 1)) .dead⟩)
            | some (.exit id) => some (.ex (.exit id) ⟨s.n, s.al, (2 * s.h.length) :: s.df, h2.put (2 * (s.h.length + 1)) .dead⟩)
            | _ => none
        | _ => none
      | _ => none
    | _ => none

def exCode (ro : Option Nat) (c : Code) (s : S2) : Option Res :=
  match c with
  | .skip | .label _ => some (.ex .normal s)
  | .ret => some (.ex .ret s)
  | .exit id => some (.ex (.exit id) s)
  | .seq a b =>
    match r (.code ro a s) with
    | some (.ex .normal s) => r (.code ro b s)
    | x => x
  | .cond c a b =>
    match okO c with
    | true =>
      match evA s.al c with
      | .bool true => r (.code ro a s)
      | .bool false => r (.code ro b s)
      | _ => none
    | false => none
  | .block id a =>
    match r (.code ro a s) with
    | some (.ex (.exit i) s) => (match Nat.beq i id with | true => some (.ex .normal s) | false => some (.ex (.exit i) s))
    | x => x
  | .scope a =>
    match r (.code ro a s) with
    | some (.ex (.goto _) _) => none
    | x => x
  | .loop a => (exLoop r ro a 1000000 s).map fun x => .ex x.1 x.2
  | .region _ ops false => (exOps X r ops.toList s.n 1000000 ops.toList s.al s.h).map fun x => .ex .normal ⟨s.n, x.1, s.df, x.2⟩
  | .region _ ops true =>
    match (ops.toList.all fun o => okOp o.op) with
    | true => (exD X r (drawSt ops.toList) ops.toList s.h.length s.n 0 ops.toList [] s.al (s.h ++ List.replicate (slotsL ops.toList).length .dead)).map fun x => .ex .normal ⟨s.n, x.1, s.df, x.2⟩
    | false => none
  | .rangeFunc f ps as body => match ro with | none => exRange r f ps as body s | some _ => none
  | _ => none

def memF (f : Fn) (args : List Value) (h : H) : Option Value := match f with | .func g => X.mem g args h | _ => none
def exT : Task → Option Res
  | .fn f args h => (match memF X f args h with | some v => some (.val v h) | none => exFn X r f args h)
  | .code ro c s => exCode X r ro c s
end

def exec (X : Kit) : Nat → Task → Option Res
  | 0 => fun _ => none
  | n + 1 => exT X (exec X n)
end Go.Sym
set_option linter.unusedSimpArgs false
set_option linter.unusedVariables false
namespace Go.Sym

/-! fewer that meet -/
def dom (c' c : Ct) : Prop := c'.nm = .pure ∨ c'.nm = c.nm ∨ (c'.nm = .quiet ∧ c.nm = .eff)
def plain (c : Ct) : Prop := ∀ d, disj c d = false ∧ disj d c = false

theorem memT_dom {a b a' b' : Ct} (ha : dom a' a) (hb : dom b' b) (hp : plain a) (h : memT a b = false) : memT a' b' = false := by
  have h1 : memC a.nm b.nm = false := by
    unfold memT at h
    rw [(hp b).1] at h
    simpa using h
  have h2 : memC a'.nm b'.nm = false := by
    unfold dom at ha hb
    generalize a'.nm = x' at *
    generalize b'.nm = y' at *
    generalize a.nm = x at *
    generalize b.nm = y at *
    rcases ha with rfl | rfl | ⟨rfl, rfl⟩ <;> rcases hb with rfl | rfl | ⟨rfl, rfl⟩ <;> first | rfl | exact h1 | (cases y' <;> first | rfl | cases h1) | (cases x' <;> first | rfl | cases h1) | cases h1
  unfold memT
  rw [h2]; rfl

/-- lists that go together -/
def Doms : List (OI × Ct) → List (OI × Ct) → Prop
  | [], [] => True
  | (x', c') :: l', (x, c) :: l => x' = x ∧ dom c' c ∧ plain c ∧ Doms l' l
  | _, _ => False
def DomC : List Ct → List Ct → Prop
  | [], [] => True
  | c' :: l', c :: l => dom c' c ∧ plain c ∧ DomC l' l
  | _, _ => False
theorem Doms.snoc {x : OI} {c c' : Ct} (h1 : dom c' c) (h2 : plain c) : ∀ {l' l : List (OI × Ct)}, Doms l' l → Doms (l' ++ [(x, c')]) (l ++ [(x, c)])
  | [], [], _ => ⟨rfl, h1, h2, trivial⟩
  | _ :: _, _ :: _, h => ⟨h.1, h.2.1, h.2.2.1, Doms.snoc h1 h2 h.2.2.2⟩
  | [], _ :: _, h => h.elim
  | _ :: _, [], h => h.elim
theorem DomC.snoc {c c' : Ct} (h1 : dom c' c) (h2 : plain c) : ∀ {l' l : List Ct}, DomC l' l → DomC (l' ++ [c']) (l ++ [c])
  | [], [], _ => ⟨h1, h2, trivial⟩
  | _ :: _, _ :: _, h => ⟨h.1, h.2.1, DomC.snoc h1 h2 h.2.2⟩
  | [], _ :: _, h => h.elim
  | _ :: _, [], h => h.elim
theorem pairsOk_dom {b : OI} {c c' : Ct} (hc : dom c' c) : ∀ {n : Nat} {l' l : List (OI × Ct)}, Doms l' l → pairsOk b c n l = true → pairsOk b c' n l' = true
  | _, [], [], _, _ => rfl
  | n, (x', d') :: l', (x, d) :: l, h, hp => by
    obtain ⟨rfl, h1, h2, h3⟩ := h
    simp only [pairsOk, Bool.and_eq_true, Bool.or_eq_true, beq_iff_eq, Bool.not_eq_true'] at hp ⊢
    refine ⟨?_, pairsOk_dom hc h3 hp.2⟩
    rcases hp.1 with ⟨q1, q2⟩ | q
    · exact .inl ⟨q1, memT_dom h1 hc h2 q2⟩
    · exact .inr q
  | _, [], _ :: _, h, _ => h.elim
  | _, _ :: _, [], h, _ => h.elim
theorem drawGo_dom : ∀ {rest : List OI} {j : Nat} {done' done : List (OI × Ct)} {cs' cs : List Ct}, Doms done' done → DomC cs' cs → drawGo j done rest cs = true → drawGo j done' rest cs' = true
  | [], _, _, _, _, _, _, _, _ => by simp only [drawGo]
  | x :: rest, j, done', done, [], [], _, _, h => by simp [drawGo] at h
  | x :: rest, j, done', done, c' :: cs', c :: cs, hd, hc, h => by
    simp only [drawGo, Bool.and_eq_true] at h ⊢
    exact ⟨⟨h.1.1, pairsOk_dom hc.1 hd h.1.2⟩, drawGo_dom (hd.snoc hc.1 hc.2.1) hc.2.2 h.2⟩
  | _ :: _, _, _, _, [], _ :: _, _, h, _ => h.elim
  | _ :: _, _, _, _, _ :: _, [], _, h, _ => h.elim
theorem drawOk_dom {ops : List Oper} {cs' cs : List Ct} (h : DomC cs' cs) (hd : drawOk ops cs = true) : drawOk ops cs' = true := drawGo_dom (done' := []) (done := []) trivial h hd

theorem plain_of {c : Ct} (h : c = .eff none ∨ c = .alloc ∨ c = .pure ∨ c = .read none) : plain c := by
  intro d
  rcases h with rfl | rfl | rfl | rfl <;> cases d with
  | read x => cases x <;> exact ⟨rfl, rfl⟩
  | eff x => cases x <;> exact ⟨rfl, rfl⟩
  | _ => exact ⟨rfl, rfl⟩
theorem plain_st (o : Oper) : plain (stCls o) := by
  apply plain_of
  unfold stCls
  split
  · exact .inl rfl
  · split
    · exact .inr (.inl rfl)
    · split
      · exact .inr (.inr (.inl rfl))
      · split
        · exact .inr (.inr (.inr rfl))
        · exact .inl rfl

/-! temporaries -/
structure TR (n : Nat) (al : AL) (tm : List Value) : Prop where
  len : tm.length = n
  get : ∀ t, tm.getD t undef = look al t
structure Rel (a : S2) (s : St) : Prop where
  tr : TR a.n a.al s.tm
  df : s.df = a.df
  h : s.h = a.h

theorem TR.ev {n : Nat} {al : AL} {tm : List Value} (r : TR n al tm) : evA al = Sym.ev tm := by
  funext x
  cases x with
  | tmp t => exact (r.get t).symm
  | _ => rfl
theorem TR.put {n : Nat} {al al' : AL} {tm : List Value} (r : TR n al tm) {dst : Option Tmp} {v : Value} (h : putA n al dst v = some al') : TR n al' (putT tm dst v) := by
  unfold putA at h
  cases dst with
  | none => cases h; exact r
  | some d =>
    simp only at h
    split at h
    · rename_i hd
      cases h
      have hd' : d < n := by simpa using hd
      refine ⟨by simp [putT, r.len], fun t => ?_⟩
      simp only [putT, look]
      by_cases e : d = t
      · subst e
        have : Nat.beq d d = true := Nat.beq_refl d
        simp [this, r.len, hd']
      · have : Nat.beq d t = false := by
          cases hb : Nat.beq d t with
          | false => rfl
          | true => exact absurd (Nat.eq_of_beq_eq_true hb) e
        rw [this]
        simp only [List.getD_eq_getElem?_getD, List.getElem?_set, if_neg e]
        rw [← List.getD_eq_getElem?_getD]; exact r.get t
    · cases h
theorem look_enum : ∀ {l : List Value} {k t : Nat}, look (enumA k l) t = if k ≤ t then l.getD (t - k) undef else undef
  | [], k, t => by simp [enumA, look]
  | v :: l, k, t => by
    simp only [enumA, look]
    by_cases e : k = t
    · subst e
      have : Nat.beq k k = true := Nat.beq_refl k
      simp [this]
    · have : Nat.beq k t = false := by
        cases hb : Nat.beq k t with
        | false => rfl
        | true => exact absurd (Nat.eq_of_beq_eq_true hb) e
      rw [this]
      simp only
      rw [look_enum]
      by_cases h1 : k ≤ t
      · have : t - k = (t - (k + 1)) + 1 := by omega
        rw [if_pos (by omega), if_pos h1, this, List.getD_cons_succ]
      · rw [if_neg (by omega), if_neg h1]
theorem TR.enum (tm : List Value) : TR tm.length (enumA 0 tm) tm := ⟨rfl, fun t => by rw [look_enum, if_pos (Nat.zero_le _), Nat.sub_zero]⟩
theorem TR.args {args : List Value} {n : Nat} (h : args.length ≤ n) : TR n (enumA 0 args) (args ++ List.replicate (n - args.length) undef) := by
  refine ⟨by simp; omega, fun t => ?_⟩
  rw [look_enum, if_pos (Nat.zero_le _), Nat.sub_zero]
  simp only [List.getD_eq_getElem?_getD, List.getElem?_append]
  split
  · rfl
  · rename_i hlt
    rw [List.getElem?_eq_none (l := args) (by omega)]
    simp only [List.getElem?_replicate]
    split <;> rfl
theorem look_trim : ∀ {al : AL} {m t : Nat}, look (trim al m) t = if m.testBit t = true then undef else look al t
  | [], m, t => by simp [trim, look]
  | (k, v) :: l, m, t => by
    simp only [trim]
    split
    · rename_i hk
      rw [look_trim]
      split
      · rfl
      · rename_i ht
        simp only [look]
        have : Nat.beq k t = false := by
          cases hb : Nat.beq k t with
          | false => rfl
          | true => have := Nat.eq_of_beq_eq_true hb; subst this; exact absurd hk ht
        rw [this]
    · rename_i hk
      simp only [look]
      cases hb : Nat.beq k t with
      | true =>
        have := Nat.eq_of_beq_eq_true hb; subst this
        simp only [hk, Bool.false_eq_true, if_false]
      | false =>
        simp only
        rw [look_trim, Nat.testBit_or, bit_one]
        have : t ≠ k := fun e => by subst e; rw [Nat.beq_refl] at hb; cases hb
        simp [this]
theorem TR.trim {n : Nat} {al : AL} {tm : List Value} (r : TR n al tm) : TR n (Sym.trim al 0) tm := ⟨r.len, fun t => by rw [look_trim, if_neg (by simp)]; exact r.get t⟩
theorem TR.list {n : Nat} {al : AL} {tm : List Value} (r : TR n al tm) : toL n al = tm := by
  apply List.ext_getElem?
  intro t
  unfold toL
  rw [List.getElem?_map]
  by_cases h : t < n
  · rw [List.getElem?_range h, Option.map_some, ← r.get t, List.getD_eq_getElem?_getD, List.getElem?_eq_getElem (by rw [r.len]; exact h)]
    rfl
  · rw [List.getElem?_eq_none (l := List.range n) (by simp; omega), List.getElem?_eq_none (by rw [r.len]; omega)]
    rfl
theorem TR.yield {n : Nat} {al : AL} {tm : List Value} (r : TR n al tm) (ops : List Oper) (j : Nat) : yieldA ops al j = yieldL ops tm j := by
  unfold yieldA yieldL
  cases (ops[j]?).bind (·.dst) with
  | none => rfl
  | some d =>
    simp only [Option.bind_some, ← r.get d, List.getD_eq_getElem?_getD]
    cases tm[d]? with
    | none => rfl
    | some v => cases v <;> rfl
theorem wants_eq {n : Nat} {al : AL} {tm : List Value} (r : TR n al tm) (ops : List Oper) (o : Oper) : wants ops al o = Region.wanted o (ayield ops.toArray tm) := by
  unfold wants Region.wanted
  cases o.guard with
  | none => rfl
  | some g =>
    obtain ⟨i, b⟩ := g
    simp only [r.yield, yieldL_eq]
    cases ayield ops.toArray tm i with
    | none => cases b <;> rfl
    | some c => cases b <;> cases c <;> rfl
end Go.Sym
namespace Go.Sym
section
variable {P : Program} {I : Nat → Option Obj}

/-! operations one after another, told by what they come to -/
def LC (P : Program) (I : Nat → Option Obj) (ops : Array Oper) (ro : Option Nat) (l : List Oper) (tm : List Value) (df : List Nat) (h : H) (Q : Exit → St → Prop) : Prop :=
  ∀ E w a E0 h0 w0, R I E h w → concL E tm = some a.tmps.toList → DRel E df a.defers → Kn E ro → Adv E0 h0 w0 E h w → wpListIn (FE E ro) 0 P ops (Post I E0 h0 w0 Q) l a w

theorem LC_nil {ops : Array Oper} {ro : Option Nat} {tm : List Value} {df : List Nat} {h : H} {Q : Exit → St → Prop} (q : Q .normal ⟨tm, df, h⟩) : LC P I ops ro [] tm df h Q :=
  fun E w a E0 h0 w0 r ht hd hk adv => ⟨E, ⟨tm, df, h⟩, r, ht, hd, adv, q⟩
theorem LC_skip {ops : Array Oper} {ro : Option Nat} {o : Oper} {rest : List Oper} {tm : List Value} {df : List Nat} {h : H} {Q : Exit → St → Prop} (hw : Region.wanted o (ayield ops tm) = false) (hr : LC P I ops ro rest (putT tm o.dst undef) df h Q) :
    LC P I ops ro (o :: rest) tm df h Q := by
  intro E w a E0 h0 w0 r ht hd hk adv
  unfold wpListIn
  rw [← ayield_eq ht ops, if_neg (by rw [hw]; simp)]
  obtain ⟨p1, p2⟩ := conc_put ht (conc_undef E) o.dst
  exact ⟨about_ok, hr E w _ E0 h0 w0 r p1 (p2 ▸ hd) hk adv⟩
theorem LC_step {ops : Array Oper} {ro : Option Nat} {o : Oper} {rest : List Oper} {tm : List Value} {df : List Nat} {h h' : H} {v : Value} {Q : Exit → St → Prop} (hok : okOp o.op = true) (hw : Region.wanted o (ayield ops tm) = true)
    (hs : step2 P I tm h o.type o.op = some (v, h')) (hr : LC P I ops ro rest (putT tm o.dst v) df h' Q) : LC P I ops ro (o :: rest) tm df h Q := by
  intro E w a E0 h0 w0 r ht hd hk adv
  unfold wpListIn
  rw [← ayield_eq ht ops, if_pos hw]
  refine wpIn_of_does2 hok rfl (step2_sound r ht hok hs) fun E' w' c hcv hR hA => ?_
  obtain ⟨p1, p2⟩ := conc_put (concL_ext hA.ext _ _ ht) hcv o.dst
  rw [← FE_ext hA.ext hk]
  exact hr E' w' _ E0 h0 w0 hR p1 (p2 ▸ hd.ext hA.ext) (hk.ext hA.ext) (adv.trans hA)
theorem LC_call {ops : Array Oper} {ro : Option Nat} {o : Oper} {rest : List Oper} {tm : List Value} {df : List Nat} {h h' : H} {v : Value} {fn : Fn} {args : List Value} {Q : Exit → St → Prop} (hok : okOp o.op = true) (hw : Region.wanted o (ayield ops tm) = true)
    (hc : acall tm o.op = some (fn, args)) (hs : Snd P I fn args h v h') (hr : LC P I ops ro rest (putT tm o.dst v) df h' Q) : LC P I ops ro (o :: rest) tm df h Q := by
  intro E w a E0 h0 w0 r ht hd hk adv
  unfold wpListIn
  rw [← ayield_eq ht ops, if_pos hw]
  refine wpIn_of_call2 hok rfl r ht hc hs fun E' w' c hcv hR hA => ?_
  obtain ⟨p1, p2⟩ := conc_put (concL_ext hA.ext _ _ ht) hcv o.dst
  rw [← FE_ext hA.ext hk]
  exact hr E' w' _ E0 h0 w0 hR p1 (p2 ▸ hd.ext hA.ext) (hk.ext hA.ext) (adv.trans hA)
theorem LC_region {ro : Option Nat} {id : Nat} {ops : Array Oper} {Q : Exit → St → Prop} {s : St} (h : LC P I ops ro ops.toList s.tm s.df s.h Q) : TC P I ro (.region id ops false) Q s :=
  fun E w a r ht hd hk => wpIn_region_list (h E w a E s.h w r ht hd hk (Adv.refl _ _ _))

/-- what is asked of what the evaluator is told -/
structure Kit.Ok (X : Kit) : Prop where
  fn : ∀ g fn, X.F g = some fn → X.P.funcs[g]? = some fn ∧ fn.name ≠ "runtime.NumGoroutine"
  mixed : X.P.follows .mixedOrders = true
  sp : ∀ n l al h l' al' h', X.sp n l al h = some (l', al', h') → ∀ tm, TR n al tm → ∃ tm', TR n al' tm' ∧ ∀ ops ro df Q, LC X.P X.I ops ro l' tm' df h' Q → LC X.P X.I ops ro l tm df h Q
  mem : ∀ g args h v, X.mem g args h = some v → Snd X.P X.I (.func g) args h v h

structure Sound (X : Kit) (r : Task → Option Res) : Prop where
  fn : ∀ f args h v h', r (.fn f args h) = some (.val v h') → Snd X.P X.I f args h v h'
  code : ∀ ro c a e a', r (.code ro c a) = some (.ex e a') → ∀ s, Rel a s → ∃ s', Rel a' s' ∧ ∀ Q : Exit → St → Prop, Q e s' → TC X.P X.I ro c Q s
end

section
variable {X : Kit} {r : Task → Option Res}

theorem exOps_sound (ok : X.Ok) (snd : Sound X r) (ops : List Oper) (n : Nat) : ∀ (m : Nat) (l : List Oper) (al : AL) (h : H) (al' : AL) (h' : H), exOps X r ops n m l al h = some (al', h') → ∀ tm, TR n al tm →
    ∃ tm', TR n al' tm' ∧ ∀ ro df (Q : Exit → St → Prop), Q .normal ⟨tm', df, h'⟩ → LC X.P X.I ops.toArray ro l tm df h Q
  | 0, _, _, _, _, _, he, _, _ => by simp [exOps] at he
  | m + 1, l, al, h, al', h', he, tm, tr => by
    unfold exOps at he
    split at he
    · cases he
      exact ⟨tm, tr, fun ro df Q q => LC_nil q⟩
    · rename_i o rest
      split at he
      · cases he
      · rename_i hok
        split at he
        · rename_i l2 al2 h2 hsp
          obtain ⟨tm2, tr2, hlc⟩ := ok.sp _ _ _ _ _ _ _ hsp tm tr
          obtain ⟨tm3, tr3, hq⟩ := exOps_sound ok snd ops n m _ _ _ _ _ he tm2 tr2
          exact ⟨tm3, tr3, fun ro df Q q => hlc _ ro df Q (hq ro df Q q)⟩
        · rw [wants_eq tr] at he
          split at he
          · rename_i hw
            split at he
            · split at he
              · rename_i fn args hc
                rw [tr.ev, acallR_eq] at hc
                split at he
                · rename_i v h2 hr
                  split at he
                  · rename_i al2 hp
                    obtain ⟨tm3, tr3, hq⟩ := exOps_sound ok snd ops n m _ _ _ _ _ he _ (tr.put hp)
                    exact ⟨tm3, tr3, fun ro df Q q => LC_call hok hw hc (snd.fn _ _ _ _ _ hr) (hq ro df Q q)⟩
                  · cases he
                · cases he
              · cases he
            · split at he
              · rename_i v h2 hs
                rw [tr.ev, step2R_eq] at hs
                split at he
                · rename_i al2 hp
                  obtain ⟨tm3, tr3, hq⟩ := exOps_sound ok snd ops n m _ _ _ _ _ he _ (tr.put hp)
                  exact ⟨tm3, tr3, fun ro df Q q => LC_step hok hw hs (hq ro df Q q)⟩
                · cases he
              · cases he
          · rename_i hw
            split at he
            · rename_i al2 hp
              obtain ⟨tm3, tr3, hq⟩ := exOps_sound ok snd ops n m _ _ _ _ _ he _ (tr.put hp)
              exact ⟨tm3, tr3, fun ro df Q q => LC_skip hw (hq ro df Q q)⟩
            · cases he
end
end Go.Sym
namespace Go.Sym
section
variable {X : Kit} {r : Task → Option Res}

theorem isDead_eq {x : Option Blk} (h : isDead x = true) : x = some .dead := by
  unfold isDead at h
  split at h
  · rfl
  · cases h
theorem effB_ok {ops : List Oper} {N0 j : Nat} {h h' : H} (hb : effB ops N0 j h h' = true) : effOk ops N0 j h h' := by
  unfold effB at hb
  simp only [Bool.and_eq_true, List.all_eq_true] at hb
  refine ⟨fun id hid => ?_, Nat.le_of_ble_eq_true hb.1⟩
  have := hb.2 id hid
  rw [isDead_eq this.1, isDead_eq this.2]

theorem dom_st {o : Oper} {c : Ct} (h : c.nm = .pure ∨ (isCall o.op = true ∧ (c = .quiet ∨ c = .eff none)) ∨ (isCall o.op = false ∧ isAlloc o.op = true ∧ c = .alloc) ∨
    (isCall o.op = false ∧ isAlloc o.op = false ∧ isPure o.op = false ∧ isRead o.op = true ∧ c.nm = .read) ∨ (isCall o.op = false ∧ isAlloc o.op = false ∧ isPure o.op = false ∧ isRead o.op = false ∧ c.nm = .eff)) : dom c (stCls o) := by
  unfold stCls
  rcases h with h | ⟨h1, rfl | rfl⟩ | ⟨h1, h2, rfl⟩ | ⟨h1, h2, h3, h4, h5⟩ | ⟨h1, h2, h3, h4, h5⟩
  · exact .inl h
  · rw [if_pos h1]; exact .inr (.inr ⟨rfl, rfl⟩)
  · rw [if_pos h1]; exact .inr (.inl rfl)
  · rw [if_neg (by rw [h1]; simp), if_pos h2]; exact .inr (.inl rfl)
  · rw [if_neg (by rw [h1]; simp), if_neg (by rw [h2]; simp), if_neg (by rw [h3]; simp), if_pos h4]; exact .inr (.inl h5)
  · rw [if_neg (by rw [h1]; simp), if_neg (by rw [h2]; simp), if_neg (by rw [h3]; simp), if_neg (by rw [h4]; simp)]; exact .inr (.inl h5)

theorem exD_sound (snd : Sound X r) (st : Bool) (ops : List Oper) (N0 n : Nat) : ∀ (rest : List Oper) (j : Nat) (acc : List Ct) (al : AL) (h : H) (al' : AL) (h' : H) (done : List Oper), ops = done ++ rest → DomC acc.reverse (done.map stCls) →
    exD X r st ops N0 n j rest acc al h = some (al', h') → ∀ tm, TR n al tm →
    ∃ (tm' : List Value) (accF : List Ct), TR n al' tm' ∧ (st = true ∨ drawOk ops accF.reverse = true) ∧ DomC accF.reverse (ops.map stCls) ∧
      (drawOk ops accF.reverse = true → ∀ ro df k (Q : Exit → St → Prop) m, Run X.P X.I ro m k Q ⟨tm', df, h'⟩ → Run X.P X.I ro (m + 1 + rest.length) (.dops ops N0 j rest acc :: k) Q ⟨tm, df, h⟩)
  | [], j, acc, al, h, al', h', done, hd, hdom, he, tm, tr => by
    unfold exD at he
    split at he
    · rename_i hb
      cases he
      rw [List.append_nil] at hd
      subst hd
      exact ⟨tm, acc, tr, by simpa using hb, hdom, fun hok ro df k Q m hr => ⟨hok, hr⟩⟩
    · cases he
  | o :: rest, j, acc, al, h, al', h', done, hd, hdom, he, tm, tr => by
    unfold exD at he
    rw [wants_eq tr] at he
    have hd2 : ops = (done ++ [o]) ++ rest := by simp [hd]
    -- one step
    have key : ∀ (c : Ct) (v : Value) (h2 : H), dom c (stCls o) → (match putA n al o.dst v with | some al2 => exD X r st ops N0 n (j + 1) rest (c :: acc) al2 h2 | none => none) = some (al', h') →
        (∀ ro df k (Q : Exit → St → Prop) m, Run X.P X.I ro m (.dops ops N0 (j + 1) rest (c :: acc) :: k) Q ⟨putT tm o.dst v, df, h2⟩ → Run X.P X.I ro (m + 1) (.dops ops N0 j (o :: rest) acc :: k) Q ⟨tm, df, h⟩) →
        ∃ (tm' : List Value) (accF : List Ct), TR n al' tm' ∧ (st = true ∨ drawOk ops accF.reverse = true) ∧ DomC accF.reverse (ops.map stCls) ∧
          (drawOk ops accF.reverse = true → ∀ ro df k (Q : Exit → St → Prop) m, Run X.P X.I ro m k Q ⟨tm', df, h'⟩ → Run X.P X.I ro (m + 1 + (o :: rest).length) (.dops ops N0 j (o :: rest) acc :: k) Q ⟨tm, df, h⟩) := by
      intro c v h2 hc hg hrun
      split at hg
      · rename_i al2 hp
        obtain ⟨tm', accF, q1, q2, q3, q4⟩ := exD_sound snd st ops N0 n rest (j + 1) (c :: acc) al2 h2 al' h' (done ++ [o]) hd2 (by
          rw [List.reverse_cons, List.map_append]
          exact hdom.snoc hc (plain_st o)) hg _ (tr.put hp)
        refine ⟨tm', accF, q1, q2, q3, fun hok ro df k Q m hr => ?_⟩
        have := hrun ro df k Q _ (q4 hok ro df k Q m hr)
        exact this
      · cases hg
    have guard : ∀ ro df k (Q : Exit → St → Prop) m, Region.wanted o (ayield ops.toArray tm) = true → goD X.P X.I ops N0 j o tm h (fun c v h' => Run X.P X.I ro m (.dops ops N0 (j + 1) rest (c :: acc) :: k) Q ⟨putT tm o.dst v, df, h'⟩) →
        Run X.P X.I ro (m + 1) (.dops ops N0 j (o :: rest) acc :: k) Q ⟨tm, df, h⟩ := by
      intro ro df k Q m hw hg
      show step1 X.P X.I ro (Run X.P X.I ro m) _ Q _
      unfold step1
      simp only
      split
      · exact hg
      · rename_i i b hgd
        rw [if_pos]
        · exact hg
        · unfold Region.wanted at hw
          rw [hgd] at hw
          rw [yieldL_eq]; simpa using hw
    simp only at he
    split at he
    · rename_i hw
      split at he
      · rename_i hcall
        split at he
        · rename_i fn args hc
          rw [tr.ev, acallR_eq] at hc
          split at he
          · rename_i v h2 hr
            have hs := snd.fn _ _ _ _ _ hr
            split at he
            · rename_i hq
              simp only [Bool.and_eq_true] at hq
              have he2 := eqH_eq _ _ hq.2
              subst he2
              refine key .quiet v _ (dom_st (.inr (.inl ⟨hcall, .inl rfl⟩))) he fun ro df k Q m hrun => guard ro df k Q m hw ?_
              unfold goD
              rw [if_pos hcall]
              exact ⟨fn, args, v, _, hc, hs, .inl ⟨rfl, hq.1.2, hrun⟩⟩
            · split at he
              · rename_i hb
                refine key (.eff none) v _ (dom_st (.inr (.inl ⟨hcall, .inr rfl⟩))) he fun ro df k Q m hrun => guard ro df k Q m hw ?_
                unfold goD
                rw [if_pos hcall]
                exact ⟨fn, args, v, _, hc, hs, .inr ⟨none, fun a ha => (by cases ha), effB_ok hb, hrun⟩⟩
              · cases he
          · cases he
        · cases he
      · rename_i hcall
        split at he
        · rename_i hal
          split at he
          · rename_i v B hop
            rw [tr.ev, allocR_eq] at hop
            split at he
            · rename_i hdd
              refine key .alloc v _ (dom_st (.inr (.inr (.inl ⟨hcall, hal, rfl⟩)))) he fun ro df k Q m hrun => guard ro df k Q m hw ?_
              unfold goD
              rw [if_neg (by rw [hcall]; simp), if_pos hal, hop]
              exact ⟨isDead_eq hdd, hrun⟩
            · cases he
          · cases he
        · rename_i hal
          split at he
          · rename_i hpu
            split at he
            · rename_i v h2 hs
              rw [tr.ev, stepR_eq] at hs
              have hsame := stepOp_same (by rw [hpu]; rfl) hs
              subst hsame
              refine key .pure v _ (dom_st (.inl rfl)) he fun ro df k Q m hrun => guard ro df k Q m hw ?_
              unfold goD
              rw [if_neg (by rw [hcall]; simp), if_neg (by rw [hal]; simp), if_pos hpu, hs]
              exact ⟨rfl, hrun⟩
            · cases he
          · rename_i hpu
            split at he
            · rename_i hrd
              split at he
              · rename_i v h2 hs
                rw [tr.ev, stepR_eq] at hs
                have hsame := stepOp_same (by rw [hpu, hrd]; rfl) hs
                subst hsame
                rw [tr.ev, rdR_eq] at he
                refine key (.read (rdId tm o.op)) v _ (dom_st (.inr (.inr (.inr (.inl ⟨hcall, hal, hpu, hrd, rfl⟩))))) he fun ro df k Q m hrun => guard ro df k Q m hw ?_
                unfold goD
                rw [if_neg (by rw [hcall]; simp), if_neg (by rw [hal]; simp), if_neg (by rw [hpu]; simp), if_pos hrd, hs]
                exact ⟨rfl, hrun⟩
              · cases he
            · rename_i hrd
              split at he
              · rename_i v h2 hs
                rw [tr.ev, step2R_eq] at hs
                split at he
                · rename_i hb
                  rw [tr.ev, wrR_eq] at he
                  refine key (.eff (wrId tm o.op)) v _ (dom_st (.inr (.inr (.inr (.inr ⟨hcall, hal, hpu, hrd, rfl⟩))))) he fun ro df k Q m hrun => guard ro df k Q m hw ?_
                  unfold goD
                  rw [if_neg (by rw [hcall]; simp), if_neg (by rw [hal]; simp), if_neg (by rw [hpu]; simp), if_neg (by rw [hrd]; simp), hs]
                  exact ⟨effB_ok hb, hrun⟩
                · cases he
              · cases he
    · rename_i hw
      refine key .pure undef h (dom_st (.inl rfl)) he fun ro df k Q m hrun => ?_
      show step1 X.P X.I ro (Run X.P X.I ro m) _ Q _
      unfold step1
      simp only
      split
      · rename_i hgd
        unfold Region.wanted at hw
        rw [hgd] at hw; simp at hw
      · rename_i i b hgd
        rw [if_neg]
        · exact hrun
        · unfold Region.wanted at hw
          rw [hgd] at hw
          rw [yieldL_eq]
          simpa using hw

theorem gc_sound {P : Program} {I : Nat → Option Obj} {fn : Fn} {args : List Value} {h h' : H} {v : Value} (hs : Snd P I fn args h v h') : Snd P I fn args h v (gcH v h h') := by
  unfold gcH
  split
  · exact hs
  · rename_i hl
    split
    · rename_i hc
      simp only [Bool.and_eq_true, List.all_eq_true] at hc
      refine hs.gc (Nat.le_refl _) (by omega) hc.1 fun id B hlt hg => .inl (hc.2 B ?_)
      rw [← get_take hlt] at hg
      unfold H.get at hg
      split at hg
      · exact List.mem_of_getElem? hg
      · cases hg
    · exact hs

theorem aresR_eq {P : Program} {I : Nat → Option Obj} {n : Nat} {al : AL} {tm : List Value} (tr : TR n al tm) (h : H) : ∀ (l : List ResultVar), aresR P I al h l = aresL P I tm h l
  | [] => rfl
  | .tmp t :: l => by simp only [aresR, aresL, aresR_eq tr h l, tr.get]
  | .cell a t :: l => by simp only [aresR, aresL, aresR_eq tr h l, tr.get]

theorem setAll_length {ps : List Tmp} {args tm : List Value} : (setAll ps args tm).length = tm.length := by
  unfold setAll
  generalize ps.zip args = l
  induction l generalizing tm with
  | nil => rfl
  | cons p l ih => simp only [List.foldl_cons]; rw [ih]; simp

theorem exFn_sound (ok : X.Ok) (snd : Sound X r) {f : Fn} {args : List Value} {h h' : H} {v : Value} (he : exFn X r f args h = some (.val v h')) : Snd X.P X.I f args h v h' := by
  unfold exFn at he
  split at he
  · rename_i g
    split at he
    · rename_i fn hF
      obtain ⟨hf, hname⟩ := ok.fn g fn hF
      split at he
      · rename_i c hb
        split at he
        · rename_i hle
          split at he
          · rename_i e s hr
            split at he
            · rename_i hex
              split at he
              · rename_i h2 hlv
                split at he
                · rename_i vs hvs
                  cases he
                  obtain ⟨s', hrel, htc⟩ := snd.code _ _ _ _ _ hr ⟨args ++ List.replicate (fn.ntmps - args.length) undef, [], h⟩ ⟨TR.args (Nat.le_of_ble_eq_true hle), rfl, rfl⟩
                  refine gc_sound (Snd_of hf hb hname (htc _ ⟨?_, ?_, ?_⟩))
                  · cases e <;> first | exact .inl rfl | exact .inr rfl | cases hex
                  · rw [hrel.df, hrel.h]; exact hlv
                  · rw [aresR_eq hrel.tr] at hvs
                    rw [hvs]; rfl
                · cases he
              · cases he
            · cases he
          · cases he
        · cases he
      · cases he
    · cases he
  · rename_i l
    split at he
    · rename_i tm ps as body pend d hg
      split at he
      · rename_i hn
        split at he
        · rename_i s hr1
          split at he
          · rename_i tm1 ps1 as1 b1 p1 d1 hg1
            split at he
            · rename_i e s2 hr2
              split at he
              · rename_i tm2 ps2 as2 b2 st2 p2 d2 hg2
                have htr : TR tm.length (enumA 0 (setAll ps.toList args tm)) (setAll ps.toList args tm) := by
                  have := TR.enum (setAll ps.toList args tm)
                  rw [setAll_length] at this; exact this
                obtain ⟨s', hrel, htc⟩ := snd.code _ _ _ _ _ hr1 ⟨setAll ps.toList args tm, [], h⟩ ⟨htr, rfl, rfl⟩
                refine Snd_yield hg (Nat.eq_of_beq_eq_true hn) (htc _ ⟨rfl, tm1, ps1, as1, b1, p1, d1, by rw [hrel.h]; exact hg1, ?_⟩)
                obtain ⟨s3, hrel3, htc3⟩ := snd.code _ _ _ _ _ hr2 ⟨s'.tm, s'.df, s'.h.put l (.loop tm1 ps1 as1 b1 .busy p1 d1)⟩ ⟨hrel.tr, hrel.df, by rw [hrel.h]⟩
                refine htc3 _ ⟨tm2, ps2, as2, b2, st2, p2, d2, by rw [hrel3.h]; exact hg2, ?_⟩
                rw [hrel3.h]
                split at he
                · cases he; exact ⟨rfl, rfl⟩
                · cases he; exact ⟨rfl, rfl⟩
                · cases he; exact ⟨rfl, rfl⟩
                · cases he
              · cases he
            · cases he
          · cases he
        · cases he
      · cases he
    · cases he
  · cases he
end
end Go.Sym
namespace Go.Sym
section
variable {X : Kit} {r : Task → Option Res}

theorem exRange_sound (snd : Sound X r) {f : Operand} {ps : Array Tmp} {as body : Code} {a a' : S2} {e : Exit} (he : exRange r f ps as body a = some (.ex e a')) : ∀ s, Rel a s → ∃ s', Rel a' s' ∧ ∀ Q : Exit → St → Prop, Q e s' → TC X.P X.I none (.rangeFunc f ps as body) Q s := by
  rintro ⟨tm, df, h⟩ ⟨tr, rfl, rfl⟩
  unfold exRange at he
  split at he
  · cases he
  · rename_i hok
    split at he
    · rename_i g first cap hev
      rw [tr.ev] at hev
      split at he
      · rename_i v h2 hr
        have hs := snd.fn _ _ _ _ _ hr
        rw [tr.list] at hs
        split at he
        · rename_i tm1 ps1 as1 b1 st1 pend d1 hg
          split at he
          · cases he
          · rename_i hb
            have hb' : st1 ≠ .busy := fun e => hb e
            split at he
            · cases he
              exact ⟨⟨tm, (2 * a.h.length) :: a.df, h2.put (2 * (a.h.length + 1)) .dead⟩, ⟨tr, rfl, rfl⟩, fun Q q => TC_range hok hev hs hg hb' q⟩
            · cases he
              exact ⟨⟨tm, (2 * a.h.length) :: a.df, h2.put (2 * (a.h.length + 1)) .dead⟩, ⟨tr, rfl, rfl⟩, fun Q q => TC_range hok hev hs hg hb' q⟩
            · cases he
              exact ⟨⟨tm, (2 * a.h.length) :: a.df, h2.put (2 * (a.h.length + 1)) .dead⟩, ⟨tr, rfl, rfl⟩, fun Q q => TC_range hok hev hs hg hb' q⟩
            · cases he
        · cases he
      · cases he
    · cases he

theorem least_of (p : Nat → Prop) : (∃ k, p k) → ∃ k, p k ∧ ∀ j, p j → k ≤ j := by
  rintro ⟨k, hk⟩
  induction k using Nat.strongRecOn with
  | ind k ih =>
    by_cases h : ∃ j, j < k ∧ p j
    · obtain ⟨j, hj, hp⟩ := h
      exact ih j hj hp
    · exact ⟨k, hk, fun j hj => Nat.le_of_not_lt fun hlt => h ⟨j, hlt, hj⟩⟩
noncomputable def low {p : Nat → Prop} (h : ∃ k, p k) : Nat := Classical.choose (least_of p h)
theorem low_spec {p : Nat → Prop} (h : ∃ k, p k) : p (low h) := (Classical.choose_spec (least_of p h)).1
theorem low_min {p : Nat → Prop} (h : ∃ k, p k) {j : Nat} (hj : p j) : low h ≤ j := (Classical.choose_spec (least_of p h)).2 j hj

open Classical in
theorem exLoop_sound (snd : Sound X r) {ro : Option Nat} {c : Code} {m : Nat} {a a' : S2} {e : Exit} (he : exLoop r ro c m a = some (e, a')) : ∀ s, Rel a s → ∃ s', Rel a' s' ∧ ∀ Q : Exit → St → Prop, Q e s' → TC X.P X.I ro (.loop c) Q s := by
  -- the rounds, as a relation
  have run : ∀ (m : Nat) (a : S2), exLoop r ro c m a = some (e, a') → ∀ s, Rel a s → ∃ s', Rel a' s' ∧ ∀ Q : Exit → St → Prop, Q e s' →
      (∃ J : Nat → St → Prop, J m s ∧ ∀ k t, J k t → TC X.P X.I ro c (thenQ Q fun t' => ∃ k', k' < k ∧ J k' t') t) := by
    intro m
    induction m with
    | zero => intro a he; cases he
    | succ m ih =>
      intro a he s hrel
      unfold exLoop at he
      split at he
      · rename_i a1 hr
        obtain ⟨s1, hrel1, htc⟩ := snd.code _ _ _ _ _ hr s hrel
        obtain ⟨s', hrel', hall⟩ := ih ⟨a1.n, trim a1.al 0, a1.df, a1.h⟩ he s1 ⟨hrel1.tr.trim, hrel1.df, hrel1.h⟩
        refine ⟨s', hrel', fun Q q => ?_⟩
        obtain ⟨J, hJ, hround⟩ := hall Q q
        refine ⟨fun k t => (k = m + 1 ∧ t = s) ∨ (k ≤ m ∧ J k t), .inl ⟨rfl, rfl⟩, fun k t hk => ?_⟩
        rcases hk with ⟨rfl, rfl⟩ | ⟨hk, hJk⟩
        · exact htc _ ⟨m, by omega, .inr ⟨Nat.le_refl _, hJ⟩⟩
        · refine (hround k t hJk).mono fun e' t' hq => ?_
          cases e' with
          | normal =>
            obtain ⟨k', hlt, hJ'⟩ := hq
            exact ⟨k', hlt, .inr ⟨by omega, hJ'⟩⟩
          | _ => exact hq
      · rename_i e1 a1 hne hr
        cases he
        obtain ⟨s1, hrel1, htc⟩ := snd.code _ _ _ _ _ hr s hrel
        refine ⟨s1, hrel1, fun Q q => ⟨fun k t => k = m + 1 ∧ t = s, ⟨rfl, rfl⟩, fun k t hk => ?_⟩⟩
        obtain ⟨rfl, rfl⟩ := hk
        apply htc
        cases e with
        | normal => exact absurd rfl hne
        | _ => exact q
      · cases he
  intro s hrel
  obtain ⟨s', hrel', hall⟩ := run m a he s hrel
  refine ⟨s', hrel', fun Q q => ?_⟩
  obtain ⟨J, hJ, hround⟩ := hall Q q
  let J' : St → Prop := fun t => ∃ k, J k t
  have hex : ∀ t, J' t → ∃ k, J k t := fun t h => h
  let μ : St → Nat := fun t => if h : ∃ k, J k t then low h else 0
  refine TC_loop J' μ ⟨m, hJ⟩ fun t ht => ?_
  have hμ : μ t = low ht := dif_pos ht
  refine (hround _ t (low_spec ht)).mono fun e' t' hq => ?_
  cases e' with
  | normal =>
    obtain ⟨k', hlt, hJ'⟩ := hq
    refine ⟨⟨k', hJ'⟩, ?_⟩
    have h2 : ∃ k, J k t' := ⟨k', hJ'⟩
    have : μ t' = low h2 := dif_pos h2
    rw [this, hμ]
    exact Nat.lt_of_le_of_lt (low_min h2 hJ') hlt
  | _ => exact hq

theorem exCode_sound (ok : X.Ok) (snd : Sound X r) {ro : Option Nat} {c : Code} {a a' : S2} {e : Exit} (he : exCode X r ro c a = some (.ex e a')) : ∀ s, Rel a s → ∃ s', Rel a' s' ∧ ∀ Q : Exit → St → Prop, Q e s' → TC X.P X.I ro c Q s := by
  intro s hrel
  cases c with
  | skip => simp only [exCode] at he; cases he; exact ⟨s, hrel, fun Q q => TC_skip q⟩
  | label l => simp only [exCode] at he; cases he; exact ⟨s, hrel, fun Q q => TC_label q⟩
  | ret => simp only [exCode] at he; cases he; exact ⟨s, hrel, fun Q q => TC_ret q⟩
  | exit id => simp only [exCode] at he; cases he; exact ⟨s, hrel, fun Q q => TC_exit q⟩
  | seq x y =>
    simp only [exCode] at he
    split at he
    · rename_i a1 hr
      obtain ⟨s1, hrel1, htc⟩ := snd.code _ _ _ _ _ hr s hrel
      obtain ⟨s2, hrel2, htc2⟩ := snd.code _ _ _ _ _ he s1 hrel1
      exact ⟨s2, hrel2, fun Q q => TC_seq (htc _ (htc2 Q q))⟩
    · rename_i hne
      obtain ⟨s1, hrel1, htc⟩ := snd.code _ _ _ _ _ he s hrel
      refine ⟨s1, hrel1, fun Q q => TC_seq (htc _ ?_)⟩
      cases e with
      | normal => exact absurd he (hne a')
      | _ => exact q
  | cond c x y =>
    simp only [exCode] at he
    split at he
    · rename_i hok
      rw [hrel.tr.ev] at he
      split at he
      · rename_i hev
        obtain ⟨s1, hrel1, htc⟩ := snd.code _ _ _ _ _ he s hrel
        exact ⟨s1, hrel1, fun Q q => TC_cond hok hev (fun _ => htc Q q) (fun h => by cases h)⟩
      · rename_i hev
        obtain ⟨s1, hrel1, htc⟩ := snd.code _ _ _ _ _ he s hrel
        exact ⟨s1, hrel1, fun Q q => TC_cond hok hev (fun h => by cases h) (fun _ => htc Q q)⟩
      · cases he
    · cases he
  | block id x =>
    simp only [exCode] at he
    split at he
    · rename_i i a1 hr
      obtain ⟨s1, hrel1, htc⟩ := snd.code _ _ _ _ _ hr s hrel
      split at he
      · rename_i hi
        cases he
        refine ⟨s1, hrel1, fun Q q => TC_block (htc _ ?_)⟩
        simp only [blockQ, if_pos (Nat.eq_of_beq_eq_true hi)]; exact q
      · rename_i hi
        cases he
        refine ⟨s1, hrel1, fun Q q => TC_block (htc _ ?_)⟩
        have : i ≠ id := fun e => by subst e; rw [Nat.beq_refl] at hi; cases hi
        simp only [blockQ, if_neg this]; exact q
    · rename_i hne
      obtain ⟨s1, hrel1, htc⟩ := snd.code _ _ _ _ _ he s hrel
      refine ⟨s1, hrel1, fun Q q => TC_block (htc _ ?_)⟩
      cases e with
      | exit i => exact absurd he (hne i a')
      | _ => exact q
  | scope x =>
    simp only [exCode] at he
    split at he
    · cases he
    · rename_i hne
      obtain ⟨s1, hrel1, htc⟩ := snd.code _ _ _ _ _ he s hrel
      refine ⟨s1, hrel1, fun Q q => TC_scope (htc _ ?_)⟩
      cases e with
      | goto l => exact absurd he (hne l a')
      | _ => exact q
  | loop x =>
    simp only [exCode, Option.map_eq_some_iff] at he
    obtain ⟨⟨e1, a1⟩, hl, hh⟩ := he
    cases hh
    exact exLoop_sound snd hl s hrel
  | region id ops b =>
    cases b with
    | false =>
      simp only [exCode, Option.map_eq_some_iff] at he
      obtain ⟨⟨al1, h1⟩, hl, hh⟩ := he
      cases hh
      obtain ⟨tm', tr', hq⟩ := exOps_sound ok snd _ _ _ _ _ _ _ _ hl s.tm hrel.tr
      refine ⟨⟨tm', s.df, h1⟩, ⟨tr', hrel.df, rfl⟩, fun Q q => LC_region ?_⟩
      have := hq ro s.df Q q
      rw [hrel.h]
      simpa using this
    | true =>
      simp only [exCode] at he
      split at he
      · rename_i hok
        simp only [Option.map_eq_some_iff] at he
        obtain ⟨⟨al1, h1⟩, hl, hh⟩ := he
        cases hh
        obtain ⟨tm', accF, tr', hst, hdom, hrun⟩ := exD_sound snd _ _ _ _ ops.toList 0 [] _ _ _ _ [] rfl trivial hl s.tm hrel.tr
        have hdraw : drawOk ops.toList accF.reverse = true := by
          rcases hst with h | h
          · exact drawOk_dom hdom h
          · exact h
        refine ⟨⟨tm', s.df, h1⟩, ⟨tr', hrel.df, rfl⟩, fun Q q => ?_⟩
        have h2 := hrun hdraw ro s.df [] Q 1 q
        refine Run_TC (n := (1 + 1 + ops.toList.length) + 1) hok ?_
        refine ⟨ok.mixed, ?_⟩
        rw [hrel.h]
        exact h2
      · cases he
  | rangeFunc f ps x y =>
    simp only [exCode] at he
    split at he
    · exact exRange_sound snd he s hrel
    · cases he
  | _ => simp only [exCode] at he; cases he

theorem exec_sound (ok : X.Ok) : ∀ n, Sound X (exec X n)
  | 0 => { fn := fun _ _ _ _ _ h => (by simp [exec] at h), code := fun _ _ _ _ _ h => (by simp [exec] at h) }
  | n + 1 => ⟨fun f args h v h' he => (by
      simp only [exec, exT] at he
      split at he
      · rename_i u hm
        cases he
        unfold memF at hm
        split at hm
        · exact ok.mem _ _ _ _ hm
        · cases hm
      · exact exFn_sound ok (exec_sound ok n) he), fun _ _ _ _ _ h => exCode_sound ok (exec_sound ok n) h⟩
end
end Go.Sym
namespace Go.Sym

/-- what came in, and nothing else -/
def oddE : Env := fun id => if id % 2 = 1 then some { b := id / 2 } else none
theorem oddE_odd (b : Nat) : oddE (2 * b + 1) = some { b := b } := by
  unfold oddE
  have e : (2 * b + 1) / 2 = b := by omega
  rw [if_pos (by omega), e]
theorem oddE_even {id : Nat} (h : id % 2 = 0) : oddE id = none := by
  unfold oddE; rw [if_neg (by omega)]
/-- a call that was run with no input and on the empty heap, is one with all inputs and on all heaps -/
theorem Snd.closed {P : Program} {g : FuncId} {args : List Value} {h' : H} {v : Value} (hs : Snd P (fun _ => none) (.func g) args [] v h') (ha : flatL args = true) (hv : flat v = true) (I : Nat → Option Obj) (h : H) : Snd P I (.func g) args h v h := by
  refine ⟨hs.1, fun E w cargs r hargs => ?_⟩
  have r0 : R (fun _ => none) oddE [] w :=
    ⟨fun id L hL hid => absurd hL (by rw [oddE_even hid]; simp), fun b o hb => (by cases hb), oddE_odd, fun i j L M hi _ hi2 => absurd hi (by rw [oddE_even hi2]; simp), fun i L hi hi2 => absurd hi (by rw [oddE_even hi2]; simp)⟩
  have hargs0 : concL oddE args = some cargs := by
    rw [concL_flat _ _ ha]
    rw [concL_flat _ _ ha] at hargs
    exact hargs
  refine CallsIn.mono (hs.2 oddE w cargs r0 hargs0) ?_
  rintro e w' ⟨E', c, rfl, hc, r', adv⟩
  have hfr : ∀ b, b < w.heap.size → w'.heap[b]? = w.heap[b]? := fun b hb => adv.frame b hb fun id L hL hid => absurd hL (by rw [oddE_even hid]; simp)
  rw [conc_flat _ _ hv] at hc
  cases hc
  refine ⟨E, v, rfl, conc_flat _ _ hv, ⟨fun id L hL hid => ?_, fun b o hbo => ?_, r.inpd, r.inj, r.sep⟩, ⟨Ext.refl E, fun b hb _ => hfr b hb, adv.grow, fun _ _ h1 h2 => (by rw [h1] at h2; cases h2), fun _ _ _ _ hl => hl, adv.tape, adv.os, adv.out, Nat.le_refl _⟩⟩
  · obtain ⟨B, hB, hrel⟩ := r.blk id L hL hid
    refine ⟨B, hB, ?_⟩
    by_cases hd : B = .dead
    · subst hd; trivial
    · rw [hfr _ (r.live_lt hL hid ⟨B, hB, hd⟩)]; exact hrel
  · obtain ⟨h1, h2⟩ := r.inp b o hbo
    exact ⟨h1, by rw [hfr b (r.inp_lt hbo)]; exact h2⟩

/-- does a closed call come to this value? -/
def says (X : Kit) (n : Nat) (g : FuncId) (args : List Value) (v : Value) : Bool :=
  match exec X n (.fn (.func g) args []) with
  | some (.val u _) => eqV u v
  | _ => false

theorem Snd_says {X : Kit} (ok : X.Ok) (hI : X.I = fun _ => none) {n : Nat} {g : FuncId} {args : List Value} {v : Value} (hs : says X n g args v = true) (ha : flatL args = true) (hv : flat v = true) (I : Nat → Option Obj) (h : H) : Snd X.P I (.func g) args h v h := by
  unfold says at hs
  split at hs
  · rename_i u h' he
    have := eqV_eq _ _ hs
    subst this
    have := (exec_sound ok n).fn _ _ _ _ _ he
    rw [hI] at this
    exact this.closed ha hv I h
  · cases hs
end Go.Sym
namespace Go.Sym
theorem Snd.front {P : Program} {I : Nat → Option Obj} {g : FuncId} {args : List Value} {h0 : H} {v : Value} (hs : Snd P I (.func g) args h0 v h0) (ha : closedL (okN h0.length) args = true) (hv : flat v = true) (hb : h0.all (closedB (okN h0.length)) = true) (l : H) : Snd P I (.func g) args (h0 ++ l) v (h0 ++ l) := by
  refine ⟨hs.1, fun E w cargs r hargs => ?_⟩
  have hget : ∀ id, id < 2 * h0.length → (h0 ++ l : H).get id = h0.get id := by
    intro id hid
    unfold H.get
    split
    · rw [List.getElem?_append_left (by omega)]
    · rfl
  have hcl : ∀ id B, h0.get id = some B → closedB (okN h0.length) B = true := by
    intro id B hg
    have hev := (H.get_lt hg).2
    unfold H.get at hg
    rw [if_pos hev] at hg
    exact List.all_eq_true.1 hb B (List.mem_of_getElem? hg)
  have same : ∀ id, okN h0.length id = true → cutE E h0.length id = E id := fun id hok => by unfold cutE; rw [if_pos hok]
  have sub : Ext (cutE E h0.length) E := fun id L hL => by
    unfold cutE at hL; split at hL
    · exact hL
    · cases hL
  have hlt : ∀ id L, cutE E h0.length id = some L → id % 2 = 0 → id < 2 * h0.length := by
    intro id L hL hid
    unfold cutE at hL
    split at hL
    · rename_i hok; unfold okN at hok; simp at hok; omega
    · cases hL
  have live : ∀ id, id < 2 * h0.length → h0.live id → (h0 ++ l : H).live id := by
    rintro id hid ⟨B, hB, hd⟩
    exact ⟨B, by rw [hget id hid]; exact hB, hd⟩
  have r0 : R I (cutE E h0.length) h0 w := by
    refine ⟨fun id L hL hid => ?_, fun b o hbo => ?_, fun b => by rw [same _ (by unfold okN; simp)]; exact r.inpd b, fun i j L M hi hj hi2 hj2 hli hlj he => ?_, fun i L hi hi2 hli => ?_⟩
    · have hl := hlt id L hL hid
      obtain ⟨B, hB, hrel⟩ := r.blk id L (sub _ _ hL) hid
      rw [hget id hl] at hB
      exact ⟨B, hB, BRel_same same (hcl _ _ hB) hrel⟩
    · obtain ⟨h1, h2⟩ := r.inp b o hbo
      exact ⟨by rw [same _ (by unfold okN; simp)]; exact h1, h2⟩
    · exact r.inj i j L M (sub _ _ hi) (sub _ _ hj) hi2 hj2 (live i (hlt i L hi hi2) hli) (live j (hlt j M hj hj2) hlj) he
    · exact r.sep i L (sub _ _ hi) hi2 (live i (hlt i L hi hi2) hli)
  have hargs0 : concL (cutE E h0.length) args = some cargs := by rw [concL_same same args ha]; exact hargs
  refine CallsIn.mono (hs.2 (cutE E h0.length) w cargs r0 hargs0) ?_
  rintro e w' ⟨E', c, rfl, hc, r', adv⟩
  rw [conc_flat _ _ hv] at hc
  cases hc
  -- what the call may touch: the blocks of the beginning alone
  have touch : ∀ b, b < w.heap.size → (∀ id L, E id = some L → id % 2 = 0 → id < 2 * h0.length → h0.live id → L.b ≠ b) → w'.heap[b]? = w.heap[b]? := by
    intro b hb hn
    refine adv.frame b hb fun id L hL hid hli => ?_
    exact hn id L (sub _ _ hL) hid (hlt id L hL hid) hli
  refine ⟨E, v, rfl, conc_flat _ _ hv, ⟨fun id L hL hid => ?_, fun b o hbo => ?_, r.inpd, r.inj, r.sep⟩, ⟨Ext.refl E, fun b hb hn => ?_, adv.grow, fun _ _ h1 h2 => (by rw [h1] at h2; cases h2), fun _ _ _ _ hl => hl, adv.tape, adv.os, adv.out, Nat.le_refl _⟩⟩
  · obtain ⟨B, hB, hrel⟩ := r.blk id L hL hid
    refine ⟨B, hB, ?_⟩
    by_cases hd : B = .dead
    · subst hd; trivial
    · by_cases hl : id < 2 * h0.length
      · have hok : okN h0.length id = true := by unfold okN; simp [hl]
        have hE' : E' id = some L := adv.ext _ _ (by rw [same id hok]; exact hL)
        obtain ⟨B', hB', hrel'⟩ := r'.blk id L hE' hid
        rw [hget id hl] at hB
        rw [hB] at hB'; cases hB'
        have same' : ∀ id, okN h0.length id = true → E id = E' id := by
          intro i hok'
          rw [← same i hok']
          cases hx : cutE E h0.length i with
          | some M => exact (adv.ext _ _ hx).symm
          | none =>
            cases hy : E' i with
            | none => rfl
            | some M =>
              have := (adv.fresh i M hx hy).1
              unfold H.new at this
              unfold okN at hok'
              simp at hok'
              omega
        exact BRel_same same' (hcl _ _ hB) hrel'
      · rw [touch L.b (r.live_lt hL hid ⟨B, hB, hd⟩) fun i M hM hi2 hi hli he => ?_]
        · exact hrel
        · have := r.inj i id M L hM hL hi2 hid (live i hi hli) ⟨B, hB, hd⟩ he
          omega
  · obtain ⟨h1, h2⟩ := r.inp b o hbo
    refine ⟨h1, ?_⟩
    rw [touch b (r.inp_lt hbo) fun i M hM hi2 hi hli he => ?_]
    · exact h2
    · have := r.sep i M hM hi2 (live i hi hli)
      rw [he, hbo] at this; cases this
  · refine touch b hb fun i M hM hi2 hi hli => hn i M hM hi2 (live i hi hli)
end Go.Sym
set_option linter.unusedSimpArgs false
set_option linter.unusedVariables false
namespace Go.Sym
section
variable {P : Program} {I : Nat → Option Obj}

/-- a call comes to one of these -/
def SndQ (P : Program) (I : Nat → Option Obj) (fn : Fn) (args : List Value) (h : H) (Q : Value → H → Prop) : Prop :=
  match fn with
  | .func g => goodF P g ∧ ∀ E w cargs, R I E h w → concL E args = some cargs → CallsIn Fence.wide 0 P g cargs.toArray w (fun e w' => ∃ v h', Q v h' ∧ Ret I E h w v h' e w')
  | _ => False

theorem Snd.toQ {g : FuncId} {args : List Value} {h h' : H} {v : Value} (hs : Snd P I (.func g) args h v h') {Q : Value → H → Prop} (q : Q v h') : SndQ P I (.func g) args h Q :=
  ⟨hs.1, fun E w cargs r ha => CallsIn.mono (hs.2 E w cargs r ha) fun _ _ hr => ⟨v, h', q, hr⟩⟩

theorem leave_soundR {n : Nat} {fn : Func} {v : Value} {h' : H} {tm : List Value} (hv : (aresL P I tm h' fn.results.toList).map one = some v) {E0 : Env} {h0 : H} {w0 : World} {R' : Ending → World → Prop} (hR' : ∀ e w, Ret I E0 h0 w0 v h' e w → R' e w) :
    ∀ {df : List Nat} {h : H} {E : Env} {w : World} {ds : List Deferred} {tms : Array Value},
    leave df h = some h' → R I E h w → concL E tm = some tms.toList → DRel E df ds → Adv E0 h0 w0 E h w → LeavesInM Fence.wide n P fn tms R' ds .returning w
  | [], h, E, w, [], tms, hl, r, ht, hd, adv => by
    simp only [leave, Option.some.injEq] at hl; subst hl
    simp only [Option.map_eq_some_iff] at hv
    obtain ⟨vs, hvs, rfl⟩ := hv
    obtain ⟨c, h1, h2⟩ := results_sound r ht hvs
    exact ⟨c, h1, hR' _ _ ⟨E, c, rfl, h2, r, adv⟩⟩
  | id :: df, h, E, w, d :: ds, tms, hl, r, ht, hd, adv => by
    obtain ⟨⟨L, hL, rfl⟩, hds⟩ := hd
    simp only [leave] at hl
    split at hl
    · rename_i hg
      have hid := (H.get_lt hg).2
      obtain ⟨B, hg', hrel⟩ := r.blk id L hL hid
      rw [hg] at hg'; cases hg'
      obtain ⟨r2, a2⟩ := r.turn (B := .obj (.deferred none)) (o := .deferred none) hid hL ⟨_, hg, by simp⟩ ⟨rfl, hrel.2⟩
      obtain ⟨r3, a3⟩ := r2.kill id
      have hpp : (h.put id (.obj (.deferred none))).put id .dead = h.put id .dead := by
        unfold H.put; split <;> simp
      rw [hpp] at r3 a3
      refine ⟨by simp, .inl ⟨L.b, w.turn L.b (.deferred none), rfl, ?_, leave_soundR hv hR' hl r3 ht hds (adv.trans (a2.trans a3))⟩⟩
      have := run_takeDeferred (P := P) hrel.1
      simpa [World.putObj, World.turn] using this
    · cases hl
  | [], h, E, w, _ :: _, tms, hl, r, ht, hd, adv => hd.elim
  | _ :: _, h, E, w, [], tms, hl, r, ht, hd, adv => hd.elim

theorem SndQ_of {g : FuncId} {fn : Func} {c : Code} {args : List Value} {h : H} {Q : Value → H → Prop} (hf : P.funcs[g]? = some fn) (hb : fn.body = some c) (hn : fn.name ≠ "runtime.NumGoroutine")
    (hc : TC P I none c (fun e s => ∃ v h', Q v h' ∧ finQ P I fn v h' e s) ⟨args ++ List.replicate (fn.ntmps - args.length) undef, [], h⟩) : SndQ P I (.func g) args h Q := by
  refine ⟨⟨fn, hf, hn, by rw [hb]; rfl⟩, fun E w cargs r ha => ?_⟩
  have ht : concL E (args ++ List.replicate (fn.ntmps - args.length) undef) = some (cargs.toArray ++ Array.replicate (fn.ntmps - cargs.toArray.size) undef).toList := by
    have hl := concL_length ha
    have := concL_append ha (concL_replicate (conc_undef E) (fn.ntmps - args.length))
    simp only [Array.toList_append, Array.toList_replicate, List.size_toArray, hl]
    exact this
  have hw := hc E w { tmps := cargs.toArray ++ Array.replicate (fn.ntmps - cargs.toArray.size) undef, defers := [] } r ht trivial (fun id hi => (by cases hi))
  refine callsIn_of_wp_marks hf hb trivial (wpIn_mono hw ?_)
  rintro e a' w' ⟨E', st', r', t', d', adv, v, h', q, he, hl, hv⟩
  rcases he with rfl | rfl
  · exact leave_soundR hv (fun e w hr => ⟨v, h', q, hr⟩) hl r' t' d' adv
  · exact leave_soundR hv (fun e w hr => ⟨v, h', q, hr⟩) hl r' t' d' adv

theorem wpIn_of_callQ {E : Env} {h : H} {w : World} {ro : Option Nat} {o : Oper} {a : Act} {tm : List Value} {g : FuncId} {args : List Value} {Qc : Value → H → Prop} {next : Act → World → Prop} {Q : Exit → Act → World → Prop}
    (hok : okOp o.op = true) (r : R I E h w) (ht : concL E tm = some a.tmps.toList) (hc : acall tm o.op = some (.func g, args)) (hs : SndQ P I (.func g) args h Qc)
    (hn : ∀ E' w' c v h', Qc v h' → conc E' v = some c → R I E' h' w' → Adv E h w E' h' w' → next (a.put o.dst c) w') :
    o.wpIn (FE E ro) 0 P a w next Q := by
  refine ⟨about_ok, ?_⟩
  rw [semAt_ok _ _ _ hok]
  obtain ⟨dst, op, ty, pos, aft, gd⟩ := o
  simp only at hok hc
  unfold acall at hc
  split at hc
  · rename_i c
    simp only [okOp, Bool.and_eq_true] at hok
    split at hc
    · rename_i f hcal
      rw [hcal] at hok
      have hf := conc_ev ht hok.1
      have hargs := conc_evs ht _ hok.2
      split at hc
      · rename_i g first cap hev
        cases hc
        rw [hev] at hf
        simp only [conc, Option.bind_eq_some_iff, Option.map_eq_some_iff] at hf
        obtain ⟨first', h1, cap', h2, he⟩ := hf
        obtain ⟨hg, hcall⟩ := hs
        have hcargs := concL_append (concL_append (concA_toList h1) hargs) (concA_toList h2)
        have := hcall E w _ r hcargs
        have e3 : (first'.toList ++ c.args.toList.map a.eval ++ cap'.toList).toArray = first' ++ c.args.map a.eval ++ cap' := by
          apply Array.ext'; simp
        rw [e3] at this
        have hrun : (execOp a.eval ⟨dst, .call c, ty, pos, aft, gd⟩).run P w = .ok (.enter g (first' ++ c.args.map a.eval ++ cap')) w := by
          simp only [execOp, resolve, hcal, ← he, Deferred.ofValue, pure_bind, invoke, callFunc_run hg]
        rw [hrun, Oper.uponIn_enter]
        refine ⟨fun hd => (by rw [FE_depth] at hd; cases hd), FE_calls ?_⟩
        exact ⟨this.1, fun cs hr => let ⟨e, w', fr, hR, hrest⟩ := this.2 cs hr; ⟨e, w', fr, by obtain ⟨v, h', q, E', u, rfl, hu, hR, hA⟩ := hR; exact hn E' w' u v h' q hu hR hA, hrest⟩⟩
      · cases hc
      · cases hc
    · cases hc
  · cases hc

theorem LC_callQ {ops : Array Oper} {ro : Option Nat} {o : Oper} {rest : List Oper} {tm : List Value} {df : List Nat} {h : H} {g : FuncId} {args : List Value} {Qc : Value → H → Prop} {Q : Exit → St → Prop} (hok : okOp o.op = true) (hw : Region.wanted o (ayield ops tm) = true)
    (hc : acall tm o.op = some (.func g, args)) (hs : SndQ P I (.func g) args h Qc) (hr : ∀ v h', Qc v h' → LC P I ops ro rest (putT tm o.dst v) df h' Q) : LC P I ops ro (o :: rest) tm df h Q := by
  intro E w a E0 h0 w0 r ht hd hk adv
  unfold wpListIn
  rw [← ayield_eq ht ops, if_pos hw]
  refine wpIn_of_callQ hok r ht hc hs fun E' w' c v h' q hcv hR hA => ?_
  obtain ⟨p1, p2⟩ := conc_put (concL_ext hA.ext _ _ ht) hcv o.dst
  rw [← FE_ext hA.ext hk]
  exact hr v h' q E' w' _ E0 h0 w0 hR p1 (p2 ▸ hd.ext hA.ext) (hk.ext hA.ext) (adv.trans hA)

/-- a block may be forgotten -/
theorem LC_kill {ops : Array Oper} {ro : Option Nat} {l : List Oper} {tm : List Value} {df : List Nat} {h : H} {Q : Exit → St → Prop} (id : Nat) (hr : LC P I ops ro l tm df (h.put id .dead) Q) : LC P I ops ro l tm df h Q := by
  intro E w a E0 h0 w0 r ht hd hk adv
  obtain ⟨r2, a2⟩ := r.kill id
  exact hr E w a E0 h0 w0 r2 ht hd hk (adv.trans a2)

/-- the statement, outside of all rounds, its function with several outcomes -/
theorem TC_rangeQ {f : Operand} {ps : Array Tmp} {as body : Code} {Q : Exit → St → Prop} {tm : List Value} {df : List Nat} {h : H} {g : FuncId} {first cap : Array Value} {Qc : Value → H → Prop} (hok : okO f = true) (hev : ev tm f = .func (.func g) first cap)
    (hs : SndQ P I (.func g) (first.toList ++ [.func (.yield (2 * (h.length + 1))) #[] #[]] ++ cap.toList) (h ++ [.obj (.deferred (some [])), .loop tm ps as body .ready none (2 * h.length)]) Qc)
    (hq : ∀ v h2, Qc v h2 → ∃ tm1 ps1 as1 b1 st1 pend d1, h2.get (2 * (h.length + 1)) = some (.loop tm1 ps1 as1 b1 st1 pend d1) ∧ st1 ≠ .busy ∧ pendQ pend Q ⟨tm, (2 * h.length) :: df, h2.put (2 * (h.length + 1)) .dead⟩) :
    TC P I none (.rangeFunc f ps as body) Q ⟨tm, df, h⟩ := by
  intro E w a r ht hd _
  have hf := conc_ev ht hok
  rw [hev] at hf
  simp only [conc, Option.bind_eq_some_iff, Option.map_eq_some_iff] at hf
  obtain ⟨first', hc1, cap', hc2, he⟩ := hf
  obtain ⟨hg0, hcall⟩ := hs
  refine wpIn_rangeFunc fun fn _ => ?_
  -- the two blocks
  obtain ⟨r1, adv1⟩ := r.push (B := .obj (.deferred (some []))) (o := .deferred (some [])) (L := { b := w.heap.size }) rfl ⟨rfl, rfl⟩
  have hnew1 : H.new (h ++ [Blk.obj (.deferred (some []))] : H) = 2 * (h.length + 1) := by unfold H.new; simp
  have hE1d : E.upd h.new { b := w.heap.size } (2 * h.length) = some { b := w.heap.size } := Env.upd_self _ _ _
  have hsz1 : (w.alloc (.deferred (some []))).heap.size = w.heap.size + 1 := World.size_alloc _ _
  have hB2 : BRel ((E.upd h.new { b := w.heap.size }).upd (2 * (h.length + 1)) { b := w.heap.size + 1 }) { b := w.heap.size + 1 } (.loop tm ps as body .ready none (2 * h.length))
      (some (.loop { state := .ready, pending := none, fn := fn, tmps := a.tmps, params := ps, assign := as, body := body, defers := w.heap.size })) := by
    have hn : E.upd h.new { b := w.heap.size } (2 * (h.length + 1)) = none := by rw [← hnew1]; exact r1.new_none
    refine ⟨fn, a.tmps.toList, { b := w.heap.size }, ?_, ?_, by simp, rfl⟩
    · exact concL_ext (adv1.ext.trans (Ext.upd hn _)) _ _ ht
    · exact (Ext.upd hn _) _ _ hE1d
  obtain ⟨r2, adv2⟩ := r1.push (L := { b := w.heap.size + 1 }) (by rw [hsz1]) (by rw [hnew1]; exact hB2)
  rw [hnew1] at r2 adv2
  have happ : ((h ++ [Blk.obj (.deferred (some []))] : H) ++ [Blk.loop tm ps as body .ready none (2 * h.length)] : H) = h ++ [.obj (.deferred (some [])), .loop tm ps as body .ready none (2 * h.length)] := by simp
  rw [happ] at r2 adv2
  have hL : ((E.upd h.new { b := w.heap.size }).upd (2 * (h.length + 1)) { b := w.heap.size + 1 }) (2 * (h.length + 1)) = some { b := w.heap.size + 1 } := Env.upd_self _ _ _
  have adv := adv1.trans adv2
  have hargs : concL ((E.upd h.new { b := w.heap.size }).upd (2 * (h.length + 1)) { b := w.heap.size + 1 }) (first.toList ++ [.func (.yield (2 * (h.length + 1))) #[] #[]] ++ cap.toList) = some (first'.toList ++ [.func (.yield (w.heap.size + 1)) #[] #[]] ++ cap'.toList) := by
    refine concL_append (concL_append (concL_ext adv.ext _ _ (concA_toList hc1)) ?_) (concL_ext adv.ext _ _ (concA_toList hc2))
    simp only [concL, conc, hL, concA, Option.bind_some, Option.map_some]
  let w2 : World := (w.alloc (.deferred (some []))).alloc (.loop { state := .ready, pending := none, fn := fn, tmps := a.tmps, params := ps, assign := as, body := body, defers := w.heap.size })
  refine ⟨w.heap.size + 1, [{ target := .collected w.heap.size, args := #[] }], w2, { target := .fn (.func g) cap', args := first' ++ #[.func (.yield (w.heap.size + 1)) #[] #[]] }, w2, g, first' ++ #[.func (.yield (w.heap.size + 1)) #[] #[]] ++ cap', w2, run_enterLoop_outer fn a.tmps ps as body, ?_, fun _ _ => FE_fn _ _ _, ?_, fun hd => (by rw [FE_depth] at hd; cases hd), ?_⟩
  · simp only [resolve, ← he, Deferred.ofValue, Sem.run_pure]
    simp [Act.eval]
  · simp only [invoke, callFunc_run hg0]
  · have := hcall _ _ _ r2 hargs
    have e3 : (first'.toList ++ [Value.func (.yield (w.heap.size + 1)) #[] #[]] ++ cap'.toList).toArray = first' ++ #[.func (.yield (w.heap.size + 1)) #[] #[]] ++ cap' := by
      apply Array.ext'; simp
    rw [e3] at this
    refine CallsIn.mono (FE_calls this) ?_
    rintro e w3 ⟨v, h2, hQc, E', c, rfl, hcv, r3, adv3⟩
    obtain ⟨tm1, ps1, as1, b1, st1, pend, d1, hg, hb, q⟩ := hq v h2 hQc
    have hL' := adv3.ext _ _ hL
    have hid : 2 * (h.length + 1) % 2 = 0 := by omega
    obtain ⟨B, hg', hrel⟩ := r3.blk _ _ hL' hid
    rw [hg] at hg'; cases hg'
    obtain ⟨fn1, tc1, D1, u1, u2, u3, u4⟩ := hrel
    refine ⟨_, _, run_endLoop u3 hb, ?_⟩
    obtain ⟨r4, adv4⟩ := r3.turn (B := .loop tm1 ps1 as1 b1 .exhausted pend d1) (o := .loop { state := .exhausted, pending := pend, fn := fn1, tmps := tc1.toArray, params := ps1, assign := as1, body := b1, defers := D1.b }) hid hL' ⟨_, hg, by simp⟩ ⟨fn1, tc1, D1, u1, u2, rfl, u4⟩
    obtain ⟨r5, adv5⟩ := r4.kill (2 * (h.length + 1))
    have hpp : (h2.put (2 * (h.length + 1)) (.loop tm1 ps1 as1 b1 .exhausted pend d1)).put (2 * (h.length + 1)) .dead = h2.put (2 * (h.length + 1)) .dead := by
      unfold H.put; split <;> simp
    rw [hpp] at r5 adv5
    have hadv := adv.trans (adv3.trans (adv4.trans adv5))
    have post : ∀ e, Q e ⟨tm, (2 * h.length) :: df, h2.put (2 * (h.length + 1)) .dead⟩ → Post I E h w Q e { a with defers := [{ target := .collected w.heap.size, args := #[] }] ++ a.defers } (w3.turn (w.heap.size + 1) (.loop { state := .exhausted, pending := pend, fn := fn1, tmps := tc1.toArray, params := ps1, assign := as1, body := b1, defers := D1.b })) := by
      intro e hq
      refine ⟨E', ⟨tm, (2 * h.length) :: df, h2.put (2 * (h.length + 1)) .dead⟩, r5, concL_ext hadv.ext _ _ ht, ⟨⟨{ b := w.heap.size }, ?_, rfl⟩, hd.ext hadv.ext⟩, hadv, hq⟩
      exact adv3.ext _ _ (adv2.ext _ _ hE1d)
    cases pend with
    | none => exact post _ q
    | some c =>
      cases c with
      | ret => exact wpIn_ret (post _ q)
      | exit id => exact wpIn_exit (post _ q)
      | _ => exact q.elim

/-! the iteration over a map -/
theorem LC_does {ops : Array Oper} {ro : Option Nat} {o : Oper} {rest : List Oper} {tm : List Value} {df : List Nat} {h : H} {Qc : Value → H → Prop} {Q : Exit → St → Prop} (hnd : ∀ c, o.op ≠ .defer c) (hw : Region.wanted o (ayield ops tm) = true)
    (hd' : ∀ (E : Env) (w : World) (a : Act), R I E h w → concL E tm = some a.tmps.toList → ∃ v h', Qc v h' ∧ Does P I E h w (execOp a.eval o) v h') (hr : ∀ v h', Qc v h' → LC P I ops ro rest (putT tm o.dst v) df h' Q) : LC P I ops ro (o :: rest) tm df h Q := by
  intro E w a E0 h0 w0 r ht hd hk adv
  unfold wpListIn
  rw [← ayield_eq ht ops, if_pos hw]
  obtain ⟨v, h', q, c, E', w', hs, hcv, hR, hA⟩ := hd' E w a r ht
  obtain ⟨p1, p2⟩ := conc_put (concL_ext hA.ext _ _ ht) hcv o.dst
  refine ⟨about_ok, ?_⟩
  rw [Oper.semAt_eq _ _ _ hnd]
  have fin := hr v h' q E' w' (a.put o.dst c) E0 h0 w0 hR p1 (p2 ▸ hd.ext hA.ext) (hk.ext hA.ext) (adv.trans hA)
  rw [FE_ext hA.ext hk] at fin
  rcases hs with hs | ⟨hs, rfl⟩
  · rw [hs, Oper.uponIn_value]; exact fin
  · rw [hs, Oper.uponIn_skip]; exact fin

theorem arange_sound {E : Env} {h : H} {w : World} (r : R I E h w) {t kt et : TypeId} (ht : P.underlying t = some (.map kt et)) {id : Nat} {es : Array MapEntry} {clock : Nat} (hm : h.map id = some (es, clock)) {cm : Value} (hc : conc E (.map (some id)) = some cm) :
    Does P I E h w (do pure (.value (← Instr.range t cm))) (nptr h) (h ++ [.iter id clock #[] clock] : H) := by
  obtain ⟨L, hL, rfl, hw, hb, hl, hid⟩ := hmap_some r hm hc
  have hn := r.new_none
  obtain ⟨a1, a2⟩ := r.push (B := .iter id clock #[] clock) (o := .mapIter (some L.b) clock #[] clock) (L := { b := w.heap.size }) rfl ⟨L, Ext.upd hn _ _ _ hL, rfl, rfl⟩
  refine Does.of ⟨.pointer (some ⟨w.heap.size, 0, none⟩), _, _, ?_, ?_, a1, a2⟩
  · simp only [Instr.range, Sem.run_bind, run_underlying_of ht, gObj_map hw, Result.andThen_ok, run_newObj_alloc, Sem.run_pure]
  · simp only [nptr, conc, Env.upd_self, Option.map_some, Nat.zero_add]

/-- what the next step of an iteration may be -/
def cands (es : Array MapEntry) (since : Nat) (seen : Array Nat) : Array (Option MapEntry) :=
  let left := es.filter fun e => !seen.contains e.born
  let old := left.filter (·.born < since)
  let new := left.filter (·.born ≥ since)
  (if old.isEmpty then #[none] else #[]) ++ (old ++ new).map some

theorem gObj_iter {w : World} {b : Nat} {m : Option Nat} {since last : Nat} {seen : Array Nat} (hb : w.heap[b]? = some (.mapIter m since seen last)) : (getObj b).run P w = .ok (.mapIter m since seen last) w := by simp [getObj, Sem.run, hb]
theorem sObj_iter {w : World} {b : Nat} {m : Option Nat} {since last : Nat} {seen : Array Nat} (o : Obj) (hb : w.heap[b]? = some (.mapIter m since seen last)) : (setObj b o).run P w = .ok () (w.turn b o) := by simp [setObj, Sem.run, hb, World.turn]

theorem choose_next {n : Nat} (hn : 0 < n) (w : World) : ∃ i w', i < n ∧ (choose (.mapNext n)).run P w = .ok i w' ∧ (w' = w ∨ w' = w.drew) := by
  rw [run_choose_drew]
  split
  · exact ⟨0, w, hn, rfl, .inl rfl⟩
  · exact ⟨_, _, Nat.mod_lt _ hn, rfl, .inr rfl⟩

theorem cands_pos (es : Array MapEntry) (since : Nat) (seen : Array Nat) : 0 < (cands es since seen).size := by
  unfold cands
  simp only
  split
  · simp only [Array.size_append]
    have : (#[none] : Array (Option MapEntry)).size = 1 := rfl
    omega
  · rename_i h
    have : 0 < ((es.filter fun e => !seen.contains e.born).filter (·.born < since)).size := by
      rw [Array.isEmpty_iff_size_eq_zero] at h; omega
    simp only [Array.size_append, Array.size_map]
    omega

theorem anext_sound {E : Env} {h : H} {w : World} (r : R I E h w) {ty : TypeId} {it m since last : Nat} {seen : Array Nat} {es : Array MapEntry} {clock : Nat} (hit : h.get it = some (.iter m since seen last)) (hm : h.map m = some (es, clock))
    (hst : (!seen.isEmpty && !es.isEmpty && es.all (·.born ≥ last)) = false) (hfl : ∀ e ∈ es, flat e.key = true ∧ flat e.val = true) {cm : Value} (hc : conc E (.pointer (some ⟨it, 0, none⟩)) = some cm) :
    ∃ v h', (∃ x ∈ cands es since seen, match x with
        | some e => v = .tuple #[.bool true, e.key, e.val] ∧ h' = h.put it (.iter m since (seen.push e.born) clock)
        | none => v = .tuple #[.bool false] ∧ h' = h) ∧ Does P I E h w (do pure (.value (← Instr.next cm false ty))) v h' := by
  simp only [conc, Option.map_eq_some_iff] at hc
  obtain ⟨L, hL, rfl⟩ := hc
  have hid := (H.get_lt hit).2
  obtain ⟨B, hB, hrel⟩ := r.blk it L hL hid
  rw [hit] at hB; cases hB
  obtain ⟨D, hD, hw, hb⟩ := hrel
  have hcm : conc E (.map (some m)) = some (.map (some D.b)) := by simp only [conc, hD, Option.map_some]
  obtain ⟨L2, hL2, he, hw2, _⟩ := hmap_some r hm hcm
  rw [hD] at hL2; cases hL2
  obtain ⟨i, w', hi, hch, hw'⟩ := choose_next (P := P) (cands_pos es since seen) w
  obtain ⟨x, hx⟩ : ∃ x, (cands es since seen)[i]? = some x := ⟨_, Array.getElem?_eq_getElem hi⟩
  have hmem : x ∈ cands es since seen := Array.mem_of_getElem? hx
  have rw' : R I E h w' ∧ Adv E h w E h w' ∧ w'.heap = w.heap := by
    rcases hw' with rfl | rfl
    · exact ⟨r, Adv.refl _ _ _, rfl⟩
    · exact ⟨RG.drew r, Adv.drew E h w, rfl⟩
  obtain ⟨r2, adv2, hheap⟩ := rw'
  have hrun : ∀ (res : Result Value), (match x with
      | some e => (do setObj L.b (.mapIter (some D.b) since (seen.push e.born) clock); pure (.tuple #[.bool true, e.key, e.val]) : Sem Value)
      | none => pure (.tuple #[.bool false])).run P w' = res → (Instr.next (.pointer (some ⟨L.b, L.base + 0, none⟩)) false ty).run P w = res := by
    intro res hres
    rw [hb]
    unfold cands at hch hx
    simp only at hch hx
    simp only [Instr.next, Nat.add_zero, Sem.run_bind, gObj_iter hw, gObj_map hw2, Result.andThen_ok, hst, Bool.false_eq_true, if_false, hch, hx, Sem.run_pure]
    rw [← hres]
    cases x <;> simp [Sem.run_bind]
  cases x with
  | none =>
    refine ⟨_, h, ⟨none, hmem, rfl, rfl⟩, Does.of ⟨.tuple #[.bool false], E, w', hrun _ (by simp only [Sem.run_pure]), conc_flat E _ rfl, r2, adv2⟩⟩
  | some e =>
    have hmem2 : e ∈ es := by
      unfold cands at hmem
      simp only [Array.mem_append, Array.mem_map] at hmem
      rcases hmem with h0 | ⟨e', h0, h1⟩
      · split at h0 <;> simp at h0
      · cases h1
        rcases h0 with h0 | h0
        · exact (Array.mem_filter.1 (Array.mem_filter.1 h0).1).1
        · exact (Array.mem_filter.1 (Array.mem_filter.1 h0).1).1
    obtain ⟨f1, f2⟩ := hfl e hmem2
    obtain ⟨r3, a3⟩ := r2.turn (B := .iter m since (seen.push e.born) clock) (o := .mapIter (some D.b) since (seen.push e.born) clock) hid hL ⟨_, hit, by simp⟩ ⟨D, hD, rfl, hb⟩
    refine ⟨_, _, ⟨some e, hmem, rfl, rfl⟩, Does.of ⟨.tuple #[.bool true, e.key, e.val], E, _, hrun _ ?_, conc_flat E _ (by simp [flat, flatA, flatL, f1, f2]), r3, adv2.trans a3⟩⟩
    simp only [Sem.run_bind, sObj_iter _ (by rw [hheap]; exact hw), Result.andThen_ok, Sem.run_pure]

theorem aentry_sound {E : Env} {h : H} {w : World} (r : R I E h w) {it m since last stamp : Nat} {seen : Array Nat} {es : Array MapEntry} {e : MapEntry} (hit : h.get it = some (.iter m since seen last)) (hm : h.map m = some (es, last)) (hs : seen.back? = some stamp)
    (hf : es.find? (·.born == stamp) = some e) (hfl : flat e.key = true ∧ flat e.val = true) {cm : Value} (hc : conc E (.pointer (some ⟨it, 0, none⟩)) = some cm) : Does P I E h w (do pure (.value (← Instr.entry cm))) (.tuple #[e.key, e.val]) h := by
  simp only [conc, Option.map_eq_some_iff] at hc
  obtain ⟨L, hL, rfl⟩ := hc
  have hid := (H.get_lt hit).2
  obtain ⟨B, hB, hrel⟩ := r.blk it L hL hid
  rw [hit] at hB; cases hB
  obtain ⟨D, hD, hw, hb⟩ := hrel
  have hcm : conc E (.map (some m)) = some (.map (some D.b)) := by simp only [conc, hD, Option.map_some]
  obtain ⟨L2, hL2, he, hw2, _⟩ := hmap_some r hm hcm
  rw [hD] at hL2; cases hL2
  refine Does.of1 r ⟨.tuple #[e.key, e.val], ?_, conc_flat E _ (by simp [flat, flatA, flatL, hfl.1, hfl.2])⟩
  rw [hb]
  simp [Instr.entry, Sem.run_bind, gObj_iter hw, hs, gObj_map hw2, hf, Result.andThen]
end
end Go.Sym
