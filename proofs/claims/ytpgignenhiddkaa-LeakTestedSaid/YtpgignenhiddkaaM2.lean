/- Regions that draw their order: the run in the order of the text stands for all orders. No program is named here. (own texts put together: SymO SymQ SymR SymS SymU SymU2 SymV SymW SymWa) -/
import Derived.Test.YtpgignenhiddkaaM1
import Derived.OrdersIn
namespace Go.Sym

/-- what an operation of a region is to the others -/
inductive Cl where
  | pure | read (id : Option Nat) | quiet | alloc (B : Blk) | eff (w : Option Nat)

structure Ent where
  tm : List Value
  h : H
  c : Cl
  v : Value
  h' : H

/-! who must come before whom -/
def bindsE (o : Oper) : List Nat := (o.after.toList.filter (Region.binds .any)).map (·.on)
/-- all operations that come before, as bits -/
def maskOf (acc : List Nat) (is : List Nat) : Nat := is.foldl (fun m i => m ||| 1 <<< i ||| acc.getD i 0) 0
def ancs : List Oper → List Nat → List Nat
  | [], acc => acc
  | o :: rest, acc => ancs rest (acc ++ [maskOf acc (bindsE o)])

inductive AncP (ops : List Oper) : Nat → Nat → Prop
  | edge {j : Nat} {o : Oper} {i : Nat} (ho : ops[j]? = some o) (hi : i ∈ bindsE o) : AncP ops i j
  | trans {j : Nat} {o : Oper} {i k : Nat} (ho : ops[j]? = some o) (hk : k ∈ bindsE o) (h : AncP ops i k) : AncP ops i j

theorem bit_one {i k : Nat} : (1 <<< i).testBit k = decide (k = i) := by
  rw [Nat.one_shiftLeft, Nat.testBit_two_pow]
  by_cases h : i = k
  · subst h; simp
  · simp [h, Ne.symm h]

theorem mem_mask {acc : List Nat} {x : Nat} : ∀ {is : List Nat} {m : Nat}, (is.foldl (fun m i => m ||| 1 <<< i ||| acc.getD i 0) m).testBit x = true → (∃ i ∈ is, x = i ∨ (acc.getD i 0).testBit x = true) ∨ m.testBit x = true
  | [], m, h => .inr h
  | i :: is, m, h => by
    simp only [List.foldl_cons] at h
    rcases mem_mask h with ⟨j, hj, h⟩ | h
    · exact .inl ⟨j, List.mem_cons_of_mem _ hj, h⟩
    · rw [Nat.testBit_or, Nat.testBit_or, Bool.or_eq_true, Bool.or_eq_true, bit_one, decide_eq_true_eq] at h
      rcases h with (h | h) | h
      · exact .inr h
      · exact .inl ⟨i, by simp, .inl h⟩
      · exact .inl ⟨i, by simp, .inr h⟩

theorem ancs_ok (ops : List Oper) : ∀ (rest : List Oper) (acc : List Nat) (done : List Oper), ops = done ++ rest → acc.length = done.length → (∀ j m, acc[j]? = some m → ∀ i, m.testBit i = true → AncP ops i j) →
    ∀ j m, (ancs rest acc)[j]? = some m → ∀ i, m.testBit i = true → AncP ops i j
  | [], acc, done, _, _, h => h
  | o :: rest, acc, done, he, hl, h => by
    simp only [ancs]
    refine ancs_ok ops rest _ (done ++ [o]) (by simp [he]) (by simp [hl]) ?_
    intro j m hj i hi
    rw [List.getElem?_append] at hj
    split at hj
    · exact h j m hj i hi
    · rename_i hlt
      have hj0 : j = acc.length := by
        have := (List.getElem?_eq_some_iff.1 hj).1
        simp at this; omega
      subst hj0
      simp at hj
      subst hj
      have ho : ops[acc.length]? = some o := by rw [he, hl]; simp
      rcases mem_mask hi with ⟨k, hk, rfl | hik⟩ | h0
      · exact .edge ho hk
      · refine .trans ho hk ?_
        cases ha : acc[k]? with
        | none => simp [List.getD, ha] at hik
        | some m => simp [List.getD, ha] at hik; exact h k m ha i hik
      · simp at h0

def ancM (ops : List Oper) (j : Nat) : Nat := (ancs ops []).getD j 0
def anc (ops : List Oper) (j i : Nat) : Bool := (ancM ops j).testBit i
theorem anc_ok {ops : List Oper} {i j : Nat} (h : anc ops j i = true) : AncP ops i j := by
  unfold anc ancM at h
  cases ha : (ancs ops [])[j]? with
  | none => simp [List.getD, ha] at h
  | some m => simp [List.getD, ha] at h; exact ancs_ok ops ops [] [] rfl rfl (by simp) j m ha i h

def looks (ops : List Oper) (o : Oper) : List Tmp :=
  (o.op.operands.toList.filterMap fun | .tmp t => some t | _ => none) ++ (match o.guard with | some (g, _) => ((ops[g]?).bind (·.dst)).toList | none => [])

def touches (ops : List Oper) (a b : Oper) : Bool :=
  match a.dst with
  | some d => (looks ops b).contains d || b.dst == some d
  | none => false

inductive Cn where
  | pure | read | quiet | alloc | eff
  deriving DecidableEq
def Cl.name : Cl → Cn
  | .pure => .pure | .read _ => .read | .quiet => .quiet | .alloc _ => .alloc | .eff _ => .eff
/-- the same, with the block that is read, or the one that alone may turn -/
inductive Ct where
  | pure | read (id : Option Nat) | quiet | alloc | eff (w : Option Nat)
def Cl.tag : Cl → Ct
  | .pure => .pure | .read id => .read id | .quiet => .quiet | .alloc _ => .alloc | .eff w => .eff w
def Ct.nm : Ct → Cn
  | .pure => .pure | .read _ => .read | .quiet => .quiet | .alloc => .alloc | .eff _ => .eff
theorem Cl.tag_nm (c : Cl) : c.tag.nm = c.name := by cases c <;> rfl
def disj : Ct → Ct → Bool
  | .eff (some a), .read (some i) => a != i
  | .read (some i), .eff (some a) => a != i
  | _, _ => false
def memC : Cn → Cn → Bool
  | .eff, .read | .eff, .quiet | .eff, .eff | .read, .eff | .quiet, .eff => true
  | _, _ => false

def memT (a b : Ct) : Bool := memC a.nm b.nm && !disj a b

/-- what an operation writes, and what it looks at, as bits -/
def dstM (b : Oper) : Nat := match b.dst with | some t => 1 <<< t | none => 0
def lookM (ops : List Oper) (b : Oper) : Nat := (looks ops b).foldl (fun m t => m ||| 1 <<< t) 0
structure OI where
  d : Nat
  l : Nat
  on : List Nat
  a : Nat
def infoGo (ops : List Oper) : List Oper → List Nat → List OI
  | b :: rest, a :: as => ⟨dstM b, lookM ops b, bindsE b, a⟩ :: infoGo ops rest as
  | _, _ => []
def info (ops : List Oper) : List OI := infoGo ops ops (ancs ops [])

def pairsOk (b : OI) (cb : Ct) : Nat → List (OI × Ct) → Bool
  | _, [] => true
  | i, (a, ca) :: rest => (((a.d &&& (b.l ||| b.d)) ||| (b.d &&& a.l)) == 0 && !memT ca cb || b.a.testBit i) && pairsOk b cb (i + 1) rest
def drawGo : Nat → List (OI × Ct) → List OI → List Ct → Bool
  | _, _, [], _ => true
  | _, _, _ :: _, [] => false
  | j, done, b :: rest, c :: cs => b.on.all (· < j) && pairsOk b c 0 done && drawGo (j + 1) (done ++ [(b, c)]) rest cs

/-- every two operations that meet have an order -/
def drawOk (ops : List Oper) (cs : List Ct) : Bool := drawGo 0 [] (info ops) cs

theorem ancs_length : ∀ (rest : List Oper) (acc : List Nat), (ancs rest acc).length = acc.length + rest.length
  | [], acc => rfl
  | o :: rest, acc => by simp only [ancs]; rw [ancs_length]; simp; omega
theorem infoGo_get {ops : List Oper} : ∀ {l : List Oper} {as : List Nat} {j : Nat} {b : Oper}, l.length = as.length → l[j]? = some b → (infoGo ops l as)[j]? = some ⟨dstM b, lookM ops b, bindsE b, as.getD j 0⟩
  | [], _, j, b, _, h => by simp at h
  | x :: l, [], j, b, hl, h => by simp at hl
  | x :: l, a :: as, 0, b, hl, h => by simp at h; subst h; simp [infoGo]
  | x :: l, a :: as, j + 1, b, hl, h => by
    simp only [List.getElem?_cons_succ] at h
    simp only [infoGo, List.getElem?_cons_succ, List.getD_cons_succ]
    exact infoGo_get (by simpa using hl) h
theorem info_get {ops : List Oper} {j : Nat} {b : Oper} (h : ops[j]? = some b) : (info ops)[j]? = some ⟨dstM b, lookM ops b, bindsE b, ancM ops j⟩ :=
  infoGo_get (by rw [ancs_length]; simp) h

theorem pairsOk_get {b : OI} {cb : Ct} : ∀ {done : List (OI × Ct)} {n i : Nat} {a : OI} {ca : Ct}, pairsOk b cb n done = true → done[i]? = some (a, ca) →
    ((a.d &&& (b.l ||| b.d)) ||| (b.d &&& a.l)) = 0 ∧ memT ca cb = false ∨ b.a.testBit (n + i) = true
  | [], n, i, a, ca, _, h => by simp at h
  | (x, cx) :: done, n, 0, a, ca, hp, h => by
    simp only [List.getElem?_cons_zero, Option.some.injEq, Prod.mk.injEq] at h
    obtain ⟨rfl, rfl⟩ := h
    simp only [pairsOk, Bool.and_eq_true, Bool.or_eq_true, beq_iff_eq, Bool.not_eq_true'] at hp
    exact hp.1
  | (x, cx) :: done, n, i + 1, a, ca, hp, h => by
    simp only [List.getElem?_cons_succ] at h
    simp only [pairsOk, Bool.and_eq_true] at hp
    have := pairsOk_get hp.2 h
    rwa [show n + 1 + i = n + (i + 1) by omega] at this

theorem drawGo_get : ∀ {rest : List OI} {j : Nat} {done : List (OI × Ct)} {cs : List Ct}, drawGo j done rest cs = true → done.length = j → ∀ {k : Nat} {b : OI}, rest[k]? = some b →
    (∀ i ∈ b.on, i < j + k) ∧ ∃ c, cs[k]? = some c ∧ ∀ i a ca, (done[i]? = some (a, ca) ∨ ∃ m, i = j + m ∧ m < k ∧ rest[m]? = some a ∧ cs[m]? = some ca) →
      ((a.d &&& (b.l ||| b.d)) ||| (b.d &&& a.l)) = 0 ∧ memT ca c = false ∨ b.a.testBit i = true
  | [], j, done, cs, _, _, k, b, h => by simp at h
  | x :: rest, j, done, [], hd, _, k, b, h => by simp [drawGo] at hd
  | x :: rest, j, done, c :: cs, hd, hl, 0, b, h => by
    simp only [List.getElem?_cons_zero, Option.some.injEq] at h
    subst h
    simp only [drawGo, Bool.and_eq_true, List.all_eq_true, decide_eq_true_eq] at hd
    refine ⟨fun i hi => hd.1.1 i hi, c, rfl, fun i a ca hh => ?_⟩
    rcases hh with hh | ⟨m, _, hm, _⟩
    · have := pairsOk_get hd.1.2 hh
      rwa [Nat.zero_add] at this
    · omega
  | x :: rest, j, done, c :: cs, hd, hl, k + 1, b, h => by
    simp only [List.getElem?_cons_succ] at h
    simp only [drawGo, Bool.and_eq_true] at hd
    obtain ⟨h1, c', h2, h3⟩ := drawGo_get hd.2 (by simp [hl]) h
    refine ⟨fun i hi => by have := h1 i hi; omega, c', by simpa using h2, fun i a ca hh => h3 i a ca ?_⟩
    rcases hh with hh | ⟨m, e, hm, hr, hc⟩
    · left
      rw [List.getElem?_append_left (List.getElem?_eq_some_iff.1 hh).1]; exact hh
    · cases m with
      | zero =>
        left
        simp at hr hc
        subst hr; subst hc; subst e
        try rw [Nat.add_zero]
        rw [← hl]; simp
      | succ m =>
        right
        exact ⟨m, by omega, by omega, by simpa using hr, by simpa using hc⟩

theorem drawOk_edge {ops : List Oper} {cs : List Ct} (h : drawOk ops cs = true) {j : Nat} {b : Oper} (hb : ops[j]? = some b) {i : Nat} (hi : i ∈ bindsE b) : i < j := by
  have := (drawGo_get h rfl (info_get hb)).1 i hi
  omega

theorem mask_bit {t : Nat} : ∀ {l : List Nat} {m : Nat}, t ∈ l ∨ m.testBit t = true → (l.foldl (fun m t => m ||| 1 <<< t) m).testBit t = true
  | [], m, h => by
    rcases h with h | h
    · cases h
    · exact h
  | x :: l, m, h => by
    simp only [List.foldl_cons]
    apply mask_bit
    rcases h with h | h
    · rcases List.mem_cons.1 h with rfl | h
      · right; rw [Nat.testBit_or, bit_one]; simp
      · exact .inl h
    · right; rw [Nat.testBit_or, h]; rfl

theorem touch_bit {ops : List Oper} {a b : Oper} (h : touches ops a b = true) : (dstM a &&& (lookM ops b ||| dstM b)) ≠ 0 := by
  unfold touches at h
  split at h
  · rename_i d hd
    intro h0
    have : (dstM a &&& (lookM ops b ||| dstM b)).testBit d = true := by
      rw [Nat.testBit_and, Nat.testBit_or]
      unfold dstM
      rw [hd]
      simp only [bit_one, decide_true, Bool.true_and, Bool.or_eq_true]
      rw [Bool.or_eq_true] at h
      rcases h with h | h
      · left
        unfold lookM
        exact mask_bit (.inl (by simpa using h))
      · right
        rw [beq_iff_eq] at h
        rw [h]
        simp only [bit_one, decide_true]
    rw [h0] at this; simp at this
  · cases h
theorem touch_bit2 {ops : List Oper} {a b : Oper} (h : touches ops b a = true) : ((dstM a &&& (lookM ops b ||| dstM b)) ||| (dstM b &&& lookM ops a)) ≠ 0 := by
  intro h0
  rw [Nat.or_eq_zero_iff] at h0
  have h1 := touch_bit h
  apply h1
  rw [Nat.and_or_distrib_left, Nat.or_eq_zero_iff]
  refine ⟨h0.2, ?_⟩
  have := h0.1
  rw [Nat.and_or_distrib_left, Nat.or_eq_zero_iff] at this
  rw [Nat.and_comm]; exact this.2

theorem drawOk_pair {ops : List Oper} {cs : List Ct} (h : drawOk ops cs = true) {i j : Nat} (hij : i < j) {a b : Oper} (ha : ops[i]? = some a) (hb : ops[j]? = some b)
    (hm : touches ops a b = true ∨ touches ops b a = true ∨ memT (cs.getD i .pure) (cs.getD j .pure) = true) : AncP ops i j := by
  obtain ⟨_, c, hc, hall⟩ := drawGo_get h rfl (info_get hb)
  obtain ⟨_, ca, hca, _⟩ := drawGo_get h rfl (info_get ha)
  have := hall i _ ca (.inr ⟨i, by omega, hij, info_get ha, hca⟩)
  rcases this with ⟨h0, h1⟩ | h0
  · exfalso
    rcases hm with hm | hm | hm
    · have := touch_bit hm
      rw [Nat.or_eq_zero_iff] at h0
      exact this h0.1
    · exact touch_bit2 hm h0
    · simp only [List.getD_eq_getElem?_getD, hc, hca, Option.getD_some] at hm
      rw [hm] at h1; cases h1
  · exact anc_ok h0

end Go.Sym
namespace Go.Sym

/-! an operation looks at its operands alone -/
theorem evs_congr {tm tm' : List Value} {l : List Operand} (h : ∀ x ∈ l, ev tm x = ev tm' x) : l.map (ev tm) = l.map (ev tm') := List.map_congr_left h
theorem evA_congr {tm tm' : List Value} {l : Array Operand} (h : ∀ x ∈ l, ev tm x = ev tm' x) : l.map (ev tm) = l.map (ev tm') := Array.map_congr_left h
theorem evP_congr {tm tm' : List Value} {l : List (Nat × Operand)} (h : ∀ p ∈ l, ev tm p.2 = ev tm' p.2) : (l.map fun p => (p.1, ev tm p.2)) = (l.map fun p => (p.1, ev tm' p.2)) :=
  List.map_congr_left fun p hp => by rw [h p hp]
theorem evo_congr {tm tm' : List Value} {o : Option Operand} (h : ∀ x ∈ o, ev tm x = ev tm' x) : o.map (ev tm) = o.map (ev tm') := by
  cases o with
  | none => rfl
  | some x => simp only [Option.map_some, h x rfl]

theorem stepOp_congr {P : Program} {I : Nat → Option Obj} {tm tm' : List Value} {h : H} {ty : TypeId} {op : Op} (hx : ∀ x ∈ op.operands, ev tm x = ev tm' x) : stepOp P I tm h ty op = stepOp P I tm' h ty op := by
  cases op with
  | build t ps =>
    have := evP_congr (tm := tm) (tm' := tm') (l := ps.toList) (fun p hp => hx _ (by simp only [Op.operands, List.mem_toArray, List.mem_map]; exact ⟨p, hp, rfl⟩))
    simp only [stepOp, this]
  | buildSlice t n ps =>
    have := evP_congr (tm := tm) (tm' := tm') (l := ps.toList) (fun p hp => hx _ (by simp only [Op.operands, List.mem_toArray, List.mem_map]; exact ⟨p, hp, rfl⟩))
    simp only [stepOp, this]
  | makeFunc f a b =>
    have h1 := evA_congr (tm := tm) (tm' := tm') (l := a) (fun x h => hx x (by simp [Op.operands, h]))
    have h2 := evA_congr (tm := tm) (tm' := tm') (l := b) (fun x h => hx x (by simp [Op.operands, h]))
    cases f <;> simp only [stepOp, h1, h2]
  | slice t x lo hi mx =>
    have h0 := hx x (by simp [Op.operands])
    have h1 := evo_congr (tm := tm) (tm' := tm') (o := lo) (fun x h => hx x (by simp [Op.operands, Option.mem_def] at h ⊢; simp [h]))
    have h2 := evo_congr (tm := tm) (tm' := tm') (o := hi) (fun x h => hx x (by simp [Op.operands, Option.mem_def] at h ⊢; simp [h]))
    have h3 := evo_congr (tm := tm) (tm' := tm') (o := mx) (fun x h => hx x (by simp [Op.operands, Option.mem_def] at h ⊢; simp [h]))
    simp only [stepOp, h0, h1, h2, h3]
  | call c =>
    have h1 := evs_congr (tm := tm) (tm' := tm') (l := c.args.toList) (fun x h => hx x (by simp [Op.operands, Call.operands]; exact .inr (by simpa using h)))
    simp only [stepOp, h1]
  | pick c a b => simp only [stepOp, hx c (by simp [Op.operands]), hx a (by simp [Op.operands]), hx b (by simp [Op.operands])]
  | move x => simp only [stepOp, hx x (by simp [Op.operands])]
  | assign x => simp only [stepOp, hx x (by simp [Op.operands])]
  | alloc t => rfl
  | box t x => simp only [stepOp, hx x (by simp [Op.operands])]
  | load t x => simp only [stepOp, hx x (by simp [Op.operands])]
  | store t x y => simp only [stepOp, hx x (by simp [Op.operands]), hx y (by simp [Op.operands])]
  | nilCheck x => simp only [stepOp, hx x (by simp [Op.operands])]
  | binOp op t x y t2 => simp only [stepOp, hx x (by simp [Op.operands]), hx y (by simp [Op.operands])]
  | unOp op t x => simp only [stepOp, hx x (by simp [Op.operands])]
  | convert s d x => simp only [stepOp, hx x (by simp [Op.operands])]
  | makeSlice t x y => simp only [stepOp, hx x (by simp [Op.operands]), hx y (by simp [Op.operands])]
  | fieldAddr s x f => simp only [stepOp, hx x (by simp [Op.operands])]
  | field s x f => simp only [stepOp, hx x (by simp [Op.operands])]
  | indexAddr t x y => simp only [stepOp, hx x (by simp [Op.operands]), hx y (by simp [Op.operands])]
  | index t x y => simp only [stepOp, hx x (by simp [Op.operands]), hx y (by simp [Op.operands])]
  | extract x i => simp only [stepOp, hx x (by simp [Op.operands])]
  | _ => rfl

theorem step2_congr {P : Program} {I : Nat → Option Obj} {tm tm' : List Value} {h : H} {ty : TypeId} {op : Op} (hx : ∀ x ∈ op.operands, ev tm x = ev tm' x) : step2 P I tm h ty op = step2 P I tm' h ty op := by
  have h0 := stepOp_congr (P := P) (I := I) (h := h) (ty := ty) hx
  cases op with
  | mapEntry t m k => simp only [step2, hx m (by simp [Op.operands]), hx k (by simp [Op.operands])]
  | entryStore t m s x => simp only [step2, hx m (by simp [Op.operands]), hx s (by simp [Op.operands]), hx x (by simp [Op.operands])]
  | mapUpdate t m k x => simp only [step2, hx m (by simp [Op.operands]), hx k (by simp [Op.operands]), hx x (by simp [Op.operands])]
  | lookup t m k ok => simp only [step2, hx m (by simp [Op.operands]), hx k (by simp [Op.operands])]
  | makeMap t r => cases r <;> simp only [step2]; rfl
  | call c =>
    have h1 := evs_congr (tm := tm) (tm' := tm') (l := c.args.toList) (fun x h => hx x (by simp [Op.operands, Call.operands]; exact .inr (by simpa using h)))
    simp only [step2, h1]
  | _ => exact h0

theorem acall_congr {tm tm' : List Value} {op : Op} (hx : ∀ x ∈ op.operands, ev tm x = ev tm' x) : acall tm op = acall tm' op := by
  cases op with
  | call c =>
    have h1 := evs_congr (tm := tm) (tm' := tm') (l := c.args.toList) (fun x h => hx x (by simp [Op.operands, Call.operands]; exact .inr (by simpa using h)))
    simp only [acall, h1]
    cases hc : c.callee with
    | value f => simp only [hx f (by simp [Op.operands, Call.operands, hc])]
    | _ => rfl
  | _ => rfl

/-- what a new block is, its number given -/
def allocOp (P : Program) (tm : List Value) (rid : Nat) : Op → Option (Value × Blk)
  | .alloc t => match tzero P t with | some z => if flat z = true then some (.pointer (some ⟨rid, 0, none⟩), .cells z.cells.toList t) else none | none => none
  | .box t x => some (.pointer (some ⟨rid, 0, none⟩), .cells (ev tm x).cells.toList t)
  | .buildSlice t n ps => if n < UNK then (sliceLit P t n (ps.toList.map fun p => (p.1, ev tm p.2))).map fun x => (.slice (some ⟨rid, 0, none⟩) n n, .cells x.1 x.2) else none
  | _ => none

theorem allocOp_congr {P : Program} {tm tm' : List Value} {rid : Nat} {op : Op} (hx : ∀ x ∈ op.operands, ev tm x = ev tm' x) : allocOp P tm rid op = allocOp P tm' rid op := by
  cases op with
  | box t x => simp only [allocOp, hx x (by simp [Op.operands])]
  | buildSlice t n ps =>
    have := evP_congr (tm := tm) (tm' := tm') (l := ps.toList) (fun p hp => hx _ (by simp only [Op.operands, List.mem_toArray, List.mem_map]; exact ⟨p, hp, rfl⟩))
    simp only [allocOp, this]
  | _ => rfl

theorem allocOp_run {P : Program} {E : Env} {tm : List Value} {a : Act} (ht : concL E tm = some a.tmps.toList) {o : Oper} (hok : okOp o.op = true) {rid : Nat} {v : Value} {B : Blk} (h : allocOp P tm rid o.op = some (v, B)) (w : World) :
    ∃ c vs cs e, B = .cells vs e ∧ concL E vs = some cs ∧ (execOp a.eval o).run P w = .ok (.value c) (w.alloc (.cells cs.toArray e)) ∧ ∀ E', E' rid = some { b := w.heap.size } → conc E' v = some c := by
  obtain ⟨dst, op, ty, pos, aft, gd⟩ := o
  simp only at hok h
  cases op with
  | alloc t =>
    simp only [allocOp] at h
    split at h
    · rename_i z hz
      split at h
      · rename_i hf
        cases h
        refine ⟨.pointer (some ⟨w.heap.size, 0, none⟩), _, z.cells.toList, t, rfl, conc_cells (conc_flat E z hf), ?_, fun E' hE => by simp only [conc, hE, Option.map_some]⟩
        simp only [execOp, Instr.alloc, Sem.run_bind, run_zeroValue_of hz, Result.andThen_ok, run_newVar, Sem.run_pure, Array.toArray_toList]
      · cases h
    · cases h
  | box t x =>
    simp only [allocOp, Option.some.injEq, Prod.mk.injEq] at h
    obtain ⟨rfl, rfl⟩ := h
    have hc := conc_ev ht (x := x) hok
    refine ⟨.pointer (some ⟨w.heap.size, 0, none⟩), _, (a.eval x).cells.toList, t, rfl, conc_cells hc, ?_, fun E' hE => by simp only [conc, hE, Option.map_some]⟩
    simp only [execOp, Instr.box, Sem.run_bind, Result.andThen_ok, run_newVar, Sem.run_pure, Array.toArray_toList]
  | buildSlice t n ps =>
    simp only [allocOp] at h
    split at h
    · rename_i hn
      simp only [Option.map_eq_some_iff, Prod.mk.injEq] at h
      obtain ⟨⟨l, e⟩, hl, rfl, rfl⟩ := h
      obtain ⟨us, h1, h2⟩ := sliceLit_run (concP_ev ht ps.toList hok) hl w
      refine ⟨.slice (some ⟨w.heap.size, 0, none⟩) n n, l, us, e, rfl, h1, ?_, fun E' hE => by simp only [conc, hE, Option.bind_some, if_pos hn]⟩
      have e : ((ps.toList.map fun p => (p.1, a.eval p.2)).toArray) = ps.map (fun x => match x with | (i, x) => (i, a.eval x)) := by
        apply Array.ext'; simp
      rw [e] at h2
      simp only [execOp, Sem.run_bind, h2, Result.andThen_ok, Sem.run_pure]
    · cases h
  | _ => cases h

/-! the run in the order of the text, and what is left of it where some operations have not come up -/
structure Log where
  tm : Nat → List Value
  h : Nat → H
  c : Nat → Cl
  v : Nat → Value

/-- the number of the block that operation j makes -/
def ridOf (ops : List Oper) (N0 j : Nat) : Nat := 2 * (N0 + ((ops.take j).filter fun o => isAlloc o.op).length)

def slotsL (ops : List Oper) : List Nat := (List.range ops.length).filter fun i => match ops[i]? with | some o => isAlloc o.op | none => false
/-- the numbers of blocks that operation j cannot reach, whatever the order is -/
def freeIds (ops : List Oper) (N0 j : Nat) : List Nat := ((slotsL ops).filter fun i => !anc ops j i).map (ridOf ops N0)

def EntOk (P : Program) (I : Nat → Option Obj) (ops : List Oper) (N0 : Nat) (L : Log) (j : Nat) (o : Oper) : Prop :=
  L.tm (j + 1) = putT (L.tm j) o.dst (L.v j) ∧
  if Region.wanted o (ayield ops.toArray (L.tm j)) = true then
    match L.c j with
    | .pure => isPure o.op = true ∧ stepOp P I (L.tm j) (L.h j) o.type o.op = some (L.v j, L.h j) ∧ L.h (j + 1) = L.h j
    | .read id => isRead o.op = true ∧ stepOp P I (L.tm j) (L.h j) o.type o.op = some (L.v j, L.h j) ∧ L.h (j + 1) = L.h j ∧
        ∀ i, id = some i → (i % 2 = 0 → i < (L.h j).new) ∧ ∀ h2 : H, h2.get i = (L.h j).get i → stepOp P I (L.tm j) h2 o.type o.op = some (L.v j, h2)
    | .alloc B => isAlloc o.op = true ∧ allocOp P (L.tm j) (ridOf ops N0 j) o.op = some (L.v j, B) ∧ L.h (j + 1) = (L.h j).put (ridOf ops N0 j) B ∧ (L.h j).get (ridOf ops N0 j) = some .dead
    | .quiet => ∃ fn args, acall (L.tm j) o.op = some (fn, args) ∧ Snd P I fn args (L.h j) (L.v j) (L.h j) ∧ flat (L.v j) = true ∧ L.h (j + 1) = L.h j
    | .eff w => (step2 P I (L.tm j) (L.h j) o.type o.op = some (L.v j, L.h (j + 1)) ∨ (∃ fn args, acall (L.tm j) o.op = some (fn, args) ∧ Snd P I fn args (L.h j) (L.v j) (L.h (j + 1)))) ∧
        (∀ id ∈ freeIds ops N0 j, (L.h (j + 1)).get id = (L.h j).get id) ∧ (L.h j).length ≤ (L.h (j + 1)).length ∧ ∀ a, w = some a → ∀ i, i ≠ a → (i % 2 = 0 → i < (L.h j).new) → (L.h (j + 1)).get i = (L.h j).get i
  else L.c j = .pure ∧ L.v j = undef ∧ L.h (j + 1) = L.h j

section
variable (ops : List Oper) (N0 : Nat) (L : Log)
def dstOf (k : Nat) : Option Tmp := (ops[k]?).bind (·.dst)
def tmSel (sel : Nat → Bool) : Nat → List Value
  | 0 => L.tm 0
  | k + 1 => if sel k then putT (tmSel sel k) (dstOf ops k) (L.v k) else tmSel sel k
def cSel (cv : Nat → Value) (l0 : List Value) (sel : Nat → Bool) : Nat → List Value
  | 0 => l0
  | k + 1 => if sel k then putT (cSel cv l0 sel k) (dstOf ops k) (cv k) else cSel cv l0 sel k
def gSel (sel : Nat → Bool) : Nat → Nat → Option Blk
  | 0 => (L.h 0).get
  | k + 1 => if sel k then (match L.c k with
      | .alloc B => fun id => if id = ridOf ops N0 k then some B else gSel sel k id
      | .eff _ => fun id => if id ∈ freeIds ops N0 k then gSel sel k id else (L.h (k + 1)).get id
      | _ => gSel sel k) else gSel sel k
end

theorem putT_get (tm : List Value) (d : Option Tmp) (v : Value) (t : Tmp) : (putT tm d v)[t]? = if d = some t then (if t < tm.length then some v else none) else tm[t]? := by
  cases d with
  | none => simp [putT]
  | some d =>
    simp only [putT, List.getElem?_set, Option.some.injEq]
    by_cases h : d = t
    · subst h
      simp only [if_true]
    · simp only [if_neg h]
theorem putT_len (tm : List Value) (d : Option Tmp) (v : Value) : (putT tm d v).length = tm.length := by cases d <;> simp [putT]

section
variable {ops : List Oper} {N0 : Nat} {L : Log}

theorem tmSel_len (sel : Nat → Bool) : ∀ m, (tmSel ops L sel m).length = (L.tm 0).length
  | 0 => rfl
  | m + 1 => by simp only [tmSel]; split <;> simp [putT_len, tmSel_len sel m]
theorem cSel_len (cv : Nat → Value) (l0 : List Value) (sel : Nat → Bool) : ∀ m, (cSel ops cv l0 sel m).length = l0.length
  | 0 => rfl
  | m + 1 => by simp only [cSel]; split <;> simp [putT_len, cSel_len cv l0 sel m]

theorem tmSel_at {s1 s2 : Nat → Bool} {t : Tmp} : ∀ m, (∀ k, k < m → dstOf ops k = some t → s1 k = s2 k) → (tmSel ops L s1 m)[t]? = (tmSel ops L s2 m)[t]?
  | 0, _ => rfl
  | m + 1, h => by
    have ih := tmSel_at m (fun k hk => h k (by omega))
    have hl := (tmSel_len (ops := ops) (L := L) s1 m).trans (tmSel_len (ops := ops) (L := L) s2 m).symm
    simp only [tmSel]
    by_cases hd : dstOf ops m = some t
    · rw [h m (by omega) hd]
      split
      · simp only [putT_get, hd, if_true, hl]
      · exact ih
    · cases s1 m <;> cases s2 m <;> simp [putT_get, hd, ih]
theorem cSel_at {cv : Nat → Value} {l0 : List Value} {s1 s2 : Nat → Bool} {t : Tmp} : ∀ m, (∀ k, k < m → dstOf ops k = some t → s1 k = s2 k) → (cSel ops cv l0 s1 m)[t]? = (cSel ops cv l0 s2 m)[t]?
  | 0, _ => rfl
  | m + 1, h => by
    have ih := cSel_at (cv := cv) (l0 := l0) m (fun k hk => h k (by omega))
    have hl := (cSel_len (ops := ops) cv l0 s1 m).trans (cSel_len (ops := ops) cv l0 s2 m).symm
    simp only [cSel]
    by_cases hd : dstOf ops m = some t
    · rw [h m (by omega) hd]
      split
      · simp only [putT_get, hd, if_true, hl]
      · exact ih
    · cases s1 m <;> cases s2 m <;> simp [putT_get, hd, ih]

/-- one more: it may as well be the last -/
theorem cSel_add {cv : Nat → Value} {l0 : List Value} {sel : Nat → Bool} {j : Nat} {c : Value} (hj : sel j = false) : ∀ m, j < m → (∀ k, j < k → k < m → sel k = true → dstOf ops k = dstOf ops j → dstOf ops j = none) →
    cSel ops (fun k => if k = j then c else cv k) l0 (fun k => sel k || k == j) m = putT (cSel ops cv l0 sel m) (dstOf ops j) c
  | 0, h, _ => by omega
  | m + 1, h, hk => by
    have same : ∀ m, m ≤ j → cSel ops (fun k => if k = j then c else cv k) l0 (fun k => sel k || k == j) m = cSel ops cv l0 sel m := by
      intro m
      induction m with
      | zero => intro _; rfl
      | succ m ih =>
        intro hm
        have hne : (m == j) = false := by simp; omega
        simp only [cSel, hne, Bool.or_false, ih (by omega), if_neg (show ¬ m = j by omega)]
    by_cases hm : m = j
    · subst hm
      simp only [cSel, same m (Nat.le_refl _), hj, beq_self_eq_true, Bool.or_true, if_true, Bool.false_eq_true, if_false]
    · have ih := cSel_add (cv := cv) (l0 := l0) (c := c) hj m (by omega) (fun k h1 h2 => hk k h1 (by omega))
      have hne : (m == j) = false := by simp; omega
      simp only [cSel, hne, Bool.or_false, ih, if_neg hm]
      split
      · rename_i hs
        have hd := hk m (by omega) (by omega) hs
        cases h1 : dstOf ops j with
        | none => rfl
        | some d =>
          cases h2 : dstOf ops m with
          | none => rfl
          | some d' =>
            have hne : d ≠ d' := fun e => by rw [h1, h2, e] at hd; exact absurd (hd rfl) (by simp)
            simp only [putT]
            rw [List.set_comm _ _ hne]
      · rfl

theorem gSel_at {s1 s2 : Nat → Bool} {id : Nat} : ∀ m, (∀ k, k < m → (L.c k).name = .eff → s1 k = s2 k) → (∀ k, k < m → (L.c k).name = .alloc → ridOf ops N0 k = id → s1 k = s2 k) → gSel ops N0 L s1 m id = gSel ops N0 L s2 m id
  | 0, _, _ => rfl
  | m + 1, he, ha => by
    have ih := gSel_at m (fun k hk => he k (by omega)) (fun k hk => ha k (by omega))
    simp only [gSel]
    have he' := he m (by omega)
    have ha' := ha m (by omega)
    cases hc : L.c m with
    | alloc B =>
      rw [hc] at ha'
      by_cases hr : ridOf ops N0 m = id
      · rw [ha' rfl hr]
        cases s2 m <;> simp [hr, ih]
      · cases s1 m <;> cases s2 m <;> simp [Ne.symm hr, ih]
    | eff =>
      rw [hc] at he'
      rw [he' rfl]
      cases s2 m <;> simp [ih]
    | pure => cases s1 m <;> cases s2 m <;> simp [ih]
    | read => cases s1 m <;> cases s2 m <;> simp [ih]
    | quiet => cases s1 m <;> cases s2 m <;> simp [ih]

/-- behind an effect that cannot reach it -/
theorem gSel_free {sel : Nat → Bool} {j id : Nat} (hf : id ∈ freeIds ops N0 j) (hc : (L.c j).name = .eff) : ∀ m, gSel ops N0 L (fun k => sel k || k == j) m id = gSel ops N0 L sel m id
  | 0 => rfl
  | m + 1 => by
    have ih := gSel_free (sel := sel) hf hc m
    simp only [gSel]
    by_cases hm : m = j
    · subst hm
      cases hx : L.c m with
      | eff => by_cases hs : sel m = true <;> simp [hf, ih, hs]
      | _ => rw [hx] at hc; cases hc
    · have hne : (m == j) = false := by simpa using hm
      simp only [hne, Bool.or_false]
      cases sel m <;> cases L.c m <;> simp [ih]

/-- what an effect leaves, no other effect behind it -/
theorem gSel_eff {sel : Nat → Bool} {j id : Nat} (hf : id ∉ freeIds ops N0 j) (hc : (L.c j).name = .eff) : ∀ m, j < m → (∀ k, j < k → k < m → sel k = true → (L.c k).name ≠ .eff) → (∀ k, j < k → k < m → sel k = true → (L.c k).name = .alloc → ridOf ops N0 k ≠ id) →
    gSel ops N0 L (fun k => sel k || k == j) m id = (L.h (j + 1)).get id
  | 0, h, _, _ => by omega
  | m + 1, h, he, ha => by
    simp only [gSel]
    by_cases hm : m = j
    · subst hm
      cases hx : L.c m with
      | eff => simp [hf]
      | _ => rw [hx] at hc; cases hc
    · have ih := gSel_eff hf hc m (by omega) (fun k h1 h2 => he k h1 (by omega)) (fun k h1 h2 => ha k h1 (by omega))
      have hne : (m == j) = false := by simpa using hm
      simp only [hne, Bool.or_false]
      cases hs : sel m with
      | false => simpa using ih
      | true =>
        have he' := he m (by omega) (by omega) hs
        have ha' := ha m (by omega) (by omega) hs
        cases hx : L.c m with
        | alloc B => rw [hx] at ha'; simp only [if_true]; rw [if_neg (fun e => ha' rfl e.symm)]; exact ih
        | eff => rw [hx] at he'; exact absurd rfl he'
        | pure => simpa using ih
        | read => simpa using ih
        | quiet => simpa using ih

/-- what a new block holds, no effect that can reach it behind it -/
theorem gSel_alloc {sel : Nat → Bool} {j : Nat} {B : Blk} (hc : L.c j = .alloc B) : ∀ m, j < m → (∀ k, j < k → k < m → sel k = true → (L.c k).name = .eff → ridOf ops N0 j ∈ freeIds ops N0 k) → (∀ k, j < k → k < m → (L.c k).name = .alloc → ridOf ops N0 k ≠ ridOf ops N0 j) →
    gSel ops N0 L (fun k => sel k || k == j) m (ridOf ops N0 j) = some B
  | 0, h, _, _ => by omega
  | m + 1, h, he, ha => by
    simp only [gSel]
    by_cases hm : m = j
    · subst hm
      simp [hc]
    · have ih := gSel_alloc (sel := sel) hc m (by omega) (fun k h1 h2 => he k h1 (by omega)) (fun k h1 h2 => ha k h1 (by omega))
      have hne : (m == j) = false := by simpa using hm
      simp only [hne, Bool.or_false] at ih ⊢
      cases hs : sel m with
      | false => simpa using ih
      | true =>
        have he' := he m (by omega) (by omega) hs
        have ha' := ha m (by omega) (by omega)
        cases hx : L.c m with
        | alloc B' => rw [hx] at ha'; simp only [if_true]; rw [if_neg (fun e => ha' rfl e.symm)]; exact ih
        | eff => rw [hx] at he'; simp only [if_true]; rw [if_pos (he' rfl)]; exact ih
        | pure => simpa using ih
        | read => simpa using ih
        | quiet => simpa using ih
end
end Go.Sym
namespace Go.Sym

theorem concL_fun {E E1 E2 : Env} (h1 : Ext E1 E) (h2 : Ext E2 E) {vs a b : List Value} (ha : concL E1 vs = some a) (hb : concL E2 vs = some b) : a = b := by
  have := concL_ext h1 _ _ ha
  rw [concL_ext h2 _ _ hb] at this
  exact (Option.some.inj this).symm

theorem BRel.move {E1 E2 E' E : Env} {L : Loc} {B : Blk} {o o' : Option Obj} (h1 : BRel E1 L B o) (h2 : BRel E2 L B o) (h3 : BRel E' L B o') (e1 : Ext E1 E) (e2 : Ext E2 E) (e3 : Ext E2 E') : BRel E1 L B o' := by
  cases B with
  | cells vs elem =>
    obtain ⟨c1, a1, b1, d1⟩ := h1
    obtain ⟨c2, a2, b2, d2⟩ := h2
    obtain ⟨c3, a3, b3, d3⟩ := h3
    have e12 := concL_fun e1 e2 a1 a2
    have e23 := concL_fun e3 (Ext.refl E') a2 a3
    subst e12; subst e23
    exact ⟨_, a1, b3, d3⟩
  | row vs elem sz =>
    obtain ⟨x1, c1, o1, a1, _⟩ := h1
    obtain ⟨x2, c2, o2, a2, _⟩ := h2
    obtain ⟨x3, c3, o3, a3, r3⟩ := h3
    have e12 := concL_fun e1 e2 a1 a2
    have e23 := concL_fun e3 (Ext.refl E') a2 a3
    subst e12; subst e23
    exact ⟨x3, _, o3, a1, r3⟩
  | obj ob => exact h3
  | loop tm ps as body st pend df =>
    obtain ⟨f1, t1, D1, a1, b1, _⟩ := h1
    obtain ⟨f2, t2, D2, a2, b2, _⟩ := h2
    obtain ⟨f3, t3, D3, a3, b3, r3⟩ := h3
    have e12 := concL_fun e1 e2 a1 a2
    have e23 := concL_fun e3 (Ext.refl E') a2 a3
    have d12 : D1 = D2 := by have := e1 _ _ b1; rw [e2 _ _ b2] at this; exact (Option.some.inj this).symm
    have d23 : D2 = D3 := by have := e3 _ _ b2; rw [b3] at this; exact (Option.some.inj this).symm
    subst e12; subst e23; subst d12; subst d23
    exact ⟨f3, _, _, a1, b1, r3⟩
  | iter m since seen last =>
    obtain ⟨D1, a1, b1⟩ := h1
    obtain ⟨D2, a2, b2⟩ := h2
    obtain ⟨D3, a3, b3⟩ := h3
    have d12 : D1 = D2 := by have := e1 _ _ a1; rw [e2 _ _ a2] at this; exact (Option.some.inj this).symm
    have d23 : D2 = D3 := by have := e3 _ _ a2; rw [a3] at this; exact (Option.some.inj this).symm
    subst d12; subst d23
    exact ⟨_, a1, b3⟩
  | dead => trivial

/-- two abstract heaps that hold the same at what is known -/
theorem RG.congr {I E g w} (r : RG I E g w) {g1 : Nat → Option Blk} (hg : ∀ id L, E id = some L → id % 2 = 0 → g1 id = g id) : RG I E g1 w where
  blk := fun id L hL hid => by rw [hg id L hL hid]; exact r.blk id L hL hid
  inp := r.inp
  inpd := r.inpd
  inj := fun i j L M hi hj h1 h2 l1 l2 he => r.inj i j L M hi hj h1 h2 (by unfold gLive at *; rw [← hg i L hi h1]; exact l1) (by unfold gLive at *; rw [← hg j M hj h2]; exact l2) he
  sep := fun i L hi h1 l1 => r.sep i L hi h1 (by unfold gLive at *; rw [← hg i L hi h1]; exact l1)

structure DC (P : Program) (I : Nat → Option Obj) (l : List Oper) (N0 : Nat) (L : Log) : Prop where
  ent : ∀ (j : Nat) (o : Oper), l[j]? = some o → EntOk P I l N0 L j o
  draw : drawOk l ((List.range l.length).map fun j => (L.c j).tag) = true
  ok : ∀ (j : Nat) (o : Oper), l[j]? = some o → okOp o.op = true
  len : (L.h 0).length = N0 + (slotsL l).length

def later (l : List Oper) (N0 j : Nat) : List Nat := ((slotsL l).filter fun k => decide (j < k)).map (ridOf l N0)
/-- what is known without the blocks that operations behind j make -/
def Eb (l : List Oper) (N0 : Nat) (E : Env) (j : Nat) : Env := fun id => if id ∈ later l N0 j then none else E id

theorem mem_slots {l : List Oper} {k : Nat} : k ∈ slotsL l ↔ ∃ o, l[k]? = some o ∧ isAlloc o.op = true := by
  unfold slotsL
  rw [List.mem_filter, List.mem_range]
  cases h : l[k]? with
  | none => simp
  | some o => have := (List.getElem?_eq_some_iff.1 h).1; simp [this]
theorem mem_later {l : List Oper} {N0 j id : Nat} : id ∈ later l N0 j ↔ ∃ k o, l[k]? = some o ∧ isAlloc o.op = true ∧ j < k ∧ id = ridOf l N0 k := by
  unfold later
  simp only [List.mem_map, List.mem_filter, mem_slots, decide_eq_true_eq]
  constructor
  · rintro ⟨k, ⟨⟨o, h1, h2⟩, h3⟩, rfl⟩; exact ⟨k, o, h1, h2, h3, rfl⟩
  · rintro ⟨k, o, h1, h2, h3, rfl⟩; exact ⟨k, ⟨⟨o, h1, h2⟩, h3⟩, rfl⟩
theorem mem_free {l : List Oper} {N0 j id : Nat} : id ∈ freeIds l N0 j ↔ ∃ k o, l[k]? = some o ∧ isAlloc o.op = true ∧ ¬ anc l j k = true ∧ id = ridOf l N0 k := by
  unfold freeIds
  simp only [List.mem_map, List.mem_filter, mem_slots, Bool.not_eq_true', ← Bool.not_eq_true]
  constructor
  · rintro ⟨k, ⟨⟨o, h1, h2⟩, h3⟩, rfl⟩; exact ⟨k, o, h1, h2, by simpa using h3, rfl⟩
  · rintro ⟨k, o, h1, h2, h3, rfl⟩; exact ⟨k, ⟨⟨o, h1, h2⟩, by simpa using h3⟩, rfl⟩

theorem rid_lt {l : List Oper} {N0 i j : Nat} (hij : i < j) {o : Oper} (ho : l[i]? = some o) (ha : isAlloc o.op = true) : ridOf l N0 i < ridOf l N0 j := by
  unfold ridOf
  have h1 : (l.take (i + 1)).filter (fun o => isAlloc o.op) = (l.take i).filter (fun o => isAlloc o.op) ++ [o] := by
    rw [List.take_add_one, ho, List.filter_append]; simp [ha]
  have h2 : ((l.take (i + 1)).filter (fun o => isAlloc o.op)).length ≤ ((l.take j).filter (fun o => isAlloc o.op)).length := by
    have : l.take j = l.take (i + 1) ++ (l.drop (i + 1)).take (j - (i + 1)) := by
      rw [← List.take_add]; congr 1; omega
    rw [this, List.filter_append, List.length_append]; omega
  rw [h1, List.length_append, List.length_singleton] at h2
  omega
theorem rid_inj {l : List Oper} {N0 i j : Nat} {o o' : Oper} (ho : l[i]? = some o) (ha : isAlloc o.op = true) (ho' : l[j]? = some o') (ha' : isAlloc o'.op = true) (h : ridOf l N0 i = ridOf l N0 j) : i = j := by
  rcases Nat.lt_trichotomy i j with h1 | h1 | h1
  · have := rid_lt (N0 := N0) h1 ho ha; omega
  · exact h1
  · have := rid_lt (N0 := N0) h1 ho' ha'; omega
theorem slots_length {l : List Oper} : (slotsL l).length = (l.filter fun o => isAlloc o.op).length := by
  have gen : ∀ (l1 l2 : List Oper), ((List.range' l1.length l2.length).filter fun i => match (l1 ++ l2)[i]? with | some o => isAlloc o.op | none => false).length = (l2.filter fun o => isAlloc o.op).length := by
    intro l1 l2
    induction l2 generalizing l1 with
    | nil => rfl
    | cons o l2 ih =>
      have := ih (l1 ++ [o])
      simp only [List.append_assoc, List.singleton_append, List.length_append, List.length_singleton] at this
      simp only [List.length_cons, List.range'_succ, List.filter_cons]
      have h0 : (l1 ++ o :: l2)[l1.length]? = some o := by simp
      rw [h0]
      simp only
      by_cases ha : isAlloc o.op = true
      · simp only [ha, if_true, List.length_cons, this]
      · simp only [ha, if_false, this, Bool.false_eq_true]
  have := gen [] l
  simp only [List.nil_append, List.length_nil] at this
  unfold slotsL
  rw [List.range_eq_range']
  exact this
theorem rid_new {l : List Oper} {N0 k : Nat} {o : Oper} (ho : l[k]? = some o) (ha : isAlloc o.op = true) : ridOf l N0 k < 2 * (N0 + (slotsL l).length) ∧ 2 * N0 ≤ ridOf l N0 k ∧ ridOf l N0 k % 2 = 0 := by
  have h1 := rid_lt (N0 := N0) (show k < l.length from (List.getElem?_eq_some_iff.1 ho).1) ho ha
  unfold ridOf at *
  rw [List.take_length] at h1
  rw [slots_length]
  omega

theorem Eb_ext {l : List Oper} {N0 : Nat} (E : Env) (j : Nat) : Ext (Eb l N0 E j) E := by
  intro id L h
  unfold Eb at h
  split at h
  · cases h
  · exact h
theorem Eb_mono {l : List Oper} {N0 : Nat} (E : Env) {i j : Nat} (h : i ≤ j) : Ext (Eb l N0 E i) (Eb l N0 E j) := by
  intro id L hL
  unfold Eb at hL ⊢
  split at hL
  · cases hL
  · rename_i hn
    rw [if_neg]; · exact hL
    intro hm
    obtain ⟨k, o, h1, h2, h3, rfl⟩ := mem_later.1 hm
    exact hn (mem_later.2 ⟨k, o, h1, h2, by omega, rfl⟩)
theorem Eb_up {l : List Oper} {N0 : Nat} {E E' : Env} (h : Ext E E') (j : Nat) : Ext (Eb l N0 E j) (Eb l N0 E' j) := by
  intro id L hL
  unfold Eb at hL ⊢
  split at hL
  · cases hL
  · rename_i hn; rw [if_neg hn]; exact h _ _ hL
theorem Eb_odd {l : List Oper} {N0 : Nat} (E : Env) (j b : Nat) : Eb l N0 E j (2 * b + 1) = E (2 * b + 1) := by
  unfold Eb
  rw [if_neg]
  intro hm
  obtain ⟨k, o, h1, h2, h3, h4⟩ := mem_later.1 hm
  have := (rid_new (N0 := N0) h1 h2).2.2
  omega
theorem Eb_last {l : List Oper} {N0 : Nat} (E : Env) : Eb l N0 E l.length = E := by
  funext id
  unfold Eb
  rw [if_neg]
  intro hm
  obtain ⟨k, o, h1, h2, h3, h4⟩ := mem_later.1 hm
  have := (List.getElem?_eq_some_iff.1 h1).1
  omega

section
variable {P : Program} {I : Nat → Option Obj} {l : List Oper} {N0 : Nat} {L : Log}

theorem DC.tmAll (d : DC P I l N0 L) {sel : Nat → Bool} : ∀ m, m ≤ l.length → (∀ k, k < m → sel k = true) → tmSel l L sel m = L.tm m
  | 0, _, _ => rfl
  | m + 1, hm, hs => by
    obtain ⟨o, ho⟩ : ∃ o, l[m]? = some o := ⟨_, List.getElem?_eq_getElem (by omega)⟩
    simp only [tmSel, hs m (by omega), if_true, d.tmAll m (by omega) (fun k hk => hs k (by omega)), (d.ent m o ho).1, dstOf, ho, Option.bind_some]

theorem DC.gAll (d : DC P I l N0 L) {sel : Nat → Bool} : ∀ m, m ≤ l.length → (∀ k, k < m → sel k = true) → gSel l N0 L sel m = (L.h m).get
  | 0, _, _ => rfl
  | m + 1, hm, hs => by
    obtain ⟨o, ho⟩ : ∃ o, l[m]? = some o := ⟨_, List.getElem?_eq_getElem (by omega)⟩
    have he := (d.ent m o ho).2
    have ih := d.gAll m (by omega) (fun k hk => hs k (by omega))
    simp only [gSel, hs m (by omega), if_true, ih]
    split at he
    · cases hc : L.c m with
      | pure => rw [hc] at he; simp only [he.2.2]
      | read id => rw [hc] at he; simp only [he.2.2.1]
      | quiet => rw [hc] at he; obtain ⟨_, _, _, _, _, he⟩ := he; simp only [he]
      | alloc B =>
        rw [hc] at he
        obtain ⟨_, _, he, hdead⟩ := he
        funext id
        simp only [he]
        split
        · rename_i e; subst e; rw [H.get_put_same hdead]
        · rename_i e; rw [H.get_put_ne _ e]
      | eff w =>
        rw [hc] at he
        obtain ⟨_, he, _⟩ := he
        funext id
        simp only
        split
        · rename_i hf; exact (he id hf).symm
        · rfl
    · rw [he.1]; simp only [he.2.2]

theorem DC.lenAll (d : DC P I l N0 L) : ∀ m, m ≤ l.length → (L.h 0).length ≤ (L.h m).length
  | 0, _ => Nat.le_refl _
  | m + 1, hm => by
    obtain ⟨o, ho⟩ : ∃ o, l[m]? = some o := ⟨_, List.getElem?_eq_getElem (by omega)⟩
    have he := (d.ent m o ho).2
    have ih := d.lenAll m (by omega)
    split at he
    · cases hc : L.c m with
      | pure => rw [hc] at he; rw [he.2.2]; exact ih
      | read id => rw [hc] at he; rw [he.2.2.1]; exact ih
      | quiet => rw [hc] at he; obtain ⟨_, _, _, _, _, he⟩ := he; rw [he]; exact ih
      | alloc B => rw [hc] at he; rw [he.2.2.1, H.length_put]; exact ih
      | eff w => rw [hc] at he; exact Nat.le_trans ih he.2.2.1
    · rw [he.2.2]; exact ih

theorem DC.lenMono (d : DC P I l N0 L) {i : Nat} : ∀ m, i ≤ m → m ≤ l.length → (L.h i).length ≤ (L.h m).length
  | 0, hi, _ => by have : i = 0 := by omega
                   subst this; exact Nat.le_refl _
  | m + 1, hi, hm => by
    by_cases e : i = m + 1
    · subst e; exact Nat.le_refl _
    obtain ⟨o, ho⟩ : ∃ o, l[m]? = some o := ⟨_, List.getElem?_eq_getElem (by omega)⟩
    have he := (d.ent m o ho).2
    have ih := d.lenMono (i := i) m (by omega) (by omega)
    split at he
    · cases hc : L.c m with
      | pure => rw [hc] at he; rw [he.2.2]; exact ih
      | read id => rw [hc] at he; rw [he.2.2.1]; exact ih
      | quiet => rw [hc] at he; obtain ⟨_, _, _, _, _, he⟩ := he; rw [he]; exact ih
      | alloc B => rw [hc] at he; rw [he.2.2.1, H.length_put]; exact ih
      | eff w => rw [hc] at he; exact Nat.le_trans ih he.2.2.1
    · rw [he.2.2]; exact ih

theorem DC.cn (_ : DC P I l N0 L) {j : Nat} (hj : j < l.length) : ((List.range l.length).map fun j => (L.c j).tag).getD j .pure = (L.c j).tag := by
  simp [List.getD_eq_getElem?_getD, hj]

/-- one block alone -/
def only (i : Nat) (g : Nat → Option Blk) : Nat → Option Blk := fun id => if id = i then g id else (g id).map fun _ => .dead
/-- what an operation that has not come up may look at -/
def rdOf (L : Log) (n j : Nat) : Option Nat := if j < n then (match L.c j with | .read x => x | _ => none) else none
def visO (x : Option Nat) (g : Nat → Option Blk) : Nat → Option Blk := match x with | some i => only i g | none => g
def vis (L : Log) (n j : Nat) (g : Nat → Option Blk) : Nat → Option Blk := visO (rdOf L n j) g
theorem only_congr {i id : Nat} {g g' : Nat → Option Blk} (h : g' id = g id) : only i g' id = only i g id := by unfold only; rw [h]
theorem vis_congr {n j id : Nat} {g g' : Nat → Option Blk} (h : g' id = g id) : vis L n j g' id = vis L n j g id := by
  unfold vis
  cases rdOf L n j with
  | some i => exact only_congr h
  | none => exact h
theorem vis_some {n j id : Nat} {g : Nat → Option Blk} {B : Blk} (h : vis L n j g id = some B) (hd : B ≠ .dead) : g id = some B := by
  unfold vis at h
  cases hr : rdOf L n j with
  | some i =>
    rw [hr] at h
    simp only [visO, only] at h
    split at h
    · exact h
    · cases hg : g id with
      | none => rw [hg] at h; cases h
      | some B' => rw [hg] at h; simp at h; exact absurd h.symm hd
  | none => rw [hr] at h; exact h
theorem vis_live {n j id : Nat} {g : Nat → Option Blk} (h : gLive (vis L n j g) id) : gLive g id := by
  obtain ⟨B, hB, hd⟩ := h
  exact ⟨B, vis_some hB hd, hd⟩
theorem vis_of {n j id : Nat} {g : Nat → Option Blk} {B : Blk} (h : g id = some B) : ∃ B', vis L n j g id = some B' ∧ (B' = B ∨ B' = .dead) := by
  unfold vis
  cases rdOf L n j with
  | some i =>
    simp only [visO, only]
    split
    · exact ⟨B, h, .inl rfl⟩
    · exact ⟨.dead, by rw [h]; rfl, .inr rfl⟩
  | none => exact ⟨B, h, .inl rfl⟩
theorem vis_last {n : Nat} (g : Nat → Option Blk) : vis L n n g = g := by
  have : rdOf L n n = none := by unfold rdOf; rw [if_neg (by omega)]
  unfold vis; rw [this]; rfl
theorem vis_no {n j : Nat} (g : Nat → Option Blk) (h : (L.c j).name ≠ .read) : vis L n j g = g := by
  have : rdOf L n j = none := by
    unfold rdOf
    split
    · cases hc : L.c j with
      | read x => rw [hc] at h; exact absurd rfl h
      | _ => rfl
    · rfl
  unfold vis; rw [this]; rfl
theorem BRel.vis {E : Env} {M : Loc} {B B' : Blk} {o : Option Obj} (h : BRel E M B o) (hb : B' = B ∨ B' = .dead) : BRel E M B' o := by
  rcases hb with rfl | rfl
  · exact h
  · trivial
/-- less may be seen -/
theorem RG.vis {E : Env} {g : Nat → Option Blk} {w : World} (r : RG I E g w) (n j : Nat) : RG I E (Sym.vis L n j g) w where
  blk := fun id M hM hid => by
    obtain ⟨B, hB, hrel⟩ := r.blk id M hM hid
    obtain ⟨B', hB', hb⟩ := vis_of (L := L) (n := n) (j := j) hB
    exact ⟨B', hB', hrel.vis hb⟩
  inp := r.inp
  inpd := r.inpd
  inj := fun i1 i2 M1 M2 h1 h2 p1 p2 l1 l2 => r.inj i1 i2 M1 M2 h1 h2 p1 p2 (vis_live l1) (vis_live l2)
  sep := fun i M h1 h2 l1 => r.sep i M h1 h2 (vis_live l1)

/-- the state of the region, some operations having come up -/
structure Inv (P : Program) (I : Nat → Option Obj) (l : List Oper) (N0 : Nat) (L : Log) (E0 : Env) (h0 : H) (w0 : World) (a0 : Act) (listed : Array Bool) (E : Env) (a : Act) (w : World) (cv : Nat → Value) : Prop where
  size : listed.size = l.length
  closed : ∀ (j : Nat) (o : Oper), l[j]? = some o → listed.getD j true = true → ∀ i ∈ bindsE o, listed.getD i true = true
  tmps : a.tmps.toList = cSel l cv a0.tmps.toList (fun k => listed.getD k true) l.length
  defs : a.defers = a0.defers
  vals : ∀ j, j < l.length → listed.getD j true = true → conc (Eb l N0 E j) (L.v j) = some (cv j)
  rel : ∀ j, j ≤ l.length → (j < l.length → listed.getD j true = false ∧ ((L.c j).name = .read ∨ (L.c j).name = .quiet ∨ (L.c j).name = .eff)) → RG I (Eb l N0 E j) (vis L l.length j (gSel l N0 L (fun k => listed.getD k true) l.length)) w
  pend : ∀ (j : Nat) (o : Oper), l[j]? = some o → isAlloc o.op = true → listed.getD j true = false → E (ridOf l N0 j) = none
  adv : AdvG E0 h0.get h0.new w0 E (gSel l N0 L (fun k => listed.getD k true) l.length) h0.new w

theorem anc_listed {listed : Array Bool} (closed : ∀ (j : Nat) (o : Oper), l[j]? = some o → listed.getD j true = true → ∀ i ∈ bindsE o, listed.getD i true = true) {i j : Nat} (h : AncP l i j) :
    (∀ (o : Oper), l[j]? = some o → ∀ k ∈ bindsE o, listed.getD k true = true) → listed.getD i true = true := by
  induction h with
  | edge ho hi => intro hb; exact hb _ ho _ hi
  | trans ho hk h ih =>
    rename_i j o i k
    intro hb
    have hk' := hb _ ho _ hk
    exact ih fun o' ho' => closed k o' ho' hk'

end
end Go.Sym
namespace Go.Sym

theorem heap_alloc_live {I E g w} (r : RG I E g w) {id : Nat} {M : Loc} (hM : E id = some M) (hid : id % 2 = 0) {B : Blk} (hg : g id = some B) (o : Obj) {F : Env} (hB : BRel F M B w.heap[M.b]?) : BRel F M B (w.alloc o).heap[M.b]? := by
  by_cases hd : B = .dead
  · subst hd; trivial
  · rw [heap_alloc_lt _ _ _ (r.live_lt hM hid ⟨B, hg, hd⟩)]; exact hB

/-- a new block beside what is known -/
theorem RG.beside {I E g w} (r : RG I E g w) (o : Obj) : RG I E g (w.alloc o) where
  blk := fun id L hL hid => by
    obtain ⟨B, hg, hB⟩ := r.blk id L hL hid
    exact ⟨B, hg, heap_alloc_live r hL hid hg o hB⟩
  inp := fun b x hb => ⟨(r.inp b x hb).1, by rw [heap_alloc_lt _ _ _ (r.inp_lt hb)]; exact (r.inp b x hb).2⟩
  inpd := r.inpd
  inj := r.inj
  sep := r.sep

/-- a new block, known by a number that was kept for it -/
theorem RG.place {I E g w} (r : RG I E g w) {rid : Nat} (hrid : rid % 2 = 0) (hn : E rid = none) {B : Blk} {o : Obj} {L : Loc} (hb : L.b = w.heap.size) (hB : BRel (E.upd rid L) L B (some o)) {g' : Nat → Option Blk}
    (h1 : g' rid = some B) (h2 : ∀ id, id ≠ rid → g' id = g id) : RG I (E.upd rid L) g' (w.alloc o) where
  blk := fun id M hM hid => by
    by_cases e : id = rid
    · subst e
      rw [Env.upd_self] at hM; cases hM
      exact ⟨B, h1, by rw [hb, heap_alloc_new]; exact hB⟩
    · rw [Env.upd_ne _ _ e] at hM
      obtain ⟨B', hg, hB'⟩ := r.blk id M hM hid
      exact ⟨B', by rw [h2 id e]; exact hg, heap_alloc_live r hM hid hg o (hB'.ext (Ext.upd hn L))⟩
  inp := fun b x hb' => ⟨Ext.upd hn L _ _ (r.inp b x hb').1, by rw [heap_alloc_lt _ _ _ (r.inp_lt hb')]; exact (r.inp b x hb').2⟩
  inpd := fun b => by
    rw [Env.upd_ne _ _ (by omega)]
    exact r.inpd b
  inj := fun i j L1 M1 hi hj hi2 hj2 hli hlj he => by
    by_cases e1 : i = rid <;> by_cases e2 : j = rid
    · omega
    · subst e1; rw [Env.upd_self] at hi; cases hi
      rw [Env.upd_ne _ _ e2] at hj
      have := r.live_lt hj hj2 (by unfold gLive at *; rw [h2 j e2] at hlj; exact hlj); omega
    · subst e2; rw [Env.upd_self] at hj; cases hj
      rw [Env.upd_ne _ _ e1] at hi
      have := r.live_lt hi hi2 (by unfold gLive at *; rw [h2 i e1] at hli; exact hli); omega
    · rw [Env.upd_ne _ _ e1] at hi; rw [Env.upd_ne _ _ e2] at hj
      exact r.inj i j L1 M1 hi hj hi2 hj2 (by unfold gLive at *; rw [h2 i e1] at hli; exact hli) (by unfold gLive at *; rw [h2 j e2] at hlj; exact hlj) he
  sep := fun i L1 hi hi2 hli => by
    by_cases e1 : i = rid
    · subst e1; rw [Env.upd_self] at hi; cases hi
      cases hx : I L.b with
      | none => rfl
      | some o' => have := r.inp_lt hx; omega
    · rw [Env.upd_ne _ _ e1] at hi
      exact r.sep i L1 hi hi2 (by unfold gLive at *; rw [h2 i e1] at hli; exact hli)

/-- a call that changes nothing that is known: E2 what it knew, E1 what else is known -/
theorem RG.still {I E1 E2 E' g g1 w w' N N'} (r : RG I E1 g1 w) (hsub : ∀ i B, g1 i = some B → B ≠ .dead → g i = some B) {g2 : Nat → Option Blk} {E : Env} (x1 : Ext E1 E) (x2 : Ext E2 E) (r2 : RG I E2 g w) (hg : ∀ id L, E2 id = some L → id % 2 = 0 → g2 id = g id) (r' : RG I E' g2 w')
    (adv : AdvG E2 g2 N w E' g2 N' w') (rE : RG I E g w) : RG I E1 g1 w' where
  blk := fun id L hL hid => by
    obtain ⟨B, hB, hrel⟩ := r.blk id L hL hid
    refine ⟨B, hB, ?_⟩
    by_cases hd : B = .dead
    · subst hd; trivial
    have hBg := hsub id B hB hd
    cases h2 : E2 id with
    | some M =>
      have e : M = L := by have := x1 _ _ hL; rw [x2 _ _ h2] at this; exact Option.some.inj this
      subst e
      obtain ⟨B2, hB2, hrel2⟩ := r2.blk id M h2 hid
      rw [hBg] at hB2; cases hB2
      obtain ⟨B3, hB3, hrel3⟩ := r'.blk id M (adv.ext _ _ h2) hid
      rw [hg id M h2 hid, hBg] at hB3; cases hB3
      exact BRel.move hrel hrel2 hrel3 x1 x2 adv.ext
    | none =>
      · have hlive : gLive g id := ⟨B, hBg, hd⟩
        rw [adv.frame L.b (r.live_lt hL hid ⟨B, hB, hd⟩) fun i M hM hi hl he => ?_]
        · exact hrel
        · have hl' : gLive g i := by unfold gLive at *; rw [hg i M hM hi] at hl; exact hl
          have := rE.inj i id M L (x2 _ _ hM) (x1 _ _ hL) hi hid hl' hlive he
          subst this
          rw [h2] at hM; cases hM
  inp := fun b o hb => ⟨(r.inp b o hb).1, (r'.inp b o hb).2⟩
  inpd := r.inpd
  inj := r.inj
  sep := r.sep

section
variable {P : Program} {I : Nat → Option Obj} {l : List Oper} {N0 : Nat} {L : Log} {E0 : Env} {h0 : H} {w0 : World} {a0 : Act}

theorem sel_set {listed : Array Bool} {j : Nat} (hj : j < listed.size) : (fun k => (listed.setIfInBounds j true).getD k true) = fun k => listed.getD k true || k == j := by
  funext k
  simp only [Array.getD_eq_getD_getElem?, Array.getElem?_setIfInBounds]
  by_cases e : j = k
  · subst e; simp [hj]
  · have : (k == j) = false := by simp; omega
    simp [e, this]

/-- what is known when operation j comes up -/
structure Up (P : Program) (I : Nat → Option Obj) (l : List Oper) (N0 : Nat) (L : Log) (listed : Array Bool) (E : Env) (a : Act) (w : World) (j : Nat) (o : Oper) (a' : Act) (tm' : List Value) : Prop where
  before : ∀ i, AncP l i j → listed.getD i true = true
  behind : ∀ k ok, l[k]? = some ok → AncP l j k → listed.getD k true = false
  conc' : concL (Eb l N0 E j) tm' = some a'.tmps.toList
  look : ∀ x ∈ o.op.operands, ev tm' x = ev (L.tm j) x
  same : execOp a'.eval o = execOp a.eval o
  want : Region.wanted o (ayield l.toArray (L.tm j)) = Region.wanted o (yielded l.toArray a.tmps)

theorem tmSel_stop {sel : Nat → Bool} {j : Nat} (h : ∀ k, j ≤ k → sel k = false) : ∀ m, j ≤ m → tmSel l L sel m = tmSel l L sel j
  | 0, hm => by have : j = 0 := by omega
                subst this; rfl
  | m + 1, hm => by
    by_cases e : j = m + 1
    · rw [e]
    · simp only [tmSel, h m (by omega), Bool.false_eq_true, if_false]
      exact tmSel_stop h m (by omega)

theorem conc_sel {F : Env} {cv : Nat → Value} {c0 : List Value} {sel : Nat → Bool} (h0 : concL F (L.tm 0) = some c0) : ∀ m, (∀ k, k < m → sel k = true → conc F (L.v k) = some (cv k)) → concL F (tmSel l L sel m) = some (cSel l cv c0 sel m)
  | 0, _ => h0
  | m + 1, h => by
    have ih := conc_sel h0 m (fun k hk => h k (by omega))
    simp only [tmSel, cSel]
    split
    · rename_i hs
      have hv := h m (by omega) hs
      cases dstOf l m with
      | none => exact ih
      | some d => exact concL_set hv d ih
    · exact ih

theorem touches_of {o ok : Oper} {t : Tmp} (hd : ok.dst = some t) (ht : t ∈ looks l o) : touches l ok o = true := by
  unfold touches
  rw [hd]
  simp only [Bool.or_eq_true, List.contains_iff_mem]
  exact .inl ht
theorem touches_dst {o ok : Oper} {t : Tmp} (h1 : o.dst = some t) (h2 : ok.dst = some t) : touches l o ok = true := by
  unfold touches
  rw [h1]
  simp [h2]

theorem Inv.up (d : DC P I l N0 L) (hE0 : ∀ id M, E0 id = some M → id % 2 = 0 → id < 2 * N0) (hc0 : concL E0 (L.tm 0) = some a0.tmps.toList)
    {listed : Array Bool} {E : Env} {a : Act} {w : World} {cv : Nat → Value} (inv : Inv P I l N0 L E0 h0 w0 a0 listed E a w cv) {j : Nat} {o : Oper} (ho : l[j]? = some o) (hl : listed.getD j true = false)
    (hready : ∀ i ∈ bindsE o, listed.getD i true = true) : ∃ a' tm', Up P I l N0 L listed E a w j o a' tm' := by
  have hjn : j < l.length := (List.getElem?_eq_some_iff.1 ho).1
  have hbefore : ∀ i, AncP l i j → listed.getD i true = true := fun i hi => anc_listed inv.closed hi (fun o' ho' => by rw [ho] at ho'; cases ho'; exact hready)
  have hbehind : ∀ k ok, l[k]? = some ok → AncP l j k → listed.getD k true = false := by
    intro k ok hk ha
    cases hx : listed.getD k true with
    | false => rfl
    | true =>
      have := anc_listed inv.closed ha (fun o' ho' => inv.closed k o' ho' hx)
      rw [hl] at this; cases this
  have pairL : ∀ k ok, k < j → l[k]? = some ok → (touches l ok o = true ∨ touches l o ok = true) → listed.getD k true = true := fun k ok hk hok ht =>
    hbefore k (drawOk_pair d.draw hk hok ho (by rcases ht with h | h; exact .inl h; exact .inr (.inl h)))
  have pairR : ∀ k ok, j < k → l[k]? = some ok → (touches l ok o = true ∨ touches l o ok = true) → listed.getD k true = false := fun k ok hk hok ht =>
    hbehind k ok hok (drawOk_pair d.draw hk ho hok (by rcases ht with h | h; exact .inr (.inl h); exact .inl h))
  let ts : Nat → Bool := fun k => listed.getD k true && decide (k < j)
  have hext0 : Ext E0 (Eb l N0 E j) := by
    intro id M hM
    unfold Eb
    rw [if_neg]; · exact inv.adv.ext _ _ hM
    intro hm
    obtain ⟨k, o', h1, h2, h3, h4⟩ := mem_later.1 hm
    have h5 := rid_new (N0 := N0) h1 h2
    have := hE0 id M hM (by omega)
    omega
  have hconc : concL (Eb l N0 E j) (tmSel l L ts l.length) = some (cSel l cv a0.tmps.toList ts l.length) := by
    refine conc_sel (concL_ext hext0 _ _ hc0) l.length fun k hk hs => ?_
    simp only [ts, Bool.and_eq_true, decide_eq_true_eq] at hs
    exact conc_ext (Eb_mono E (Nat.le_of_lt hs.2)) _ _ (inv.vals k hk hs.1)
  have htm : ∀ t ∈ looks l o, (tmSel l L ts l.length)[t]? = (L.tm j)[t]? := by
    intro t ht
    have h1 : tmSel l L (fun k => decide (k < j)) l.length = L.tm j := by
      rw [tmSel_stop (j := j) (fun k hk => by simp; omega) l.length (by omega)]
      exact d.tmAll j (by omega) (fun k hk => by simpa using hk)
    rw [← h1]
    refine tmSel_at l.length fun k hk hd => ?_
    obtain ⟨ok, hok⟩ : ∃ ok, l[k]? = some ok := ⟨_, List.getElem?_eq_getElem hk⟩
    have hdst : ok.dst = some t := by simpa [dstOf, hok] using hd
    by_cases hkj : k < j
    · simp only [ts, hkj, decide_true, Bool.and_true]
      exact pairL k ok hkj hok (.inl (touches_of hdst ht))
    · simp only [ts, hkj, decide_false, Bool.and_false]
  have hcs : ∀ t ∈ looks l o, (cSel l cv a0.tmps.toList ts l.length)[t]? = a.tmps[t]? := by
    intro t ht
    rw [← Array.getElem?_toList, inv.tmps]
    refine cSel_at l.length fun k hk hd => ?_
    obtain ⟨ok, hok⟩ : ∃ ok, l[k]? = some ok := ⟨_, List.getElem?_eq_getElem hk⟩
    have hdst : ok.dst = some t := by simpa [dstOf, hok] using hd
    by_cases hkj : k < j
    · simp only [ts, hkj, decide_true, Bool.and_true]
    · simp only [ts, hkj, decide_false, Bool.and_false]
      by_cases hkj2 : k = j
      · subst hkj2; exact hl.symm
      · exact (pairR k ok (by omega) hok (.inl (touches_of hdst ht))).symm
  have tin : ∀ t, Operand.tmp t ∈ o.op.operands → t ∈ looks l o := fun t ht => by
    unfold looks
    refine List.mem_append_left _ (List.mem_filterMap.2 ⟨.tmp t, ?_, rfl⟩)
    simpa using ht
  refine ⟨{ tmps := (cSel l cv a0.tmps.toList ts l.length).toArray, defers := a.defers }, tmSel l L ts l.length, hbefore, hbehind, by simpa using hconc, ?_, ?_, ?_⟩
  · intro x hx
    cases x with
    | tmp t => simp only [ev, List.getD_eq_getElem?_getD, htm t (tin t hx)]
    | _ => rfl
  · refine execOp_congr o ?_ ?_
    · intro cs b e
      have := d.ok j o ho
      rw [e] at this; simp [okOp] at this
    · intro x hx
      cases x with
      | tmp t =>
        have := hcs t (tin t hx)
        simp only [Act.eval, Array.getD_eq_getD_getElem?]
        rw [← Array.getElem?_toList]
        simp only [this]
      | _ => rfl
  · unfold Region.wanted
    cases hg : o.guard with
    | none => rfl
    | some gb =>
      obtain ⟨g, b⟩ := gb
      simp only
      have hyl : ayield l.toArray (L.tm j) g = ayield l.toArray (tmSel l L ts l.length) g := by
        unfold ayield
        cases hd : (l.toArray[g]?).bind (·.dst) with
        | none => rfl
        | some t =>
          have ht : t ∈ looks l o := by
            unfold looks
            rw [hg]
            refine List.mem_append_right _ ?_
            simp only [List.getElem?_toArray] at hd
            simp [hd]
          simp only [Option.bind_some, htm t ht]
      have hyc : yielded l.toArray a.tmps g = yielded l.toArray (cSel l cv a0.tmps.toList ts l.length).toArray g := by
        unfold yielded
        cases hd : (l.toArray[g]?).bind (·.dst) with
        | none => rfl
        | some t =>
          have ht : t ∈ looks l o := by
            unfold looks
            rw [hg]
            refine List.mem_append_right _ ?_
            simp only [List.getElem?_toArray] at hd
            simp [hd]
          simp only [Option.bind_some, List.getElem?_toArray, hcs t ht]
      have hmid := congrFun (ayield_eq (E := Eb l N0 E j) (tm := tmSel l L ts l.length) (a := { tmps := (cSel l cv a0.tmps.toList ts l.length).toArray, defers := a.defers }) (by simpa using hconc) l.toArray) g
      rw [hyl, hmid, hyc]
end
end Go.Sym
namespace Go.Sym

section
variable {P : Program} {I : Nat → Option Obj} {l : List Oper} {N0 : Nat} {L : Log} {E0 : Env} {h0 : H} {w0 : World} {a0 : Act}

theorem anc_lt (d : DC P I l N0 L) {i j : Nat} (h : AncP l i j) : i < j := by
  induction h with
  | edge ho hi => exact drawOk_edge d.draw ho hi
  | trans ho hk _ ih => exact Nat.lt_trans ih (drawOk_edge d.draw ho hk)

theorem closed_set {listed : Array Bool} {j : Nat} {o : Oper} (hs : j < listed.size) (ho : l[j]? = some o) (closed : ∀ (j : Nat) (o : Oper), l[j]? = some o → listed.getD j true = true → ∀ i ∈ bindsE o, listed.getD i true = true)
    (hready : ∀ i ∈ bindsE o, listed.getD i true = true) : ∀ (k : Nat) (ok : Oper), l[k]? = some ok → (listed.setIfInBounds j true).getD k true = true → ∀ i ∈ bindsE ok, (listed.setIfInBounds j true).getD i true = true := by
  intro k ok hk hl i hi
  have e := sel_set hs
  have e1 := congrFun e k
  have e2 := congrFun e i
  rw [e1, Bool.or_eq_true] at hl
  rw [e2, Bool.or_eq_true]
  rcases hl with hl | hl
  · exact .inl (closed k ok hk hl i hi)
  · have : k = j := by simpa using hl
    subst this
    rw [ho] at hk; cases hk
    exact .inl (hready i hi)

/-- what every step needs -/
theorem Inv.next (d : DC P I l N0 L) {listed : Array Bool} {E E' : Env} {a : Act} {w w' : World} {cv : Nat → Value} (inv : Inv P I l N0 L E0 h0 w0 a0 listed E a w cv) {j : Nat} {o : Oper} (ho : l[j]? = some o) (hl : listed.getD j true = false)
    (hready : ∀ i ∈ bindsE o, listed.getD i true = true) {a' : Act} {tm' : List Value} (up : Up P I l N0 L listed E a w j o a' tm') {c : Value} (hE : Ext E E') (hv : conc (Eb l N0 E' j) (L.v j) = some c)
    (hrel : ∀ k, k ≤ l.length → k ≠ j → (k < l.length → listed.getD k true = false ∧ ((L.c k).name = .read ∨ (L.c k).name = .quiet ∨ (L.c k).name = .eff)) → RG I (Eb l N0 E' k) (vis L l.length k (gSel l N0 L (fun k => listed.getD k true || k == j) l.length)) w')
    (hpend : ∀ k ok, l[k]? = some ok → isAlloc ok.op = true → k ≠ j → listed.getD k true = false → E' (ridOf l N0 k) = none)
    (hadv : AdvG E (gSel l N0 L (fun k => listed.getD k true) l.length) h0.new w E' (gSel l N0 L (fun k => listed.getD k true || k == j) l.length) h0.new w') :
    Inv P I l N0 L E0 h0 w0 a0 (listed.setIfInBounds j true) E' (a.put o.dst c) w' (fun k => if k = j then c else cv k) := by
  have hjn : j < l.length := (List.getElem?_eq_some_iff.1 ho).1
  have hjs : j < listed.size := by rw [inv.size]; exact hjn
  have hsel := sel_set hjs
  have hselk : ∀ k, (listed.setIfInBounds j true).getD k true = (listed.getD k true || k == j) := fun k => congrFun hsel k
  refine ⟨by simp [inv.size], closed_set hjs ho inv.closed hready, ?_, ?_, ?_, ?_, ?_, ?_⟩
  · rw [hsel]
    have hadd := cSel_add (ops := l) (cv := cv) (l0 := a0.tmps.toList) (sel := fun k => listed.getD k true) (j := j) (c := c) hl l.length hjn ?_
    · have hdst : dstOf l j = o.dst := by simp [dstOf, ho]
      have hput : (a.put o.dst c).tmps.toList = putT a.tmps.toList o.dst c := by
        cases o.dst with
        | none => rfl
        | some x => simp [Act.put, putT]
      rw [hput, inv.tmps]
      rw [hdst] at hadd
      exact hadd.symm
    · intro k hjk hk hs hd
      cases hx : dstOf l j with
      | none => rfl
      | some t =>
        exfalso
        obtain ⟨ok, hok⟩ : ∃ ok, l[k]? = some ok := ⟨_, List.getElem?_eq_getElem hk⟩
        have h1 : o.dst = some t := by simpa [dstOf, ho] using hx
        have h2 : ok.dst = some t := by rw [hx] at hd; simpa [dstOf, hok] using hd
        have := up.behind k ok hok (drawOk_pair d.draw hjk ho hok (.inl (touches_dst h1 h2)))
        rw [hs] at this; cases this
  · have : (a.put o.dst c).defers = a.defers := by cases o.dst <;> rfl
    rw [this]; exact inv.defs
  · intro k hk hs
    rw [hselk] at hs
    by_cases e : k = j
    · subst e; simp only [if_true]; exact hv
    · simp only [if_neg e]
      have hs' : listed.getD k true = true := by simpa [e] using hs
      exact conc_ext (Eb_up hE k) _ _ (inv.vals k hk hs')
  · intro k hk hc
    rw [hsel]
    have hkj : k ≠ j := by
      intro e; subst e
      have := (hc hjn).1
      rw [hselk] at this; simp at this
    refine hrel k hk hkj fun hkn => ?_
    obtain ⟨h1, h2⟩ := hc hkn
    rw [hselk, Bool.or_eq_false_iff] at h1
    exact ⟨h1.1, h2⟩
  · intro k ok hk ha hs
    rw [hselk, Bool.or_eq_false_iff] at hs
    exact hpend k ok hk ha (by simpa using hs.2) hs.1
  · rw [hsel]
    exact inv.adv.trans hadv

/-- it leaves what is known as it is -/
theorem gSel_same {sel : Nat → Bool} {j : Nat} (h1 : (L.c j).name ≠ .eff) (h2 : (L.c j).name ≠ .alloc) : gSel l N0 L (fun k => sel k || k == j) l.length = gSel l N0 L sel l.length := by
  funext id
  refine gSel_at l.length (fun k _ hk => ?_) (fun k _ hk _ => ?_)
  · have : k ≠ j := fun e => h1 (e ▸ hk)
    simp [this]
  · have : k ≠ j := fun e => h2 (e ▸ hk)
    simp [this]

/-- it may look at all memory -/
def Full (c : Cl) : Prop := c = .read none ∨ c.name = .quiet ∨ c.name = .eff
theorem Full.disj {a c : Cl} (h : Full c) (ha : a.name = .eff) : memT a.tag c.tag = true ∧ memT c.tag a.tag = true := by
  cases a <;> try cases ha
  rename_i w
  rcases h with rfl | h | h
  · cases w <;> exact ⟨rfl, rfl⟩
  · cases c <;> try cases h
    cases w <;> exact ⟨rfl, rfl⟩
  · cases c <;> try cases h
    rename_i w2
    cases w <;> cases w2 <;> exact ⟨rfl, rfl⟩
theorem Full.vis {j : Nat} (h : Full (L.c j)) (n : Nat) (g : Nat → Option Blk) : Sym.vis L n j g = g := by
  have : rdOf L n j = none := by
    unfold rdOf
    split
    · rcases h with h | h | h
      · rw [h]
      · cases hc : L.c j with
        | read x => rw [hc] at h; cases h
        | _ => rfl
      · cases hc : L.c j with
        | read x => rw [hc] at h; cases h
        | _ => rfl
    · rfl
  unfold Sym.vis; rw [this]; rfl

/-- what operation j sees, if it looks at memory -/
theorem Inv.sees (d : DC P I l N0 L) {listed : Array Bool} {E : Env} {a : Act} {w : World} {cv : Nat → Value} (inv : Inv P I l N0 L E0 h0 w0 a0 listed E a w cv) {j : Nat} {o : Oper} (ho : l[j]? = some o) (hl : listed.getD j true = false)
    {a' : Act} {tm' : List Value} (up : Up P I l N0 L listed E a w j o a' tm') (hc : Full (L.c j)) :
    (∀ id M, Eb l N0 E j id = some M → (L.h j).get id = gSel l N0 L (fun k => listed.getD k true) l.length id) ∧ R I (Eb l N0 E j) (L.h j) w := by
  have hjn : j < l.length := (List.getElem?_eq_some_iff.1 ho).1
  have heff : ∀ k, k < l.length → (L.c k).name = .eff → listed.getD k true = decide (k < j) := by
    intro k hk hke
    obtain ⟨ok, hok⟩ : ∃ ok, l[k]? = some ok := ⟨_, List.getElem?_eq_getElem hk⟩
    rcases Nat.lt_trichotomy k j with h | h | h
    · simp only [h, decide_true]
      refine up.before k (drawOk_pair d.draw h hok ho (.inr (.inr ?_)))
      rw [d.cn hk, d.cn hjn]
      exact (hc.disj hke).1
    · subst h; simp [hl]
    · have : ¬ k < j := by omega
      simp only [this, decide_false]
      refine up.behind k ok hok (drawOk_pair d.draw h ho hok (.inr (.inr ?_)))
      rw [d.cn hk, d.cn hjn]
      exact (hc.disj hke).2
  have hsee : ∀ id M, Eb l N0 E j id = some M → (L.h j).get id = gSel l N0 L (fun k => listed.getD k true) l.length id := by
    intro id M hM
    have h1 : gSel l N0 L (fun k => decide (k < j)) l.length id = (L.h j).get id := by
      have : gSel l N0 L (fun k => decide (k < j)) l.length = gSel l N0 L (fun k => decide (k < j)) j := by
        have gen : ∀ m, j ≤ m → gSel l N0 L (fun k => decide (k < j)) m = gSel l N0 L (fun k => decide (k < j)) j := by
          intro m
          induction m with
          | zero => intro h; have : j = 0 := by omega
                    subst this; rfl
          | succ m ih =>
            intro h
            by_cases e : j = m + 1
            · rw [e]
            · have : decide (m < j) = false := by simp; omega
              simp only [gSel, this, Bool.false_eq_true, if_false]
              exact ih (by omega)
        exact gen l.length (by omega)
      rw [this, d.gAll j (by omega) (fun k hk => by simpa using hk)]
    rw [← h1]
    refine gSel_at l.length (fun k hk hke => (heff k hk hke).symm) fun k hk hka hr => ?_
    obtain ⟨ok, hok⟩ : ∃ ok, l[k]? = some ok := ⟨_, List.getElem?_eq_getElem hk⟩
    have hal : isAlloc ok.op = true := by
      have he := (d.ent k ok hok).2
      split at he
      · cases hx : L.c k with
        | alloc B => rw [hx] at he; exact he.1
        | _ => rw [hx] at hka; cases hka
      · rw [he.1] at hka; cases hka
    rcases Nat.lt_trichotomy k j with h | h | h
    · simp only [h, decide_true]
      cases hs : listed.getD k true with
      | true => rfl
      | false =>
        have := inv.pend k ok hok hal hs
        rw [hr] at this
        have h3 := Eb_ext (l := l) (N0 := N0) E j _ _ hM
        rw [this] at h3; cases h3
    · subst h; simp [hl]
    · exfalso
      unfold Eb at hM
      rw [if_pos (mem_later.2 ⟨k, ok, hok, hal, h, hr.symm⟩)] at hM
      cases hM
  have hn : (L.c j).name = .read ∨ (L.c j).name = .quiet ∨ (L.c j).name = .eff := by
    rcases hc with h | h | h
    · rw [h]; exact .inl rfl
    · exact .inr (.inl h)
    · exact .inr (.inr h)
  have hrel := inv.rel j (by omega) fun _ => ⟨hl, hn⟩
  rw [hc.vis] at hrel
  exact ⟨hsee, hrel.congr fun id M hM _ => hsee id M hM⟩

theorem Inv.all {listed : Array Bool} {E : Env} {a : Act} {w : World} {cv : Nat → Value} (inv : Inv P I l N0 L E0 h0 w0 a0 listed E a w cv) : RG I E (gSel l N0 L (fun k => listed.getD k true) l.length) w := by
  have := inv.rel l.length (Nat.le_refl _) (fun h => by omega)
  rwa [Eb_last, vis_last] at this
end
end Go.Sym
namespace Go.Sym

theorem disj_left {w : Option Nat} {i : Nat} (h : memT (.eff w) (.read (some i)) ≠ true) : ∃ a, w = some a ∧ a ≠ i := by
  cases w with
  | none => exact absurd rfl h
  | some a =>
    refine ⟨a, rfl, fun e => h ?_⟩
    subst e
    simp [memT, memC, Ct.nm, disj]
theorem disj_right {w : Option Nat} {i : Nat} (h : memT (.read (some i)) (.eff w) ≠ true) : ∃ a, w = some a ∧ a ≠ i := by
  cases w with
  | none => exact absurd rfl h
  | some a =>
    refine ⟨a, rfl, fun e => h ?_⟩
    subst e
    simp [memT, memC, Ct.nm, disj]

theorem only_self {i : Nat} {g : Nat → Option Blk} : only i g i = g i := by simp [only]

def onlyH (h : H) (i N : Nat) : H := (List.range N).map fun k => if 2 * k = i then (h.get i).getD .dead else .dead
theorem onlyH_get {h : H} {i N id : Nat} (hid : id % 2 = 0) (hlt : id < 2 * N) : (onlyH h i N).get id = some (if id = i then (h.get i).getD .dead else .dead) := by
  show (if id % 2 = 0 then (onlyH h i N)[id / 2]? else none) = _
  unfold onlyH
  rw [if_pos hid, List.getElem?_map, List.getElem?_range (by omega), Option.map_some]
  have : 2 * (id / 2) = id := by omega
  rw [this]

section
variable {P : Program} {I : Nat → Option Obj} {l : List Oper} {N0 : Nat} {L : Log} {E0 : Env} {h0 : H} {w0 : World} {a0 : Act}

theorem alloc_op (d : DC P I l N0 L) {k : Nat} {ok : Oper} (hok : l[k]? = some ok) {B : Blk} (hc : L.c k = .alloc B) : isAlloc ok.op = true ∧ L.h (k + 1) = (L.h k).put (ridOf l N0 k) B ∧ (L.h k).get (ridOf l N0 k) = some .dead := by
  have he := (d.ent k ok hok).2
  split at he
  · rw [hc] at he; exact ⟨he.1, he.2.2⟩
  · rw [he.1] at hc; cases hc

theorem still_op (d : DC P I l N0 L) {k : Nat} {ok : Oper} (hok : l[k]? = some ok) (h1 : (L.c k).name ≠ .eff) (h2 : (L.c k).name ≠ .alloc) : L.h (k + 1) = L.h k := by
  have he := (d.ent k ok hok).2
  split at he
  · cases hc : L.c k with
    | pure => rw [hc] at he; exact he.2.2
    | read id => rw [hc] at he; exact he.2.2.1
    | quiet => rw [hc] at he; obtain ⟨_, _, _, _, _, he⟩ := he; exact he
    | alloc B => rw [hc] at h2; exact absurd rfl h2
    | eff w => rw [hc] at h1; exact absurd rfl h1
  · exact he.2.2

theorem eff_op (d : DC P I l N0 L) {k : Nat} {ok : Oper} (hok : l[k]? = some ok) {w : Option Nat} (hc : L.c k = .eff w) : (∀ id ∈ freeIds l N0 k, (L.h (k + 1)).get id = (L.h k).get id) ∧ ∀ a, w = some a → ∀ i, i ≠ a → (i % 2 = 0 → i < (L.h k).new) → (L.h (k + 1)).get i = (L.h k).get i := by
  have he := (d.ent k ok hok).2
  split at he
  · rw [hc] at he; exact ⟨he.2.1, he.2.2.2⟩
  · rw [he.1] at hc; cases hc

theorem gSel_lt (d : DC P I l N0 L) {sel : Nat → Bool} : ∀ m, m ≤ l.length → ∀ id B, gSel l N0 L sel m id = some B → id < (L.h l.length).new ∧ id % 2 = 0
  | 0, _, id, B, h => by
    have h1 := H.get_lt (h := L.h 0) h
    have := d.lenMono (i := 0) l.length (by omega) (Nat.le_refl _)
    unfold H.new at *; omega
  | m + 1, hm, id, B, h => by
    have ih := gSel_lt d (sel := sel) m (by omega) id B
    obtain ⟨o, ho⟩ : ∃ o, l[m]? = some o := ⟨_, List.getElem?_eq_getElem (by omega)⟩
    simp only [gSel] at h
    split at h
    · cases hc : L.c m with
      | alloc B' =>
        rw [hc] at h
        simp only at h
        split at h
        · rename_i e
          have := rid_new (N0 := N0) ho (alloc_op d ho hc).1
          have h2 := d.lenMono (i := 0) l.length (by omega) (Nat.le_refl _)
          have h3 := d.len
          unfold H.new; omega
        · exact ih h
      | eff w =>
        rw [hc] at h
        simp only at h
        split at h
        · exact ih h
        · have h1 := H.get_lt (h := L.h (m + 1)) h
          have := d.lenMono (i := m + 1) l.length (by omega) (Nat.le_refl _)
          unfold H.new at *; omega
      | pure => rw [hc] at h; exact ih h
      | read x => rw [hc] at h; exact ih h
      | quiet => rw [hc] at h; exact ih h
    · exact ih h

/-- nothing is there of what only later operations make -/
theorem gSel_lt2 (d : DC P I l N0 L) {sel : Nat → Bool} {k : Nat} (hk : k ≤ l.length) (hs : ∀ m w, k ≤ m → m < l.length → L.c m = .eff w → sel m = false) : ∀ m, m ≤ l.length → ∀ id B, gSel l N0 L sel m id = some B → id < (L.h k).new
  | 0, _, id, B, h => by
    have h1 := H.get_lt (h := L.h 0) h
    have := d.lenMono (i := 0) k (by omega) hk
    unfold H.new at *; omega
  | m + 1, hm, id, B, h => by
    have ih := gSel_lt2 d hk hs m (by omega) id B
    obtain ⟨o, ho⟩ : ∃ o, l[m]? = some o := ⟨_, List.getElem?_eq_getElem (by omega)⟩
    simp only [gSel] at h
    split at h
    · rename_i hsm
      cases hc : L.c m with
      | alloc B' =>
        rw [hc] at h
        simp only at h
        split at h
        · rename_i e
          have := rid_new (N0 := N0) ho (alloc_op d ho hc).1
          have h2 := d.lenMono (i := 0) k (by omega) hk
          have h3 := d.len
          unfold H.new; omega
        · exact ih h
      | eff w =>
        rw [hc] at h
        simp only at h
        split at h
        · exact ih h
        · have hmk : m < k := by
            refine Classical.byContradiction fun hcon => ?_
            have := hs m w (by omega) (by omega) hc
            rw [this] at hsm; cases hsm
          have h1 := H.get_lt (h := L.h (m + 1)) h
          have := d.lenMono (i := m + 1) k (by omega) hk
          unfold H.new at *; omega
      | pure => rw [hc] at h; exact ih h
      | read x => rw [hc] at h; exact ih h
      | quiet => rw [hc] at h; exact ih h
    · exact ih h

/-- what a look at one block sees -/
theorem Inv.sees1 (d : DC P I l N0 L) {listed : Array Bool} {E : Env} {a : Act} {w : World} {cv : Nat → Value} (inv : Inv P I l N0 L E0 h0 w0 a0 listed E a w cv) {j : Nat} {o : Oper} (ho : l[j]? = some o) (hl : listed.getD j true = false)
    {a' : Act} {tm' : List Value} (up : Up P I l N0 L listed E a w j o a' tm') {i : Nat} (hc : L.c j = .read (some i)) {M : Loc} (hM : Eb l N0 E j i = some M) (hij : i % 2 = 0 → i < (L.h j).new) (hB : i % 2 = 0 → ∃ B, gSel l N0 L (fun k => listed.getD k true) l.length i = some B) :
    gSel l N0 L (fun k => listed.getD k true) l.length i = (L.h j).get i := by
  have hjn : j < l.length := (List.getElem?_eq_some_iff.1 ho).1
  have hE : E i = some M := Eb_ext E j _ _ hM
  have hnl : i ∉ later l N0 j := by
    intro hm
    unfold Eb at hM
    rw [if_pos hm] at hM; cases hM
  have op : ∀ k, k < l.length → ∃ ok, l[k]? = some ok := fun k hk => ⟨_, List.getElem?_eq_getElem hk⟩
  have F1 : ∀ k w, k < j → L.c k = .eff w → listed.getD k true = false → ∃ a, w = some a ∧ a ≠ i := by
    intro k w hk hck hs
    obtain ⟨ok, hok⟩ := op k (by omega)
    refine disj_left fun hm => ?_
    have := up.before k (drawOk_pair d.draw hk hok ho (.inr (.inr (by rw [d.cn (by omega), d.cn hjn, hck, hc]; exact hm))))
    rw [hs] at this; cases this
  have F2 : ∀ k w, j < k → k < l.length → L.c k = .eff w → listed.getD k true = true → ∃ a, w = some a ∧ a ≠ i := by
    intro k w hk hkn hck hs
    obtain ⟨ok, hok⟩ := op k hkn
    refine disj_right fun hm => ?_
    have := up.behind k ok hok (drawOk_pair d.draw hk ho hok (.inr (.inr (by rw [d.cn hkn, d.cn hjn, hck, hc]; exact hm))))
    rw [hs] at this; cases this
  have F3 : ∀ k m w1 w2, k < m → m < l.length → L.c k = .eff w1 → L.c m = .eff w2 → listed.getD m true = true → listed.getD k true = true := by
    intro k m w1 w2 hkm hm h1 h2 hs
    obtain ⟨ok, hok⟩ := op k (by omega)
    obtain ⟨om, hom⟩ := op m hm
    have hanc := drawOk_pair d.draw hkm hok hom (.inr (.inr (by rw [d.cn (by omega), d.cn hm, h1, h2]; cases w1 <;> cases w2 <;> rfl)))
    exact anc_listed inv.closed hanc fun o' ho' => inv.closed m o' ho' hs
  have untouch : ∀ k w, k < l.length → L.c k = .eff w → (∃ a, w = some a ∧ a ≠ i) → (i % 2 = 0 → i < (L.h k).new) → (L.h (k + 1)).get i = (L.h k).get i := by
    rintro k w hk hck ⟨a, rfl, ha⟩ hik
    obtain ⟨ok, hok⟩ := op k hk
    exact (eff_op d hok hck).2 a rfl i (fun e => ha e.symm) hik
  have T1 : ∀ m, m ≤ j → gSel l N0 L (fun k => listed.getD k true) m i = (L.h m).get i := by
    intro m
    induction m with
    | zero => intro _; rfl
    | succ m ih =>
      intro hm
      have ih := ih (by omega)
      obtain ⟨ok, hok⟩ := op m (by omega)
      cases hcm : L.c m with
      | pure => rw [still_op d hok (by rw [hcm]; simp [Cl.name]) (by rw [hcm]; simp [Cl.name])]; simp only [gSel, hcm, ite_self]; exact ih
      | read x => rw [still_op d hok (by rw [hcm]; simp [Cl.name]) (by rw [hcm]; simp [Cl.name])]; simp only [gSel, hcm, ite_self]; exact ih
      | quiet => rw [still_op d hok (by rw [hcm]; simp [Cl.name]) (by rw [hcm]; simp [Cl.name])]; simp only [gSel, hcm, ite_self]; exact ih
      | alloc B =>
        obtain ⟨hal, hput, hdead⟩ := alloc_op d hok hcm
        rw [hput]
        simp only [gSel, hcm]
        by_cases e : i = ridOf l N0 m
        · cases hs : listed.getD m true with
          | true => rw [if_pos rfl, if_pos e, e, H.get_put_same hdead]
          | false =>
            have := inv.pend m ok hok hal hs
            rw [← e, hE] at this; cases this
        · rw [H.get_put_ne _ e]
          cases listed.getD m true with
          | true => rw [if_pos rfl, if_neg e]; exact ih
          | false => rw [if_neg (by simp)]; exact ih
      | eff w =>
        simp only [gSel, hcm]
        cases hs : listed.getD m true with
        | true =>
          rw [if_pos rfl]
          split
          · rename_i hf; rw [ih]; exact ((eff_op d hok hcm).1 i hf).symm
          · rfl
        | false =>
          rw [if_neg (by simp), ih]
          exact (untouch m w (by omega) hcm (F1 m w (by omega) hcm hs) fun hev => by
            obtain ⟨B, hB⟩ := hB hev
            refine gSel_lt2 d (k := m) (by omega) (fun m' w' h1 h2 hc' => ?_) l.length (Nat.le_refl _) i B hB
            by_cases e : m' = m
            · subst e; exact hs
            · cases hx : listed.getD m' true with
              | false => rfl
              | true =>
                have := F3 m m' w w' (by omega) h2 hcm hc' hx
                rw [hs] at this; cases this).symm
  have T3 : ∀ m, j ≤ m → m ≤ l.length → (∀ k w, j < k → k < m → L.c k = .eff w → listed.getD k true = true) → (L.h m).get i = (L.h j).get i := by
    intro m
    induction m with
    | zero => intro h _ _; have : j = 0 := by omega
              subst this; rfl
    | succ m ih =>
      intro hj hm hk
      by_cases e : j = m + 1
      · rw [e]
      have ih := ih (by omega) (by omega) (fun k w h1 h2 => hk k w h1 (by omega))
      obtain ⟨ok, hok⟩ := op m (by omega)
      rw [← ih]
      cases hcm : L.c m with
      | pure => rw [still_op d hok (by rw [hcm]; simp [Cl.name]) (by rw [hcm]; simp [Cl.name])]
      | read x => rw [still_op d hok (by rw [hcm]; simp [Cl.name]) (by rw [hcm]; simp [Cl.name])]
      | quiet => rw [still_op d hok (by rw [hcm]; simp [Cl.name]) (by rw [hcm]; simp [Cl.name])]
      | alloc B =>
        obtain ⟨hal, hput, hdead⟩ := alloc_op d hok hcm
        rw [hput, H.get_put_ne]
        intro e'
        have : m ≠ j := fun e2 => by subst e2; rw [hc] at hcm; cases hcm
        exact hnl (mem_later.2 ⟨m, ok, hok, hal, by omega, e'⟩)
      | eff w =>
        have : m ≠ j := fun e2 => by subst e2; rw [hc] at hcm; cases hcm
        exact untouch m w (by omega) hcm (F2 m w (by omega) (by omega) hcm (hk m w (by omega) (by omega) hcm)) fun hev => by
          have := hij hev
          have := d.lenMono (i := j) m (by omega) (by omega)
          unfold H.new at *; omega
  have T2 : ∀ m, j ≤ m → m ≤ l.length → gSel l N0 L (fun k => listed.getD k true) m i = (L.h j).get i := by
    intro m
    induction m with
    | zero => intro h _; have : j = 0 := by omega
              subst this; exact T1 0 (Nat.le_refl _)
    | succ m ih =>
      intro hj hm
      by_cases e : j = m + 1
      · rw [← e]; exact T1 j (Nat.le_refl _)
      have ih := ih (by omega) (by omega)
      obtain ⟨ok, hok⟩ := op m (by omega)
      cases hcm : L.c m with
      | pure => simp only [gSel, hcm, ite_self]; exact ih
      | read x => simp only [gSel, hcm, ite_self]; exact ih
      | quiet => simp only [gSel, hcm, ite_self]; exact ih
      | alloc B =>
        obtain ⟨hal, hput, hdead⟩ := alloc_op d hok hcm
        have hne : i ≠ ridOf l N0 m := by
          intro e'
          have : m ≠ j := fun e2 => by subst e2; rw [hc] at hcm; cases hcm
          exact hnl (mem_later.2 ⟨m, ok, hok, hal, by omega, e'⟩)
        simp only [gSel, hcm]
        cases listed.getD m true with
        | true => rw [if_pos rfl, if_neg hne]; exact ih
        | false => rw [if_neg (by simp)]; exact ih
      | eff w =>
        simp only [gSel, hcm]
        cases hs : listed.getD m true with
        | true =>
          rw [if_pos rfl]
          split
          · exact ih
          · refine T3 (m + 1) hj hm fun k w' h1 h2 hck => ?_
            by_cases e2 : k = m
            · subst e2; exact hs
            · exact F3 k m w' w (by omega) (by omega) hck hcm hs
        | false => rw [if_neg (by simp)]; exact ih
  exact T2 l.length (by omega) (Nat.le_refl _)

/-- a heap that holds what a look at one block sees -/
theorem Inv.look1 (d : DC P I l N0 L) {listed : Array Bool} {E : Env} {a : Act} {w : World} {cv : Nat → Value} (inv : Inv P I l N0 L E0 h0 w0 a0 listed E a w cv) {j : Nat} {o : Oper} (ho : l[j]? = some o) (hl : listed.getD j true = false)
    {a' : Act} {tm' : List Value} (up : Up P I l N0 L listed E a w j o a' tm') {i : Nat} (hc : L.c j = .read (some i)) (hi : i % 2 = 0 → i < (L.h j).new) :
    ∃ h2 : H, h2.get i = (L.h j).get i ∧ R I (Eb l N0 E j) h2 w := by
  have hjn : j < l.length := (List.getElem?_eq_some_iff.1 ho).1
  have hmono := d.lenMono (i := j) l.length (by omega) (Nat.le_refl _)
  have hrel := inv.rel j (by omega) fun _ => ⟨hl, by rw [hc]; exact .inl rfl⟩
  have hrd : rdOf L l.length j = some i := by unfold rdOf; rw [if_pos hjn, hc]
  refine ⟨onlyH (L.h j) i (L.h l.length).length, ?_, hrel.congr fun id M hM hid => ?_⟩
  · by_cases hp : i % 2 = 0
    · have := hi hp
      unfold H.new at this
      rw [onlyH_get hp (by omega), if_pos rfl]
      have : ∃ B, (L.h j).get i = some B := by
        unfold H.get
        rw [if_pos hp]
        exact ⟨_, List.getElem?_eq_getElem (by omega)⟩
      obtain ⟨B, hB⟩ := this
      rw [hB]; rfl
    · unfold H.get; rw [if_neg hp, if_neg hp]
  · obtain ⟨B, hB, _⟩ := hrel.blk id M hM hid
    have hg : ∃ B', gSel l N0 L (fun k => listed.getD k true) l.length id = some B' := by
      cases hx : gSel l N0 L (fun k => listed.getD k true) l.length id with
      | some B' => exact ⟨B', rfl⟩
      | none =>
        exfalso
        unfold vis visO at hB
        rw [hrd] at hB
        simp only [only, hx] at hB
        split at hB <;> cases hB
    obtain ⟨B', hB'⟩ := hg
    have hlt := (gSel_lt d l.length (Nat.le_refl _) id B' hB').1
    unfold H.new at hlt
    rw [onlyH_get hid hlt]
    unfold vis visO
    rw [hrd]
    simp only [only]
    by_cases e : id = i
    · subst e
      have := inv.sees1 d ho hl up hc hM hi (fun _ => ⟨B', hB'⟩)
      rw [if_pos rfl, if_pos rfl, this]
      rw [this] at hB'
      rw [hB']; rfl
    · rw [if_neg e, if_neg e, hB']; rfl
end
end Go.Sym
namespace Go.Sym

section
variable {P : Program} {I : Nat → Option Obj} {l : List Oper} {N0 : Nat} {L : Log} {E0 : Env} {h0 : H} {w0 : World} {a0 : Act}

theorem alloc_is (d : DC P I l N0 L) {k : Nat} {ok : Oper} (hok : l[k]? = some ok) (hka : (L.c k).name = .alloc) : isAlloc ok.op = true := by
  have he := (d.ent k ok hok).2
  split at he
  · cases hx : L.c k with
    | alloc B => rw [hx] at he; exact he.1
    | _ => rw [hx] at hka; cases hka
  · rw [he.1] at hka; cases hka

theorem Inv.step (d : DC P I l N0 L) (hN : h0.new = 2 * N0) (hE0 : ∀ id M, E0 id = some M → id % 2 = 0 → id < 2 * N0) (hc0 : concL E0 (L.tm 0) = some a0.tmps.toList) {ro : Option Nat} (hk : Kn E0 ro)
    {listed : Array Bool} {E : Env} {a : Act} {w : World} {cv : Nat → Value} (inv : Inv P I l N0 L E0 h0 w0 a0 listed E a w cv) {j : Nat} {o : Oper} (ho : l[j]? = some o) (hl : listed.getD j true = false)
    (hready : ∀ i ∈ bindsE o, listed.getD i true = true) {Q : Exit → Act → World → Prop} {K : Act → World → Prop}
    (hK : ∀ E' a' w' cv', Inv P I l N0 L E0 h0 w0 a0 (listed.setIfInBounds j true) E' a' w' cv' → K a' w') : wpOpIn (FE E0 ro) 0 P l.toArray Q j K a w := by
  have hjn : j < l.length := (List.getElem?_eq_some_iff.1 ho).1
  obtain ⟨a', tm', up⟩ := inv.up d hE0 hc0 ho hl hready
  have hok := d.ok j o ho
  have hFE : FE E ro = FE E0 ro := FE_ext inv.adv.ext hk
  have hext0 : Ext E0 (Eb l N0 E j) := by
    intro id M hM
    unfold Eb
    rw [if_neg]; · exact inv.adv.ext _ _ hM
    intro hm
    obtain ⟨k, o', h1, h2, h3, h4⟩ := mem_later.1 hm
    have h5 := rid_new (N0 := N0) h1 h2
    have := hE0 id M hM (by omega)
    omega
  have hFEb : FE (Eb l N0 E j) ro = FE E0 ro := FE_ext hext0 hk
  have hent := (d.ent j o ho).2
  -- an operation that leaves all as it is
  have keep : ∀ c, (L.c j).name ≠ .eff → (L.c j).name ≠ .alloc → conc (Eb l N0 E j) (L.v j) = some c → K (a.put o.dst c) w := by
    intro c h1 h2 hv
    have hg := gSel_same (l := l) (N0 := N0) (L := L) (sel := fun k => listed.getD k true) h1 h2
    refine hK E _ w _ (inv.next d ho hl hready up (Ext.refl E) hv ?_ (fun k ok hk ha _ hs => inv.pend k ok hk ha hs) ?_)
    · intro k hk' _ hc
      rw [hg]; exact inv.rel k hk' hc
    · rw [hg]; exact AdvG.refl _ _ _ _
  unfold wpOpIn
  have ho' : l.toArray[j]? = some o := by simpa using ho
  simp only [ho']
  rw [← up.want]
  split
  · rename_i hw
    rw [if_pos hw] at hent
    cases hc : L.c j with
    | pure =>
      rw [hc] at hent
      obtain ⟨hp, hs, _⟩ := hent
      rw [← stepOp_congr up.look] at hs
      obtain ⟨_, c, hrun, hcv⟩ := stepOp_pure (w := w) up.conc' hok hp hs
      rw [up.same] at hrun
      refine ⟨about_ok, ?_⟩
      rw [semAt_ok _ _ _ hok, hrun, Oper.uponIn_value]
      exact keep c (by rw [hc]; simp [Cl.name]) (by rw [hc]; simp [Cl.name]) hcv
    | read x =>
      rw [hc] at hent
      obtain ⟨hp, hs, _, hx⟩ := hent
      have hlook : ∃ (h2 : H) (v2 : Value × H), v2.1 = L.v j ∧ stepOp P I tm' h2 o.type o.op = some v2 ∧ R I (Eb l N0 E j) h2 w := by
        cases x with
        | none =>
          obtain ⟨_, hR⟩ := inv.sees d ho hl up (.inl hc)
          exact ⟨L.h j, (L.v j, L.h j), rfl, by rw [stepOp_congr up.look]; exact hs, hR⟩
        | some i =>
          obtain ⟨h1, h2⟩ := hx i rfl
          obtain ⟨h3, e3, hR⟩ := inv.look1 d ho hl up hc h1
          exact ⟨h3, (L.v j, h3), rfl, by rw [stepOp_congr up.look]; exact h2 h3 e3, hR⟩
      obtain ⟨h2, ⟨v2, h3⟩, hv2, hs2, hR⟩ := hlook
      simp only at hv2
      subst hv2
      obtain ⟨_, c, hrun, hcv⟩ := stepOp_read hR up.conc' hok hp hs2
      rw [up.same] at hrun
      refine ⟨about_ok, ?_⟩
      rw [semAt_ok _ _ _ hok, hrun, Oper.uponIn_value]
      exact keep c (by rw [hc]; simp [Cl.name]) (by rw [hc]; simp [Cl.name]) hcv
    | quiet =>
      rw [hc] at hent
      obtain ⟨fn, args, hcall, hsnd, hflat, _⟩ := hent
      rw [← acall_congr up.look] at hcall
      obtain ⟨hsee, hR⟩ := inv.sees d ho hl up (.inr (.inl (by rw [hc]; rfl)))
      rw [← hFEb]
      refine wpIn_of_call2 hok up.same.symm hR up.conc' hcall hsnd fun E1 w1 c hcv hR1 hA1 => ?_
      have hcf : c = L.v j := by rw [conc_flat E1 _ hflat] at hcv; exact (Option.some.inj hcv).symm
      have hv : conc (Eb l N0 E j) (L.v j) = some c := by rw [hcf]; exact conc_flat _ _ hflat
      have h1 : (L.c j).name ≠ .eff := by rw [hc]; simp [Cl.name]
      have h2 : (L.c j).name ≠ .alloc := by rw [hc]; simp [Cl.name]
      have hg := gSel_same (l := l) (N0 := N0) (L := L) (sel := fun k => listed.getD k true) h1 h2
      have hall := inv.all
      have hRj := inv.rel j (by omega) fun _ => ⟨hl, by rw [hc]; exact .inr (.inl rfl)⟩
      rw [vis_no _ (by rw [hc]; simp [Cl.name])] at hRj
      have hstill : ∀ k, RG I (Eb l N0 E k) (vis L l.length k (gSel l N0 L (fun k => listed.getD k true) l.length)) w → RG I (Eb l N0 E k) (vis L l.length k (gSel l N0 L (fun k => listed.getD k true) l.length)) w1 := fun k hk' =>
        hk'.still (fun i B => vis_some) (Eb_ext E k) (Eb_ext E j) hRj (fun id M hM _ => hsee id M hM) hR1 hA1 hall
      refine hK E _ w1 _ (inv.next d ho hl hready up (Ext.refl E) hv ?_ (fun k ok hk ha _ hs => inv.pend k ok hk ha hs) ?_)
      · intro k hk' _ hc'
        rw [hg]; exact hstill k (inv.rel k hk' hc')
      · rw [hg]
        refine ⟨Ext.refl E, fun b hb hn => ?_, hA1.grow, fun _ _ e1 e2 => by (simp [e1] at e2), fun _ _ _ _ h => h, hA1.tape, hA1.os, hA1.out, Nat.le_refl _⟩
        exact hA1.frame b hb fun id M hM hid hlv => hn id M (Eb_ext E j _ _ hM) hid (by unfold gLive at *; rw [← hsee id M hM]; exact hlv)
    | alloc B =>
      rw [hc] at hent
      obtain ⟨hal, hop, _, _⟩ := hent
      rw [← allocOp_congr up.look] at hop
      obtain ⟨c, vs, cs, e, rfl, hvs, hrun, hcv⟩ := allocOp_run up.conc' hok hop w
      rw [up.same] at hrun
      refine ⟨about_ok, ?_⟩
      rw [semAt_ok _ _ _ hok, hrun, Oper.uponIn_value]
      have hrn : E (ridOf l N0 j) = none := inv.pend j o ho hal hl
      have hbd := rid_new (N0 := N0) ho hal
      have hcn : (L.c j).name ≠ .eff := by rw [hc]; simp [Cl.name]
      have hgr : gSel l N0 L (fun k => listed.getD k true || k == j) l.length (ridOf l N0 j) = some (.cells vs e) := by
        refine gSel_alloc hc l.length hjn (fun k hjk hk' hs hke => ?_) fun k hjk hk' hka he => ?_
        · refine mem_free.2 ⟨j, o, ho, hal, fun hm => ?_, rfl⟩
          obtain ⟨ok, hok'⟩ : ∃ ok, l[k]? = some ok := ⟨_, List.getElem?_eq_getElem hk'⟩
          have := up.behind k ok hok' (anc_ok hm)
          rw [hs] at this; cases this
        · obtain ⟨ok, hok'⟩ : ∃ ok, l[k]? = some ok := ⟨_, List.getElem?_eq_getElem hk'⟩
          have := rid_inj hok' (alloc_is d hok' hka) ho hal he
          omega
      have hgo : ∀ id, id ≠ ridOf l N0 j → gSel l N0 L (fun k => listed.getD k true || k == j) l.length id = gSel l N0 L (fun k => listed.getD k true) l.length id := by
        intro id hid
        refine gSel_at l.length (fun k _ hke => ?_) fun k _ _ hr => ?_
        · have : k ≠ j := fun e => hcn (e ▸ hke)
          simp [this]
        · have : k ≠ j := fun e => by subst e; exact hid hr.symm
          simp [this]
      have hext := Ext.upd hrn { b := w.heap.size }
      have hself : Eb l N0 (E.upd (ridOf l N0 j) { b := w.heap.size }) j (ridOf l N0 j) = some { b := w.heap.size } := by
        unfold Eb
        rw [if_neg, Env.upd_self]
        intro hm
        obtain ⟨k, ok, h1, h2, h3, h4⟩ := mem_later.1 hm
        have := rid_inj ho hal h1 h2 h4
        omega
      refine hK _ _ _ _ (inv.next d ho hl hready up hext (hcv _ hself) ?_ ?_ ?_)
      · intro k hk' hkj hc'
        have hr := inv.rel k hk' hc'
        by_cases hlt : k < j
        · -- it is behind k
          have e1 : Eb l N0 (E.upd (ridOf l N0 j) { b := w.heap.size }) k = Eb l N0 E k := by
            funext id
            unfold Eb
            split
            · rfl
            · rename_i hn
              rw [Env.upd_ne]
              intro e'; subst e'
              exact hn (mem_later.2 ⟨j, o, ho, hal, hlt, rfl⟩)
          rw [e1]
          refine (hr.beside _).congr fun id M hM _ => vis_congr (hgo id fun e' => ?_)
          subst e'
          have := Eb_ext E k _ _ hM
          rw [hrn] at this; cases this
        · have e1 : Eb l N0 (E.upd (ridOf l N0 j) { b := w.heap.size }) k = (Eb l N0 E k).upd (ridOf l N0 j) { b := w.heap.size } := by
            funext id
            by_cases e' : id = ridOf l N0 j
            · subst e'
              rw [Env.upd_self]
              unfold Eb
              rw [if_neg, Env.upd_self]
              intro hm
              obtain ⟨k2, ok, h1, h2, h3, h4⟩ := mem_later.1 hm
              have := rid_inj ho hal h1 h2 h4
              omega
            · rw [Env.upd_ne _ _ e']
              unfold Eb
              rw [Env.upd_ne _ _ e']
          have hnk : Eb l N0 E k (ridOf l N0 j) = none := by
            cases hx : Eb l N0 E k (ridOf l N0 j) with
            | none => rfl
            | some M => have := Eb_ext E k _ _ hx; rw [hrn] at this; cases this
          rw [e1]
          have hB : BRel (Env.upd (Eb l N0 E k) (ridOf l N0 j) { b := w.heap.size }) { b := w.heap.size } (.cells vs e) (some (.cells cs.toArray e)) :=
            ⟨cs, concL_ext (Ext.upd hnk _) _ _ (concL_ext (Eb_mono E (by omega)) _ _ hvs), rfl, rfl⟩
          obtain ⟨B', hB', hb'⟩ := vis_of (L := L) (n := l.length) (j := k) hgr
          exact hr.place hbd.2.2 hnk rfl (hB.vis hb') hB' fun id hid => vis_congr (hgo id hid)
      · intro k ok hk' ha hkj hs
        rw [Env.upd_ne _ _ (fun e' => hkj (rid_inj hk' ha ho hal e'))]
        exact inv.pend k ok hk' ha hs
      · refine ⟨hext, fun b hb _ => heap_alloc_lt _ _ _ hb, by rw [size_alloc']; omega, fun id M h1 h2 => ?_, fun id M h1 hid hlv => ?_, rfl, rfl, rfl, Nat.le_refl _⟩
        · by_cases e' : id = ridOf l N0 j
          · subst e'; rw [Env.upd_self] at h2; cases h2
            exact ⟨⟨hbd.2.2, by rw [hN]; exact hbd.2.1⟩, .inl (Nat.le_refl _)⟩
          · rw [Env.upd_ne _ _ e', h1] at h2; cases h2
        · have e' : id ≠ ridOf l N0 j := fun e' => by subst e'; rw [hrn] at h1; cases h1
          unfold gLive at *
          rw [hgo id e'] at hlv; exact hlv
    | eff wr =>
      rw [hc] at hent
      obtain ⟨hdo, hfree, _, hwr⟩ := hent
      obtain ⟨hsee, hR⟩ := inv.sees d ho hl up (.inr (.inr (by rw [hc]; rfl)))
      have hall := inv.all
      have hcn : (L.c j).name = .eff := by rw [hc]; rfl
      have hlen := d.lenAll j (by omega)
      have hnewj : ∀ k ok, l[k]? = some ok → isAlloc ok.op = true → ridOf l N0 k < (L.h j).new := by
        intro k ok h1 h2
        have := (rid_new (N0 := N0) h1 h2).1
        unfold H.new
        rw [← d.len] at this
        omega
      have fin : ∀ E1 w1 c, conc E1 (L.v j) = some c → R I E1 (L.h (j + 1)) w1 → Adv (Eb l N0 E j) (L.h j) w E1 (L.h (j + 1)) w1 → K (a.put o.dst c) w1 := by
        intro E1 w1 c hcv hR1 hA1
        -- what is known then
        let E' : Env := fun id => match E id with | some M => some M | none => E1 id
        have hEE : Ext E E' := fun id M hM => by simp only [E', hM]
        have hnew1 : ∀ id M, E1 id = some M → Eb l N0 E j id = none → (L.h j).new ≤ id ∧ E id = none := by
          intro id M hM hn
          have hf := hA1.fresh id M hn hM
          refine ⟨hf.1.2, ?_⟩
          cases hx : E id with
          | none => rfl
          | some M' =>
            exfalso
            unfold Eb at hn
            split at hn
            · rename_i hm
              obtain ⟨k, ok, h1, h2, h3, h4⟩ := mem_later.1 hm
              have := hnewj k ok h1 h2
              omega
            · rw [hx] at hn; cases hn
        have hnl : ∀ id M, E1 id = some M → id ∉ later l N0 j := by
          intro id M hM hm
          have hn : Eb l N0 E j id = none := by unfold Eb; rw [if_pos hm]
          obtain ⟨k, ok, h1, h2, h3, h4⟩ := mem_later.1 hm
          have := (hnew1 id M hM hn).1
          have := hnewj k ok h1 h2
          omega
        have hE1E' : ∀ id M, E1 id = some M → E' id = some M := by
          intro id M hM
          cases hx : Eb l N0 E j id with
          | some M' =>
            have e1 := hA1.ext _ _ hx
            rw [hM] at e1; cases e1
            exact hEE _ _ (Eb_ext E j _ _ hx)
          | none =>
            simp only [E', (hnew1 id M hM hx).2, hM]
        have hE1 : Ext E1 (Eb l N0 E' j) := by
          intro id M hM
          unfold Eb
          rw [if_neg (hnl id M hM)]
          exact hE1E' id M hM
        -- what the heap holds then
        have hgE1 : ∀ id M, E1 id = some M → gSel l N0 L (fun k => listed.getD k true || k == j) l.length id = (L.h (j + 1)).get id := by
          intro id M hM
          by_cases hf : id ∈ freeIds l N0 j
          · rw [gSel_free hf hcn, hfree id hf]
            cases hx : Eb l N0 E j id with
            | some M' => exact (hsee id M' hx).symm
            | none =>
              exfalso
              obtain ⟨k, ok, h1, h2, h3, h4⟩ := mem_free.1 hf
              have := (hnew1 id M hM hx).1
              have := hnewj k ok h1 h2
              omega
          · refine gSel_eff hf hcn l.length hjn (fun k hjk hk' hs hke => ?_) fun k hjk hk' hs hka he => ?_
            · obtain ⟨ok, hok'⟩ : ∃ ok, l[k]? = some ok := ⟨_, List.getElem?_eq_getElem hk'⟩
              have := up.behind k ok hok' (drawOk_pair d.draw hjk ho hok' (.inr (.inr (by rw [d.cn hjn, d.cn hk']; exact (Full.disj (.inr (.inr hke)) hcn).1))))
              rw [hs] at this; cases this
            · obtain ⟨ok, hok'⟩ : ∃ ok, l[k]? = some ok := ⟨_, List.getElem?_eq_getElem hk'⟩
              exact hnl id M hM (mem_later.2 ⟨k, ok, hok', alloc_is d hok' hka, hjk, he.symm⟩)
        have hlater : ∀ id M, E id = some M → Eb l N0 E j id = none → gSel l N0 L (fun k => listed.getD k true || k == j) l.length id = gSel l N0 L (fun k => listed.getD k true) l.length id := by
          intro id M hM hn
          have hm : id ∈ later l N0 j := by
            unfold Eb at hn
            split at hn
            · assumption
            · rw [hM] at hn; cases hn
          obtain ⟨k, ok, h1, h2, h3, h4⟩ := mem_later.1 hm
          exact gSel_free (mem_free.2 ⟨k, ok, h1, h2, fun hm' => by have := anc_lt d (anc_ok hm'); omega, h4⟩) hcn l.length
        have hliveE : ∀ id M, Eb l N0 E j id = some M → gLive (L.h j).get id → gLive (gSel l N0 L (fun k => listed.getD k true) l.length) id := by
          intro id M hM hlv
          unfold gLive at *
          rw [← hsee id M hM]; exact hlv
        -- a later block and one that the operation knows are two blocks
        have apart : ∀ i1 i2 M1 M2, E1 i1 = some M1 → i1 % 2 = 0 → gLive (L.h (j + 1)).get i1 → E i2 = some M2 → Eb l N0 E j i2 = none → i2 % 2 = 0 → gLive (gSel l N0 L (fun k => listed.getD k true) l.length) i2 → M1.b ≠ M2.b := by
          intro i1 i2 M1 M2 h1 p1 l1 h2 n2 p2 l2 he
          have hb2 := hall.live_lt h2 p2 l2
          cases hx : Eb l N0 E j i1 with
          | some M' =>
            have e1 := hA1.ext _ _ hx
            rw [h1] at e1; cases e1
            have lj := hA1.dead i1 M1 hx p1 l1
            have := hall.inj i1 i2 M1 M2 (Eb_ext E j _ _ hx) h2 p1 p2 (hliveE i1 M1 hx lj) l2 he
            subst this
            rw [hx] at n2; cases n2
          | none =>
            obtain ⟨_, hf | ⟨i3, M3, h3, p3, l3, he3⟩⟩ := hA1.fresh i1 M1 hx h1
            · omega
            · have := hall.inj i3 i2 M3 M2 (Eb_ext E j _ _ h3) h2 p3 p2 (hliveE i3 M3 h3 l3) l2 (by omega)
              subst this
              rw [h3] at n2; cases n2
        have frameL : ∀ i2 M2, E i2 = some M2 → Eb l N0 E j i2 = none → i2 % 2 = 0 → gLive (gSel l N0 L (fun k => listed.getD k true) l.length) i2 → w1.heap[M2.b]? = w.heap[M2.b]? := by
          intro i2 M2 h2 n2 p2 l2
          refine hA1.frame M2.b (hall.live_lt h2 p2 l2) fun id M hM hid hlv he => ?_
          have := hall.inj id i2 M M2 (Eb_ext E j _ _ hM) h2 hid p2 (hliveE id M hM hlv) l2 he
          subst this
          rw [hM] at n2; cases n2
        refine hK E' _ w1 _ (inv.next d ho hl hready up hEE (conc_ext hE1 _ _ hcv) ?_ ?_ ?_)
        · intro k hk' hkj hc'
          have hr := inv.rel k hk' hc'
          by_cases hjk : k < j
          · -- a look at another block, which has not come up
            have hkn : k < l.length := by omega
            obtain ⟨ok, hok'⟩ : ∃ ok, l[k]? = some ok := ⟨_, List.getElem?_eq_getElem hkn⟩
            obtain ⟨h1, h2⟩ := hc' hkn
            have hno : ∀ c, L.c k = c → memT c.tag (L.c j).tag ≠ true := by
              intro c e hm
              have := up.before k (drawOk_pair d.draw hjk hok' ho (.inr (.inr (by rw [d.cn hkn, d.cn hjn, e]; exact hm))))
              rw [h1] at this; cases this
            have hrd : ∃ i a, L.c k = .read (some i) ∧ wr = some a ∧ a ≠ i := by
              cases hck : L.c k with
              | read x =>
                cases x with
                | none => exact absurd (Full.disj (a := L.c j) (c := .read none) (.inl rfl) hcn).2 (hno _ hck)
                | some i =>
                  have := hno _ hck
                  rw [hc] at this
                  obtain ⟨a, e1, e2⟩ := disj_right this
                  exact ⟨i, a, rfl, e1, e2⟩
              | quiet => exact absurd (Full.disj (a := L.c j) (c := .quiet) (.inr (.inl rfl)) hcn).2 (hno _ hck)
              | eff w2 => exact absurd (Full.disj (a := L.c j) (c := .eff w2) (.inr (.inr rfl)) hcn).2 (hno _ hck)
              | pure => rw [hck] at h2; simp [Cl.name] at h2
              | alloc B => rw [hck] at h2; simp [Cl.name] at h2
            obtain ⟨i, ab, hck, rfl, hai⟩ := hrd
            have hrdk : rdOf L l.length k = some i := by unfold rdOf; rw [if_pos hkn, hck]
            have hik : i % 2 = 0 → i < (L.h k).new := by
              have he := (d.ent k ok hok').2
              split at he
              · rw [hck] at he; exact (he.2.2.2 i rfl).1
              · rw [he.1] at hck; cases hck
            have hkj' : (L.h k).new ≤ (L.h j).new := by
              have := d.lenMono (i := k) j (by omega) (by omega)
              unfold H.new; omega
            have hsame : (L.h (j + 1)).get i = (L.h j).get i := hwr ab rfl i (fun e => hai e.symm) (fun hp => by have := hik hp; omega)
            -- what is known at k then
            have split : ∀ id M, Eb l N0 E' k id = some M → (Eb l N0 E k id = some M) ∨ (E1 id = some M ∧ E id = none ∧ (L.h j).new ≤ id) := by
              intro id M hM
              have hM' := Eb_ext E' k _ _ hM
              cases hy : E id with
              | some M' =>
                left
                have := hEE _ _ hy
                rw [hM'] at this; cases this
                unfold Eb at hM ⊢
                split at hM
                · cases hM
                · rename_i hn; rw [if_neg hn]; exact hy
              | none =>
                right
                have h1 : E1 id = some M := by simpa only [E', hy] using hM'
                have hn : Eb l N0 E j id = none := by
                  cases hz : Eb l N0 E j id with
                  | none => rfl
                  | some M' => have := Eb_ext E j _ _ hz; rw [hy] at this; cases this
                exact ⟨h1, rfl, (hnew1 id M h1 hn).1⟩
            have hgi : ∀ M, Eb l N0 E k i = some M → gSel l N0 L (fun k => listed.getD k true || k == j) l.length i = (L.h (j + 1)).get i ∧ gSel l N0 L (fun k => listed.getD k true) l.length i = (L.h (j + 1)).get i := by
              intro M hM
              have hMj := Eb_mono (l := l) (N0 := N0) E (Nat.le_of_lt hjk) _ _ hM
              exact ⟨hgE1 i M (hA1.ext _ _ hMj), by rw [hsame]; exact (hsee i M hMj).symm⟩
            have hvis : ∀ g id, vis L l.length k g id = only i g id := fun g id => by unfold vis; rw [hrdk]; rfl
            refine ⟨?_, ?_, ?_, ?_, ?_⟩
            · intro id M hM hid
              rcases split id M hM with h1 | ⟨h1, h2, h3⟩
              · obtain ⟨B, hB, hrel⟩ := hr.blk id M h1 hid
                by_cases e : id = i
                · subst e
                  obtain ⟨g1, g2⟩ := hgi M h1
                  rw [hvis, only_self] at hB
                  refine ⟨B, by rw [hvis, only_self, g1, ← g2]; exact hB, ?_⟩
                  have hMj := Eb_mono (l := l) (N0 := N0) E (Nat.le_of_lt hjk) _ _ h1
                  obtain ⟨B2, hB2, hrel2⟩ := hR.blk id M hMj hid
                  obtain ⟨B3, hB3, hrel3⟩ := hR1.blk id M (hA1.ext _ _ hMj) hid
                  rw [← g2, hB] at hB3; cases hB3
                  rw [← hsame, ← g2, hB] at hB2; cases hB2
                  exact (BRel.move hrel hrel2 hrel3 (Eb_ext E k) (Eb_ext E j) hA1.ext).ext (Eb_up hEE k)
                · refine ⟨.dead, ?_, trivial⟩
                  rw [hvis]
                  simp only [only, if_neg e]
                  have hg : ∃ B', gSel l N0 L (fun k => listed.getD k true || k == j) l.length id = some B' := by
                    have hMj := Eb_mono (l := l) (N0 := N0) E (Nat.le_of_lt hjk) _ _ h1
                    obtain ⟨B3, hB3, _⟩ := hR1.blk id M (hA1.ext _ _ hMj) hid
                    exact ⟨B3, by rw [hgE1 id M (hA1.ext _ _ hMj)]; exact hB3⟩
                  obtain ⟨B', hB'⟩ := hg
                  rw [hB']; rfl
              · refine ⟨.dead, ?_, trivial⟩
                have e : id ≠ i := fun e => by subst e; have := hik hid; omega
                rw [hvis]
                simp only [only, if_neg e]
                obtain ⟨B3, hB3, _⟩ := hR1.blk id M h1 hid
                rw [hgE1 id M h1, hB3]; rfl
            · intro b x hb
              obtain ⟨q1, q2⟩ := hR1.inp b x hb
              exact ⟨Eb_up hEE k _ _ (hr.inp b x hb).1, q2⟩
            · intro b
              exact Eb_up hEE k _ _ (hr.inpd b)
            · intro i1 i2 M1 M2 h1 h2 p1 p2 l1 l2 he
              have one : ∀ x, gLive (vis L l.length k (gSel l N0 L (fun k => listed.getD k true || k == j) l.length)) x → x = i := by
                rintro x ⟨B, hB, hd⟩
                rw [hvis] at hB
                simp only [only] at hB
                split at hB
                · assumption
                · cases hx : gSel l N0 L (fun k => listed.getD k true || k == j) l.length x with
                  | none => rw [hx] at hB; cases hB
                  | some B' => rw [hx] at hB; simp at hB; exact absurd hB.symm hd
              rw [one i1 l1, one i2 l2]
            · intro x M hx hx2 hlv
              rcases split x M hx with h1 | ⟨h1, h2, h3⟩
              · refine hr.sep x M h1 hx2 ?_
                obtain ⟨B, hB, hd⟩ := hlv
                rw [hvis] at hB
                simp only [only] at hB
                split at hB
                · rename_i e
                  subst e
                  obtain ⟨g1, g2⟩ := hgi M h1
                  exact ⟨B, by rw [hvis, only_self, g2, ← g1]; exact hB, hd⟩
                · cases hz : gSel l N0 L (fun k => listed.getD k true || k == j) l.length x with
                  | none => rw [hz] at hB; cases hB
                  | some B' => rw [hz] at hB; simp at hB; exact absurd hB.symm hd
              · have hlv' := vis_live hlv
                unfold gLive at hlv'
                rw [hgE1 x M h1] at hlv'
                exact hR1.sep x M h1 hx2 hlv'
          have hjk : j ≤ k := by omega
          have hE1k : Ext E1 (Eb l N0 E' k) := hE1.trans (Eb_mono E' hjk)
          -- what is known at k is known to the operation, or a later block
          have split : ∀ id M, Eb l N0 E' k id = some M → E1 id = some M ∨ (Eb l N0 E k id = some M ∧ E id = some M ∧ Eb l N0 E j id = none) := by
            intro id M hM
            cases hx : E1 id with
            | some M' =>
              have := hE1k _ _ hx
              rw [hM] at this; cases this; exact .inl rfl
            | none =>
              right
              have hEid : E id = some M := by
                have := Eb_ext E' k _ _ hM
                simp only [E'] at this
                cases hy : E id with
                | some M' => rw [hy] at this; exact this
                | none => rw [hy, hx] at this; cases this
              refine ⟨?_, hEid, ?_⟩
              · unfold Eb at hM ⊢
                split at hM
                · cases hM
                · rename_i hn; rw [if_neg hn]; exact hEid
              · cases hy : Eb l N0 E j id with
                | none => rfl
                | some M' => have := hA1.ext _ _ hy; rw [hx] at this; cases this
          have lv1 : ∀ id M, E1 id = some M → gLive (vis L l.length k (gSel l N0 L (fun k => listed.getD k true || k == j) l.length)) id → gLive (L.h (j + 1)).get id := by
            intro id M h1 hlv
            have := vis_live hlv
            unfold gLive at this ⊢
            rw [← hgE1 id M h1]; exact this
          have lv2 : ∀ id M, E id = some M → Eb l N0 E j id = none → gLive (vis L l.length k (gSel l N0 L (fun k => listed.getD k true || k == j) l.length)) id → gLive (vis L l.length k (gSel l N0 L (fun k => listed.getD k true) l.length)) id := by
            intro id M h1 h2 hlv
            unfold gLive at hlv ⊢
            rw [← vis_congr (hlater id M h1 h2)]; exact hlv
          refine ⟨?_, ?_, ?_, ?_, ?_⟩
          · intro id M hM hid
            rcases split id M hM with h1 | ⟨h1, h2, h3⟩
            · obtain ⟨B, hB, hrel⟩ := hR1.blk id M h1 hid
              obtain ⟨B', hB', hb'⟩ := vis_of (L := L) (n := l.length) (j := k) ((hgE1 id M h1).trans hB)
              exact ⟨B', hB', (hrel.ext hE1k).vis hb'⟩
            · obtain ⟨B, hB, hrel⟩ := hr.blk id M h1 hid
              refine ⟨B, by rw [vis_congr (hlater id M h2 h3)]; exact hB, ?_⟩
              by_cases hd : B = .dead
              · subst hd; trivial
              · rw [frameL id M h2 h3 hid ⟨B, vis_some hB hd, hd⟩]
                exact hrel.ext (Eb_up hEE k)
          · intro b x hb
            obtain ⟨h1, h2⟩ := hR1.inp b x hb
            exact ⟨hE1k _ _ h1, h2⟩
          · intro b
            exact hE1k _ _ (hR1.inpd b)
          · intro i1 i2 M1 M2 h1 h2 p1 p2 l1 l2 he
            rcases split i1 M1 h1 with a1 | ⟨a1, b1, c1⟩ <;> rcases split i2 M2 h2 with a2 | ⟨a2, b2, c2⟩
            · exact hR1.inj i1 i2 M1 M2 a1 a2 p1 p2 (lv1 i1 M1 a1 l1) (lv1 i2 M2 a2 l2) he
            · exact absurd he (apart i1 i2 M1 M2 a1 p1 (lv1 i1 M1 a1 l1) b2 c2 p2 (vis_live (lv2 i2 M2 b2 c2 l2)))
            · exact absurd he.symm (apart i2 i1 M2 M1 a2 p2 (lv1 i2 M2 a2 l2) b1 c1 p1 (vis_live (lv2 i1 M1 b1 c1 l1)))
            · exact hr.inj i1 i2 M1 M2 a1 a2 p1 p2 (lv2 i1 M1 b1 c1 l1) (lv2 i2 M2 b2 c2 l2) he
          · intro i M hi hi2 hlv
            rcases split i M hi with a1 | ⟨a1, b1, c1⟩
            · exact hR1.sep i M a1 hi2 (lv1 i M a1 hlv)
            · exact hr.sep i M a1 hi2 (lv2 i M b1 c1 hlv)
        · intro k ok hk' ha hkj hs
          have hn := inv.pend k ok hk' ha hs
          simp only [E', hn]
          cases hx : E1 (ridOf l N0 k) with
          | none => rfl
          | some M =>
            exfalso
            have hn' : Eb l N0 E j (ridOf l N0 k) = none := by
              cases hy : Eb l N0 E j (ridOf l N0 k) with
              | none => rfl
              | some M' => have := Eb_ext E j _ _ hy; rw [hn] at this; cases this
            have := (hnew1 _ M hx hn').1
            have := hnewj k ok hk' ha
            omega
        · refine ⟨hEE, fun b hb hn => ?_, hA1.grow, fun id M h1 h2 => ?_, fun id M h1 hid hlv => ?_, hA1.tape, hA1.os, hA1.out, Nat.le_refl _⟩
          · exact hA1.frame b hb fun id M hM hid hlv => hn id M (Eb_ext E j _ _ hM) hid (hliveE id M hM hlv)
          · have h2' : E1 id = some M := by simpa only [E', h1] using h2
            have hn : Eb l N0 E j id = none := by
              cases hy : Eb l N0 E j id with
              | none => rfl
              | some M' => have := Eb_ext E j _ _ hy; rw [h1] at this; cases this
            obtain ⟨⟨q1, q2⟩, q3⟩ := hA1.fresh id M hn h2'
            refine ⟨⟨q1, ?_⟩, q3.imp (fun h => h) ?_⟩
            · rw [hN]
              have : 2 * N0 ≤ (L.h j).new := by unfold H.new; have := d.len; omega
              omega
            · rintro ⟨i, M3, h3, p3, l3, e3⟩
              exact ⟨i, M3, Eb_ext E j _ _ h3, p3, hliveE i M3 h3 l3, e3⟩
          · cases hy : Eb l N0 E j id with
            | some M' =>
              have e1 := hA1.ext _ _ hy
              have e2 := Eb_ext E j _ _ hy
              rw [h1] at e2; cases e2
              unfold gLive at hlv
              rw [hgE1 id M e1] at hlv
              exact hliveE id M hy (hA1.dead id M hy hid hlv)
            | none =>
              unfold gLive at hlv ⊢
              rw [hlater id M h1 hy] at hlv
              exact hlv
      rw [← hFEb]
      rcases hdo with hs | ⟨fn, args, hcall, hsnd⟩
      · rw [← step2_congr up.look] at hs
        exact wpIn_of_does2 hok up.same.symm (step2_sound hR up.conc' hok hs) fun E1 w1 c h1 h2 h3 => fin E1 w1 c h1 h2 h3
      · rw [← acall_congr up.look] at hcall
        exact wpIn_of_call2 hok up.same.symm hR up.conc' hcall hsnd fun E1 w1 c h1 h2 h3 => fin E1 w1 c h1 h2 h3
  · rename_i hw
    rw [if_neg hw] at hent
    obtain ⟨hc, hv, _⟩ := hent
    exact ⟨about_ok, keep undef (by rw [hc]; simp [Cl.name]) (by rw [hc]; simp [Cl.name]) (by rw [hv]; exact conc_undef _)⟩
end
end Go.Sym
namespace Go.Sym

section
variable {P : Program} {I : Nat → Option Obj} {l : List Oper} {N0 : Nat} {L : Log} {E0 : Env} {h0 : H} {w0 : World} {a0 : Act}

theorem cSel_none (cv : Nat → Value) (l0 : List Value) {sel : Nat → Bool} : ∀ m, (∀ k, k < m → sel k = false) → cSel l cv l0 sel m = l0
  | 0, _ => rfl
  | m + 1, h => by simp only [cSel, h m (by omega), Bool.false_eq_true, if_false]; exact cSel_none cv l0 m fun k hk => h k (by omega)
theorem gSel_none {sel : Nat → Bool} : ∀ m, (∀ k, k < m → sel k = false) → gSel l N0 L sel m = (L.h 0).get
  | 0, _ => rfl
  | m + 1, h => by simp only [gSel, h m (by omega), Bool.false_eq_true, if_false]; exact gSel_none m fun k hk => h k (by omega)

theorem Inv.post (d : DC P I l N0 L) (hlen : h0.length ≤ (L.h 0).length) (hc0 : concL E0 (L.tm 0) = some a0.tmps.toList) {df : List Nat} (hdf : DRel E0 df a0.defers) {Q : Exit → St → Prop} (q : Q .normal ⟨L.tm l.length, df, L.h l.length⟩)
    {listed : Array Bool} {E : Env} {a : Act} {w : World} {cv : Nat → Value} (inv : Inv P I l N0 L E0 h0 w0 a0 listed E a w cv) (hall : ∀ k, k < l.length → listed.getD k true = true) : Post I E0 h0 w0 Q .normal a w := by
  have hg := d.gAll (sel := fun k => listed.getD k true) l.length (Nat.le_refl _) hall
  have hr := inv.all
  rw [hg] at hr
  have hadv := inv.adv
  rw [hg] at hadv
  have hc : ∀ m, m ≤ l.length → concL E (L.tm m) = some (cSel l cv a0.tmps.toList (fun k => listed.getD k true) m) := by
    intro m
    induction m with
    | zero => intro _; exact concL_ext inv.adv.ext _ _ hc0
    | succ m ih =>
      intro hm
      obtain ⟨o, ho⟩ : ∃ o, l[m]? = some o := ⟨_, List.getElem?_eq_getElem (by omega)⟩
      have hv := conc_ext (Eb_ext E m) _ _ (inv.vals m (by omega) (hall m (by omega)))
      have ih := ih (by omega)
      simp only [cSel, hall m (by omega), if_true, (d.ent m o ho).1, dstOf, ho, Option.bind_some]
      cases o.dst with
      | none => exact ih
      | some t => exact concL_set hv t ih
  refine ⟨E, ⟨L.tm l.length, df, L.h l.length⟩, hr, ?_, ?_, ?_, q⟩
  · rw [inv.tmps]; exact hc _ (Nat.le_refl _)
  · rw [inv.defs]; exact hdf.ext inv.adv.ext
  · have h1 := d.lenAll l.length (Nat.le_refl _)
    exact ⟨hadv.ext, hadv.frame, hadv.grow, hadv.fresh, hadv.dead, hadv.tape, hadv.os, hadv.out, by
      show 2 * h0.length ≤ 2 * (L.h l.length).length
      omega⟩

def open' (listed : Array Bool) (n : Nat) : List Nat := (List.range n).filter fun k => !listed.getD k true

theorem ready_nil (d : DC P I l N0 L) {listed : Array Bool} (hn : Region.ready .any l.toArray listed = []) : ∀ k, k < l.length → listed.getD k true = true := by
  intro k
  induction k using Nat.strongRecOn with
  | ind k ih =>
    intro hk
    cases hs : listed.getD k true with
    | true => rfl
    | false =>
      exfalso
      obtain ⟨o, ho⟩ : ∃ o, l[k]? = some o := ⟨_, List.getElem?_eq_getElem hk⟩
      have : k ∈ Region.ready .any l.toArray listed := by
        refine mem_ready.2 ⟨hs, o, by simpa using ho, fun e he hb => ?_⟩
        have hi : e.on ∈ bindsE o := by
          unfold bindsE
          exact List.mem_map.2 ⟨e, List.mem_filter.2 ⟨by simpa using he, hb⟩, rfl⟩
        have hlt := drawOk_edge d.draw ho hi
        have := ih _ hlt (by omega)
        rcases Nat.lt_or_ge e.on listed.size with h' | h'
        · simpa [h'] using this
        · exfalso
          have : k < listed.size := by
            rcases Nat.lt_or_ge k listed.size with h'' | h''
            · exact h''
            · simp [Array.getElem?_eq_none h''] at hs
          omega
      rw [hn] at this; cases this

theorem open_less {listed : Array Bool} {n j : Nat} (hj : j < n) (hs : j < listed.size) (hl : listed.getD j true = false) : (open' (listed.setIfInBounds j true) n).length < (open' listed n).length := by
  unfold open'
  have hsel := sel_set hs
  have e : ((List.range n).filter fun k => !(listed.setIfInBounds j true).getD k true) = ((List.range n).filter fun k => !listed.getD k true).filter fun k => !(k == j) := by
    rw [List.filter_filter]
    congr 1
    funext k
    rw [congrFun hsel k]
    cases listed.getD k true <;> cases (k == j) <;> rfl
  rw [e]
  refine List.length_filter_lt_length_iff_exists.2 ⟨j, List.mem_filter.2 ⟨List.mem_range.2 hj, by simp [hl]⟩, by simp⟩

theorem draw_any (d : DC P I l N0 L) (hN : h0.new = 2 * N0) (hlen : h0.length ≤ (L.h 0).length) (hE0 : ∀ id M, E0 id = some M → id % 2 = 0 → id < 2 * N0) (hc0 : concL E0 (L.tm 0) = some a0.tmps.toList) {ro : Option Nat} (hk : Kn E0 ro)
    {df : List Nat} (hdf : DRel E0 df a0.defers) {Q : Exit → St → Prop} (q : Q .normal ⟨L.tm l.length, df, L.h l.length⟩) :
    ∀ (fuel : Nat) (listed : Array Bool) (E : Env) (a : Act) (w : World) (cv : Nat → Value), Inv P I l N0 L E0 h0 w0 a0 listed E a w cv → (open' listed l.length).length ≤ fuel →
      wpAnyIn (FE E0 ro) 0 P .any l.toArray (Post I E0 h0 w0 Q) fuel listed a w := by
  intro fuel
  induction fuel with
  | zero =>
    intro listed E a w cv inv hf
    have hall : ∀ k, k < l.length → listed.getD k true = true := by
      intro k hk'
      cases hs : listed.getD k true with
      | true => rfl
      | false =>
        have : k ∈ open' listed l.length := List.mem_filter.2 ⟨List.mem_range.2 hk', by rw [hs]; rfl⟩
        rw [List.length_eq_zero_iff.1 (Nat.le_zero.1 hf)] at this; cases this
    refine ⟨?_, inv.post d hlen hc0 hdf q hall⟩
    rw [List.eq_nil_iff_forall_not_mem]
    intro k hk'
    obtain ⟨h1, o, ho, _⟩ := mem_ready.1 hk'
    have ho' : l[k]? = some o := by simpa using ho
    rw [hall k (List.getElem?_eq_some_iff.1 ho').1] at h1; cases h1
  | succ fuel ih =>
    intro listed E a w cv inv hf
    refine ⟨fun hn => inv.post d hlen hc0 hdf q (ready_nil d hn), fun i hi => ?_⟩
    obtain ⟨hl, o, ho, hall⟩ := mem_ready.1 hi
    have ho' : l[i]? = some o := by simpa using ho
    have hin : i < l.length := (List.getElem?_eq_some_iff.1 ho').1
    refine inv.step d hN hE0 hc0 hk ho' hl ?_ ?_
    · intro k hkm
      unfold bindsE at hkm
      obtain ⟨e, he, rfl⟩ := List.mem_map.1 hkm
      obtain ⟨he1, he2⟩ := List.mem_filter.1 he
      have := hall e (by simpa using he1) he2
      rcases Nat.lt_or_ge e.on listed.size with h' | h'
      · simpa [h'] using this
      · simp [Array.getElem?_eq_none h']
    · intro E' a' w' cv' inv'
      have := open_less (n := l.length) hin (by rw [inv.size]; exact hin) hl
      exact ih _ E' a' w' cv' inv' (by omega)

end

theorem TC_draw {P : Program} {I : Nat → Option Obj} {ro : Option Nat} {id : Nat} {l : List Oper} {L : Log} {Q : Exit → St → Prop} {st : St} (hm : P.follows .mixedOrders = true) (d : DC P I l st.h.length L) (ht0 : L.tm 0 = st.tm)
    (hh0 : L.h 0 = st.h ++ List.replicate (slotsL l).length .dead) (q : Q .normal ⟨L.tm l.length, st.df, L.h l.length⟩) : TC P I ro (.region id l.toArray true) Q st := by
  intro E w a r ht hd hk
  have hE0 : ∀ id M, E id = some M → id % 2 = 0 → id < 2 * st.h.length := by
    intro id M hM hid
    obtain ⟨B, hB, _⟩ := r.blk id M hM hid
    exact (H.get_lt hB).1
  have hpad : ∀ id M, E id = some M → id % 2 = 0 → (L.h 0).get id = st.h.get id := by
    intro id M hM hid
    have h1 := hE0 id M hM hid
    rw [hh0]
    unfold H.get
    rw [if_pos hid, if_pos hid, List.getElem?_append_left (by omega)]
  have hsel : ∀ k, k < l.length → (Array.replicate l.length false).getD k true = false := by
    intro k hk'; simp [hk']
  have hEb : ∀ j, Eb l st.h.length E j = E := by
    intro j
    funext id
    unfold Eb
    split
    · rename_i hm'
      obtain ⟨k, o, h1, h2, h3, h4⟩ := mem_later.1 hm'
      have := rid_new (N0 := st.h.length) h1 h2
      cases hx : E id with
      | none => rfl
      | some M => have := hE0 id M hx (by omega); omega
    · rfl
  refine wpIn_region_any hm ?_
  have hsz : l.toArray.size = l.length := by simp
  rw [hsz]
  refine draw_any (N0 := st.h.length) (E0 := E) (h0 := st.h) (w0 := w) (a0 := a) d rfl (by rw [hh0]; simp) hE0 (by rw [ht0]; exact ht) hk hd q l.length _ E a _ (fun _ => undef) ?_ ?_
  · refine ⟨by simp, ?_, ?_, rfl, ?_, ?_, ?_, ?_⟩
    · intro j o ho hs
      rw [hsel j (List.getElem?_eq_some_iff.1 ho).1] at hs; cases hs
    · exact (cSel_none _ _ _ hsel).symm
    · intro j hj hs; rw [hsel j hj] at hs; cases hs
    · intro j hj _
      rw [gSel_none _ hsel, hEb]
      exact ((RG.drew r).congr hpad).vis _ _
    · intro j o ho ha _
      have := rid_new (N0 := st.h.length) ho ha
      cases hx : E (ridOf l st.h.length j) with
      | none => rfl
      | some M => have := hE0 _ M hx (by omega); omega
    · rw [gSel_none _ hsel]
      refine ⟨Ext.refl E, fun b _ _ => rfl, Nat.le_refl _, fun _ _ h1 h2 => (by rw [h1] at h2; cases h2), fun id M hM hid hl => ?_, rfl, rfl, rfl, Nat.le_refl _⟩
      unfold gLive at *
      rw [← hpad id M hM hid]; exact hl
  · refine Nat.le_trans (List.length_filter_le _ _) (by simp)
end Go.Sym
namespace Go.Sym

def blockOf : Value → Option Nat
  | .pointer (some a) => some a.block
  | .map (some id) => some id
  | _ => none
def rdId (tm : List Value) : Op → Option Nat
  | .load _ a => blockOf (ev tm a)
  | _ => none
/-- the block that alone may turn when something is put behind a slice -/
def apW : Value → Option Nat
  | .slice (some a) _ _ => some a.block
  | .slice none _ _ => some 1
  | _ => none
def apL : List Value → Option Nat
  | a :: _ => apW a
  | [] => none
theorem apL_cons {a : Value} {l : List Value} : apL (a :: l) = apW a := rfl
theorem apW_some {a : Addr} {n c : Nat} : apW (.slice (some a) n c) = some a.block := rfl
theorem apW_none {n c : Nat} : apW (.slice none n c) = some 1 := rfl
def wrId (tm : List Value) : Op → Option Nat
  | .call c => match c.callee with | .builtin .append => apL (c.args.toList.map (ev tm)) | _ => none
  | .store _ a _ => blockOf (ev tm a)
  | .mapEntry _ m _ => blockOf (ev tm m)
  | .entryStore _ m _ _ => blockOf (ev tm m)
  | .mapUpdate _ m _ _ => blockOf (ev tm m)
  | _ => none

section
variable {P : Program} {I : Nat → Option Obj}

theorem rdl_local {h h2 : H} {id off n : Nat} (hg : h2.get id = h.get id) : rdl I h2 id off n = rdl I h id off n := by
  unfold rdl
  by_cases hp : id % 2 = 0
  · unfold H.get at hg
    rw [if_pos hp, if_pos hp] at hg
    rw [if_pos hp, if_pos hp, hg]
  · rw [if_neg hp, if_neg hp]
theorem rdl_lt {h : H} {id off n : Nat} {vs : List Value} (hr : rdl I h id off n = some vs) (hp : id % 2 = 0) : id < h.new := by
  unfold rdl at hr
  rw [if_pos hp] at hr
  split at hr
  · rename_i h1; have := (List.getElem?_eq_some_iff.1 h1).1; unfold H.new; omega
  · rename_i h1; have := (List.getElem?_eq_some_iff.1 h1).1; unfold H.new; omega
  · cases hr
theorem aload_local {h h2 : H} {t : TypeId} {a : Value} {i : Nat} (hb : blockOf a = some i) (hg : h2.get i = h.get i) : aload P I t a h2 = aload P I t a h := by
  unfold aload
  split
  · simp only [blockOf, Option.some.injEq] at hb
    subst hb
    simp only [rdl_local hg]
  · rfl
theorem aload_lt {h : H} {t : TypeId} {a v : Value} {i : Nat} (hb : blockOf a = some i) (ha : aload P I t a h = some v) (hp : i % 2 = 0) : i < h.new := by
  unfold aload at ha
  split at ha
  · simp only [blockOf, Option.some.injEq] at hb
    subst hb
    split at ha
    · simp only [Option.bind_eq_some_iff, Option.map_eq_some_iff] at ha
      obtain ⟨n, _, l, hl, _⟩ := ha
      exact rdl_lt hl hp
    · split at ha
      · rename_i h1; exact rdl_lt h1 hp
      · cases ha
    · cases ha
  · cases ha

theorem rd_local {tm : List Value} {h h' : H} {ty : TypeId} {op : Op} {v : Value} (hs : stepOp P I tm h ty op = some (v, h')) : ∀ i, rdId tm op = some i → (i % 2 = 0 → i < h.new) ∧ ∀ h2 : H, h2.get i = h.get i → stepOp P I tm h2 ty op = some (v, h2) := by
  intro i hi
  cases op with
  | load t a =>
    simp only [rdId] at hi
    simp only [stepOp, Option.map_eq_some_iff, Prod.mk.injEq] at hs ⊢
    obtain ⟨u, hu, rfl, rfl⟩ := hs
    exact ⟨aload_lt hi hu, fun h2 hg => ⟨u, by rw [aload_local hi hg]; exact hu, by simp⟩⟩
  | _ => cases hi

theorem wrl_other {h h' : H} {id off : Nat} {vs : List Value} (hw : wrl h id off vs = some h') {i : Nat} (hi : i ≠ id) : h'.get i = h.get i := by
  unfold wrl at hw
  split at hw
  · split at hw
    · split at hw
      · cases hw; exact H.get_put_ne _ hi
      · cases hw
    · split at hw
      · cases hw; exact H.get_put_ne _ hi
      · cases hw
    · cases hw
  · cases hw

theorem get_app_old {h l : H} {i : Nat} (ho : i % 2 = 0 → i < h.new) : (h ++ l : H).get i = h.get i := by
  unfold H.get
  split
  · rename_i hp
    have := ho hp
    unfold H.new at this
    rw [List.getElem?_append_left (by omega)]
  · rfl
theorem append_local {t1 t2 : TypeId} {s x v : Value} {h h' : H} (hs : aappend P I t1 t2 s x h = some (v, h')) : ∀ a, apW s = some a → ∀ i, i ≠ a → (i % 2 = 0 → i < h.new) → h'.get i = h.get i := by
  intro a ha i hi ho
  unfold aappend at hs
  split at hs
  · split at hs
    · split at hs
      · split at hs
        · split at hs
          · split at hs
            · cases hs; rfl
            · split at hs
              · cases hs; exact get_app_old ho
              · cases hs
          · simp only [apW, Option.some.injEq] at ha
            subst ha
            split at hs
            · split at hs
              · simp only [Option.map_eq_some_iff, Prod.mk.injEq] at hs
                obtain ⟨h2, hw, _, rfl⟩ := hs
                exact wrl_other hw hi
              · split at hs
                · simp only [Option.map_eq_some_iff, Prod.mk.injEq] at hs
                  obtain ⟨old, hw, _, rfl⟩ := hs
                  exact get_app_old ho
                · cases hs
            · split at hs
              · cases hs; rfl
              · split at hs
                · split at hs
                  · split at hs
                    · cases hs
                      rw [get_app_old (by intro hp; have := ho hp; unfold H.new at *; rw [H.length_put]; exact this)]
                      exact H.get_put_ne _ hi
                    · cases hs
                  · cases hs
                · cases hs
          · cases hs
        · cases hs
      · cases hs
    · cases hs
  · cases hs
theorem wr_local {tm : List Value} {h h' : H} {ty : TypeId} {op : Op} {v : Value} (hs : step2 P I tm h ty op = some (v, h')) : ∀ a, wrId tm op = some a → ∀ i, i ≠ a → (i % 2 = 0 → i < h.new) → h'.get i = h.get i := by
  intro a ha i hi ho
  cases op with
  | call c =>
    simp only [wrId] at ha
    split at ha
    · rename_i hb
      simp only [step2, hb] at hs
      unfold abi2 at hs
      generalize c.args.toList.map (ev tm) = args at *
      rcases args with _ | ⟨s, _ | ⟨x, _ | ⟨y, r⟩⟩⟩
      · simp [abi] at hs
      · simp [abi] at hs
      · simp only [abi] at hs
        split at hs
        · exact append_local hs a ha i hi ho
        · cases hs
      · simp [abi] at hs
    · cases ha
  | store t x y =>
    simp only [wrId] at ha
    simp only [step2, stepOp, Option.map_eq_some_iff, Prod.mk.injEq] at hs
    obtain ⟨h2, hu, _, rfl⟩ := hs
    unfold astore at hu
    split at hu
    · rename_i hx
      rw [hx] at ha
      simp only [blockOf, Option.some.injEq] at ha
      subst ha
      split at hu
      · exact wrl_other hu hi
      · cases hu
    · cases hu
  | mapEntry t m k =>
    simp only [wrId] at ha
    simp only [step2, amapEntry] at hs
    split at hs
    · rename_i hm _
      rw [hm] at ha
      simp only [blockOf, Option.some.injEq] at ha
      subst ha
      repeat' split at hs
      all_goals first | (cases hs; done) | (cases hs; exact H.get_put_ne _ hi)
    · cases hs
  | entryStore t m s x =>
    simp only [wrId] at ha
    simp only [step2, aentryStore] at hs
    split at hs
    · rename_i hm _
      rw [hm] at ha
      simp only [blockOf, Option.some.injEq] at ha
      subst ha
      repeat' split at hs
      all_goals first | (cases hs; done) | (cases hs; exact H.get_put_ne _ hi)
    · cases hs
  | mapUpdate t m k x =>
    simp only [wrId] at ha
    simp only [step2, amapUpdate] at hs
    split at hs
    · rename_i hm _
      rw [hm] at ha
      simp only [blockOf, Option.some.injEq] at ha
      subst ha
      repeat' split at hs
      all_goals first | (cases hs; done) | (cases hs; exact H.get_put_ne _ hi)
    · cases hs
  | _ => cases ha

theorem stepOp_same {tm : List Value} {h h' : H} {ty : TypeId} {op : Op} {v : Value} (hst : (isPure op || isRead op) = true) (hs : stepOp P I tm h ty op = some (v, h')) : h' = h := by
  cases op with
  | call c =>
    simp only [stepOp] at hs
    split at hs
    · rename_i b hb
      refine abi_same ?_ hs
      simp only [isPure, isRead, hb, Bool.or_false] at hst
      cases b <;> first | exact .inl rfl | exact .inr (.inl rfl) | exact .inr (.inr rfl) | cases hst
    · cases hs
  | move x => cases hs; rfl
  | assign x => cases hs; rfl
  | pick c a b => simp only [stepOp] at hs; split at hs <;> cases hs; rfl
  | build t ps => simp only [stepOp, Option.map_eq_some_iff, Prod.mk.injEq] at hs; obtain ⟨_, _, _, rfl⟩ := hs; rfl
  | nilCheck x => simp only [stepOp] at hs; split at hs <;> cases hs; rfl
  | binOp op t x y t2 => simp only [stepOp, Option.map_eq_some_iff, Prod.mk.injEq] at hs; obtain ⟨_, _, _, rfl⟩ := hs; rfl
  | unOp op t x => simp only [stepOp, Option.map_eq_some_iff, Prod.mk.injEq] at hs; obtain ⟨_, _, _, rfl⟩ := hs; rfl
  | convert s d x => simp only [stepOp, Option.map_eq_some_iff, Prod.mk.injEq] at hs; obtain ⟨_, _, _, rfl⟩ := hs; rfl
  | makeFunc f a b => cases f <;> cases hs; rfl
  | fieldAddr s x f => simp only [stepOp, Option.map_eq_some_iff, Prod.mk.injEq] at hs; obtain ⟨_, _, _, rfl⟩ := hs; rfl
  | field s x f => simp only [stepOp, Option.map_eq_some_iff, Prod.mk.injEq] at hs; obtain ⟨_, _, _, rfl⟩ := hs; rfl
  | indexAddr t x y =>
    simp only [stepOp] at hs
    split at hs
    · simp only [Option.map_eq_some_iff, Prod.mk.injEq] at hs; obtain ⟨_, _, _, rfl⟩ := hs; rfl
    · cases hs
  | index t x y => simp only [stepOp, Option.map_eq_some_iff, Prod.mk.injEq] at hs; obtain ⟨_, _, _, rfl⟩ := hs; rfl
  | extract x i =>
    simp only [stepOp] at hs
    split at hs
    · simp only [Option.map_eq_some_iff, Prod.mk.injEq] at hs; obtain ⟨_, _, _, rfl⟩ := hs; rfl
    · cases hs
  | load t x => simp only [stepOp, Option.map_eq_some_iff, Prod.mk.injEq] at hs; obtain ⟨_, _, _, rfl⟩ := hs; rfl
  | slice t x lo hi mx =>
    simp only [stepOp] at hs
    split at hs
    · simp only [Option.map_eq_some_iff, Prod.mk.injEq] at hs; obtain ⟨_, _, _, rfl⟩ := hs; rfl
    · cases hs
  | _ => simp [isPure, isRead] at hst
end
end Go.Sym
