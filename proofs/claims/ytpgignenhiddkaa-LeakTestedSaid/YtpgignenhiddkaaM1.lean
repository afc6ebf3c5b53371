/- Abstract values and heaps, and how they stand for Go's values and worlds: definitions and first lemmas. No program is named here. (own texts put together: SymA SymB SymC SymD SymE SymF SymG SymI SymJ SymJm SymK SymL) -/
import Derived.RangeFuncLeaves
import Derived.RangeFuncRecord
import Derived.Below
import Derived.TacticsIn
namespace Go.Sym

/-- where a block of the abstract heap lies: the block, the first cell, all cells of the block, the size of an element -/
structure Loc where
  b : Nat
  base : Nat := 0
  room : Nat := 0
  esz : Nat := 0

abbrev Env := Nat → Option Loc

/-- the mark of a capacity that is not known -/
def UNK : Nat := 9223372036854775808

/-- the capacity of a slice of a row, which is not known -/
def capOf (L : Loc) (off : Nat) : Nat := (L.room - (L.base + off)) / L.esz

mutual
def conc (E : Env) : Value → Option Value
  | .bool b => some (.bool b)
  | .int k n => some (.int k n)
  | .string s => some (.string s)
  | .pointer none => some (.pointer none)
  | .pointer (some ⟨id, off, none⟩) => (E id).map fun L => .pointer (some ⟨L.b, L.base + off, none⟩)
  | .slice none 0 0 => some (.slice none 0 0)
  | .slice (some ⟨id, off, none⟩) len cap => (E id).bind fun L => if cap < UNK then some (.slice (some ⟨L.b, L.base + off, none⟩) len cap)
      else if len ≤ capOf L off then some (.slice (some ⟨L.b, L.base + off, none⟩) len (capOf L off)) else none
  | .slice (some ⟨id, off, some s⟩) len cap => some (.slice (some ⟨id, off, some s⟩) len cap)
  | .map none => some (.map none)
  | .map (some id) => (E id).map fun L => .map (some L.b)
  | .func (.func f) a c => (concA E a).bind fun a' => (concA E c).map fun c' => .func (.func f) a' c'
  | .func (.yield l) a c => (E l).bind fun L => (concA E a).bind fun a' => (concA E c).map fun c' => .func (.yield L.b) a' c'
  | .nilFunc => some .nilFunc
  | .nilIface => some .nilIface
  | .iface t v => (conc E v).map fun c => .iface t c
  | .agg cs => (concA E cs).map fun l => .agg l
  | .tuple cs => (concA E cs).map fun l => .tuple l
  | _ => none
def concA (E : Env) : Array Value → Option (Array Value)
  | ⟨l⟩ => (concL E l).map List.toArray
def concL (E : Env) : List Value → Option (List Value)
  | [] => some []
  | v :: l => (conc E v).bind fun c => (concL E l).map fun m => c :: m
end

mutual
def flat : Value → Bool
  | .bool _ => true
  | .int _ _ => true
  | .string _ => true
  | .pointer none => true
  | .slice none 0 0 => true
  | .map none => true
  | .func (.func _) a c => flatA a && flatA c
  | .nilFunc => true
  | .nilIface => true
  | .iface _ v => flat v
  | .agg cs => flatA cs
  | .tuple cs => flatA cs
  | _ => false
def flatA : Array Value → Bool
  | ⟨l⟩ => flatL l
def flatL : List Value → Bool
  | [] => true
  | v :: l => flat v && flatL l
end

mutual
theorem conc_flat (E : Env) : ∀ v, flat v = true → conc E v = some v
  | .bool _, _ => by simp only [conc]
  | .int _ _, _ => by simp only [conc]
  | .string _, _ => by simp only [conc]
  | .pointer none, _ => by simp only [conc]
  | .slice none 0 0, _ => by simp only [conc]
  | .map none, _ => by simp only [conc]
  | .func (.func f) a c, h => by
    simp only [flat, Bool.and_eq_true] at h
    simp only [conc, concA_flat E a h.1, concA_flat E c h.2, Option.bind_some, Option.map_some]
  | .nilFunc, _ => by simp only [conc]
  | .nilIface, _ => by simp only [conc]
  | .iface _ v, h => by simp only [flat] at h; simp only [conc, conc_flat E v h, Option.map_some]
  | .agg cs, h => by simp only [flat] at h; simp only [conc, concA_flat E cs h, Option.map_some]
  | .tuple cs, h => by simp only [flat] at h; simp only [conc, concA_flat E cs h, Option.map_some]
theorem concA_flat (E : Env) : ∀ v, flatA v = true → concA E v = some v
  | ⟨l⟩, h => by simp only [flatA] at h; simp only [concA, concL_flat E l h, Option.map_some]
theorem concL_flat (E : Env) : ∀ v, flatL v = true → concL E v = some v
  | [], _ => by simp only [concL]
  | v :: l, h => by
    simp only [flatL, Bool.and_eq_true] at h
    simp only [concL, conc_flat E v h.1, concL_flat E l h.2, Option.bind_some, Option.map_some]
end

/-- one environment knows all that another one knows -/
def Ext (E E' : Env) : Prop := ∀ id L, E id = some L → E' id = some L
theorem Ext.refl (E : Env) : Ext E E := fun _ _ h => h
theorem Ext.trans {E F G : Env} (h : Ext E F) (k : Ext F G) : Ext E G := fun id L x => k id L (h id L x)

mutual
theorem conc_ext {E E' : Env} (hE : Ext E E') : ∀ (v c : Value), conc E v = some c → conc E' v = some c
  | .bool _, c, h => by simpa only [conc] using h
  | .int _ _, c, h => by simpa only [conc] using h
  | .string _, c, h => by simpa only [conc] using h
  | .pointer none, c, h => by simpa only [conc] using h
  | .pointer (some ⟨id, off, none⟩), c, h => by
    simp only [conc, Option.map_eq_some_iff] at h ⊢
    obtain ⟨L, hL, rfl⟩ := h
    exact ⟨L, hE _ _ hL, rfl⟩
  | .pointer (some ⟨id, off, some s⟩), c, h => by simp [conc] at h
  | .slice none 0 0, c, h => by simpa only [conc] using h
  | .slice none 0 (n + 1), c, h => by simp [conc] at h
  | .slice none (n + 1) m, c, h => by simp [conc] at h
  | .slice (some ⟨id, off, none⟩) len cap, c, h => by
    simp only [conc, Option.bind_eq_some_iff] at h ⊢
    obtain ⟨L, hL, h⟩ := h
    exact ⟨L, hE _ _ hL, h⟩
  | .slice (some ⟨id, off, some s⟩) len cap, c, h => by simpa only [conc] using h
  | .map none, c, h => by simpa only [conc] using h
  | .map (some id), c, h => by
    simp only [conc, Option.map_eq_some_iff] at h ⊢
    obtain ⟨L, hL, rfl⟩ := h
    exact ⟨L, hE _ _ hL, rfl⟩
  | .func (.func f) a b, c, h => by
    simp only [conc, Option.bind_eq_some_iff, Option.map_eq_some_iff] at h ⊢
    obtain ⟨a', ha, b', hb, rfl⟩ := h
    exact ⟨a', concA_ext hE a a' ha, b', concA_ext hE b b' hb, rfl⟩
  | .func (.yield l) a b, c, h => by
    simp only [conc, Option.bind_eq_some_iff, Option.map_eq_some_iff] at h ⊢
    obtain ⟨L, hL, a', ha, b', hb, rfl⟩ := h
    exact ⟨L, hE _ _ hL, a', concA_ext hE a a' ha, b', concA_ext hE b b' hb, rfl⟩
  | .func (.method _) a b, c, h => by simp [conc] at h
  | .func (.methodOf _ _) a b, c, h => by simp [conc] at h
  | .func (.via _ _ _ _) a b, c, h => by simp [conc] at h
  | .nilFunc, c, h => by simpa only [conc] using h
  | .nilIface, c, h => by simpa only [conc] using h
  | .iface t v, c, h => by
    simp only [conc, Option.map_eq_some_iff] at h ⊢
    obtain ⟨x, hx, rfl⟩ := h
    exact ⟨x, conc_ext hE v x hx, rfl⟩
  | .agg cs, c, h => by
    simp only [conc, Option.map_eq_some_iff] at h ⊢
    obtain ⟨x, hx, rfl⟩ := h
    exact ⟨x, concA_ext hE cs x hx, rfl⟩
  | .tuple cs, c, h => by
    simp only [conc, Option.map_eq_some_iff] at h ⊢
    obtain ⟨x, hx, rfl⟩ := h
    exact ⟨x, concA_ext hE cs x hx, rfl⟩
  | .float _ _, c, h => by simp [conc] at h
  | .complex _ _ _, c, h => by simp [conc] at h
  | .chan _, c, h => by simp [conc] at h
theorem concA_ext {E E' : Env} (hE : Ext E E') : ∀ (v c : Array Value), concA E v = some c → concA E' v = some c
  | ⟨l⟩, c, h => by
    simp only [concA, Option.map_eq_some_iff] at h ⊢
    obtain ⟨x, hx, rfl⟩ := h
    exact ⟨x, concL_ext hE l x hx, rfl⟩
theorem concL_ext {E E' : Env} (hE : Ext E E') : ∀ (v c : List Value), concL E v = some c → concL E' v = some c
  | [], c, h => by simpa only [concL] using h
  | v :: l, c, h => by
    simp only [concL, Option.bind_eq_some_iff, Option.map_eq_some_iff] at h ⊢
    obtain ⟨x, hx, m, hm, rfl⟩ := h
    exact ⟨x, conc_ext hE v x hx, m, concL_ext hE l m hm, rfl⟩
end

end Go.Sym
namespace Go.Sym

/-! lists of values -/
theorem concL_length {E : Env} : ∀ {l m : List Value}, concL E l = some m → m.length = l.length
  | [], m, h => by simp only [concL, Option.some.injEq] at h; subst h; rfl
  | v :: l, m, h => by
    simp only [concL, Option.bind_eq_some_iff, Option.map_eq_some_iff] at h
    obtain ⟨x, hx, k, hk, rfl⟩ := h
    simp [concL_length hk]

theorem concL_get {E : Env} : ∀ {l m : List Value}, concL E l = some m → ∀ (i : Nat) (v : Value), l[i]? = some v → ∃ c, m[i]? = some c ∧ conc E v = some c
  | [], m, h, i, v, hv => by simp at hv
  | u :: l, m, h, i, v, hv => by
    simp only [concL, Option.bind_eq_some_iff, Option.map_eq_some_iff] at h
    obtain ⟨x, hx, k, hk, rfl⟩ := h
    cases i with
    | zero => simp only [List.getElem?_cons_zero, Option.some.injEq] at hv; subst hv; exact ⟨x, by simp, hx⟩
    | succ i => simp only [List.getElem?_cons_succ] at hv ⊢; exact concL_get hk i v hv

theorem concL_append {E : Env} : ∀ {a b a' b' : List Value}, concL E a = some a' → concL E b = some b' → concL E (a ++ b) = some (a' ++ b')
  | [], b, a', b', h, k => by simp only [concL, Option.some.injEq] at h; subst h; simpa using k
  | u :: a, b, a', b', h, k => by
    simp only [concL, Option.bind_eq_some_iff, Option.map_eq_some_iff] at h
    obtain ⟨x, hx, m, hm, rfl⟩ := h
    simp only [List.cons_append, concL, hx, concL_append hm k, Option.bind_some, Option.map_some]

theorem concL_take {E : Env} : ∀ {l m : List Value} (n : Nat), concL E l = some m → concL E (l.take n) = some (m.take n)
  | [], m, n, h => by simp only [concL, Option.some.injEq] at h; subst h; simp [concL]
  | u :: l, m, 0, h => by simp [concL]
  | u :: l, m, n + 1, h => by
    simp only [concL, Option.bind_eq_some_iff, Option.map_eq_some_iff] at h
    obtain ⟨x, hx, k, hk, rfl⟩ := h
    simp only [List.take_succ_cons, concL, hx, concL_take n hk, Option.bind_some, Option.map_some]

theorem concL_drop {E : Env} : ∀ {l m : List Value} (n : Nat), concL E l = some m → concL E (l.drop n) = some (m.drop n)
  | [], m, n, h => by simp only [concL, Option.some.injEq] at h; subst h; simp [concL]
  | u :: l, m, 0, h => by simpa using h
  | u :: l, m, n + 1, h => by
    simp only [concL, Option.bind_eq_some_iff, Option.map_eq_some_iff] at h
    obtain ⟨x, hx, k, hk, rfl⟩ := h
    simp only [List.drop_succ_cons]; exact concL_drop n hk

theorem concL_set {E : Env} {v c : Value} (hv : conc E v = some c) : ∀ {l m : List Value} (n : Nat), concL E l = some m → concL E (l.set n v) = some (m.set n c)
  | [], m, n, h => by simp only [concL, Option.some.injEq] at h; subst h; simp [concL]
  | u :: l, m, 0, h => by
    simp only [concL, Option.bind_eq_some_iff, Option.map_eq_some_iff] at h
    obtain ⟨x, hx, k, hk, rfl⟩ := h
    simp only [List.set_cons_zero, concL, hv, hk, Option.bind_some, Option.map_some]
  | u :: l, m, n + 1, h => by
    simp only [concL, Option.bind_eq_some_iff, Option.map_eq_some_iff] at h
    obtain ⟨x, hx, k, hk, rfl⟩ := h
    simp only [List.set_cons_succ, concL, hx, concL_set hv n hk, Option.bind_some, Option.map_some]

theorem concL_replicate {E : Env} {v c : Value} (hv : conc E v = some c) : ∀ n, concL E (List.replicate n v) = some (List.replicate n c)
  | 0 => by simp [concL]
  | n + 1 => by simp only [List.replicate_succ, concL, hv, concL_replicate hv n, Option.bind_some, Option.map_some]

theorem conc_undef (E : Env) : conc E undef = some undef := by simp only [undef, conc, concA, concL, Option.map_some]

theorem conc_agg {E : Env} {l m : List Value} (h : concL E l = some m) : conc E (.agg l.toArray) = some (.agg m.toArray) := by
  show (concA E ⟨l⟩).map _ = _
  simp only [concA, h, Option.map_some]
theorem conc_tuple {E : Env} {l m : List Value} (h : concL E l = some m) : conc E (.tuple l.toArray) = some (.tuple m.toArray) := by
  show (concA E ⟨l⟩).map _ = _
  simp only [concA, h, Option.map_some]
theorem concA_toList {E : Env} {a b : Array Value} (h : concA E a = some b) : concL E a.toList = some b.toList := by
  cases a with | mk l => simp only [concA, Option.map_eq_some_iff] at h; obtain ⟨m, hm, rfl⟩ := h; simpa using hm
theorem concA_of {E : Env} {a b : Array Value} (h : concL E a.toList = some b.toList) : concA E a = some b := by
  cases a with | mk l => cases b with | mk m => simp only [concA]; rw [h]; rfl

/-- the cells of a value -/
theorem conc_cells {E : Env} {v c : Value} (h : conc E v = some c) : concL E v.cells.toList = some c.cells.toList := by
  cases v with
  | agg cs => simp only [conc, Option.map_eq_some_iff] at h; obtain ⟨m, hm, rfl⟩ := h; simpa [Value.cells] using concA_toList hm
  | pointer a =>
    have : ∀ x, c ≠ .agg x := by
      intro x hx; subst hx
      match a with
      | none => simp [conc] at h
      | some ⟨_, _, none⟩ => simp [conc] at h
      | some ⟨_, _, some _⟩ => simp [conc] at h
    cases c <;> first | exact absurd rfl (this _) | (simp only [Value.cells, concL, h, Option.bind_some, Option.map_some])
  | slice a n m =>
    have : ∀ x, c ≠ .agg x := by
      intro x hx; subst hx
      match a, n, m with
      | none, 0, 0 => simp [conc] at h
      | none, n + 1, m => simp [conc] at h
      | none, 0, m + 1 => simp [conc] at h
      | some ⟨_, _, none⟩, _, _ =>
        simp only [conc, Option.bind_eq_some_iff] at h
        obtain ⟨L, _, h⟩ := h
        split at h
        · cases h
        · split at h <;> cases h
      | some ⟨_, _, some _⟩, _, _ => simp [conc] at h
    cases c <;> first | exact absurd rfl (this _) | (simp only [Value.cells, concL, h, Option.bind_some, Option.map_some])
  | map a =>
    have : ∀ x, c ≠ .agg x := by
      intro x hx; subst hx
      cases a <;> simp [conc] at h
    cases c <;> first | exact absurd rfl (this _) | (simp only [Value.cells, concL, h, Option.bind_some, Option.map_some])
  | func f a b =>
    have : ∀ x, c ≠ .agg x := by
      intro x hx; subst hx
      cases f <;> simp [conc, Option.bind_eq_some_iff] at h
    cases c <;> first | exact absurd rfl (this _) | (simp only [Value.cells, concL, h, Option.bind_some, Option.map_some])
  | iface t v =>
    have h' := h
    simp only [conc, Option.map_eq_some_iff] at h'; obtain ⟨x, hx, rfl⟩ := h'; simp only [Value.cells, concL, h, Option.bind_some, Option.map_some]
  | tuple vs =>
    have h' := h
    simp only [conc, Option.map_eq_some_iff] at h'; obtain ⟨x, hx, rfl⟩ := h'; simp only [Value.cells, concL, h, Option.bind_some, Option.map_some]
  | bool b => have h' := h; simp only [conc, Option.some.injEq] at h'; subst h'; simp only [Value.cells, concL, h, Option.bind_some, Option.map_some]
  | int k n => have h' := h; simp only [conc, Option.some.injEq] at h'; subst h'; simp only [Value.cells, concL, h, Option.bind_some, Option.map_some]
  | string s => have h' := h; simp only [conc, Option.some.injEq] at h'; subst h'; simp only [Value.cells, concL, h, Option.bind_some, Option.map_some]
  | nilFunc => have h' := h; simp only [conc, Option.some.injEq] at h'; subst h'; simp only [Value.cells, concL, h, Option.bind_some, Option.map_some]
  | nilIface => have h' := h; simp only [conc, Option.some.injEq] at h'; subst h'; simp only [Value.cells, concL, h, Option.bind_some, Option.map_some]
  | float _ _ => simp [conc] at h
  | complex _ _ _ => simp [conc] at h
  | chan _ => simp [conc] at h

/-! blocks -/
inductive Blk where
  | cells (vs : List Value) (elem : TypeId)
  | row (vs : List Value) (elem : TypeId) (sz : Nat)
  | obj (o : Obj)
  | loop (tm : List Value) (ps : Array Tmp) (assign body : Code) (st : LoopState) (pend : Option Code) (df : Nat)
  | iter (m since : Nat) (seen : Array Nat) (last : Nat)
  | dead
  deriving Inhabited

abbrev H := List Blk

def H.get (h : H) (id : Nat) : Option Blk := if id % 2 = 0 then h[id / 2]? else none
def H.put (h : H) (id : Nat) (b : Blk) : H := if id % 2 = 0 then h.set (id / 2) b else h
def H.new (h : H) : Nat := 2 * h.length
def gLive (g : Nat → Option Blk) (id : Nat) : Prop := ∃ b, g id = some b ∧ b ≠ .dead
abbrev H.live (h : H) (id : Nat) : Prop := gLive h.get id

def BRel (E : Env) (L : Loc) (B : Blk) (o : Option Obj) : Prop :=
  match B with
  | .cells vs elem => ∃ cs, concL E vs = some cs ∧ o = some (.cells cs.toArray elem) ∧ L.base = 0
  | .row vs elem sz => ∃ c cs, o = some (.cells c elem) ∧ concL E vs = some cs ∧ c.size = L.room ∧ (L.esz = sz ∧ 0 < sz) ∧ ∃ pre post, c.toList = pre ++ cs ++ post ∧ pre.length = L.base
  | .obj ob => o = some ob ∧ L.base = 0
  | .loop tm ps as body st pend df => ∃ fn tc D, concL E tm = some tc ∧ E df = some D ∧
      o = some (.loop { state := st, pending := pend, fn := fn, tmps := tc.toArray, params := ps, assign := as, body := body, defers := D.b }) ∧ L.base = 0
  | .iter m since seen last => ∃ D, E m = some D ∧ o = some (.mapIter (some D.b) since seen last) ∧ L.base = 0
  | .dead => True

theorem BRel.ext {E E' : Env} (hE : Ext E E') {L : Loc} {B : Blk} {o : Option Obj} (h : BRel E L B o) : BRel E' L B o := by
  cases B with
  | cells vs elem => obtain ⟨cs, h1, h2⟩ := h; exact ⟨cs, concL_ext hE _ _ h1, h2⟩
  | row vs elem sz => obtain ⟨c, cs, h0, h1, h2⟩ := h; exact ⟨c, cs, h0, concL_ext hE _ _ h1, h2⟩
  | obj ob => exact h
  | loop tm ps as body st pend df => obtain ⟨fn, tc, D, h1, h2, h3⟩ := h; exact ⟨fn, tc, D, concL_ext hE _ _ h1, hE _ _ h2, h3⟩
  | iter m since seen last => obtain ⟨D, h1, h2⟩ := h; exact ⟨D, hE _ _ h1, h2⟩
  | dead => trivial

/-- how an abstract heap (what it holds, number by number) stands for a world -/
structure RG (I : Nat → Option Obj) (E : Env) (g : Nat → Option Blk) (w : World) : Prop where
  blk : ∀ id L, E id = some L → id % 2 = 0 → ∃ B, g id = some B ∧ BRel E L B w.heap[L.b]?
  inp : ∀ b o, I b = some o → E (2 * b + 1) = some { b := b } ∧ w.heap[b]? = some o
  inpd : ∀ b, E (2 * b + 1) = some { b := b }
  inj : ∀ i j L M, E i = some L → E j = some M → i % 2 = 0 → j % 2 = 0 → gLive g i → gLive g j → L.b = M.b → i = j
  sep : ∀ i L, E i = some L → i % 2 = 0 → gLive g i → I L.b = none
abbrev R (I : Nat → Option Obj) (E : Env) (h : H) (w : World) : Prop := RG I E h.get w

/-- how both go on -/
structure AdvG (E : Env) (g : Nat → Option Blk) (N : Nat) (w : World) (E' : Env) (g' : Nat → Option Blk) (N' : Nat) (w' : World) : Prop where
  ext : Ext E E'
  frame : ∀ b, b < w.heap.size → (∀ id L, E id = some L → id % 2 = 0 → gLive g id → L.b ≠ b) → w'.heap[b]? = w.heap[b]?
  grow : w.heap.size ≤ w'.heap.size
  fresh : ∀ id L, E id = none → E' id = some L → (id % 2 = 0 ∧ N ≤ id) ∧ (w.heap.size ≤ L.b ∨ ∃ i M, E i = some M ∧ i % 2 = 0 ∧ gLive g i ∧ M.b = L.b)
  dead : ∀ id L, E id = some L → id % 2 = 0 → gLive g' id → gLive g id
  tape : w'.tape = w.tape
  os : w'.os = w.os
  out : w'.output = w.output
  len : N ≤ N'
abbrev Adv (E : Env) (h : H) (w : World) (E' : Env) (h' : H) (w' : World) : Prop := AdvG E h.get h.new w E' h'.get h'.new w'

theorem AdvG.refl (E : Env) (g : Nat → Option Blk) (N : Nat) (w : World) : AdvG E g N w E g N w :=
  ⟨Ext.refl E, fun _ _ _ => rfl, Nat.le_refl _, fun _ _ h1 h2 => by simp [h1] at h2, fun _ _ _ _ h => h, rfl, rfl, rfl, Nat.le_refl _⟩
theorem Adv.refl (E : Env) (h : H) (w : World) : Adv E h w E h w := AdvG.refl _ _ _ _

theorem AdvG.trans {E E1 E2 : Env} {g g1 g2 : Nat → Option Blk} {N N1 N2 : Nat} {w w1 w2 : World} (a : AdvG E g N w E1 g1 N1 w1) (b : AdvG E1 g1 N1 w1 E2 g2 N2 w2) : AdvG E g N w E2 g2 N2 w2 where
  ext := a.ext.trans b.ext
  frame := fun k hk hn => by
    refine (b.frame k (Nat.lt_of_lt_of_le hk a.grow) fun id L hL hid hl => ?_).trans (a.frame k hk hn)
    cases hE : E id with
    | some M =>
      have := a.ext _ _ hE
      rw [hL] at this; cases this
      exact hn _ _ hE hid (a.dead _ _ hE hid hl)
    | none =>
      obtain ⟨_, hb | ⟨i, M, hM, hi, hil, hMb⟩⟩ := a.fresh _ _ hE hL
      · omega
      · rw [← hMb]; exact hn _ _ hM hi hil
  grow := Nat.le_trans a.grow b.grow
  fresh := fun id L h0 h2 => by
    cases hE : E1 id with
    | some M =>
      have := b.ext _ _ hE
      rw [h2] at this; cases this
      exact a.fresh _ _ h0 hE
    | none =>
      obtain ⟨h3, hb | ⟨i, M, hM, hi, hil, hMb⟩⟩ := b.fresh _ _ hE h2
      · exact ⟨⟨h3.1, Nat.le_trans a.len h3.2⟩, .inl (Nat.le_trans a.grow hb)⟩
      · refine ⟨⟨h3.1, Nat.le_trans a.len h3.2⟩, ?_⟩
        cases hEi : E i with
        | some M' =>
          have := a.ext _ _ hEi
          rw [hM] at this; cases this
          exact .inr ⟨i, M, hEi, hi, a.dead _ _ hEi hi hil, hMb⟩
        | none =>
          obtain ⟨_, hb | ⟨i', M', hM', hi', hil', hMb'⟩⟩ := a.fresh _ _ hEi hM
          · exact .inl (by omega)
          · exact .inr ⟨i', M', hM', hi', hil', by omega⟩
  dead := fun id L h0 hid hl => a.dead id L h0 hid (b.dead id L (a.ext _ _ h0) hid hl)
  tape := b.tape.trans a.tape
  os := b.os.trans a.os
  out := b.out.trans a.out
  len := Nat.le_trans a.len b.len

/-- a draw -/
theorem RG.drew {I E g w} (r : RG I E g w) : RG I E g w.drew := ⟨r.blk, r.inp, r.inpd, r.inj, r.sep⟩
theorem Adv.drew (E : Env) (h : H) (w : World) : Adv E h w E h w.drew :=
  ⟨Ext.refl E, fun _ _ _ => rfl, Nat.le_refl _, fun _ _ h1 h2 => by simp [h1] at h2, fun _ _ _ _ h => h, rfl, rfl, rfl, Nat.le_refl _⟩

theorem H.get_lt {h : H} {id : Nat} {b : Blk} (g : h.get id = some b) : id < h.new ∧ id % 2 = 0 := by
  unfold H.get at g
  split at g
  · obtain ⟨hl, _⟩ := List.getElem?_eq_some_iff.1 g
    unfold H.new; omega
  · cases g

theorem H.get_append {h : H} {id : Nat} {b : Blk} (g : h.get id = some b) (l : H) : (h ++ l : H).get id = some b := by
  have hlt := (H.get_lt g).1
  unfold H.get at *
  split at g
  · rename_i h2
    rw [if_pos h2, List.getElem?_append_left (by unfold H.new at hlt; omega)]; exact g
  · cases g

theorem H.get_new (h : H) (b : Blk) : (h ++ [b] : H).get h.new = some b := by
  unfold H.get H.new
  rw [if_pos (by omega)]
  have : 2 * h.length / 2 = h.length := by omega
  rw [this]; simp

theorem H.get_put_same {h : H} {id : Nat} {b : Blk} (g : h.get id = some b) (b' : Blk) : (h.put id b').get id = some b' := by
  obtain ⟨hlt, h2⟩ := H.get_lt g
  unfold H.get H.put H.new at *
  rw [if_pos h2, if_pos h2, List.getElem?_set_self (by omega)]

theorem H.get_put_ne {h : H} {id i : Nat} (b' : Blk) (hn : i ≠ id) : (h.put id b').get i = h.get i := by
  unfold H.get H.put
  split <;> rename_i h2
  · split <;> rename_i h1
    · rw [List.getElem?_set_ne (by omega)]
    · rfl
  · rfl

theorem H.length_put (h : H) (id : Nat) (b : Blk) : (h.put id b).length = h.length := by unfold H.put; split <;> simp

/-- one number more -/
def Env.upd (E : Env) (id : Nat) (L : Loc) : Env := fun i => if i = id then some L else E i
theorem Env.upd_self (E : Env) (id : Nat) (L : Loc) : E.upd id L id = some L := if_pos rfl
theorem Env.upd_ne (E : Env) {id i : Nat} (L : Loc) (h : i ≠ id) : E.upd id L i = E i := if_neg h
theorem Ext.upd {E : Env} {id : Nat} (h : E id = none) (L : Loc) : Ext E (E.upd id L) := fun i M hM => by
  rw [Env.upd_ne _ _ (fun e => by subst e; rw [h] at hM; cases hM)]; exact hM

theorem RG.live_lt {I E g w} (r : RG I E g w) {id : Nat} {M : Loc} (hM : E id = some M) (hid : id % 2 = 0) (hl : gLive g id) : M.b < w.heap.size := by
  obtain ⟨B', hg, hd⟩ := hl
  obtain ⟨B'', hg', hrel⟩ := r.blk _ _ hM hid
  rw [hg] at hg'; cases hg'
  have : (w.heap[M.b]?).isSome = true := by
    cases B' with
    | cells vs elem => obtain ⟨cs, _, h2, _⟩ := hrel; rw [h2]; rfl
    | row vs elem sz => obtain ⟨c, cs, h0, _⟩ := hrel; rw [h0]; rfl
    | obj ob => rw [hrel.1]; rfl
    | loop tm ps as body st pend df => obtain ⟨fn, tc, D, _, _, h3, _⟩ := hrel; rw [h3]; rfl
    | iter m since seen last => obtain ⟨D, _, h3, _⟩ := hrel; rw [h3]; rfl
    | dead => exact absurd rfl hd
  rw [Option.isSome_iff_exists] at this
  obtain ⟨x, hx⟩ := this
  exact (Array.getElem?_eq_some_iff.1 hx).1

theorem RG.inp_lt {I E g w} (r : RG I E g w) {b : Nat} {o : Obj} (hb : I b = some o) : b < w.heap.size :=
  (Array.getElem?_eq_some_iff.1 (r.inp b o hb).2).1

theorem R.new_none {I E h w} (r : R I E h w) : E h.new = none := by
  cases hE : E h.new with
  | none => rfl
  | some M =>
    obtain ⟨B', hg, _⟩ := r.blk _ _ hE (by unfold H.new; omega)
    have := (H.get_lt hg).1; omega

theorem H.live_append {h : H} {B : Blk} {id : Nat} (hne : id ≠ h.new) (hl : (h ++ [B] : H).live id) : h.live id := by
  obtain ⟨B', hg, hd⟩ := hl
  refine ⟨B', ?_, hd⟩
  have h2 := (H.get_lt hg)
  unfold H.get H.new at *
  rw [if_pos h2.2] at hg ⊢
  rw [List.length_append, List.length_singleton] at h2
  rwa [List.getElem?_append_left (by omega)] at hg

theorem heap_alloc_lt (w : World) (o : Obj) (k : Nat) (h : k < w.heap.size) : (w.alloc o).heap[k]? = w.heap[k]? := by
  show (w.heap.push o)[k]? = _
  rw [Array.getElem?_push, if_neg (by omega)]
theorem heap_alloc_new (w : World) (o : Obj) : (w.alloc o).heap[w.heap.size]? = some o := by
  show (w.heap.push o)[w.heap.size]? = _
  rw [Array.getElem?_push, if_pos rfl]
theorem size_alloc' (w : World) (o : Obj) : (w.alloc o).heap.size = w.heap.size + 1 := by
  show (w.heap.push o).size = _
  simp

/-- a new block, known by a new number -/
theorem R.push {I E h w} (r : R I E h w) {B : Blk} {o : Obj} {L : Loc} (hb : L.b = w.heap.size)
    (hB : BRel (E.upd h.new L) L B (some o)) :
    R I (E.upd h.new L) (h ++ [B] : H) (w.alloc o) ∧ Adv E h w (E.upd h.new L) (h ++ [B] : H) (w.alloc o) := by
  have hnone := r.new_none
  have hext : Ext E (E.upd h.new L) := Ext.upd hnone L
  have hold : ∀ b, b < w.heap.size → (w.alloc o).heap[b]? = w.heap[b]? := fun b hlt => heap_alloc_lt w o b hlt
  have hnew := heap_alloc_new w o
  refine ⟨⟨?_, ?_, ?_, ?_, ?_⟩, ⟨hext, fun b hb' _ => hold b hb', by rw [size_alloc']; omega, ?_, ?_, rfl, rfl, rfl, by unfold H.new; simp; omega⟩⟩
  · intro id M hM hid
    by_cases e : id = h.new
    · subst e; rw [Env.upd_self] at hM; cases hM
      exact ⟨B, H.get_new h B, by rw [hb, hnew]; exact hB⟩
    · rw [Env.upd_ne _ _ e] at hM
      obtain ⟨B', hg, hrel⟩ := r.blk _ _ hM hid
      refine ⟨B', H.get_append hg _, ?_⟩
      by_cases hd : B' = .dead
      · subst hd; trivial
      · rw [hold _ (r.live_lt hM hid ⟨B', hg, hd⟩)]; exact hrel.ext hext
  · intro b o' hbo
    obtain ⟨h1, h2⟩ := r.inp b o' hbo
    exact ⟨hext _ _ h1, by rw [hold _ (r.inp_lt hbo)]; exact h2⟩
  · intro b
    rw [Env.upd_ne _ _ (by unfold H.new; omega)]
    exact r.inpd b
  · intro i j L1 M1 hi hj hi2 hj2 hli hlj he
    by_cases e1 : i = h.new <;> by_cases e2 : j = h.new
    · omega
    · subst e1; rw [Env.upd_self] at hi; cases hi
      rw [Env.upd_ne _ _ e2] at hj
      have := r.live_lt hj hj2 (H.live_append e2 hlj); omega
    · subst e2; rw [Env.upd_self] at hj; cases hj
      rw [Env.upd_ne _ _ e1] at hi
      have := r.live_lt hi hi2 (H.live_append e1 hli); omega
    · rw [Env.upd_ne _ _ e1] at hi; rw [Env.upd_ne _ _ e2] at hj
      exact r.inj i j L1 M1 hi hj hi2 hj2 (H.live_append e1 hli) (H.live_append e2 hlj) he
  · intro i L1 hi hi2 hli
    by_cases e1 : i = h.new
    · subst e1; rw [Env.upd_self] at hi; cases hi
      cases hx : I L.b with
      | none => rfl
      | some o' => have := r.inp_lt hx; omega
    · rw [Env.upd_ne _ _ e1] at hi
      exact r.sep i L1 hi hi2 (H.live_append e1 hli)
  · intro id M h0 h1
    by_cases e : id = h.new
    · subst e; rw [Env.upd_self] at h1; cases h1; exact ⟨⟨by unfold H.new; omega, Nat.le_refl _⟩, .inl (by omega)⟩
    · rw [Env.upd_ne _ _ e, h0] at h1; cases h1
  · intro id M h0 hid hl
    refine H.live_append (fun e => ?_) hl
    subst e; rw [hnone] at h0; cases h0

/-- a world in which one block has turned -/
def _root_.Go.World.turn (w : World) (b : Nat) (o : Obj) : World := { w with heap := w.heap.setIfInBounds b o }
theorem heap_turn_ne (w : World) (b : Nat) (o : Obj) (k : Nat) (h : k ≠ b) : (w.turn b o).heap[k]? = w.heap[k]? := by
  show (w.heap.setIfInBounds b o)[k]? = _
  rw [Array.getElem?_setIfInBounds_ne (by omega)]
theorem heap_turn_self (w : World) (b : Nat) (o : Obj) (h : b < w.heap.size) : (w.turn b o).heap[b]? = some o := by
  show (w.heap.setIfInBounds b o)[b]? = _
  rw [Array.getElem?_setIfInBounds_self_of_lt h]

/-- a block that is known turns -/
theorem R.turn {I E h w} (r : R I E h w) {id : Nat} {L : Loc} {B : Blk} {o : Obj} (hid : id % 2 = 0) (hL : E id = some L) (hl : h.live id)
    (hB : BRel E L B (some o)) : R I E (h.put id B) (w.turn L.b o) ∧ Adv E h w E (h.put id B) (w.turn L.b o) := by
  have hlt := r.live_lt hL hid hl
  obtain ⟨B0, hg0, hd0⟩ := hl
  have hlive : ∀ i, (h.put id B).live i → h.live i := by
    rintro i ⟨B', hg, hd⟩
    by_cases e : i = id
    · subst e; exact ⟨B0, hg0, hd0⟩
    · rw [H.get_put_ne _ e] at hg; exact ⟨B', hg, hd⟩
  refine ⟨⟨?_, ?_, r.inpd, ?_, ?_⟩, ⟨Ext.refl E, ?_, ?_, fun _ _ h1 h2 => by simp [h1] at h2, fun i _ _ _ hl => hlive i hl, rfl, rfl, rfl, by unfold H.new; rw [H.length_put]; exact Nat.le_refl _⟩⟩
  · intro i M hM hi
    by_cases e : i = id
    · subst e; rw [hL] at hM; cases hM
      exact ⟨B, H.get_put_same hg0 B, by rw [heap_turn_self _ _ _ hlt]; exact hB⟩
    · obtain ⟨B', hg, hrel⟩ := r.blk _ _ hM hi
      refine ⟨B', by rw [H.get_put_ne _ e]; exact hg, ?_⟩
      by_cases hd : B' = .dead
      · subst hd; trivial
      · rw [heap_turn_ne _ _ _ _ (fun hb => e (r.inj i id M L hM hL hi hid ⟨B', hg, hd⟩ ⟨B0, hg0, hd0⟩ hb))]; exact hrel
  · intro b o' hbo
    obtain ⟨h1, h2⟩ := r.inp b o' hbo
    refine ⟨h1, ?_⟩
    rw [heap_turn_ne]; · exact h2
    intro hb; subst hb
    have := r.sep id L hL hid ⟨B0, hg0, hd0⟩
    rw [hbo] at this; cases this
  · intro i j L1 M1 hi hj hi2 hj2 hli hlj he
    exact r.inj i j L1 M1 hi hj hi2 hj2 (hlive _ hli) (hlive _ hlj) he
  · intro i L1 hi hi2 hli
    exact r.sep i L1 hi hi2 (hlive _ hli)
  · intro b hb hn
    exact heap_turn_ne _ _ _ _ (fun e => hn id L hL hid ⟨B0, hg0, hd0⟩ e.symm)
  · show w.heap.size ≤ (w.heap.setIfInBounds L.b o).size
    simp

/-- a row goes over into another one, in the same block -/
theorem R.over {I E h w} (r : R I E h w) {id : Nat} {L L' : Loc} {B : Blk} {o : Obj} (hid : id % 2 = 0) (hL : E id = some L) (hl : h.live id) (hb : L'.b = L.b)
    (hB : BRel (E.upd h.new L') L' B (some o)) :
    R I (E.upd h.new L') (h.put id .dead ++ [B] : H) (w.turn L.b o) ∧ Adv E h w (E.upd h.new L') (h.put id .dead ++ [B] : H) (w.turn L.b o) := by
  have hlt := r.live_lt hL hid hl
  obtain ⟨B0, hg0, hd0⟩ := hl
  have hnone := r.new_none
  have hext : Ext E (E.upd h.new L') := Ext.upd hnone L'
  have hput : (h.put id .dead).new = h.new := by unfold H.new; rw [H.length_put]
  have hne : id ≠ h.new := fun e => by have := (H.get_lt hg0).1; omega
  have hlive : ∀ i, i ≠ h.new → (h.put id .dead ++ [B] : H).live i → i ≠ id ∧ h.live i := by
    intro i hi hl
    obtain ⟨B', hg, hd⟩ := H.live_append (by rw [hput]; exact hi) hl
    by_cases e : i = id
    · subst e; rw [H.get_put_same hg0] at hg; cases hg; exact absurd rfl hd
    · rw [H.get_put_ne _ e] at hg; exact ⟨e, B', hg, hd⟩
  refine ⟨⟨?_, ?_, ?_, ?_, ?_⟩, ⟨hext, ?_, ?_, ?_, ?_, rfl, rfl, rfl, by unfold H.new; simp [H.length_put]; omega⟩⟩
  · intro i M hM hi
    by_cases e : i = h.new
    · subst e; rw [Env.upd_self] at hM; cases hM
      exact ⟨B, by have := H.get_new (h.put id .dead) B; rwa [hput] at this, by rw [hb, heap_turn_self _ _ _ hlt]; exact hB⟩
    · rw [Env.upd_ne _ _ e] at hM
      obtain ⟨B', hg, hrel⟩ := r.blk _ _ hM hi
      by_cases e2 : i = id
      · subst e2
        exact ⟨.dead, H.get_append (H.get_put_same hg0 _) _, trivial⟩
      · refine ⟨B', H.get_append (by rw [H.get_put_ne _ e2]; exact hg) _, ?_⟩
        by_cases hd : B' = .dead
        · subst hd; trivial
        · rw [heap_turn_ne _ _ _ _ (fun hb => e2 (r.inj i id M L hM hL hi hid ⟨B', hg, hd⟩ ⟨B0, hg0, hd0⟩ hb))]; exact hrel.ext hext
  · intro b o' hbo
    obtain ⟨h1, h2⟩ := r.inp b o' hbo
    refine ⟨hext _ _ h1, ?_⟩
    rw [heap_turn_ne]; · exact h2
    intro hb; subst hb
    have := r.sep id L hL hid ⟨B0, hg0, hd0⟩
    rw [hbo] at this; cases this
  · intro b
    rw [Env.upd_ne _ _ (by unfold H.new; omega)]
    exact r.inpd b
  · intro i j L1 M1 hi hj hi2 hj2 hli hlj he
    by_cases e1 : i = h.new <;> by_cases e2 : j = h.new
    · omega
    · subst e1; rw [Env.upd_self] at hi; cases hi
      rw [Env.upd_ne _ _ e2] at hj
      obtain ⟨hn, hl⟩ := hlive _ e2 hlj
      exact absurd (r.inj j id M1 L hj hL hj2 hid hl ⟨B0, hg0, hd0⟩ (by omega)) hn
    · subst e2; rw [Env.upd_self] at hj; cases hj
      rw [Env.upd_ne _ _ e1] at hi
      obtain ⟨hn, hl⟩ := hlive _ e1 hli
      exact absurd (r.inj i id L1 L hi hL hi2 hid hl ⟨B0, hg0, hd0⟩ (by omega)) hn
    · rw [Env.upd_ne _ _ e1] at hi; rw [Env.upd_ne _ _ e2] at hj
      exact r.inj i j L1 M1 hi hj hi2 hj2 (hlive _ e1 hli).2 (hlive _ e2 hlj).2 he
  · intro i L1 hi hi2 hli
    by_cases e1 : i = h.new
    · subst e1; rw [Env.upd_self] at hi; cases hi
      rw [hb]; exact r.sep id L hL hid ⟨B0, hg0, hd0⟩
    · rw [Env.upd_ne _ _ e1] at hi
      exact r.sep i L1 hi hi2 (hlive _ e1 hli).2
  · intro b hb' hn
    exact heap_turn_ne _ _ _ _ (fun e => hn id L hL hid ⟨B0, hg0, hd0⟩ e.symm)
  · show w.heap.size ≤ (w.heap.setIfInBounds L.b o).size
    simp
  · intro i M h0 h1
    by_cases e : i = h.new
    · subst e; rw [Env.upd_self] at h1; cases h1; exact ⟨⟨by unfold H.new; omega, Nat.le_refl _⟩, .inr ⟨id, L, hL, hid, ⟨B0, hg0, hd0⟩, by omega⟩⟩
    · rw [Env.upd_ne _ _ e, h0] at h1; cases h1
  · intro i M h0 hi hl
    refine (hlive i (fun e => ?_) hl).2
    subst e; rw [hnone] at h0; cases h0

/-- a number is given up -/
theorem R.kill {I E h w} (r : R I E h w) (id : Nat) : R I E (h.put id .dead) w ∧ Adv E h w E (h.put id .dead) w := by
  have hlive : ∀ i, (h.put id .dead).live i → i ≠ id → h.live i := by
    rintro i ⟨B', hg, hd⟩ e
    rw [H.get_put_ne _ e] at hg; exact ⟨B', hg, hd⟩
  have hlive' : ∀ i, (h.put id .dead).live i → h.live i := by
    intro i hl
    by_cases e : i = id
    · subst e
      obtain ⟨B', hg, hd⟩ := hl
      cases hx : h.get i with
      | none =>
        exfalso
        unfold H.get H.put at *
        split at hg
        · rename_i h2
          simp only [if_pos h2] at hx hg
          rw [List.getElem?_eq_none_iff] at hx
          rw [List.getElem?_set, if_pos rfl, if_neg (by omega)] at hg; cases hg
        · cases hg
      | some B0 => rw [H.get_put_same hx] at hg; cases hg; exact absurd rfl hd
    · exact hlive i hl e
  refine ⟨⟨?_, r.inp, r.inpd, ?_, ?_⟩, ⟨Ext.refl E, fun _ _ _ => rfl, Nat.le_refl _, fun _ _ h1 h2 => by simp [h1] at h2, fun i _ _ _ hl => hlive' i hl, rfl, rfl, rfl, by unfold H.new; rw [H.length_put]; exact Nat.le_refl _⟩⟩
  · intro i M hM hi
    obtain ⟨B', hg, hrel⟩ := r.blk _ _ hM hi
    by_cases e : i = id
    · subst e; exact ⟨.dead, H.get_put_same hg _, trivial⟩
    · exact ⟨B', by rw [H.get_put_ne _ e]; exact hg, hrel⟩
  · intro i j L1 M1 hi hj hi2 hj2 hli hlj he
    exact r.inj i j L1 M1 hi hj hi2 hj2 (hlive' _ hli) (hlive' _ hlj) he
  · intro i L1 hi hi2 hli
    exact r.sep i L1 hi hi2 (hlive' _ hli)

end Go.Sym
namespace Go.Sym

/-! the part of the semantics that looks at no memory -/
def free {α : Type} (P : Program) : Sem α → Option α
  | .pure a => some a
  | .program k => free P (k P)
  | .mark _ k => free P k
  | _ => none

theorem free_run {α : Type} {P : Program} : ∀ {s : Sem α} {a : α}, free P s = some a → ∀ w, s.run P w = .ok a w
  | .pure _, _, h, w => by simp only [free, Option.some.injEq] at h; subst h; rfl
  | .program k, a, h, w => by simp only [free] at h; simp only [Sem.run]; exact free_run h w
  | .mark _ k, a, h, w => by simp only [free] at h; simp only [Sem.run]; exact free_run h w

@[simp] theorem free_pure {α : Type} (P : Program) (a : α) : free P (Pure.pure a : Sem α) = some a := rfl
@[simp] theorem free_pure' {α : Type} (P : Program) (a : α) : free P (Sem.pure a) = some a := rfl
@[simp] theorem free_program (P : Program) : free P program = some P := rfl
theorem free_bind' {α β : Type} (P : Program) : ∀ (s : Sem α) (f : α → Sem β), free P (s.bind f) = (free P s).bind fun a => free P (f a)
  | .pure a, f => rfl
  | .program k, f => by simp only [Sem.bind, free]; exact free_bind' P (k P) f
  | .mark _ k, f => by simp only [Sem.bind, free]; exact free_bind' P k f
  | .load _ _ _, f => rfl
  | .store _ _ _ _, f => rfl
  | .new _ _, f => rfl
  | .shape _ _, f => rfl
  | .freeze _ _ _, f => rfl
  | .frozen _ _, f => rfl
  | .getObj _ _, f => rfl
  | .setObj _ _ _, f => rfl
  | .choose _ _, f => rfl
  | .sys _ _, f => rfl
  | .halt _, f => rfl
@[simp] theorem free_bind {α β : Type} (P : Program) (s : Sem α) (f : α → Sem β) : free P (s >>= f) = (free P s).bind fun a => free P (f a) := free_bind' P s f

/-! types -/
def tsz (P : Program) (t : TypeId) : Option Nat := (P.info? t).map (·.size)
def tbytes (P : Program) (t : TypeId) : Option Nat := (P.info? t).map (·.bytes)
def tzero (P : Program) (t : TypeId) : Option Value := (P.info? t).bind (·.zero)
def tagg (P : Program) (t : TypeId) : Option Bool := (P.underlying t).map fun | .struct _ => true | .array _ _ => true | _ => false

section
variable {P : Program}
theorem run_typeInfo_of {t : TypeId} {i : TypeInfo} (h : P.info? t = some i) (w : World) : (typeInfo t).run P w = .ok i w := by
  simp [typeInfo, h]
theorem run_underlying_of {t : TypeId} {d : TypeDesc} (h : P.underlying t = some d) (w : World) : (underlying t).run P w = .ok d w := by
  simp [underlying, h]
theorem run_sizeOf_of {t : TypeId} {n : Nat} (h : tsz P t = some n) (w : World) : (sizeOf t).run P w = .ok n w := by
  simp only [tsz, Option.map_eq_some_iff] at h
  obtain ⟨i, hi, rfl⟩ := h
  simp [sizeOf, run_typeInfo_of hi]
theorem run_zeroValue_of {t : TypeId} {z : Value} (h : tzero P t = some z) (w : World) : (zeroValue t).run P w = .ok z w := by
  simp only [tzero, Option.bind_eq_some_iff] at h
  obtain ⟨i, hi, hz⟩ := h
  simp [zeroValue, run_typeInfo_of hi, hz]
theorem run_isAgg_of {t : TypeId} {b : Bool} (h : tagg P t = some b) (w : World) : (isAgg t).run P w = .ok b w := by
  simp only [tagg, Option.map_eq_some_iff] at h
  obtain ⟨d, hd, hb⟩ := h
  simp only [isAgg, Sem.run_bind, run_underlying_of hd, Result.andThen_ok]
  cases d <;> simp at hb <;> subst hb <;> rfl
end

/-! operands -/
def ev (tm : List Value) : Operand → Value
  | .tmp t => tm.getD t undef
  | .const v => v
  | .global _ => undef
  | .func f => .func (.func f) #[] #[]
def okO : Operand → Bool
  | .tmp _ => true
  | .const v => flat v
  | .global _ => false
  | .func _ => true

theorem conc_ev {E : Env} {tm : List Value} {a : Act} (h : concL E tm = some a.tmps.toList) {x : Operand} (hx : okO x = true) : conc E (ev tm x) = some (a.eval x) := by
  cases x with
  | tmp t =>
    simp only [ev, Act.eval, List.getD_eq_getElem?_getD, Array.getD_eq_getD_getElem?]
    cases ht : tm[t]? with
    | some v =>
      obtain ⟨c, hc, hv⟩ := concL_get h t v ht
      rw [Array.getElem?_toList] at hc
      rw [hc]; exact hv
    | none =>
      have : a.tmps[t]? = none := by
        rw [List.getElem?_eq_none_iff] at ht
        rw [Array.getElem?_eq_none_iff, ← Array.length_toList, concL_length h]; exact ht
      rw [this]; exact conc_undef E
  | const v => exact conc_flat E v hx
  | global g => cases hx
  | func f => simp only [ev, Act.eval, conc, concA, concL, Option.bind_some, Option.map_some]

theorem conc_evs {E : Env} {tm : List Value} {a : Act} (h : concL E tm = some a.tmps.toList) : ∀ (xs : List Operand), xs.all okO = true → concL E (xs.map (ev tm)) = some (xs.map a.eval)
  | [], _ => by simp [concL]
  | x :: xs, hx => by
    simp only [List.all_cons, Bool.and_eq_true] at hx
    simp only [List.map_cons, concL, conc_ev h hx.1, conc_evs h xs hx.2, Option.bind_some, Option.map_some]

/-! reading -/
def inV (I : Nat → Option Obj) : Value → Option Value
  | .bool b => some (.bool b)
  | .int k n => some (.int k n)
  | .string s => some (.string s)
  | .pointer none => some (.pointer none)
  | .slice none 0 0 => some (.slice none 0 0)
  | .slice (some ⟨b, off, none⟩) len cap => if cap < UNK then some (.slice (some ⟨2 * b + 1, off, none⟩) len cap) else none
  | .slice (some ⟨b, off, some s⟩) len cap => some (.slice (some ⟨b, off, some s⟩) len cap)
  | _ => none
def inL (I : Nat → Option Obj) : List Value → Option (List Value)
  | [] => some []
  | v :: l => (inV I v).bind fun a => (inL I l).map fun m => a :: m

theorem conc_inV {I E h w} (r : R I E h w) : ∀ {v a : Value}, inV I v = some a → conc E a = some v
  | .bool b, a, h => by simp only [inV, Option.some.injEq] at h; subst h; simp only [conc]
  | .int k n, a, h => by simp only [inV, Option.some.injEq] at h; subst h; simp only [conc]
  | .string s, a, h => by simp only [inV, Option.some.injEq] at h; subst h; simp only [conc]
  | .pointer none, a, h => by simp only [inV, Option.some.injEq] at h; subst h; simp only [conc]
  | .slice none 0 0, a, h => by simp only [inV, Option.some.injEq] at h; subst h; simp only [conc]
  | .slice (some ⟨b, off, none⟩) len cap, a, h => by
    simp only [inV] at h
    split at h
    · rename_i hb
      cases h
      simp only [conc, r.inpd b, Option.bind_some, if_pos hb, Nat.zero_add]
    · cases h
  | .slice (some ⟨b, off, some s⟩) len cap, a, h => by simp only [inV, Option.some.injEq] at h; subst h; simp only [conc]
theorem concL_inL {I E h w} (r : R I E h w) : ∀ {l m : List Value}, inL I l = some m → concL E m = some l
  | [], m, h => by simp only [inL, Option.some.injEq] at h; subst h; simp only [concL]
  | v :: l, m, h => by
    simp only [inL, Option.bind_eq_some_iff, Option.map_eq_some_iff] at h
    obtain ⟨a, ha, k, hk, rfl⟩ := h
    simp only [concL, conc_inV r ha, concL_inL r hk, Option.bind_some, Option.map_some]

/-- n cells from a place on -/
def rdl (I : Nat → Option Obj) (h : H) (id off n : Nat) : Option (List Value) :=
  if id % 2 = 0 then
    match h[id / 2]? with
    | some (.cells vs _) => if off + n ≤ vs.length then some ((vs.drop off).take n) else none
    | some (.row vs _ _) => if off + n ≤ vs.length then some ((vs.drop off).take n) else none
    | _ => none
  else
    match I (id / 2) with
    | some (.cells c _ _) => if off + n ≤ c.size then inL I ((c.toList.drop off).take n) else none
    | _ => none

theorem cell?_of {w : World} {b : Nat} {c : Array Value} {e : TypeId} {fz : Nat × Nat} (h : w.heap[b]? = some (.cells c e fz)) (i : Nat) : w.cell? ⟨b, i, none⟩ = c[i]? := by
  simp [World.cell?, h]

theorem rdl_sound {I E h w} (r : R I E h w) {id off n : Nat} {L : Loc} (hL : E id = some L) {vs : List Value} (hr : rdl I h id off n = some vs) :
    ∃ cs, concL E vs = some cs ∧ cs.length = n ∧ ∀ j c, cs[j]? = some c → w.cell? ⟨L.b, L.base + off + j, none⟩ = some c := by
  unfold rdl at hr
  split at hr
  · rename_i h2
    obtain ⟨B, hg, hrel⟩ := r.blk id L hL h2
    unfold H.get at hg
    rw [if_pos h2] at hg
    rw [hg] at hr
    cases B with
    | cells ws e =>
      simp only at hr
      split at hr
      · rename_i hlen; cases hr
        obtain ⟨cs, hc, ho, hb⟩ := hrel
        refine ⟨(cs.drop off).take n, concL_take n (concL_drop off hc), by have := concL_length hc; simp; omega, fun j c hj => ?_⟩
        have hjn : j < n := by have := (List.getElem?_eq_some_iff.1 hj).1; simp at this; omega
        rw [cell?_of ho, hb, Nat.zero_add]
        rw [List.getElem?_take_of_lt hjn, List.getElem?_drop] at hj
        simpa using hj
      · cases hr
    | row ws e sz =>
      simp only at hr
      split at hr
      · rename_i hlen; cases hr
        obtain ⟨c0, cs, ho, hc, hsz, _, pre, post, happ, hpre⟩ := hrel
        refine ⟨(cs.drop off).take n, concL_take n (concL_drop off hc), by have := concL_length hc; simp; omega, fun j c hj => ?_⟩
        have hjn : j < n := by have := (List.getElem?_eq_some_iff.1 hj).1; simp at this; omega
        rw [cell?_of ho, ← Array.getElem?_toList, happ]
        rw [List.getElem?_take_of_lt hjn, List.getElem?_drop] at hj
        have hlt : off + j < cs.length := (List.getElem?_eq_some_iff.1 hj).1
        rw [List.append_assoc, List.getElem?_append_right (by omega), List.getElem?_append_left (by omega)]
        rw [← hj]; congr 1; omega
      · cases hr
    | obj o => cases hr
    | loop _ _ _ _ _ _ _ => cases hr
    | iter _ _ _ _ => cases hr
    | dead => cases hr
  · rename_i h2
    have hid : id = 2 * (id / 2) + 1 := by omega
    split at hr
    · rename_i c e fz hI
      split at hr
      · rename_i hlen
        obtain ⟨h1, h3⟩ := r.inp _ _ hI
        rw [← hid, hL] at h1
        cases h1
        refine ⟨(c.toList.drop off).take n, concL_inL r hr, by simp; omega, fun j d hj => ?_⟩
        have hjn : j < n := by have := (List.getElem?_eq_some_iff.1 hj).1; simp at this; omega
        rw [cell?_of h3, ← Array.getElem?_toList, Nat.zero_add]
        rwa [List.getElem?_take_of_lt hjn, List.getElem?_drop] at hj
      · cases hr
    · cases hr

def aload (P : Program) (I : Nat → Option Obj) (t : TypeId) (a : Value) (h : H) : Option Value :=
  match a with
  | .pointer (some ⟨id, off, none⟩) =>
    match tagg P t with
    | some true => (tsz P t).bind fun n => (rdl I h id off n).map fun l => .agg l.toArray
    | some false => match rdl I h id off 1 with
      | some (v :: _) => some v
      | _ => none
    | none => none
  | _ => none

theorem add_off (b off j : Nat) : (⟨b, off, none⟩ : Addr).add j = ⟨b, off + j, none⟩ := by
  unfold Addr.add
  split
  · subst_vars; rfl
  · rfl

theorem aload_sound {P : Program} {I E h w} (r : R I E h w) {t : TypeId} {a c v : Value} (ha : conc E a = some c) (hl : aload P I t a h = some v) :
    ∃ u, (Instr.loadAt t c).run P w = .ok u w ∧ conc E v = some u := by
  unfold aload at hl
  split at hl
  · rename_i id off
    simp only [conc, Option.map_eq_some_iff] at ha
    obtain ⟨L, hL, rfl⟩ := ha
    split at hl
    · rename_i hagg
      simp only [Option.bind_eq_some_iff, Option.map_eq_some_iff] at hl
      obtain ⟨n, hn, l, hr, rfl⟩ := hl
      obtain ⟨cs, hc, hlen, hcell⟩ := rdl_sound r hL hr
      refine ⟨.agg cs.toArray, ?_, conc_agg hc⟩
      have := run_loadCells_list (P := P) (w := w) ⟨L.b, L.base + off, none⟩ cs (fun j v hj => by rw [add_off]; exact hcell j v hj)
      rw [hlen] at this
      simp only [Instr.loadAt, Instr.sureAddr, Sem.run_bind, Sem.run_pure, Result.andThen_ok, loadVar, run_isAgg_of hagg, if_true, run_sizeOf_of hn, this]
    · rename_i hagg
      split at hl
      · rename_i v' l' hr
        cases hl
        obtain ⟨cs, hc, hlen, hcell⟩ := rdl_sound r hL hr
        simp only [concL, Option.bind_eq_some_iff, Option.map_eq_some_iff] at hc
        obtain ⟨x, hx, m, hm, rfl⟩ := hc
        refine ⟨x, ?_, hx⟩
        have := hcell 0 x (by simp)
        rw [Nat.add_zero] at this
        simp only [Instr.loadAt, Instr.sureAddr, Sem.run_bind, Sem.run_pure, Result.andThen_ok, loadVar, run_isAgg_of hagg, Bool.false_eq_true, if_false, run_load, this]
      · cases hl
    · cases hl
  · cases hl

end Go.Sym
namespace Go.Sym

theorem turn_same {w : World} {b : Nat} {o : Obj} (h : w.heap[b]? = some o) : w.turn b o = w := by
  unfold World.turn
  have : w.heap.setIfInBounds b o = w.heap := by
    apply Array.ext_getElem?
    intro i
    rw [Array.getElem?_setIfInBounds]
    split
    · rename_i e; subst e
      split
      · exact h.symm
      · rename_i hn; rw [Array.getElem?_eq_none (by omega)]
    · rfl
  rw [this]
theorem turn_turn (w : World) (b : Nat) (o o' : Obj) : (w.turn b o).turn b o' = w.turn b o' := by
  unfold World.turn
  simp

theorem conc_oneCell {E : Env} {v c : Value} (h : conc E v = some c) : c.oneCell' = v.oneCell' := by
  match v with
  | .bool b => simp only [conc, Option.some.injEq] at h; subst h; rfl
  | .int k n => simp only [conc, Option.some.injEq] at h; subst h; rfl
  | .string s => simp only [conc, Option.some.injEq] at h; subst h; rfl
  | .pointer none => simp only [conc, Option.some.injEq] at h; subst h; rfl
  | .pointer (some ⟨_, _, none⟩) => simp only [conc, Option.map_eq_some_iff] at h; obtain ⟨L, _, rfl⟩ := h; rfl
  | .pointer (some ⟨_, _, some _⟩) => simp [conc] at h
  | .slice none 0 0 => simp only [conc, Option.some.injEq] at h; subst h; rfl
  | .slice none 0 (n + 1) => simp [conc] at h
  | .slice none (n + 1) m => simp [conc] at h
  | .slice (some ⟨_, _, none⟩) len cap =>
    simp only [conc, Option.bind_eq_some_iff] at h
    obtain ⟨L, _, h⟩ := h
    split at h
    · cases h; rfl
    · split at h <;> cases h; rfl
  | .slice (some ⟨_, _, some _⟩) len cap => simp only [conc, Option.some.injEq] at h; subst h; rfl
  | .map none => simp only [conc, Option.some.injEq] at h; subst h; rfl
  | .map (some id) => simp only [conc, Option.map_eq_some_iff] at h; obtain ⟨L, _, rfl⟩ := h; rfl
  | .func (.func f) a b => simp only [conc, Option.bind_eq_some_iff, Option.map_eq_some_iff] at h; obtain ⟨_, _, _, _, rfl⟩ := h; rfl
  | .func (.yield l) a b => simp only [conc, Option.bind_eq_some_iff, Option.map_eq_some_iff] at h; obtain ⟨_, _, _, _, _, _, rfl⟩ := h; rfl
  | .func (.method _) a b => simp [conc] at h
  | .func (.methodOf _ _) a b => simp [conc] at h
  | .func (.via _ _ _ _) a b => simp [conc] at h
  | .nilFunc => simp only [conc, Option.some.injEq] at h; subst h; rfl
  | .nilIface => simp only [conc, Option.some.injEq] at h; subst h; rfl
  | .iface t v => simp only [conc, Option.map_eq_some_iff] at h; obtain ⟨L, _, rfl⟩ := h; rfl
  | .agg cs => simp only [conc, Option.map_eq_some_iff] at h; obtain ⟨L, _, rfl⟩ := h; rfl
  | .tuple cs => simp only [conc, Option.map_eq_some_iff] at h; obtain ⟨L, _, rfl⟩ := h; rfl
  | .float _ _ => simp [conc] at h
  | .complex _ _ _ => simp [conc] at h
  | .chan _ => simp [conc] at h
theorem concL_oneCell {E : Env} : ∀ {l m : List Value}, concL E l = some m → m.all (·.oneCell') = l.all (·.oneCell')
  | [], m, h => by simp only [concL, Option.some.injEq] at h; subst h; rfl
  | v :: l, m, h => by
    simp only [concL, Option.bind_eq_some_iff, Option.map_eq_some_iff] at h
    obtain ⟨x, hx, k, hk, rfl⟩ := h
    simp only [List.all_cons, conc_oneCell hx, concL_oneCell hk]

/-! stores -/
def splice (l : List Value) (off : Nat) : List Value → List Value
  | [] => l
  | v :: vs => splice (l.set off v) (off + 1) vs
theorem splice_length : ∀ (vs l : List Value) (off : Nat), (splice l off vs).length = l.length
  | [], l, off => rfl
  | v :: vs, l, off => by simp [splice, splice_length vs]
theorem concL_splice {E : Env} : ∀ {vs cs : List Value} (_ : concL E vs = some cs) {l m : List Value} (off : Nat), concL E l = some m → concL E (splice l off vs) = some (splice m off cs)
  | [], cs, h, l, m, off, hl => by simp only [concL, Option.some.injEq] at h; subst h; exact hl
  | v :: vs, cs, h, l, m, off, hl => by
    simp only [concL, Option.bind_eq_some_iff, Option.map_eq_some_iff] at h
    obtain ⟨x, hx, k, hk, rfl⟩ := h
    exact concL_splice hk (off + 1) (concL_set hx off hl)
theorem splice_mid : ∀ (vs pre l post : List Value) (off : Nat), off + vs.length ≤ l.length → splice (pre ++ l ++ post) (pre.length + off) vs = pre ++ splice l off vs ++ post
  | [], pre, l, post, off, _ => rfl
  | v :: vs, pre, l, post, off, h => by
    simp only [List.length_cons] at h
    have e : (pre ++ l ++ post).set (pre.length + off) v = pre ++ l.set off v ++ post := by
      rw [List.append_assoc, List.set_append_right _ _ (by omega), show pre.length + off - pre.length = off from by omega, List.set_append_left _ _ (by omega), List.append_assoc]
    simp only [splice, e]
    exact splice_mid vs pre (l.set off v) post (off + 1) (by simp; omega)

section
variable {P : Program}
theorem store_run {w : World} {b : Nat} {c : Array Value} {e : TypeId} (h : w.heap[b]? = some (.cells c e)) {off : Nat} (ho : off < c.size) {v : Value} (hv : v.oneCell' = true) :
    (store ⟨b, off, none⟩ v).run P w = .ok () (w.turn b (.cells (c.setIfInBounds off v) e)) := by
  have hf : w.frozen? ⟨b, off, none⟩ = false := by simp [World.frozen?, h]
  have e1 : w.setCell ⟨b, off, none⟩ v = w.turn b (.cells (c.setIfInBounds off v) e) := by
    unfold World.setCell World.turn
    congr 1
    apply Array.ext_getElem?
    intro i
    rw [Array.getElem?_modify, Array.getElem?_setIfInBounds]
    by_cases hi : b = i
    · subst hi
      obtain ⟨hlt, _⟩ := Array.getElem?_eq_some_iff.1 h
      rw [if_pos rfl, if_pos rfl, if_pos hlt, h]
      rfl
    · rw [if_neg hi, if_neg hi]
  rw [run_store P w _ v _ hv, cell?_of h, Array.getElem?_eq_getElem ho, hf]
  simp only [Bool.false_eq_true, if_false, e1]

theorem storeCells_run {b off : Nat} {e : TypeId} : ∀ (vs : List Value) (i : Nat) (c : List Value) (w : World), w.heap[b]? = some (.cells c.toArray e) → off + i + vs.length ≤ c.length → vs.all (·.oneCell') = true →
    (storeCells ⟨b, off, none⟩ vs i).run P w = .ok () (w.turn b (.cells (splice c (off + i) vs).toArray e))
  | [], i, c, w, h, _, _ => by simp only [storeCells, Sem.run_pure, splice, turn_same h]
  | v :: vs, i, c, w, h, hl, hv => by
    simp only [List.length_cons] at hl
    simp only [List.all_cons, Bool.and_eq_true] at hv
    obtain ⟨hlt, _⟩ := Array.getElem?_eq_some_iff.1 h
    simp only [storeCells, Sem.run_bind, add_off]
    rw [store_run h (by simp; omega) hv.1]
    simp only [Result.andThen_ok]
    have e2 : (c.toArray.setIfInBounds (off + i) v) = (c.set (off + i) v).toArray := by simp
    rw [e2, storeCells_run vs (i + 1) (c.set (off + i) v) _ (heap_turn_self _ _ _ hlt) (by simp; omega) hv.2, turn_turn]
    rfl
end

def wrl (h : H) (id off : Nat) (vs : List Value) : Option H :=
  if id % 2 = 0 then
    match h[id / 2]? with
    | some (.cells l e) => if off + vs.length ≤ l.length ∧ vs.all (·.oneCell') = true then some (h.put id (.cells (splice l off vs) e)) else none
    | some (.row l e sz) => if off + vs.length ≤ l.length ∧ vs.all (·.oneCell') = true then some (h.put id (.row (splice l off vs) e sz)) else none
    | _ => none
  else none

theorem wrl_sound {P : Program} {I E h w} (r : R I E h w) {id off : Nat} {L : Loc} (hL : E id = some L) {vs cs : List Value} (hv : concL E vs = some cs) {h' : H} (hr : wrl h id off vs = some h') :
    ∃ w', (storeCells ⟨L.b, L.base + off, none⟩ cs 0).run P w = .ok () w' ∧ R I E h' w' ∧ Adv E h w E h' w' := by
  unfold wrl at hr
  split at hr
  · rename_i h2
    obtain ⟨B, hg, hrel⟩ := r.blk id L hL h2
    have hg0 := hg
    unfold H.get at hg
    rw [if_pos h2] at hg
    rw [hg] at hr
    have hlen := concL_length hv
    cases B with
    | cells l e =>
      simp only at hr
      split at hr
      · rename_i hok; cases hr
        obtain ⟨ds, hc, ho, hb⟩ := hrel
        have hdl := concL_length hc
        refine ⟨_, ?_, r.turn h2 hL ⟨_, hg0, by simp⟩ (o := .cells (splice ds off cs).toArray e) ⟨_, concL_splice hv off hc, rfl, hb⟩⟩
        rw [storeCells_run cs 0 ds w ho (by omega) (by rw [concL_oneCell hv]; exact hok.2), hb, Nat.zero_add, Nat.add_zero]
      · cases hr
    | row l e sz =>
      simp only at hr
      split at hr
      · rename_i hok; cases hr
        obtain ⟨c0, ds, ho, hc, hsz, hes, pre, post, happ, hpre⟩ := hrel
        have hdl := concL_length hc
        have ho' : w.heap[L.b]? = some (.cells (pre ++ ds ++ post).toArray e) := by rw [ho, ← happ]
        have hsz' : (pre ++ ds ++ post).length = L.room := by rw [← hsz, ← Array.length_toList, happ]
        refine ⟨_, ?_, r.turn h2 hL ⟨_, hg0, by simp⟩ (o := .cells (pre ++ splice ds off cs ++ post).toArray e) ⟨_, _, rfl, concL_splice hv off hc, ?_, hes, pre, post, rfl, hpre⟩⟩
        · rw [storeCells_run cs 0 _ w ho' (by simp; omega) (by rw [concL_oneCell hv]; exact hok.2), ← hpre, Nat.add_zero, splice_mid _ _ _ _ _ (by omega)]
        · rw [← hsz']; simp [splice_length]
      · cases hr
    | obj o => cases hr
    | loop _ _ _ _ _ _ _ => cases hr
    | iter _ _ _ _ => cases hr
    | dead => cases hr
  · cases hr

def astore (P : Program) (t : TypeId) (a v : Value) (h : H) : Option H :=
  match a with
  | .pointer (some ⟨id, off, none⟩) => if tsz P t = some v.cells.size then wrl h id off v.cells.toList else none
  | _ => none

theorem astore_sound {P : Program} {I E h w} (r : R I E h w) {t : TypeId} {a c v u : Value} (ha : conc E a = some c) (hv : conc E v = some u) {h' : H} (hl : astore P t a v h = some h') :
    ∃ w', (Instr.storeAt t c u).run P w = .ok () w' ∧ R I E h' w' ∧ Adv E h w E h' w' := by
  unfold astore at hl
  split at hl
  · rename_i id off
    simp only [conc, Option.map_eq_some_iff] at ha
    obtain ⟨L, hL, rfl⟩ := ha
    split at hl
    · rename_i hsz
      have hcs := conc_cells hv
      have hlen : u.cells.size = v.cells.size := by have := concL_length hcs; simpa using this
      obtain ⟨w', hrun, hrest⟩ := wrl_sound (P := P) r hL hcs hl
      refine ⟨w', ?_, hrest⟩
      simp only [Instr.storeAt, Instr.sureAddr, Sem.run_bind, Sem.run_pure, Result.andThen_ok, storeVar, run_sizeOf_of hsz, hlen, ne_eq, not_true_eq_false, if_false, hrun]
    · cases hl
  · cases hl

/-! new blocks -/
def nptr (h : H) : Value := .pointer (some ⟨h.new, 0, none⟩)
theorem push_cells {I E h w} (r : R I E h w) {vs cs : List Value} (hv : concL E vs = some cs) (e : TypeId) :
    R I (E.upd h.new { b := w.heap.size }) (h ++ [.cells vs e] : H) (w.alloc (.cells cs.toArray e)) ∧
      Adv E h w (E.upd h.new { b := w.heap.size }) (h ++ [.cells vs e] : H) (w.alloc (.cells cs.toArray e)) ∧
      conc (E.upd h.new { b := w.heap.size }) (nptr h) = some (.pointer (some ⟨w.heap.size, 0, none⟩)) := by
  obtain ⟨h1, h2⟩ := r.push (B := .cells vs e) (o := .cells cs.toArray e) (L := { b := w.heap.size }) rfl
    ⟨cs, concL_ext (Ext.upd r.new_none _) _ _ hv, rfl, rfl⟩
  exact ⟨h1, h2, by simp only [nptr, conc, Env.upd_self, Option.map_some]⟩

section
variable {P : Program}
theorem run_newVar {w : World} (t : TypeId) (v : Value) : (newVar t v).run P w = .ok ⟨w.heap.size, 0, none⟩ (w.alloc (.cells v.cells t)) := rfl

theorem box_sound {I E h w} (r : R I E h w) {t : TypeId} {v c : Value} (hv : conc E v = some c) :
    ∃ u E' w', (Instr.box t c).run P w = .ok u w' ∧ conc E' (nptr h) = some u ∧ R I E' (h ++ [.cells v.cells.toList t] : H) w' ∧ Adv E h w E' (h ++ [.cells v.cells.toList t] : H) w' := by
  obtain ⟨h1, h2, h3⟩ := push_cells r (conc_cells hv) t
  exact ⟨_, _, _, rfl, h3, h1, h2⟩

theorem alloc_sound {I E h w} (r : R I E h w) {t : TypeId} {z : Value} (hz : tzero P t = some z) (hf : flat z = true) :
    ∃ u E' w', (Instr.alloc t true (.tuple #[])).run P w = .ok u w' ∧ conc E' (nptr h) = some u ∧ R I E' (h ++ [.cells z.cells.toList t] : H) w' ∧ Adv E h w E' (h ++ [.cells z.cells.toList t] : H) w' := by
  obtain ⟨u, E', w', h1, h2⟩ := box_sound (P := P) r (t := t) (conc_flat E z hf)
  refine ⟨u, E', w', ?_, h2⟩
  rw [← h1]
  simp only [Instr.alloc, Sem.run_bind, run_zeroValue_of hz, Result.andThen_ok, Instr.box]
end

/-! addresses -/
theorem conc_slice {E : Env} {id off len cap : Nat} {c : Value} (h : conc E (.slice (some ⟨id, off, none⟩) len cap) = some c) :
    ∃ L cap', E id = some L ∧ c = .slice (some ⟨L.b, L.base + off, none⟩) len cap' ∧ ((cap < UNK ∧ cap' = cap) ∨ (¬ cap < UNK ∧ cap' = capOf L off ∧ len ≤ capOf L off)) := by
  simp only [conc, Option.bind_eq_some_iff] at h
  obtain ⟨L, hL, h⟩ := h
  split at h
  · rename_i hc; cases h; exact ⟨L, _, hL, rfl, .inl ⟨hc, rfl⟩⟩
  · rename_i hc
    split at h
    · rename_i hl; cases h; exact ⟨L, _, hL, rfl, .inr ⟨hc, rfl, hl⟩⟩
    · cases h

def afield (P : Program) (s : TypeId) (a : Value) (i : Nat) : Option Value :=
  match a, P.underlying s with
  | .pointer (some ⟨id, off, none⟩), some (.struct fs) =>
    match fs[i]? with
    | some f => match tsz P f.type with
      | some (_ + 1) => some (.pointer (some ⟨id, off + f.offset, none⟩))
      | _ => none
    | none => none
  | _, _ => none

theorem afield_sound {P : Program} {E : Env} {s : TypeId} {a c v : Value} {i : Nat} (ha : conc E a = some c) (h : afield P s a i = some v) (w : World) :
    ∃ u, (Instr.fieldAt s c i).run P w = .ok u w ∧ conc E v = some u := by
  unfold afield at h
  split at h
  · rename_i id off fs hs
    simp only [conc, Option.map_eq_some_iff] at ha
    obtain ⟨L, hL, rfl⟩ := ha
    split at h
    · rename_i f hf
      split at h
      · rename_i n hn
        cases h
        refine ⟨.pointer (some ⟨L.b, L.base + (off + f.offset), none⟩), ?_, by simp only [conc, hL, Option.map_some]⟩
        simp only [Instr.fieldAt, Sem.run_bind, run_underlying_of hs, Result.andThen_ok, hf, Instr.sureAddr, Sem.run_pure, fieldPlace, run_sizeOf_of hn, Nat.add_one_ne_zero, if_false, add_off]
        rw [Nat.add_assoc]
      · cases h
    · cases h
  · cases h

def aindex (P : Program) (t : TypeId) (x i : Value) : Option Value :=
  match i, P.underlying t with
  | .int _ n, some (.slice e) =>
    match x with
    | .slice (some ⟨id, off, none⟩) len _ => if 0 ≤ n ∧ n < len then (tsz P e).map fun s => .pointer (some ⟨id, off + n.toNat * s, none⟩) else none
    | _ => none
  | .int _ n, some (.array len e) =>
    match x with
    | .pointer (some ⟨id, off, none⟩) => if 0 ≤ n ∧ n < len then (tsz P e).map fun s => .pointer (some ⟨id, off + n.toNat * s, none⟩) else none
    | _ => none
  | _, _ => none

theorem aindex_sound {P : Program} {E : Env} {t : TypeId} {x c i v : Value} (hx : conc E x = some c) (hi : flat i = true) (h : aindex P t x i = some v) (w : World) :
    ∃ u, (Instr.indexAt t c i).run P w = .ok u w ∧ conc E v = some u := by
  unfold aindex at h
  split at h
  · rename_i k n e ht
    split at h
    · rename_i id off len cap
      obtain ⟨L, cap', hL, rfl, _⟩ := conc_slice hx
      split at h
      · rename_i hb
        simp only [Option.map_eq_some_iff] at h
        obtain ⟨s, hs, rfl⟩ := h
        refine ⟨.pointer (some ⟨L.b, L.base + (off + n.toNat * s), none⟩), ?_, by simp only [conc, hL, Option.map_some]⟩
        simp only [Instr.indexAt, asIntOf, Sem.run_bind, Sem.run_pure, run_underlying_of ht, Result.andThen_ok, if_pos hb, Sem.run_ite, run_sizeOf_of hs, add_off]
        rw [Nat.add_assoc]
      · cases h
    · cases h
  · rename_i k n len e ht
    split at h
    · rename_i id off
      simp only [conc, Option.map_eq_some_iff] at hx
      obtain ⟨L, hL, rfl⟩ := hx
      split at h
      · rename_i hb
        simp only [Option.map_eq_some_iff] at h
        obtain ⟨s, hs, rfl⟩ := h
        refine ⟨.pointer (some ⟨L.b, L.base + (off + n.toNat * s), none⟩), ?_, by simp only [conc, hL, Option.map_some]⟩
        simp only [Instr.indexAt, Instr.sureAddr, asIntOf, Sem.run_bind, Sem.run_pure, run_underlying_of ht, Result.andThen_ok, if_pos hb, Sem.run_ite, run_sizeOf_of hs, add_off]
        rw [Nat.add_assoc]
      · cases h
    · cases h
  · cases h

end Go.Sym
namespace Go.Sym

/-! parts of structs and arrays -/
def partV (P : Program) (t : TypeId) (cs : List Value) (off : Nat) : Option Value :=
  match tagg P t with
  | some true => (tsz P t).map fun n => .agg ((cs.drop off).take n).toArray
  | some false => cs[off]?
  | none => none

theorem extract_list (cs : List Value) (i n : Nat) : cs.toArray.extract i (i + n) = ((cs.drop i).take n).toArray := by
  apply Array.ext'
  simp [List.extract]

theorem partV_sound {P : Program} {E : Env} {t : TypeId} {cs ds : List Value} {off : Nat} {v : Value} (h : concL E cs = some ds) (hp : partV P t cs off = some v) (w : World) :
    ∃ u, (part t ds.toArray off).run P w = .ok u w ∧ conc E v = some u := by
  unfold partV at hp
  split at hp
  · rename_i ha
    simp only [Option.map_eq_some_iff] at hp
    obtain ⟨n, hn, rfl⟩ := hp
    refine ⟨_, ?_, conc_agg (concL_take n (concL_drop off h))⟩
    simp only [part, Sem.run_bind, run_isAgg_of ha, Result.andThen_ok, if_true, run_sizeOf_of hn, Sem.run_pure, extract_list]
  · rename_i ha
    obtain ⟨u, hu, hc⟩ := concL_get h off v hp
    refine ⟨u, ?_, hc⟩
    simp only [part, Sem.run_bind, run_isAgg_of ha, Result.andThen_ok, Bool.false_eq_true, if_false, List.getElem?_toArray, hu, Sem.run_pure]
  · cases hp

def afieldV (P : Program) (s : TypeId) (x : Value) (i : Nat) : Option Value :=
  match x, P.underlying s with
  | .agg cs, some (.struct fs) => match fs[i]? with
    | some f => partV P f.type cs.toList f.offset
    | none => none
  | _, _ => none

theorem afieldV_sound {P : Program} {E : Env} {s : TypeId} {x c v : Value} {i : Nat} (hx : conc E x = some c) (h : afieldV P s x i = some v) (w : World) :
    ∃ u, (Instr.field s c i).run P w = .ok u w ∧ conc E v = some u := by
  unfold afieldV at h
  split at h
  · rename_i cs fs hs
    simp only [conc, Option.map_eq_some_iff] at hx
    obtain ⟨ds, hd, rfl⟩ := hx
    split at h
    · rename_i f hf
      obtain ⟨u, h1, h2⟩ := partV_sound (concA_toList hd) h w
      refine ⟨u, ?_, h2⟩
      rw [← h1]
      simp only [Instr.field, Sem.run_bind, run_underlying_of hs, Result.andThen_ok, hf, asAgg, Sem.run_pure, Array.toArray_toList]
    · cases h
  · cases h

/-! literals -/
def fillL (place : Nat → Option (Nat × Nat)) (cells : List Value) : List (Nat × Value) → Option (List Value)
  | [] => some cells
  | (i, v) :: rest =>
    match place i with
    | none => none
    | some (off, size) => if v.cells.size ≠ size ∨ off + v.cells.size > cells.length then none else fillL place (splice cells off v.cells.toList) rest

theorem foldl_splice : ∀ (vs : List Value) (k off : Nat) (cs : List Value), (vs.zipIdx k).foldl (fun (a : Array Value) (x : Value × Nat) => a.setIfInBounds (off + x.2) x.1) cs.toArray = (splice cs (off + k) vs).toArray
  | [], k, off, cs => rfl
  | v :: vs, k, off, cs => by
    simp only [List.zipIdx_cons, List.foldl_cons, splice]
    have := foldl_splice vs (k + 1) off (cs.set (off + k) v)
    rw [show off + k + 1 = off + (k + 1) from by omega, ← this]
    congr 1
    simp

theorem fill_list (place : Nat → Option (Nat × Nat)) : ∀ (parts : List (Nat × Value)) (cs : List Value), Instr.fill place cs.toArray parts = (fillL place cs parts).map List.toArray
  | [], cs => rfl
  | (i, v) :: rest, cs => by
    simp only [Instr.fill, fillL]
    cases place i with
    | none => rfl
    | some os =>
      obtain ⟨off, size⟩ := os
      simp only
      have e : (v.cells.zipIdx.foldl (fun cs (x : Value × Nat) => cs.setIfInBounds (off + x.2) x.1) cs.toArray) = (splice cs off v.cells.toList).toArray := by
        have := foldl_splice v.cells.toList 0 off cs
        rw [Nat.add_zero] at this
        rw [← this, ← Array.foldl_toList, Array.toList_zipIdx]
      have e2 : (Array.foldl (fun (cs : Array Value) (x : Value × Nat) => match x with | (c, j) => cs.setIfInBounds (off + j) c) cs.toArray v.cells.zipIdx) = (splice cs off v.cells.toList).toArray := e
      rw [e2]
      by_cases hc : v.cells.size ≠ size ∨ off + v.cells.size > cs.length
      · rw [if_pos hc, if_pos (by simpa [Bool.or_eq_true] using hc)]; rfl
      · rw [if_neg hc, if_neg (by simpa [Bool.or_eq_true] using hc)]
        exact fill_list place rest _

/-- the parts of a literal, as Go's values -/
def concP (E : Env) : List (Nat × Value) → Option (List (Nat × Value))
  | [] => some []
  | (i, v) :: l => (conc E v).bind fun c => (concP E l).map fun m => (i, c) :: m

theorem fillL_sound {E : Env} (place : Nat → Option (Nat × Nat)) : ∀ {ps qs : List (Nat × Value)} {cs ds rs : List Value}, concP E ps = some qs → concL E cs = some ds → fillL place cs ps = some rs →
    ∃ us, fillL place ds qs = some us ∧ concL E rs = some us
  | [], qs, cs, ds, rs, hp, hc, h => by
    simp only [concP, Option.some.injEq] at hp; subst hp
    simp only [fillL, Option.some.injEq] at h; subst h
    exact ⟨ds, rfl, hc⟩
  | (i, v) :: ps, qs, cs, ds, rs, hp, hc, h => by
    simp only [concP, Option.bind_eq_some_iff, Option.map_eq_some_iff] at hp
    obtain ⟨c, hv, m, hm, rfl⟩ := hp
    simp only [fillL] at h ⊢
    cases hpl : place i with
    | none => simp [hpl] at h
    | some os =>
      obtain ⟨off, size⟩ := os
      rw [hpl] at h
      simp only at h ⊢
      have hcv := conc_cells hv
      have hl : c.cells.size = v.cells.size := by have := concL_length hcv; simpa using this
      rw [hl, concL_length hc]
      split at h
      · cases h
      · rename_i hn
        rw [if_neg hn]
        exact fillL_sound place hm (concL_splice hcv off hc) h

def placesL (P : Program) : List Field → Option (List (Nat × Nat))
  | [] => some []
  | f :: fs => (tsz P f.type).bind fun n => (placesL P fs).map fun l => (f.offset, n) :: l

theorem places_run {P : Program} : ∀ {fs : List Field} {l : List (Nat × Nat)}, placesL P fs = some l → ∀ w, (fs.mapM fun (f : Field) => (do pure (f.offset, ← sizeOf f.type) : Sem (Nat × Nat))).run P w = .ok l w
  | [], l, h, w => by simp only [placesL, Option.some.injEq] at h; subst h; simp
  | f :: fs, l, h, w => by
    simp only [placesL, Option.bind_eq_some_iff, Option.map_eq_some_iff] at h
    obtain ⟨n, hn, m, hm, rfl⟩ := h
    simp only [List.mapM_cons, Sem.run_bind, run_sizeOf_of hn, Result.andThen_ok, Sem.run_pure, places_run hm]

def abuild (P : Program) (t : TypeId) (ps : List (Nat × Value)) : Option Value :=
  (tzero P t).bind fun z => if flat z = true then
    match P.underlying t with
    | some (.struct fs) => (placesL P fs.toList).bind fun pl => (fillL (pl[·]?) z.cells.toList ps).map fun l => .agg l.toArray
    | some (.array _ e) => (tsz P e).bind fun s => (fillL (fun i => some (i * s, s)) z.cells.toList ps).map fun l => .agg l.toArray
    | _ => none
  else none

theorem abuild_sound {P : Program} {E : Env} {t : TypeId} {ps qs : List (Nat × Value)} {v : Value} (hp : concP E ps = some qs) (h : abuild P t ps = some v) (w : World) :
    ∃ u, (Instr.build t qs.toArray).run P w = .ok u w ∧ conc E v = some u := by
  simp only [abuild, Option.bind_eq_some_iff] at h
  obtain ⟨z, hz, h⟩ := h
  split at h
  · rename_i hf
    have hzc := conc_cells (conc_flat E z hf)
    split at h
    · rename_i fs hs
      simp only [Option.bind_eq_some_iff, Option.map_eq_some_iff] at h
      obtain ⟨pl, hpl, l, hl, rfl⟩ := h
      obtain ⟨us, h1, h2⟩ := fillL_sound _ hp hzc hl
      refine ⟨.agg us.toArray, ?_, conc_agg h2⟩
      have hm : (fs.mapM fun (f : Field) => (do pure (f.offset, ← sizeOf f.type) : Sem (Nat × Nat))).run P w = .ok pl.toArray w := by
        rw [Array.mapM_eq_mapM_toList, Sem.run_map, places_run hpl]; rfl
      have hf2 : Instr.fill (fun x => pl.toArray[x]?) z.cells qs = some us.toArray := by
        have := fill_list (fun x => pl.toArray[x]?) qs z.cells.toList
        rw [Array.toArray_toList] at this
        rw [this]
        have e : (fun (x : Nat) => pl.toArray[x]?) = (fun (x : Nat) => pl[x]?) := by funext x; simp
        rw [e, h1]; rfl
      simp only [Instr.build, Sem.run_bind, run_zeroValue_of hz, Result.andThen_ok, run_underlying_of hs, hm, hf2, Sem.run_pure]
    · rename_i n e hs
      simp only [Option.bind_eq_some_iff, Option.map_eq_some_iff] at h
      obtain ⟨s, hsz, l, hl, rfl⟩ := h
      obtain ⟨us, h1, h2⟩ := fillL_sound _ hp hzc hl
      refine ⟨.agg us.toArray, ?_, conc_agg h2⟩
      have hf2 : Instr.fill (fun i => some (i * s, s)) z.cells qs = some us.toArray := by
        have := fill_list (fun i => some (i * s, s)) qs z.cells.toList
        rw [Array.toArray_toList] at this
        rw [this, h1]; rfl
      simp only [Instr.build, Sem.run_bind, run_zeroValue_of hz, Result.andThen_ok, run_underlying_of hs, run_sizeOf_of hsz, hf2, Sem.run_pure]
    · cases h
  · cases h

/-- n cells of zero values -/
def zerosL (z : List Value) (n : Nat) : List Value := (List.range n).map fun i => z.getD (i % z.length) default
theorem flat_default : flat default = true := rfl
theorem flatL_get : ∀ {l : List Value}, flatL l = true → ∀ i, flat (l.getD i default) = true
  | [], _, i => flat_default
  | v :: l, h, i => by
    simp only [flatL, Bool.and_eq_true] at h
    cases i with
    | zero => simpa using h.1
    | succ i => simpa using flatL_get h.2 i
theorem flatL_map {α : Type} (f : α → Value) (hf : ∀ a, flat (f a) = true) : ∀ l : List α, flatL (l.map f) = true
  | [] => rfl
  | a :: l => by simp only [List.map_cons, flatL, hf a, flatL_map f hf l, Bool.and_self]
theorem flatL_zeros {z : List Value} (h : flatL z = true) (n : Nat) : flatL (zerosL z n) = true := flatL_map _ (fun _ => flatL_get h _) _
theorem zerosL_length (z : List Value) (n : Nat) : (zerosL z n).length = n := by simp [zerosL]
theorem flat_cells {v : Value} (h : flat v = true) : flatL v.cells.toList = true := by
  cases v with
  | agg cs => cases cs; simpa [flat, flatA, Value.cells] using h
  | _ => simpa [Value.cells, flatL] using h
theorem range_zero' : Array.range 0 = #[] := rfl
theorem zeros_arr (z : Array Value) (n : Nat) : ((Array.range n).map (z[· % z.size]!)) = (zerosL z.toList n).toArray := by
  apply Array.ext'
  simp [zerosL, Array.toList_range, List.getD_eq_getElem?_getD, getElem!_def, Option.getD]
  intro a _
  split <;> simp_all

/-- the cells of a literal of a slice, and the type of its elements -/
def sliceLit (P : Program) (t : TypeId) (len : Nat) (ps : List (Nat × Value)) : Option (List Value × TypeId) :=
  match P.underlying t with
  | some (.slice e) => (tsz P e).bind fun s => (tzero P e).bind fun z =>
    if flat z = true ∧ 0 < len * s ∧ len * s ≤ 16777216 then
      (fillL (fun i => some (i * s, s)) (zerosL z.cells.toList (len * s)) ps).map fun l => (l, e)
    else if len * s = 0 then
      (fillL (fun i => some (i * s, s)) [] ps).map fun l => (l, e)
    else none
  | _ => none

theorem sliceLit_run {P : Program} {E : Env} {t : TypeId} {len : Nat} {ps qs : List (Nat × Value)} {l : List Value} {e : TypeId} (hp : concP E ps = some qs) (hb : sliceLit P t len ps = some (l, e)) (w : World) :
    ∃ us, concL E l = some us ∧ (Instr.buildSlice t len qs.toArray).run P w = .ok (.slice (some ⟨w.heap.size, 0, none⟩) len len) (w.alloc (.cells us.toArray e)) := by
  unfold sliceLit at hb
  split at hb
  · rename_i e' ht
    simp only [Option.bind_eq_some_iff] at hb
    obtain ⟨s, hs, z, hz, hb⟩ := hb
    split at hb
    · rename_i hc
      simp only [Option.map_eq_some_iff, Prod.mk.injEq] at hb
      obtain ⟨l', hl', rfl, rfl⟩ := hb
      obtain ⟨us, h1, h2⟩ := fillL_sound _ hp (concL_flat E _ (flatL_zeros (flat_cells hc.1) _)) hl'
      refine ⟨us, h2, ?_⟩
      have hf2 := fill_list (fun i => some (i * s, s)) qs (zerosL z.cells.toList (len * s))
      rw [h1, ← zeros_arr] at hf2
      simp only [Instr.buildSlice, Sem.run_bind, run_underlying_of ht, Result.andThen_ok, run_sizeOf_of hs, Sem.run_ite, if_neg (show ¬ len * s > 2 ^ 24 by omega), if_neg (show ¬ len * s = 0 by omega),
        run_zeroValue_of hz, Sem.run_pure, hf2, Option.map_some]
      rfl
    · split at hb
      · rename_i hc0 hc
        simp only [Option.map_eq_some_iff, Prod.mk.injEq] at hb
        obtain ⟨l', hl', rfl, rfl⟩ := hb
        obtain ⟨us, h1, h2⟩ := fillL_sound _ hp (cs := []) (ds := []) (by simp only [concL]) hl'
        refine ⟨us, h2, ?_⟩
        have hf2 := fill_list (fun i => some (i * s, s)) qs []
        rw [h1] at hf2
        simp only [Instr.buildSlice, Sem.run_bind, run_underlying_of ht, Result.andThen_ok, run_sizeOf_of hs, Sem.run_ite, Sem.run_pure, hc,
          range_zero', Array.map_empty, hf2, Option.map_some, Nat.not_lt_zero, gt_iff_lt, if_false, if_true]
        rfl
      · cases hb
  · cases hb

def abuildSlice (P : Program) (t : TypeId) (len : Nat) (ps : List (Nat × Value)) (h : H) : Option (Value × H) :=
  (sliceLit P t len ps).map fun x => (.slice (some ⟨h.new, 0, none⟩) len len, h ++ [.cells x.1 x.2])

theorem abuildSlice_sound {P : Program} {I E h w} (r : R I E h w) {t : TypeId} {len : Nat} {ps qs : List (Nat × Value)} {v : Value} {h' : H} (hp : concP E ps = some qs)
    (hb : abuildSlice P t len ps h = some (v, h')) (hl : len < UNK) :
    ∃ u E' w', (Instr.buildSlice t len qs.toArray).run P w = .ok u w' ∧ conc E' v = some u ∧ R I E' h' w' ∧ Adv E h w E' h' w' := by
  simp only [abuildSlice, Option.map_eq_some_iff, Prod.mk.injEq] at hb
  obtain ⟨⟨l, e⟩, hlit, rfl, rfl⟩ := hb
  obtain ⟨us, h1, h2⟩ := sliceLit_run hp hlit w
  obtain ⟨a1, a2, a3⟩ := push_cells r h1 e
  exact ⟨_, _, _, h2, by simp only [conc, Env.upd_self, Option.bind_some, if_pos hl], a1, a2⟩

/-! slicing -/
def optInt : Option Value → Option (Option Int)
  | none => some none
  | some (.int _ n) => some (some n)
  | some _ => none

/-- the bounds of a slice expression: from, to, capacity's end; cap: what is known to be there -/
def abounds (len cap : Nat) (lo hi mx : Option Int) : Option (Nat × Nat × Nat) :=
  let m : Option Nat := match mx with | some v => if 0 ≤ v ∧ v ≤ cap then some v.toNat else none | none => some cap
  m.bind fun m =>
  let e : Option Nat := match hi, mx with
    | some v, _ => if 0 ≤ v ∧ v ≤ m then some v.toNat else none
    | none, none => some len
    | none, some _ => none
  e.bind fun e =>
  let s : Option Nat := match lo with | some v => if 0 ≤ v ∧ v ≤ e then some v.toNat else none | none => some 0
  s.map fun s => (s, e, m)

end Go.Sym
namespace Go.Sym

section
variable {P : Program}
theorem sliceBound_run {v : Value} {n : Int} (hv : ∃ k, v = .int k n) {y : Nat} (h : 0 ≤ n ∧ n ≤ y) (c : BoundsCode) (w : World) : (Instr.sliceBound v y c).run P w = .ok n.toNat w := by
  obtain ⟨k, rfl⟩ := hv
  simp only [Instr.sliceBound, asIntOf, Sem.run_bind, Sem.run_pure, Result.andThen_ok, Sem.run_ite, if_pos h]

theorem optInt_some {o : Option Value} {n : Int} (h : optInt o = some (some n)) : ∃ k, o = some (.int k n) := by
  unfold optInt at h
  split at h
  · cases h
  · rename_i k m; cases h; exact ⟨k, rfl⟩
  · cases h
theorem optInt_none {o : Option Value} (h : optInt o = some none) : o = none := by
  unfold optInt at h
  split at h
  · rfl
  · cases h
  · cases h

theorem sliceBounds_run {isS : Bool} {len cap cap' : Nat} {lo hi mx : Option Value} {lo' hi' mx' : Option Int} {s e m : Nat} (hlo : optInt lo = some lo') (hhi : optInt hi = some hi') (hmx : optInt mx = some mx')
    (h : abounds len cap lo' hi' mx' = some (s, e, m)) (hc : cap ≤ cap') (w : World) :
    (Instr.sliceBounds isS len cap' lo hi mx).run P w = .ok (s, e, if mx'.isSome then m else cap') w := by
  cases mx' with
  | none =>
    obtain rfl := optInt_none hmx
    cases hi' with
    | none =>
      obtain rfl := optInt_none hhi
      cases lo' with
      | none =>
        obtain rfl := optInt_none hlo
        simp only [abounds, Option.bind_some, Option.map_some, Option.some.injEq, Prod.mk.injEq] at h
        obtain ⟨rfl, rfl, rfl⟩ := h
        simp only [Instr.sliceBounds, Sem.run_bind, Sem.run_pure, Result.andThen_ok]; rfl
      | some a =>
        obtain ⟨ka, rfl⟩ := optInt_some hlo
        simp only [abounds, Option.bind_some, Option.map_eq_some_iff, Option.ite_none_right_eq_some, Option.some.injEq, Prod.mk.injEq] at h
        obtain ⟨_, ⟨ha, rfl⟩, rfl, rfl, rfl⟩ := h
        simp only [Instr.sliceBounds, Sem.run_bind, Sem.run_pure, Result.andThen_ok, sliceBound_run ⟨ka, rfl⟩ ha]; rfl
    | some b =>
      obtain ⟨kb, rfl⟩ := optInt_some hhi
      cases lo' with
      | none =>
        obtain rfl := optInt_none hlo
        simp only [abounds, Option.bind_some, Option.map_some, Option.bind_eq_some_iff, Option.ite_none_right_eq_some, Option.some.injEq, Prod.mk.injEq] at h
        obtain ⟨_, ⟨hb, rfl⟩, rfl, rfl, rfl⟩ := h
        simp only [Instr.sliceBounds, Sem.run_bind, Sem.run_pure, Result.andThen_ok, sliceBound_run ⟨kb, rfl⟩ (show 0 ≤ b ∧ b ≤ (cap' : Int) by omega)]; rfl
      | some a =>
        obtain ⟨ka, rfl⟩ := optInt_some hlo
        simp only [abounds, Option.bind_some, Option.map_eq_some_iff, Option.bind_eq_some_iff, Option.ite_none_right_eq_some, Option.some.injEq, Prod.mk.injEq] at h
        obtain ⟨_, ⟨hb, rfl⟩, _, ⟨ha, rfl⟩, rfl, rfl, rfl⟩ := h
        simp only [Instr.sliceBounds, Sem.run_bind, Sem.run_pure, Result.andThen_ok, sliceBound_run ⟨kb, rfl⟩ (show 0 ≤ b ∧ b ≤ (cap' : Int) by omega), sliceBound_run ⟨ka, rfl⟩ ha]; rfl
  | some d =>
    obtain ⟨kd, rfl⟩ := optInt_some hmx
    cases hi' with
    | none =>
      simp only [abounds, Option.bind_eq_some_iff, reduceCtorEq, false_and, exists_false, and_false] at h
    | some b =>
      obtain ⟨kb, rfl⟩ := optInt_some hhi
      cases lo' with
      | none =>
        obtain rfl := optInt_none hlo
        simp only [abounds, Option.map_some, Option.bind_eq_some_iff, Option.ite_none_right_eq_some, Option.some.injEq, Prod.mk.injEq] at h
        obtain ⟨_, ⟨hd, rfl⟩, _, ⟨hb, rfl⟩, rfl, rfl, rfl⟩ := h
        simp only [Instr.sliceBounds, Sem.run_bind, Sem.run_pure, Result.andThen_ok, sliceBound_run ⟨kd, rfl⟩ (show 0 ≤ d ∧ d ≤ (cap' : Int) by omega), sliceBound_run ⟨kb, rfl⟩ hb]; rfl
      | some a =>
        obtain ⟨ka, rfl⟩ := optInt_some hlo
        simp only [abounds, Option.map_eq_some_iff, Option.bind_eq_some_iff, Option.ite_none_right_eq_some, Option.some.injEq, Prod.mk.injEq] at h
        obtain ⟨_, ⟨hd, rfl⟩, _, ⟨hb, rfl⟩, _, ⟨ha, rfl⟩, rfl, rfl, rfl⟩ := h
        simp only [Instr.sliceBounds, Sem.run_bind, Sem.run_pure, Result.andThen_ok, sliceBound_run ⟨kd, rfl⟩ (show 0 ≤ d ∧ d ≤ (cap' : Int) by omega), sliceBound_run ⟨kb, rfl⟩ hb, sliceBound_run ⟨ka, rfl⟩ ha]; rfl

theorem abounds_le {len cap : Nat} {lo hi mx : Option Int} {s e m : Nat} (h : abounds len cap lo hi mx = some (s, e, m)) : s ≤ e ∧ m ≤ cap ∧ (hi = none → e = len) ∧ (hi.isSome → e ≤ m) := by
  unfold abounds at h
  simp only [Option.bind_eq_some_iff, Option.map_eq_some_iff] at h
  obtain ⟨m0, hm, e0, he, s0, hs, hq⟩ := h
  cases hq
  have h1 : m ≤ cap := by
    cases mx with
    | none => simp only [Option.some.injEq] at hm; omega
    | some v => simp only at hm; split at hm <;> cases hm; omega
  have h2 : s ≤ e := by
    cases lo with
    | none => simp only [Option.some.injEq] at hs; omega
    | some v => simp only at hs; split at hs <;> cases hs; omega
  refine ⟨h2, h1, ?_, ?_⟩
  · rintro rfl
    cases mx with
    | none => simp only [Option.some.injEq] at he; omega
    | some v => simp at he
  · intro hh
    cases hi with
    | none => cases hh
    | some v => simp only at he; split at he <;> cases he; omega

def aslice (P : Program) (t : TypeId) (x : Value) (lo hi mx : Option Int) (h : H) : Option Value :=
  match P.underlying t, x with
  | some (.array n e), .pointer (some ⟨id, off, none⟩) =>
    (abounds n n lo hi mx).bind fun (l, k, m) => if n < UNK then (tsz P e).map fun s => .slice (some ⟨id, if m = l then off else off + l * s, none⟩) (k - l) (m - l) else none
  | some (.slice e), .slice none 0 0 => (tsz P e).bind fun _ => (abounds 0 0 lo hi mx).map fun _ => .slice none 0 0
  | some (.slice e), .slice (some ⟨id, off, none⟩) len cap =>
    if cap < UNK then
      (abounds len cap lo hi mx).bind fun (l, k, m) => (tsz P e).map fun s => .slice (some ⟨id, if m = l then off else off + l * s, none⟩) (k - l) (m - l)
    else
      (abounds len len lo hi mx).bind fun (l, k, m) => (tsz P e).bind fun s =>
        if mx.isSome then (if len < UNK then some (.slice (some ⟨id, if m = l then off else off + l * s, none⟩) (k - l) (m - l)) else none)
        else match h.get id with
          | some (.row _ _ sz) => if sz = s ∧ (l = 0 ∨ l < k) then some (.slice (some ⟨id, off + l * s, none⟩) (k - l) UNK) else none
          | _ => none
  | _, _ => none

theorem addr_if {c : Prop} [Decidable c] (b off d : Nat) : (if c then (⟨b, off, none⟩ : Addr) else (⟨b, off, none⟩ : Addr).add d) = ⟨b, if c then off else off + d, none⟩ := by
  split
  · rfl
  · exact add_off b off d

theorem base_if {c : Prop} [Decidable c] (b off d : Nat) : b + (if c then off else off + d) = if c then b + off else b + off + d := by
  split
  · rfl
  · omega

theorem aslice_sound {I E h w} (r : R I E h w) {t : TypeId} {x c v : Value} {lo hi mx : Option Value} {lo' hi' mx' : Option Int} (hlo : optInt lo = some lo') (hhi : optInt hi = some hi') (hmx : optInt mx = some mx')
    (hx : conc E x = some c) (ha : aslice P t x lo' hi' mx' h = some v) : ∃ u, (Instr.sliceAt t c lo hi mx).run P w = .ok u w ∧ conc E v = some u := by
  unfold aslice at ha
  split at ha
  · rename_i n e id off ht
    simp only [Option.bind_eq_some_iff] at ha
    obtain ⟨⟨l, k, m⟩, hb, ha⟩ := ha
    simp only at ha
    split at ha
    · rename_i hn
      simp only [Option.map_eq_some_iff] at ha
      obtain ⟨s, hs, rfl⟩ := ha
      simp only [conc, Option.map_eq_some_iff] at hx
      obtain ⟨L, hL, rfl⟩ := hx
      have hle := abounds_le hb
      have hm : (if mx'.isSome then m else n) = m := by
        split
        · rfl
        · rename_i hno
          have : mx' = none := by cases mx' <;> simp_all
          subst this
          unfold abounds at hb; simp only [Option.bind_eq_some_iff, Option.map_eq_some_iff, Option.some.injEq] at hb
          obtain ⟨_, rfl, _, _, _, _, hq⟩ := hb; cases hq; rfl
      have hrun := sliceBounds_run (P := P) (isS := false) hlo hhi hmx hb (Nat.le_refl n) w
      rw [hm] at hrun
      refine ⟨.slice (some ⟨L.b, L.base + (if m = l then off else off + l * s), none⟩) (k - l) (m - l), ?_, ?_⟩
      · simp only [Instr.sliceAt, Sem.run_bind, run_underlying_of ht, Result.andThen_ok, Instr.sureAddr, Sem.run_pure, hrun, run_sizeOf_of hs, base_if]
        split <;> simp [add_off]
      · simp only [conc, hL, Option.bind_some, if_pos (show m - l < UNK by omega)]
    · cases ha
  · rename_i e ht
    simp only [Option.bind_eq_some_iff, Option.map_eq_some_iff] at ha
    obtain ⟨s, hs, ⟨l, k, m⟩, hb, rfl⟩ := ha
    simp only [conc, Option.some.injEq] at hx
    subst hx
    have hle := abounds_le hb
    have hl : l = 0 ∧ k = 0 ∧ m = 0 := by
      refine ⟨?_, ?_, by omega⟩
      · cases hi' with
        | none => have := hle.2.2.1 rfl; omega
        | some v => have := hle.2.2.2 rfl; omega
      · cases hi' with
        | none => exact hle.2.2.1 rfl
        | some v => have := hle.2.2.2 rfl; omega
    obtain ⟨rfl, rfl, rfl⟩ := hl
    have hrun := sliceBounds_run (P := P) (isS := true) hlo hhi hmx hb (Nat.le_refl 0) w
    simp only [ite_self] at hrun
    refine ⟨.slice none 0 0, ?_, by simp only [conc]⟩
    simp only [Instr.sliceAt, Instr.slice, Sem.run_bind, run_underlying_of ht, Result.andThen_ok, hrun, run_sizeOf_of hs, Sem.run_pure, if_true]
  · rename_i e id off len cap ht
    obtain ⟨L, cap', hL, rfl, hcap⟩ := conc_slice hx
    split at ha
    · rename_i hc
      obtain rfl : cap' = cap := by rcases hcap with h | h; exact h.2; exact absurd hc h.1
      simp only [Option.bind_eq_some_iff, Option.map_eq_some_iff] at ha
      obtain ⟨⟨l, k, m⟩, hb, s, hs, rfl⟩ := ha
      have hle := abounds_le hb
      have hm : (if mx'.isSome then m else cap') = m := by
        split
        · rfl
        · rename_i hno
          have : mx' = none := by cases mx' <;> simp_all
          subst this
          unfold abounds at hb; simp only [Option.bind_eq_some_iff, Option.map_eq_some_iff, Option.some.injEq] at hb
          obtain ⟨_, rfl, _, _, _, _, hq⟩ := hb; cases hq; rfl
      have hrun := sliceBounds_run (P := P) (isS := true) hlo hhi hmx hb (Nat.le_refl cap') w
      rw [hm] at hrun
      refine ⟨.slice (some ⟨L.b, L.base + (if m = l then off else off + l * s), none⟩) (k - l) (m - l), ?_, ?_⟩
      · simp only [Instr.sliceAt, Instr.slice, Sem.run_bind, run_underlying_of ht, Result.andThen_ok, Sem.run_pure, hrun, run_sizeOf_of hs, Option.map_some, base_if]
        split <;> simp [add_off]
      · simp only [conc, hL, Option.bind_some, if_pos (show m - l < UNK by omega)]
    · rename_i hc
      obtain ⟨_, rfl, hlen⟩ : ¬ cap < UNK ∧ cap' = capOf L off ∧ len ≤ capOf L off := by rcases hcap with h | h; exact absurd h.1 hc; exact h
      simp only [Option.bind_eq_some_iff] at ha
      obtain ⟨⟨l, k, m⟩, hb, s, hs, ha⟩ := ha
      simp only at ha
      have hle := abounds_le hb
      have hrun := sliceBounds_run (P := P) (isS := true) hlo hhi hmx hb hlen w
      split at ha
      · rename_i hsome
        split at ha
        · rename_i hu
          cases ha
          rw [if_pos hsome] at hrun
          refine ⟨.slice (some ⟨L.b, L.base + (if m = l then off else off + l * s), none⟩) (k - l) (m - l), ?_, ?_⟩
          · simp only [Instr.sliceAt, Instr.slice, Sem.run_bind, run_underlying_of ht, Result.andThen_ok, Sem.run_pure, hrun, run_sizeOf_of hs, Option.map_some, base_if]
            split <;> simp [add_off]
          · simp only [conc, hL, Option.bind_some, if_pos (show m - l < UNK by omega)]
        · cases ha
      · rename_i hnone
        rw [if_neg hnone] at hrun
        split at ha
        · rename_i vs el sz hg
          split at ha
          · rename_i hcond
            cases ha
            obtain ⟨B, hg', hrel⟩ := r.blk id L hL (H.get_lt hg).2
            rw [hg] at hg'; cases hg'
            obtain ⟨_, _, _, _, _, ⟨hes, hpos⟩, _⟩ := hrel
            have hkl : k ≤ len := by
              cases hi' with
              | none => have := hle.2.2.1 rfl; omega
              | some v => have := hle.2.2.2 rfl; omega
            have hcapl : capOf L (off + l * s) = capOf L off - l := by
              unfold capOf
              rw [hes, hcond.1, show L.room - (L.base + (off + l * s)) = L.room - (L.base + off) - s * l from by rw [Nat.mul_comm]; omega, Nat.sub_mul_div]
            refine ⟨.slice (some ⟨L.b, L.base + (off + l * s), none⟩) (k - l) (capOf L off - l), ?_, ?_⟩
            · simp only [Instr.sliceAt, Instr.slice, Sem.run_bind, run_underlying_of ht, Result.andThen_ok, Sem.run_pure, hrun, run_sizeOf_of hs, Option.map_some]
              rcases hcond.2 with h0 | h0
              · subst h0
                simp [add_off]
              · rw [if_neg (by omega), add_off, Nat.add_assoc]
            · simp only [conc, hL, Option.bind_some, if_neg (show ¬ UNK < UNK by omega), hcapl, if_pos (show k - l ≤ capOf L off - l by omega)]
          · cases ha
        · cases ha
  · cases ha

/-! append, copy, make -/
/-- the cells of a slice -/
def rdS (I : Nat → Option Obj) (h : H) (sz : Nat) : Value → Option (Nat × List Value)
  | .slice none 0 0 => some (0, [])
  | .slice (some ⟨id, off, none⟩) n _ => (rdl I h id off (n * sz)).map fun l => (n, l)
  | _ => none

theorem rdS_sound {I E h w} (r : R I E h w) {sz n : Nat} {x c : Value} {vs : List Value} (hx : conc E x = some c) (hr : rdS I h sz x = some (n, vs)) :
    ∃ cs, concL E vs = some cs ∧ cs.length = n * sz ∧ (∀ w, (Builtin.lenOf c).run P w = .ok n w) ∧ (∀ w', (∀ a v, w.cell? a = some v → w'.cell? a = some v) → (Builtin.firstCells sz n c).run P w' = .ok cs.toArray w') := by
  unfold rdS at hr
  split at hr
  · simp only [Option.some.injEq, Prod.mk.injEq] at hr
    obtain ⟨rfl, rfl⟩ := hr
    simp only [conc, Option.some.injEq] at hx
    subst hx
    exact ⟨[], by simp only [concL], by simp, fun w => rfl, fun w' _ => rfl⟩
  · rename_i id off m cap
    simp only [Option.map_eq_some_iff, Prod.mk.injEq] at hr
    obtain ⟨l, hl, rfl, rfl⟩ := hr
    obtain ⟨L, cap', hL, rfl, hcap⟩ := conc_slice hx
    obtain ⟨cs, hc, hlen, hcell⟩ := rdl_sound r hL hl
    refine ⟨cs, hc, hlen, fun w => rfl, fun w' hw => ?_⟩
    have := run_loadCells_list (P := P) (w := w') ⟨L.b, L.base + off, none⟩ cs (fun j v hj => by rw [add_off]; exact hw _ _ (hcell j v hj))
    rw [hlen] at this
    simpa only [Builtin.firstCells] using this
  · cases hr

def aappend (P : Program) (I : Nat → Option Obj) (sT xT : TypeId) (s x : Value) (h : H) : Option (Value × H) :=
  match P.underlying sT, P.underlying xT with
  | some (.slice e), some (.slice _) =>
    match tsz P e, tbytes P e, tzero P e with
    | some sz, some by_, some z =>
      if z.cells.size = sz ∧ 0 < sz ∧ 0 < by_ then
        match rdS I h sz x with
        | some (n, new) =>
          match s with
          | .slice none 0 0 =>
            if n = 0 then some (s, h)
            else if (2 * n + 200) * by_ ≤ 281474976710656 then some (.slice (some ⟨h.new, 0, none⟩) n UNK, h ++ [.row new e sz]) else none
          | .slice (some ⟨id, off, none⟩) len cap =>
            if cap < UNK then
              if len + n ≤ cap then (wrl h id (off + len * sz) new).map fun h' => (.slice (some ⟨id, off, none⟩) (len + n) cap, h')
              else if (2 * (len + n) + 200) * by_ ≤ 281474976710656 then (rdl I h id off (len * sz)).map fun old => (.slice (some ⟨h.new, 0, none⟩) (len + n) UNK, h ++ [.row (old ++ new) e sz])
              else none
            else if n = 0 then some (s, h)
            else if off = 0 ∧ cap = UNK ∧ (2 * (len + n) + 200) * by_ ≤ 281474976710656 then
              match h.get id with
              | some (.row vs e' sz') => if len * sz ≤ vs.length ∧ e' = e ∧ sz' = sz ∧ new.all (·.oneCell') = true then
                  some (.slice (some ⟨h.new, 0, none⟩) (len + n) UNK, h.put id .dead ++ [.row (vs.take (len * sz) ++ new) e sz]) else none
              | _ => none
            else none
          | _ => none
        | none => none
      else none
    | _, _, _ => none
  | _, _ => none

theorem growBy_le (need : Nat) : ∀ k c, c ≤ need + (need + 768) / 4 → Builtin.growBy need k c ≤ need + (need + 768) / 4
  | 0, c, h => h
  | k + 1, c, h => by
    unfold Builtin.growBy
    split
    · exact h
    · exact growBy_le need k _ (by omega)
theorem nextslicecap_le (need c : Nat) (h : c < need) : Builtin.nextslicecap need c ≤ 2 * need + 200 := by
  unfold Builtin.nextslicecap
  split
  · omega
  · split
    · omega
    · have := growBy_le need 4 c (by omega); omega

/-- a new row in a new block -/
theorem push_row {I E h w} (r : R I E h w) {vs cs rest : List Value} (hv : concL E vs = some cs) (e : TypeId) {sz k n : Nat} (hsz : 0 < sz) (hn : vs.length = n * sz) (hk : n ≤ k) (hr : rest.length = (k - n) * sz) :
    ∃ E', R I E' (h ++ [.row vs e sz] : H) (w.alloc (.cells (cs ++ rest).toArray e)) ∧ Adv E h w E' (h ++ [.row vs e sz] : H) (w.alloc (.cells (cs ++ rest).toArray e)) ∧
      conc E' (.slice (some ⟨h.new, 0, none⟩) n UNK) = some (.slice (some ⟨w.heap.size, 0, none⟩) n k) := by
  have hcl := concL_length hv
  have hks : n * sz + (k - n) * sz = k * sz := by rw [← Nat.add_mul]; congr 1; omega
  obtain ⟨h1, h2⟩ := r.push (B := .row vs e sz) (o := .cells (cs ++ rest).toArray e) (L := { b := w.heap.size, base := 0, room := k * sz, esz := sz }) rfl
    ⟨_, cs, rfl, concL_ext (Ext.upd r.new_none _) _ _ hv, by simp; omega, ⟨rfl, hsz⟩, [], rest, by simp, rfl⟩
  refine ⟨_, h1, h2, ?_⟩
  have hc : capOf { b := w.heap.size, base := 0, room := k * sz, esz := sz } 0 = k := by
    unfold capOf; simp only [Nat.add_zero, Nat.sub_zero]; exact Nat.mul_div_cancel k hsz
  simp only [conc, Env.upd_self, Option.bind_some, if_neg (show ¬ UNK < UNK by omega), hc, if_pos hk, Nat.zero_add]

end
end Go.Sym
namespace Go.Sym
section
variable {P : Program}

theorem append_inplace {w w' : World} {sT xT ty e e2 : TypeId} {sz n sLen sCap : Nat} {a : Addr} {d : Value} {cs : List Value} (ht : P.underlying sT = some (.slice e)) (hx : P.underlying xT = some (.slice e2)) (hsz : tsz P e = some sz)
    (hlen : ∀ w, (Builtin.lenOf d).run P w = .ok n w) (hneed : sLen + n ≤ sCap) (hfc : (Builtin.firstCells sz n d).run P w = .ok cs.toArray w)
    (hst : (storeCells (a.add (sLen * sz)) cs 0).run P w = .ok () w') :
    (Builtin.append_ #[sT, xT] ty #[.slice (some a) sLen sCap, d]).run P w = .ok (.slice (some a) (sLen + n) sCap) w' := by
  simp only [Builtin.append_, List.getElem?_toArray, List.getElem?_cons_zero, List.getElem?_cons_succ, Sem.run_bind, Sem.run_pure, run_underlying_of ht, run_underlying_of hx, Result.andThen_ok, run_sizeOf_of hsz,
    Bool.false_eq_true, if_false, hlen, if_pos hneed, Bool.not_false, if_true, hfc, hst]

theorem append_grow {w : World} {sT xT ty e e2 : TypeId} {sz by_ n sLen sCap : Nat} {z : Value} {base : Option Addr} {d : Value} {old new : List Value} (ht : P.underlying sT = some (.slice e)) (hx : P.underlying xT = some (.slice e2)) (hsz : tsz P e = some sz)
    (hby : tbytes P e = some by_) (hz : tzero P e = some z) (hby0 : 0 < by_)
    (hlen : ∀ w, (Builtin.lenOf d).run P w = .ok n w) (hneed : ¬ sLen + n ≤ sCap) (hcap : Builtin.nextslicecap (sLen + n) sCap * by_ ≤ 281474976710656)
    (hold : ∀ w', (∀ a v, w.cell? a = some v → w'.cell? a = some v) → (Builtin.firstCells sz sLen (.slice base sLen sCap)).run P w' = .ok old.toArray w')
    (hnew : ∀ w', (∀ a v, w.cell? a = some v → w'.cell? a = some v) → (Builtin.firstCells sz n d).run P w' = .ok new.toArray w') :
    ∃ k rest, sLen + n ≤ k ∧ rest.length = (k - (sLen + n)) * z.cells.size ∧
    (Builtin.append_ #[sT, xT] ty #[.slice base sLen sCap, d]).run P w = .ok (.slice (some ⟨w.heap.size, 0, none⟩) (sLen + n) k) (w.drew.alloc (.cells (old ++ new ++ rest).toArray e)) := by
  have hinfo : ∃ i, P.info? e = some i ∧ i.bytes = by_ := by
    simp only [tbytes, Option.map_eq_some_iff] at hby
    exact hby
  obtain ⟨i, hi, hib⟩ := hinfo
  refine ⟨(Question.appendCap (sLen + n) sCap e).cut (w.tape w.drawn (.appendCap (sLen + n) sCap e)), (Builtin.zeroCells z.cells ((Question.appendCap (sLen + n) sCap e).cut (w.tape w.drawn (.appendCap (sLen + n) sCap e)) - (sLen + n))).toList, ?_, ?_, ?_⟩
  · simp only [Question.cut]; omega
  · simp [Builtin.zeroCells]
  · have hc1 : ¬ ((((sLen + n : Nat) : Int) > IntKind.i64.max) ∧ ((false = true) ∨ by_ = 0)) := by
      rintro ⟨_, h | h⟩
      · cases h
      · omega
    have hc2 : ¬ (Builtin.nextslicecap (sLen + n) sCap * by_ > 2 ^ 48) := by omega
    have hf : (Question.appendCap (sLen + n) sCap e).forced = false := rfl
    simp only [Builtin.append_, List.getElem?_toArray, List.getElem?_cons_zero, List.getElem?_cons_succ, Sem.run_bind, Sem.run_pure, run_underlying_of ht, run_underlying_of hx, Result.andThen_ok, run_sizeOf_of hsz,
      Bool.false_eq_true, if_false, hlen, if_neg hneed, Bool.not_false, if_true, run_typeInfo_of hi, hib, Sem.run_ite, if_neg hc2, run_choose, hf, run_askRoom]
    have hd : ∀ a v, w.cell? a = some v → w.drew.cell? a = some v := fun a v h => h
    rw [if_neg (by rintro ⟨_, h | h⟩; exact h; omega)]
    show ((Builtin.firstCells sz sLen (.slice base sLen sCap)).run P w.drew).andThen _ = _
    rw [hold w.drew hd, Result.andThen_ok, hnew w.drew hd, Result.andThen_ok, run_zeroValue_of hz, Result.andThen_ok]
    have e1 : (old ++ new ++ (Builtin.zeroCells z.cells ((Question.appendCap (sLen + n) sCap e).cut (w.tape w.drawn (Question.appendCap (sLen + n) sCap e)) - (sLen + n))).toList).toArray =
        old.toArray ++ new.toArray ++ Builtin.zeroCells z.cells ((Question.appendCap (sLen + n) sCap e).cut (w.tape w.drawn (Question.appendCap (sLen + n) sCap e)) - (sLen + n)) := by
      simp
    rw [e1]
    rfl

theorem aappend_sound {I E h w} (r : R I E h w) {sT xT ty : TypeId} {s x c d v : Value} {h' : H} (hs : conc E s = some c) (hx : conc E x = some d) (ha : aappend P I sT xT s x h = some (v, h')) :
    ∃ u E' w', (Builtin.append_ #[sT, xT] ty #[c, d]).run P w = .ok u w' ∧ conc E' v = some u ∧ R I E' h' w' ∧ Adv E h w E' h' w' := by
  unfold aappend at ha
  split at ha
  rotate_left
  · cases ha
  rename_i e e2 ht hxt
  split at ha
  rotate_left
  · cases ha
  rename_i sz by_ z hsz hby hz
  split at ha
  rotate_left
  · cases ha
  rename_i hok
  obtain ⟨hzs, hsz0, hby0⟩ := hok
  split at ha
  rotate_left
  · cases ha
  rename_i n new hrd
  obtain ⟨cs, hc, hcl, hlen, hfc⟩ := rdS_sound (P := P) r hx hrd
  have hnl := concL_length hc
  split at ha
  · simp only [conc, Option.some.injEq] at hs
    subst hs
    split at ha
    · rename_i hn0
      cases ha
      subst hn0
      refine ⟨.slice none 0 0, E, w, ?_, by simp only [conc], r, Adv.refl _ _ _⟩
      have hc0 : cs = [] := List.eq_nil_of_length_eq_zero (by omega)
      subst hc0
      have := hfc w (fun _ _ h => h)
      simp only [Builtin.append_, List.getElem?_toArray, List.getElem?_cons_zero, List.getElem?_cons_succ, Sem.run_bind, Sem.run_pure, run_underlying_of ht, run_underlying_of hxt, Result.andThen_ok, run_sizeOf_of hsz,
        Bool.false_eq_true, if_false, hlen, Nat.add_zero, Nat.le_refl, if_true, Bool.not_false, this]
    · split at ha
      · rename_i hn0 hb
        cases ha
        have hnc := nextslicecap_le (0 + n) 0 (by omega)
        obtain ⟨k, rest, hk, hrest, hrun⟩ := append_grow (P := P) (w := w) (ty := ty) (base := none) (sLen := 0) (sCap := 0) (old := []) ht hxt hsz hby hz hby0 hlen (by omega)
          (Nat.le_trans (Nat.mul_le_mul_right _ hnc) (by rw [Nat.zero_add]; exact hb)) (fun w' _ => rfl) hfc
        rw [Nat.zero_add] at hk hrest hrun
        obtain ⟨E', h1, h2, h3⟩ := push_row (I := I) r.drew hc e hsz0 (n := n) (k := k) (rest := rest) (by omega) hk (by rw [hrest, hzs])
        exact ⟨_, E', _, hrun, h3, by simpa using h1, (Adv.drew E h w).trans (by simpa using h2)⟩
      · cases ha
  · rename_i id off len cap
    obtain ⟨L, cap', hL, rfl, hcap⟩ := conc_slice hs
    split at ha
    · rename_i hu
      obtain rfl : cap' = cap := by rcases hcap with h | h; exact h.2; exact absurd hu h.1
      split at ha
      · rename_i hneed
        simp only [Option.map_eq_some_iff, Prod.mk.injEq] at ha
        obtain ⟨h'', hw, rfl, rfl⟩ := ha
        obtain ⟨w', hst, hR, hA⟩ := wrl_sound (P := P) r hL hc hw
        refine ⟨.slice (some ⟨L.b, L.base + off, none⟩) (len + n) cap', E, w', ?_, ?_, hR, hA⟩
        · exact append_inplace ht hxt hsz hlen hneed (hfc w fun _ _ h => h) (by rw [add_off, Nat.add_assoc]; exact hst)
        · simp only [conc, hL, Option.bind_some, if_pos hu]
      · rename_i hneed
        split at ha
        · rename_i hb
          simp only [Option.map_eq_some_iff, Prod.mk.injEq] at ha
          obtain ⟨old, hold, rfl, rfl⟩ := ha
          obtain ⟨os, hoc, hol, hcell⟩ := rdl_sound r hL hold
          have hnc := nextslicecap_le (len + n) cap' (by omega)
          have hfo : ∀ w', (∀ a v, w.cell? a = some v → w'.cell? a = some v) → (Builtin.firstCells sz len (.slice (some ⟨L.b, L.base + off, none⟩) len cap')).run P w' = .ok os.toArray w' := by
            intro w' hw
            have := run_loadCells_list (P := P) (w := w') ⟨L.b, L.base + off, none⟩ os (fun j v hj => by rw [add_off]; exact hw _ _ (hcell j v hj))
            rw [hol] at this
            simpa only [Builtin.firstCells] using this
          obtain ⟨k, rest, hk, hrest, hrun⟩ := append_grow (P := P) (w := w) (ty := ty) ht hxt hsz hby hz hby0 hlen hneed
            (Nat.le_trans (Nat.mul_le_mul_right _ hnc) hb) hfo hfc
          have hol' := concL_length hoc
          obtain ⟨E', h1, h2, h3⟩ := push_row (I := I) r.drew (concL_append hoc hc) e hsz0 (n := len + n) (k := k) (rest := rest) (by rw [List.length_append, Nat.add_mul]; omega) hk (by rw [hrest, hzs])
          exact ⟨_, E', _, hrun, h3, h1, (Adv.drew E h w).trans h2⟩
        · cases ha
    · rename_i hu
      obtain ⟨_, rfl, hlc⟩ : ¬ cap < UNK ∧ cap' = capOf L off ∧ len ≤ capOf L off := by rcases hcap with h | h; exact absurd h.1 hu; exact h
      split at ha
      · rename_i hn0
        cases ha
        subst hn0
        have hc0 : cs = [] := List.eq_nil_of_length_eq_zero (by omega)
        subst hc0
        refine ⟨_, E, w, append_inplace (cs := []) ht hxt hsz hlen (by omega) (hfc w fun _ _ h => h) rfl, ?_, r, Adv.refl _ _ _⟩
        rw [hs]; rfl
      · rename_i hn0
        split at ha
        · rename_i hb
          obtain ⟨rfl, rfl, hb⟩ := hb
          split at ha
          · rename_i vs e' sz' hg
            split at ha
            · rename_i hrow
              obtain ⟨hl, rfl, rfl, hcells⟩ := hrow
              cases ha
              have hid := (H.get_lt hg).2
              obtain ⟨B, hg', hrel⟩ := r.blk id L hL hid
              rw [hg] at hg'; cases hg'
              obtain ⟨c0, ds, ho, hdc, hroom, ⟨hes, _⟩, pre, post, happ, hpre⟩ := hrel
              have hdl := concL_length hdc
              have hsize : pre.length + ds.length + post.length = L.room := by
                rw [← hroom, ← Array.length_toList, happ]; simp; omega
              have hlive : h.live id := ⟨_, hg, by simp⟩
              have htake : concL E (vs.take (len * sz')) = some (ds.take (len * sz')) := concL_take _ hdc
              by_cases hneed : len + n ≤ capOf L 0
              · -- in place
                have hfit : pre.length + (len + n) * sz' ≤ L.room := by
                  unfold capOf at hneed
                  rw [hes, Nat.add_zero] at hneed
                  have := Nat.le_trans (Nat.mul_le_mul_right sz' hneed) (Nat.div_mul_le_self (L.room - L.base) sz')
                  have hpos : 0 < (len + n) * sz' := Nat.mul_pos (by omega) hsz0
                  omega
                have ho' : w.heap[L.b]? = some (.cells (pre ++ ds ++ post).toArray e') := by rw [ho, ← happ]
                have hmul : (len + n) * sz' = len * sz' + cs.length := by rw [Nat.add_mul]; omega
                have hst := storeCells_run (P := P) (b := L.b) (off := L.base + len * sz') (e := e') cs 0 (pre ++ ds ++ post) w ho' (by simp; omega) (by rw [concL_oneCell hc]; exact hcells)
                -- what the block holds then
                have hsp : ∃ post', splice (pre ++ ds ++ post) (L.base + len * sz' + 0) cs = pre ++ (ds.take (len * sz') ++ cs) ++ post' := by
                  refine ⟨(ds ++ post).drop (len * sz' + cs.length), ?_⟩
                  have e1 : pre ++ ds ++ post = (pre ++ ds.take (len * sz')) ++ ((ds ++ post).drop (len * sz')).take cs.length ++ (ds ++ post).drop (len * sz' + cs.length) := by
                    have e2 : ds ++ post = ds.take (len * sz') ++ (ds ++ post).drop (len * sz') := by
                      conv => lhs; rw [← List.take_append_drop (len * sz') (ds ++ post)]
                      rw [List.take_append_of_le_length (by omega)]
                    conv => lhs; rw [List.append_assoc, e2]
                    rw [List.append_assoc, List.append_assoc, ← List.drop_drop, List.take_append_drop]
                  rw [e1, show L.base + len * sz' + 0 = (pre ++ ds.take (len * sz')).length + 0 from by simp; omega, splice_mid]
                  · have : ∀ (vs l : List Value), l.length = vs.length → splice l 0 vs = vs := by
                      have gen : ∀ (vs a l : List Value), l.length = vs.length → splice (a ++ l) a.length vs = a ++ vs := by
                        intro vs
                        induction vs with
                        | nil => intro a l hl; have h0 : l = [] := List.eq_nil_of_length_eq_zero (by simpa using hl); subst h0; rfl
                        | cons v vs ih =>
                          intro a l hl
                          cases l with
                          | nil => simp at hl
                          | cons u l =>
                            simp only [splice]
                            have e3 : (a ++ u :: l).set a.length v = (a ++ [v]) ++ l := by simp
                            have := ih (a ++ [v]) l (by simpa using hl)
                            rw [e3]
                            rw [show (a ++ [v]).length = a.length + 1 from by simp] at this
                            rw [this]; simp
                      intro vs l hl
                      have := gen vs [] l hl
                      simpa using this
                    rw [this]
                    · simp
                    · simp; omega
                  · simp; omega
                obtain ⟨post', hsp⟩ := hsp
                rw [hsp] at hst
                have hroom' : (pre ++ (ds.take (len * sz') ++ cs) ++ post').length = L.room := by
                  rw [← hsp, splice_length, ← hsize]; simp; omega
                obtain ⟨h1, h2⟩ := r.over (L' := L) hid hL hlive rfl (B := .row (vs.take (len * sz') ++ new) e' sz') (o := .cells (pre ++ (ds.take (len * sz') ++ cs) ++ post').toArray e')
                  ⟨_, _, rfl, concL_ext (Ext.upd r.new_none _) _ _ (concL_append htake hc), by simpa using hroom', ⟨hes, hsz0⟩, pre, post', rfl, hpre⟩
                refine ⟨_, _, _, append_inplace ht hxt hsz hlen hneed (hfc w fun _ _ h => h) (by rw [add_off]; exact hst), ?_, h1, h2⟩
                simp only [conc, Env.upd_self, Option.bind_some, if_neg (show ¬ UNK < UNK by omega), if_pos hneed, Nat.add_zero]
              · -- it grows
                have hnc := nextslicecap_le (len + n) (capOf L 0) (by omega)
                have hfo : ∀ w', (∀ a v, w.cell? a = some v → w'.cell? a = some v) → (Builtin.firstCells sz' len (.slice (some ⟨L.b, L.base + 0, none⟩) len (capOf L 0))).run P w' = .ok (ds.take (len * sz')).toArray w' := by
                  intro w' hw
                  have := run_loadCells_list (P := P) (w := w') ⟨L.b, L.base + 0, none⟩ (ds.take (len * sz')) (fun j v hj => by
                    rw [add_off]
                    refine hw _ _ ?_
                    have hjn : j < len * sz' := by have := (List.getElem?_eq_some_iff.1 hj).1; simp at this; omega
                    rw [List.getElem?_take_of_lt hjn] at hj
                    have hlt := (List.getElem?_eq_some_iff.1 hj).1
                    rw [cell?_of ho, ← Array.getElem?_toList, happ, List.append_assoc, List.getElem?_append_right (by omega), List.getElem?_append_left (by omega), ← hj]
                    congr 1; omega)
                  rw [show (ds.take (len * sz')).length = len * sz' from by simp; omega] at this
                  simpa only [Builtin.firstCells] using this
                obtain ⟨k, rest, hk, hrest, hrun⟩ := append_grow (P := P) (w := w) (ty := ty) ht hxt hsz hby hz hby0 hlen hneed
                  (Nat.le_trans (Nat.mul_le_mul_right _ hnc) hb) hfo hfc
                obtain ⟨hk1, hk2⟩ := r.kill id
                have hnew : (h.put id .dead).new = h.new := by unfold H.new; rw [H.length_put]
                obtain ⟨E', h1, h2, h3⟩ := push_row (I := I) hk1.drew (concL_append htake hc) e' hsz0 (n := len + n) (k := k) (rest := rest) (by rw [List.length_append, Nat.add_mul, List.length_take]; omega) hk (by rw [hrest, hzs])
                rw [hnew] at h3
                exact ⟨_, E', _, hrun, h3, h1, hk2.trans ((Adv.drew E _ w).trans h2)⟩
            · cases ha
          · cases ha
        · cases ha
  · cases ha
end
end Go.Sym
namespace Go.Sym
section
variable {P : Program}

def lenV : Value → Option Nat
  | .slice none 0 0 => some 0
  | .slice (some ⟨_, _, none⟩) n _ => some n
  | _ => none
def rdN (I : Nat → Option Obj) (h : H) (sz n : Nat) : Value → Option (List Value)
  | .slice none 0 0 => some []
  | .slice (some ⟨id, off, none⟩) _ _ => rdl I h id off (n * sz)
  | _ => none

theorem lenV_sound {E : Env} {x c : Value} {n : Nat} (hx : conc E x = some c) (h : lenV x = some n) (w : World) : (Builtin.lenOf c).run P w = .ok n w := by
  unfold lenV at h
  split at h
  · cases h; simp only [conc, Option.some.injEq] at hx; subst hx; rfl
  · cases h; obtain ⟨L, cap', hL, rfl, _⟩ := conc_slice hx; rfl
  · cases h

theorem rdN_sound {I E h w} (r : R I E h w) {sz n : Nat} {x c : Value} {vs : List Value} (hx : conc E x = some c) (hr : rdN I h sz n x = some vs) :
    ∃ cs, concL E vs = some cs ∧ (Builtin.firstCells sz n c).run P w = .ok cs.toArray w := by
  unfold rdN at hr
  split at hr
  · cases hr; simp only [conc, Option.some.injEq] at hx; subst hx; exact ⟨[], by simp only [concL], rfl⟩
  · rename_i id off len cap
    obtain ⟨L, cap', hL, rfl, _⟩ := conc_slice hx
    obtain ⟨cs, hc, hlen, hcell⟩ := rdl_sound r hL hr
    refine ⟨cs, hc, ?_⟩
    have := run_loadCells_list (P := P) (w := w) ⟨L.b, L.base + off, none⟩ cs (fun j v hj => by rw [add_off]; exact hcell j v hj)
    rw [hlen] at this
    simpa only [Builtin.firstCells] using this
  · cases hr

def acopy (P : Program) (I : Nat → Option Obj) (dT : TypeId) (dst src : Value) (h : H) : Option (Value × H) :=
  match P.underlying dT with
  | some (.slice e) => (tsz P e).bind fun sz => (lenV src).bind fun sl => (lenV dst).bind fun dl =>
    (rdN I h sz (Nat.min sl dl) src).bind fun cs =>
      match dst with
      | .slice none 0 0 => some (.int .i64 0, h)
      | .slice (some ⟨id, off, none⟩) _ _ => (wrl h id off cs).map fun h' => (.int .i64 (Nat.min sl dl), h')
      | _ => none
  | _ => none

theorem acopy_sound {I E h w} (r : R I E h w) {dT sT ty : TypeId} {s x c d v : Value} {h' : H} (hs : conc E s = some c) (hx : conc E x = some d) (ha : acopy P I dT s x h = some (v, h')) :
    ∃ u w', (Builtin.copy_ #[dT, sT] ty #[c, d]).run P w = .ok u w' ∧ conc E v = some u ∧ R I E h' w' ∧ Adv E h w E h' w' := by
  unfold acopy at ha
  split at ha
  rotate_left
  · cases ha
  rename_i e ht
  simp only [Option.bind_eq_some_iff] at ha
  obtain ⟨sz, hsz, sl, hsl, dl, hdl, cs, hcs, ha⟩ := ha
  obtain ⟨ds, hd, hrun⟩ := rdN_sound (P := P) r hx hcs
  split at ha
  · cases ha
    simp only [lenV, Option.some.injEq] at hdl; subst hdl
    simp only [conc, Option.some.injEq] at hs; subst hs
    refine ⟨.int .i64 0, w, ?_, by simp only [conc], r, Adv.refl _ _ _⟩
    have hm : Nat.min sl 0 = 0 := Nat.min_zero sl
    rw [hm] at hrun
    simp only [Builtin.copy_, List.getElem?_toArray, List.getElem?_cons_zero, List.getElem?_cons_succ, Sem.run_bind, Sem.run_pure, run_underlying_of ht, Result.andThen_ok, run_sizeOf_of hsz, lenV_sound hx hsl, hm, hrun, goInt]
    rfl
  · rename_i id off len cap
    simp only [Option.map_eq_some_iff, Prod.mk.injEq] at ha
    obtain ⟨h'', hw, rfl, rfl⟩ := ha
    obtain ⟨L, cap', hL, rfl, _⟩ := conc_slice hs
    simp only [lenV, Option.some.injEq] at hdl; subst hdl
    obtain ⟨w', hst, hR, hA⟩ := wrl_sound (P := P) r hL hd hw
    refine ⟨.int .i64 (Nat.min sl len), w', ?_, by simp only [conc], hR, hA⟩
    simp only [Builtin.copy_, List.getElem?_toArray, List.getElem?_cons_zero, List.getElem?_cons_succ, Sem.run_bind, Sem.run_pure, run_underlying_of ht, Result.andThen_ok, run_sizeOf_of hsz, lenV_sound hx hsl, hrun, hst, goInt]
  · cases ha

theorem wrap_i64 {n : Int} (h0 : -9223372036854775808 ≤ n) (h1 : n < 9223372036854775808) : IntKind.i64.wrap n = n := by
  simp only [IntKind.wrap, IntKind.bits, IntKind.signed, Bool.true_and]
  split <;> rename_i h <;> simp at h <;> omega

def amakeSlice (P : Program) (t : TypeId) (len cap : Value) (h : H) : Option (Value × H) :=
  match P.underlying t, len, cap with
  | some (.slice e), .int .i64 l, .int .i64 c =>
    match tsz P e, tbytes P e, tzero P e with
    | some sz, some by_, some z =>
      if 0 ≤ l ∧ l ≤ c ∧ c < 1073741824 ∧ by_ * c ≤ 281474976710656 ∧ flat z = true ∧ 0 < sz then
        some (.slice (some ⟨h.new, 0, none⟩) l.toNat c.toNat, h ++ [.cells (zerosL z.cells.toList (c.toNat * sz)) e])
      else none
    | _, _, _ => none
  | _, _, _ => none

theorem amakeSlice_sound {I E h w} (r : R I E h w) {t : TypeId} {l c v : Value} {h' : H} (ha : amakeSlice P t l c h = some (v, h')) :
    ∃ u E' w', (Instr.makeSlice t l c).run P w = .ok u w' ∧ conc E' v = some u ∧ R I E' h' w' ∧ Adv E h w E' h' w' := by
  unfold amakeSlice at ha
  split at ha
  rotate_left
  · cases ha
  rename_i e l c ht
  split at ha
  rotate_left
  · cases ha
  rename_i sz by_ z hsz hby hz
  split at ha
  rotate_left
  · cases ha
  rename_i hok
  obtain ⟨h0, h1, h2, h3, h4, h5⟩ := hok
  cases ha
  obtain ⟨a1, a2, a3⟩ := push_cells r (concL_flat E _ (flatL_zeros (flat_cells h4) (c.toNat * sz))) e
  refine ⟨.slice (some ⟨w.heap.size, 0, none⟩) l.toNat c.toNat, _, _, ?_, ?_, a1, a2⟩
  · have hinfo : ∃ i, P.info? e = some i ∧ i.bytes = by_ := by
      simp only [tbytes, Option.map_eq_some_iff] at hby
      exact hby
    obtain ⟨i, hi, hib⟩ := hinfo
    have wl : IntKind.i64.wrap l = l := wrap_i64 (by omega) (by omega)
    have wc : IntKind.i64.wrap c = c := wrap_i64 (by omega) (by omega)
    have t1 : (decide (c < 0) || decide ((by_ : Int) * c > 2 ^ 48)) = false := by
      rw [Bool.or_eq_false_iff, decide_eq_false_iff_not, decide_eq_false_iff_not]; omega
    have t2 : decide (l < 0) = false := by simp; omega
    have t3 : decide (l > c) = false := by simp; omega
    simp only [Instr.makeSlice, Sem.run_bind, Sem.run_pure, run_underlying_of ht, Result.andThen_ok, asInt, asIntOf, run_typeInfo_of hi, hib, wl, wc, t1, t2, t3, Bool.or_self, Bool.false_eq_true, if_false, run_askRoom, run_sizeOf_of hsz, Sem.run_ite]
    by_cases hz0 : c.toNat * sz = 0
    · simp only [hz0, if_true, range_zero', Array.map_empty]
      rfl
    · simp only [if_neg hz0, run_zeroValue_of hz, Result.andThen_ok, zeros_arr]
      rfl
  · have hc : c.toNat < UNK := by unfold UNK; omega
    simp only [conc, Env.upd_self, Option.bind_some, if_pos hc]

end
end Go.Sym
namespace Go.Sym

def chk (v : Value) : Option Value := if flat v = true then some v else none
theorem chk_some {v u : Value} (h : chk v = some u) : u = v ∧ flat v = true := by
  unfold chk at h; split at h
  · rename_i hf; cases h; exact ⟨rfl, hf⟩
  · cases h

def abin (P : Program) (op : BinOp) (t : TypeId) (x y : Operand) (u v : Value) : Option Value :=
  if flat u = true ∧ flat v = true then (free P (do eqGuard op t x y u v; binOp op t u v)).bind chk else none
def aun (P : Program) (op : UnOp) (u : Value) : Option Value := if flat u = true then (free P (Op.unary op u)).bind chk else none
def aconv (P : Program) (s d : TypeId) (u : Value) : Option Value := if flat u = true then (free P (convert s d u)).bind chk else none
def aidx (P : Program) (t : TypeId) (x i : Value) : Option Value := if flat x = true ∧ flat i = true then (free P (Instr.index t x i)).bind chk else none

def alen (P : Program) (ts : Array TypeId) (ty : TypeId) (x : Value) : Option Value :=
  match (ts[0]?).bind P.underlying, x with
  | some (.slice _), .slice _ n _ => some (.int .i64 n)
  | some (.array n _), _ => some (.int .i64 n)
  | _, _ => if flat x = true then (free P (Builtin.len_ ts ty #[x])).bind chk else none

def abi (P : Program) (I : Nat → Option Obj) (b : Builtin) (ts : Array TypeId) (ty : TypeId) (args : List Value) (h : H) : Option (Value × H) :=
  match b, args with
  | .len, [x] => (alen P ts ty x).map fun v => (v, h)
  | .append, [s, x] => match ts.toList with | [a, b] => aappend P I a b s x h | _ => none
  | .copy, [s, x] => match ts.toList with | [a, _] => acopy P I a s x h | _ => none
  | .min, args => if flatL args = true then ((free P (Builtin.min_ ts ty args.toArray)).bind chk).map fun v => (v, h) else none
  | .max, args => if flatL args = true then ((free P (Builtin.max_ ts ty args.toArray)).bind chk).map fun v => (v, h) else none
  | _, _ => none

def stepOp (P : Program) (I : Nat → Option Obj) (tm : List Value) (h : H) (ty : TypeId) (op : Op) : Option (Value × H) :=
  match op with
  | .move x => some (ev tm x, h)
  | .assign x => some (ev tm x, h)
  | .pick c a b => match ev tm c with | .bool t => some (if t then ev tm a else ev tm b, h) | _ => none
  | .alloc t => match tzero P t with | some z => if flat z = true then some (nptr h, h ++ [.cells z.cells.toList t]) else none | none => none
  | .box t x => some (nptr h, h ++ [.cells (ev tm x).cells.toList t])
  | .build t ps => (abuild P t (ps.toList.map fun p => (p.1, ev tm p.2))).map fun v => (v, h)
  | .buildSlice t n ps => if n < UNK then abuildSlice P t n (ps.toList.map fun p => (p.1, ev tm p.2)) h else none
  | .load t a => (aload P I t (ev tm a) h).map fun v => (v, h)
  | .store t a x => (astore P t (ev tm a) (ev tm x) h).map fun h' => (undef, h')
  | .nilCheck x => match ev tm x with | .pointer (some a) => some (.pointer (some a), h) | _ => none
  | .binOp op t x y _ => (abin P op t x y (ev tm x) (ev tm y)).map fun v => (v, h)
  | .unOp op _ x => (aun P op (ev tm x)).map fun v => (v, h)
  | .convert s d x => (aconv P s d (ev tm x)).map fun v => (v, h)
  | .makeFunc (.func f) first cap => some (.func (.func f) (first.map (ev tm)) (cap.map (ev tm)), h)
  | .makeSlice t l c => if flat (ev tm l) = true ∧ flat (ev tm c) = true then amakeSlice P t (ev tm l) (ev tm c) h else none
  | .slice t x lo hi mx =>
    match optInt (lo.map (ev tm)), optInt (hi.map (ev tm)), optInt (mx.map (ev tm)) with
    | some lo', some hi', some mx' => (aslice P t (ev tm x) lo' hi' mx' h).map fun v => (v, h)
    | _, _, _ => none
  | .fieldAddr s x f => (afield P s (ev tm x) f).map fun v => (v, h)
  | .field t x f => (afieldV P t (ev tm x) f).map fun v => (v, h)
  | .indexAddr t x i => if flat (ev tm i) = true then (aindex P t (ev tm x) (ev tm i)).map fun v => (v, h) else none
  | .index t x i => (aidx P t (ev tm x) (ev tm i)).map fun v => (v, h)
  | .extract t i => match ev tm t with | .tuple vs => (vs[i]?).map fun v => (v, h) | _ => none
  | .call c => match c.callee with | .builtin b => abi P I b c.argTypes ty (c.args.toList.map (ev tm)) h | _ => none
  | _ => none

/-- are the operands of a kind that is known? -/
def okOp (op : Op) : Bool :=
  match op with
  | .slice _ x lo hi mx => okO x && lo.all okO && hi.all okO && mx.all okO
  | .build _ ps => ps.toList.all fun p => okO p.2
  | .buildSlice _ _ ps => ps.toList.all fun p => okO p.2
  | .makeFunc _ a b => a.toList.all okO && b.toList.all okO
  | .call c => (match c.callee with | .value f => okO f | _ => true) && c.args.toList.all okO
  | .move x | .assign x | .box _ x | .load _ x | .nilCheck x | .unOp _ _ x | .convert _ _ x | .fieldAddr _ x _ | .field _ x _ | .extract x _ | .range _ x => okO x
  | .pick c a b => okO c && okO a && okO b
  | .alloc _ => true
  | .store _ a v | .binOp _ _ a v _ | .makeSlice _ a v | .indexAddr _ a v | .index _ a v | .lookup _ a v _ | .mapEntry _ a v => okO a && okO v
  | .mapUpdate _ m k v | .insert _ m k v | .entryStore _ m k v => okO m && okO k && okO v
  | .makeMap _ r => r.all okO
  | _ => false

/-- what an operation that enters no function comes to -/
def Does (P : Program) (I : Nat → Option Obj) (E : Env) (h : H) (w : World) (s : Sem Next) (v : Value) (h' : H) : Prop :=
  ∃ c E' w', (s.run P w = .ok (.value c) w' ∨ (s.run P w = .ok .skip w' ∧ c = undef)) ∧ conc E' v = some c ∧ R I E' h' w' ∧ Adv E h w E' h' w'

section
variable {P : Program} {I : Nat → Option Obj} {E : Env} {h : H} {w : World}

theorem Does.value (r : R I E h w) {s : Sem Next} {v c : Value} (hs : s.run P w = .ok (.value c) w) (hc : conc E v = some c) : Does P I E h w s v h :=
  ⟨c, E, w, .inl hs, hc, r, Adv.refl _ _ _⟩
theorem Does.of {s : Sem Value} {v : Value} {h' : H} (hh : ∃ u E' w', s.run P w = .ok u w' ∧ conc E' v = some u ∧ R I E' h' w' ∧ Adv E h w E' h' w') :
    Does P I E h w (do pure (.value (← s))) v h' := by
  obtain ⟨u, E', w', h1, h2⟩ := hh
  exact ⟨u, E', w', .inl (by simp only [Sem.run_bind, h1, Result.andThen_ok, Sem.run_pure]), h2⟩
theorem Does.of1 (r : R I E h w) {s : Sem Value} {v : Value} (hh : ∃ u, s.run P w = .ok u w ∧ conc E v = some u) : Does P I E h w (do pure (.value (← s))) v h :=
  Does.of (let ⟨u, h1, h2⟩ := hh; ⟨u, E, w, h1, h2, r, Adv.refl _ _ _⟩)
theorem Does.free (r : R I E h w) {s : Sem Value} {v : Value} (hh : (Sym.free P s).bind chk = some v) : Does P I E h w (do pure (.value (← s))) v h := by
  simp only [Option.bind_eq_some_iff] at hh
  obtain ⟨u, hu, hc⟩ := hh
  obtain ⟨rfl, hf⟩ := chk_some hc
  exact Does.of1 r ⟨v, free_run hu w, conc_flat E v hf⟩

end

def isAlloc : Op → Bool
  | .alloc _ | .box _ _ | .buildSlice _ _ _ => true
  | _ => false
def isRead : Op → Bool
  | .load _ _ | .slice _ _ _ _ _ => true
  | _ => false
def isPure : Op → Bool
  | .move _ | .assign _ | .pick _ _ _ | .build _ _ | .nilCheck _ | .binOp _ _ _ _ _ | .unOp _ _ _ | .convert _ _ _ | .makeFunc _ _ _ | .fieldAddr _ _ _ | .field _ _ _ | .indexAddr _ _ _ | .index _ _ _ | .extract _ _ => true
  | .call c => (match c.callee with | .builtin .len => true | .builtin .min => true | .builtin .max => true | _ => false)
  | _ => false

/-- what an operation that only looks comes to -/
def Looks (P : Program) (E : Env) (w : World) (s : Sem Next) (v : Value) : Prop := ∃ c, s.run P w = .ok (.value c) w ∧ conc E v = some c
theorem Looks.value {P : Program} {E : Env} {w : World} {s : Sem Next} {v c : Value} (hs : s.run P w = .ok (.value c) w) (hc : conc E v = some c) : Looks P E w s v := ⟨c, hs, hc⟩
theorem Looks.of1 {P : Program} {E : Env} {w : World} {s : Sem Value} {v : Value} (hh : ∃ u, s.run P w = .ok u w ∧ conc E v = some u) : Looks P E w (do pure (.value (← s))) v := by
  obtain ⟨u, h1, h2⟩ := hh
  exact ⟨u, by simp only [Sem.run_bind, h1, Result.andThen_ok, Sem.run_pure], h2⟩
theorem Looks.free {P : Program} {E : Env} {w : World} {s : Sem Value} {v : Value} (hh : (Sym.free P s).bind chk = some v) : Looks P E w (do pure (.value (← s))) v := by
  simp only [Option.bind_eq_some_iff] at hh
  obtain ⟨u, hu, hc⟩ := hh
  obtain ⟨rfl, hf⟩ := chk_some hc
  exact Looks.of1 ⟨v, free_run hu w, conc_flat E v hf⟩
theorem Looks.does {P : Program} {I : Nat → Option Obj} {E : Env} {h : H} {w : World} {s : Sem Next} {v : Value} (r : R I E h w) (l : Looks P E w s v) : Does P I E h w s v h :=
  let ⟨_, h1, h2⟩ := l; Does.value r h1 h2

section
variable {P : Program} {I : Nat → Option Obj} {E : Env} {h : H} {w : World}
theorem concP_ev {tm : List Value} {a : Act} (ht : concL E tm = some a.tmps.toList) : ∀ (ps : List (Nat × Operand)), (ps.all fun p => okO p.2) = true →
    concP E (ps.map fun p => (p.1, ev tm p.2)) = some (ps.map fun p => (p.1, a.eval p.2))
  | [], _ => rfl
  | p :: ps, hp => by
    simp only [List.all_cons, Bool.and_eq_true] at hp
    simp only [List.map_cons, concP, conc_ev ht hp.1, concP_ev ht ps hp.2, Option.bind_some, Option.map_some]

theorem eval_flat {tm : List Value} {a : Act} (ht : concL E tm = some a.tmps.toList) {x : Operand} (hx : okO x = true) (hf : flat (ev tm x) = true) : a.eval x = ev tm x := by
  have h1 := conc_ev ht hx
  rw [conc_flat E _ hf] at h1
  exact (Option.some.inj h1).symm

theorem optInt_ev {tm : List Value} {a : Act} (ht : concL E tm = some a.tmps.toList) {o : Option Operand} (ho : o.all okO = true) {n : Option Int} (h : optInt (o.map (ev tm)) = some n) : optInt (o.map a.eval) = some n := by
  cases o with
  | none => exact h
  | some x =>
    simp only [Option.map_some] at h ⊢
    have hx : okO x = true := by simpa using ho
    cases hk' : ev tm x with
    | int k' m' =>
      rw [eval_flat ht hx (by rw [hk']; rfl), hk']
      rw [hk'] at h; exact h
    | _ => rw [hk'] at h; cases h

theorem flatL_evs {tm : List Value} {a : Act} (ht : concL E tm = some a.tmps.toList) {xs : List Operand} (hx : xs.all okO = true) (hf : flatL (xs.map (ev tm)) = true) : xs.map a.eval = xs.map (ev tm) := by
  have h1 := conc_evs ht xs hx
  rw [concL_flat E _ hf] at h1
  exact (Option.some.inj h1).symm

theorem alen_sound {ts : Array TypeId} {ty : TypeId} {x c v : Value} (hx : conc E x = some c) (ha : alen P ts ty x = some v) : ∃ u, (Builtin.len_ ts ty #[c]).run P w = .ok u w ∧ conc E v = some u := by
  unfold alen at ha
  split at ha
  · rename_i e b n cap ht
    cases ha
    have hc : ∃ b' cap', c = .slice b' n cap' := by
      match b, n, cap, hx with
      | none, 0, 0, hx => simp only [conc, Option.some.injEq] at hx; exact ⟨none, 0, hx.symm⟩
      | none, 0, m + 1, hx => simp [conc] at hx
      | none, n + 1, m, hx => simp [conc] at hx
      | some ⟨_, _, none⟩, n, cap, hx => obtain ⟨L, cap', _, rfl, _⟩ := conc_slice hx; exact ⟨_, _, rfl⟩
      | some ⟨_, _, some _⟩, n, cap, hx => simp only [conc, Option.some.injEq] at hx; exact ⟨_, _, hx.symm⟩
    obtain ⟨b', cap', rfl⟩ := hc
    simp only [Option.bind_eq_some_iff] at ht
    obtain ⟨t, h1, h2⟩ := ht
    refine ⟨.int .i64 n, ?_, by simp only [conc]⟩
    simp only [Builtin.len_, h1, List.getElem?_toArray, List.getElem?_cons_zero, Sem.run_bind, run_underlying_of h2, Result.andThen_ok, Sem.run_pure, goInt]
  · rename_i x n e ht
    cases ha
    simp only [Option.bind_eq_some_iff] at ht
    obtain ⟨t, h1, h2⟩ := ht
    refine ⟨.int .i64 n, ?_, by simp only [conc]⟩
    simp only [Builtin.len_, h1, List.getElem?_toArray, List.getElem?_cons_zero, Sem.run_bind, run_underlying_of h2, Result.andThen_ok, Sem.run_pure, goInt]
  · split at ha
    · rename_i hf
      rw [conc_flat E _ hf] at hx; cases hx
      simp only [Option.bind_eq_some_iff] at ha
      obtain ⟨u, hu, hc⟩ := ha
      obtain ⟨rfl, hf'⟩ := chk_some hc
      exact ⟨v, free_run hu w, conc_flat E v hf'⟩
    · cases ha

theorem abi_sound (r : R I E h w) {b : Builtin} {ts : Array TypeId} {ty : TypeId} {cs : Array Bool} {args dargs : List Value} {v : Value} {h' : H} (hd : concL E args = some dargs)
    (ha : abi P I b ts ty args h = some (v, h')) : Does P I E h w (builtin b ts ty cs dargs.toArray) v h' := by
  unfold abi at ha
  split at ha
  · rename_i x
    simp only [Option.map_eq_some_iff, Prod.mk.injEq] at ha
    obtain ⟨u, hu, rfl, rfl⟩ := ha
    simp only [concL, Option.bind_eq_some_iff, Option.map_eq_some_iff] at hd
    obtain ⟨c, hc, m, hm, rfl⟩ := hd
    cases hm
    exact Does.of1 r (alen_sound hc hu)
  · rename_i s x
    simp only [concL, Option.bind_eq_some_iff, Option.map_eq_some_iff] at hd
    obtain ⟨c, hc, m, ⟨d, hd, m2, hm2, rfl⟩, rfl⟩ := hd
    cases hm2
    split at ha
    · rename_i ta tb hts
      have : ts = #[ta, tb] := by rw [← Array.toArray_toList (xs := ts), hts]
      subst this
      exact Does.of (aappend_sound r hc hd ha)
    · cases ha
  · rename_i s x
    simp only [concL, Option.bind_eq_some_iff, Option.map_eq_some_iff] at hd
    obtain ⟨c, hc, m, ⟨d, hd, m2, hm2, rfl⟩, rfl⟩ := hd
    cases hm2
    split at ha
    · rename_i ta tb hts
      have : ts = #[ta, tb] := by rw [← Array.toArray_toList (xs := ts), hts]
      subst this
      obtain ⟨u, w', h1, h2⟩ := acopy_sound (P := P) (sT := tb) (ty := ty) r hc hd ha
      exact Does.of ⟨u, E, w', h1, h2⟩
    · cases ha
  · split at ha
    · rename_i hf
      simp only [Option.map_eq_some_iff, Prod.mk.injEq] at ha
      obtain ⟨u, hu, rfl, rfl⟩ := ha
      rw [concL_flat E _ hf] at hd; cases hd
      exact Does.free r hu
    · cases ha
  · split at ha
    · rename_i hf
      simp only [Option.map_eq_some_iff, Prod.mk.injEq] at ha
      obtain ⟨u, hu, rfl, rfl⟩ := ha
      rw [concL_flat E _ hf] at hd; cases hd
      exact Does.free r hu
    · cases ha
  · cases ha


theorem abi_same {b : Builtin} (hb : b = .len ∨ b = .min ∨ b = .max) {ts : Array TypeId} {ty : TypeId} {args : List Value} {v : Value} {h' : H} (ha : abi P I b ts ty args h = some (v, h')) : h' = h := by
  rcases hb with rfl | rfl | rfl
  · match args, ha with
    | [x], ha => simp only [abi, Option.map_eq_some_iff, Prod.mk.injEq] at ha; obtain ⟨_, _, _, rfl⟩ := ha; rfl
    | [], ha => cases ha
    | _ :: _ :: _, ha => cases ha
  · simp only [abi] at ha
    split at ha
    · simp only [Option.map_eq_some_iff, Prod.mk.injEq] at ha; obtain ⟨_, _, _, rfl⟩ := ha; rfl
    · cases ha
  · simp only [abi] at ha
    split at ha
    · simp only [Option.map_eq_some_iff, Prod.mk.injEq] at ha; obtain ⟨_, _, _, rfl⟩ := ha; rfl
    · cases ha

theorem abi_looks {b : Builtin} {ts : Array TypeId} {ty : TypeId} {cs : Array Bool} {args dargs : List Value} {v : Value} {h' : H} (hd : concL E args = some dargs) (hb : b = .len ∨ b = .min ∨ b = .max)
    (ha : abi P I b ts ty args h = some (v, h')) : Looks P E w (builtin b ts ty cs dargs.toArray) v := by
  rcases hb with rfl | rfl | rfl
  · match args, ha with
    | [x], ha =>
      simp only [abi, Option.map_eq_some_iff, Prod.mk.injEq] at ha
      obtain ⟨u, hu, rfl, rfl⟩ := ha
      simp only [concL, Option.bind_eq_some_iff, Option.map_eq_some_iff] at hd
      obtain ⟨c, hc, m, hm, rfl⟩ := hd
      cases hm
      exact Looks.of1 (alen_sound hc hu)
    | [], ha => cases ha
    | _ :: _ :: _, ha => cases ha
  · simp only [abi] at ha
    split at ha
    · rename_i hf
      simp only [Option.map_eq_some_iff, Prod.mk.injEq] at ha
      obtain ⟨u, hu, rfl, rfl⟩ := ha
      rw [concL_flat E _ hf] at hd; cases hd
      exact Looks.free hu
    · cases ha
  · simp only [abi] at ha
    split at ha
    · rename_i hf
      simp only [Option.map_eq_some_iff, Prod.mk.injEq] at ha
      obtain ⟨u, hu, rfl, rfl⟩ := ha
      rw [concL_flat E _ hf] at hd; cases hd
      exact Looks.free hu
    · cases ha

theorem stepOp_pure {tm : List Value} {a : Act} (ht : concL E tm = some a.tmps.toList) {o : Oper} (hok : okOp o.op = true) (hst : isPure o.op = true) {v : Value} {h' : H} (hs : stepOp P I tm h o.type o.op = some (v, h')) :
    h' = h ∧ Looks P E w (execOp a.eval o) v := by
  obtain ⟨dst, op, ty, pos, aft, gd⟩ := o
  simp only at hok hs hst
  cases op with
  | move x => simp only [stepOp, Option.some.injEq, Prod.mk.injEq] at hs; obtain ⟨rfl, rfl⟩ := hs; exact ⟨rfl, Looks.value rfl (conc_ev ht hok)⟩
  | assign x => simp only [stepOp, Option.some.injEq, Prod.mk.injEq] at hs; obtain ⟨rfl, rfl⟩ := hs; exact ⟨rfl, Looks.value rfl (conc_ev ht hok)⟩
  | pick c x y =>
    simp only [okOp, Bool.and_eq_true] at hok
    simp only [stepOp] at hs
    split at hs
    · rename_i t hc
      simp only [Option.some.injEq, Prod.mk.injEq] at hs; obtain ⟨rfl, rfl⟩ := hs
      have he := eval_flat ht hok.1.1 (by rw [hc]; rfl)
      refine ⟨rfl, Looks.value (c := if t then a.eval x else a.eval y) ?_ ?_⟩
      · simp only [execOp, he, hc, asBool, Sem.run_bind, Sem.run_pure, Result.andThen_ok]
      · cases t
        · exact conc_ev ht hok.2
        · exact conc_ev ht hok.1.2
    · cases hs
  | build t ps =>
    simp only [stepOp, Option.map_eq_some_iff, Prod.mk.injEq] at hs
    obtain ⟨u, hu, rfl, rfl⟩ := hs
    have hp := concP_ev ht ps.toList hok
    have := abuild_sound hp hu w
    refine ⟨rfl, Looks.of1 ?_⟩
    have e : ((ps.toList.map fun p => (p.1, a.eval p.2)).toArray) = ps.map (fun x => match x with | (i, x) => (i, a.eval x)) := by
      apply Array.ext'; simp
    rw [← e]; exact this
  | nilCheck x =>
    simp only [stepOp] at hs
    split at hs
    · rename_i p hx
      simp only [Option.some.injEq, Prod.mk.injEq] at hs; obtain ⟨rfl, rfl⟩ := hs
      have hc := conc_ev ht (x := x) hok
      rw [hx] at hc
      obtain ⟨id, off, sp⟩ := p
      cases sp with
      | none =>
        have hc2 := hc
        simp only [conc, Option.map_eq_some_iff] at hc
        obtain ⟨L, hL, he⟩ := hc
        refine ⟨rfl, Looks.value (c := a.eval x) ?_ hc2⟩
        simp only [execOp, ← he, Sem.run_pure]
      | some s => simp [conc] at hc
    · cases hs
  | binOp op t x y yt =>
    simp only [okOp, Bool.and_eq_true] at hok
    simp only [stepOp, Option.map_eq_some_iff, Prod.mk.injEq] at hs
    obtain ⟨u, hu, rfl, rfl⟩ := hs
    unfold abin at hu
    split at hu
    · rename_i hf
      simp only [execOp, eval_flat ht hok.1 hf.1, eval_flat ht hok.2 hf.2]
      exact ⟨trivial, Looks.free hu⟩
    · cases hu
  | unOp op t x =>
    simp only [stepOp, Option.map_eq_some_iff, Prod.mk.injEq] at hs
    obtain ⟨u, hu, rfl, rfl⟩ := hs
    unfold aun at hu
    split at hu
    · rename_i hf
      simp only [execOp, eval_flat ht (x := x) hok hf]
      exact ⟨trivial, Looks.free hu⟩
    · cases hu
  | convert s d x =>
    simp only [stepOp, Option.map_eq_some_iff, Prod.mk.injEq] at hs
    obtain ⟨u, hu, rfl, rfl⟩ := hs
    unfold aconv at hu
    split at hu
    · rename_i hf
      simp only [execOp, eval_flat ht (x := x) hok hf]
      exact ⟨trivial, Looks.free hu⟩
    · cases hu
  | makeFunc fn first cap =>
    simp only [okOp, Bool.and_eq_true] at hok
    cases fn with
    | func f =>
      simp only [stepOp, Option.some.injEq, Prod.mk.injEq] at hs; obtain ⟨rfl, rfl⟩ := hs
      have h1 : concA E (first.map (ev tm)) = some (first.map a.eval) := concA_of (by simpa using conc_evs ht first.toList hok.1)
      have h2 : concA E (cap.map (ev tm)) = some (cap.map a.eval) := concA_of (by simpa using conc_evs ht cap.toList hok.2)
      exact ⟨rfl, Looks.value (c := .func (.func f) (first.map a.eval) (cap.map a.eval)) rfl (by simp only [conc, h1, h2, Option.bind_some, Option.map_some])⟩
    | method _ => cases hs
    | methodOf _ _ => cases hs
    | via _ _ _ _ => cases hs
    | yield _ => cases hs
  | fieldAddr s x f =>
    simp only [stepOp, Option.map_eq_some_iff, Prod.mk.injEq] at hs
    obtain ⟨u, hu, rfl, rfl⟩ := hs
    exact ⟨rfl, Looks.of1 (afield_sound (conc_ev ht (x := x) hok) hu w)⟩
  | field t x f =>
    simp only [stepOp, Option.map_eq_some_iff, Prod.mk.injEq] at hs
    obtain ⟨u, hu, rfl, rfl⟩ := hs
    exact ⟨rfl, Looks.of1 (afieldV_sound (conc_ev ht (x := x) hok) hu w)⟩
  | indexAddr t x i =>
    simp only [okOp, Bool.and_eq_true] at hok
    simp only [stepOp] at hs
    split at hs
    · rename_i hf
      simp only [Option.map_eq_some_iff, Prod.mk.injEq] at hs
      obtain ⟨u, hu, rfl, rfl⟩ := hs
      simp only [execOp, eval_flat ht hok.2 hf]
      exact ⟨trivial, Looks.of1 (aindex_sound (conc_ev ht hok.1) hf hu w)⟩
    · cases hs
  | index t x i =>
    simp only [okOp, Bool.and_eq_true] at hok
    simp only [stepOp, Option.map_eq_some_iff, Prod.mk.injEq] at hs
    obtain ⟨u, hu, rfl, rfl⟩ := hs
    unfold aidx at hu
    split at hu
    · rename_i hf
      simp only [execOp, eval_flat ht hok.1 hf.1, eval_flat ht hok.2 hf.2]
      exact ⟨trivial, Looks.free hu⟩
    · cases hu
  | extract t i =>
    simp only [stepOp] at hs
    split at hs
    · rename_i vs hx
      simp only [Option.map_eq_some_iff, Prod.mk.injEq] at hs
      obtain ⟨u, hu, rfl, rfl⟩ := hs
      have hc := conc_ev ht (x := t) hok
      rw [hx] at hc
      simp only [conc, Option.map_eq_some_iff] at hc
      obtain ⟨ds, hd, he⟩ := hc
      obtain ⟨d, hd1, hd2⟩ := concL_get (concA_toList hd) i u (by rw [Array.getElem?_toList]; exact hu)
      rw [Array.getElem?_toList] at hd1
      refine ⟨rfl, Looks.of1 ⟨d, ?_, hd2⟩⟩
      simp only [← he, Instr.extract, hd1, Sem.run_pure]
    · cases hs
  | call c =>
    simp only [okOp, Bool.and_eq_true] at hok
    simp only [stepOp] at hs
    split at hs
    · rename_i b hb
      have e2 : (c.args.toList.map a.eval).toArray = c.args.map a.eval := by apply Array.ext'; simp
      have hst' : b = .len ∨ b = .min ∨ b = .max := by
        simp only [isPure, hb] at hst
        cases b <;> simp at hst <;> simp
      refine ⟨abi_same hst' hs, ?_⟩
      simp only [execOp, resolve, hb, pure_bind, invoke]
      rw [← e2]
      exact abi_looks (conc_evs ht _ hok.2) hst' hs
    · cases hs
  | _ => simp [isPure] at hst

theorem stepOp_read (r : R I E h w) {tm : List Value} {a : Act} (ht : concL E tm = some a.tmps.toList) {o : Oper} (hok : okOp o.op = true) (hst : isRead o.op = true) {v : Value} {h' : H} (hs : stepOp P I tm h o.type o.op = some (v, h')) :
    h' = h ∧ Looks P E w (execOp a.eval o) v := by
  obtain ⟨dst, op, ty, pos, aft, gd⟩ := o
  simp only at hok hs hst
  cases op with
  | load t x =>
    simp only [stepOp, Option.map_eq_some_iff, Prod.mk.injEq] at hs
    obtain ⟨u, hu, rfl, rfl⟩ := hs
    exact ⟨rfl, Looks.of1 (aload_sound r (conc_ev ht hok) hu)⟩
  | slice t x lo hi mx =>
    simp only [okOp, Bool.and_eq_true] at hok
    simp only [stepOp] at hs
    split at hs
    · rename_i lo' hi' mx' h1 h2 h3
      simp only [Option.map_eq_some_iff, Prod.mk.injEq] at hs
      obtain ⟨u, hu, rfl, rfl⟩ := hs
      exact ⟨rfl, Looks.of1 (aslice_sound r (optInt_ev ht hok.1.1.2 h1) (optInt_ev ht hok.1.2 h2) (optInt_ev ht hok.2 h3) (conc_ev ht hok.1.1.1) hu)⟩
    · cases hs
  | _ => simp [isRead] at hst

theorem stepOp_still (r : R I E h w) {tm : List Value} {a : Act} (ht : concL E tm = some a.tmps.toList) {o : Oper} (hok : okOp o.op = true) (hst : (isPure o.op || isRead o.op) = true) {v : Value} {h' : H} (hs : stepOp P I tm h o.type o.op = some (v, h')) :
    h' = h ∧ Looks P E w (execOp a.eval o) v := by
  rw [Bool.or_eq_true] at hst
  rcases hst with hst | hst
  · exact stepOp_pure ht hok hst hs
  · exact stepOp_read r ht hok hst hs

theorem stepOp_sound (r : R I E h w) {tm : List Value} {a : Act} (ht : concL E tm = some a.tmps.toList) {o : Oper} (hok : okOp o.op = true) {v : Value} {h' : H} (hs : stepOp P I tm h o.type o.op = some (v, h')) :
    Does P I E h w (execOp a.eval o) v h' := by
  by_cases hst : (isPure o.op || isRead o.op) = true
  · obtain ⟨rfl, hl⟩ := stepOp_still r ht hok hst hs
    exact hl.does r
  obtain ⟨dst, op, ty, pos, aft, gd⟩ := o
  simp only at hok hs hst
  cases op with
  | alloc t =>
    simp only [stepOp] at hs
    split at hs
    · rename_i z hz
      split at hs
      · rename_i hf
        simp only [Option.some.injEq, Prod.mk.injEq] at hs; obtain ⟨rfl, rfl⟩ := hs
        exact Does.of (alloc_sound r hz hf)
      · cases hs
    · cases hs
  | box t x =>
    simp only [stepOp, Option.some.injEq, Prod.mk.injEq] at hs; obtain ⟨rfl, rfl⟩ := hs
    exact Does.of (box_sound r (conc_ev ht hok))
  | buildSlice t n ps =>
    simp only [stepOp] at hs
    split at hs
    · rename_i hn
      have hp := concP_ev ht ps.toList hok
      have := abuildSlice_sound (P := P) r hp hs hn
      refine Does.of ?_
      have e : ((ps.toList.map fun p => (p.1, a.eval p.2)).toArray) = ps.map (fun x => match x with | (i, x) => (i, a.eval x)) := by
        apply Array.ext'; simp
      rw [← e]; exact this
    · cases hs
  | store t x y =>
    simp only [okOp, Bool.and_eq_true] at hok
    simp only [stepOp, Option.map_eq_some_iff, Prod.mk.injEq] at hs
    obtain ⟨h'', hu, rfl, rfl⟩ := hs
    obtain ⟨w', h1, h2, h3⟩ := astore_sound (P := P) r (conc_ev ht hok.1) (conc_ev ht hok.2) hu
    exact ⟨undef, E, w', .inr ⟨by simp only [execOp, Sem.run_bind, h1, Result.andThen_ok, Sem.run_pure], rfl⟩, conc_undef E, h2, h3⟩
  | makeSlice t l c =>
    simp only [okOp, Bool.and_eq_true] at hok
    simp only [stepOp] at hs
    split at hs
    · rename_i hf
      simp only [execOp, eval_flat ht hok.1 hf.1, eval_flat ht hok.2 hf.2]
      exact Does.of (amakeSlice_sound r hs)
    · cases hs
  | call c =>
    simp only [okOp, Bool.and_eq_true] at hok
    simp only [stepOp] at hs
    split at hs
    · rename_i b hb
      have e2 : (c.args.toList.map a.eval).toArray = c.args.map a.eval := by apply Array.ext'; simp
      simp only [execOp, resolve, hb, pure_bind, invoke]
      rw [← e2]
      exact abi_sound r (conc_evs ht _ hok.2) hs
    · cases hs
  | _ => first | (cases hs; done) | (simp [isPure, isRead] at hst; done)

end
end Go.Sym
namespace Go.Sym

def mapTy (P : Program) (t : TypeId) : Option (TypeId × TypeId) := match P.underlying t with | some (.map k e) => some (k, e) | _ => none
def H.map (h : H) (id : Nat) : Option (Array MapEntry × Nat) := match h.get id with | some (.obj (.map es clock)) => some (es, clock) | _ => none

def amapEntry (P : Program) (t : TypeId) (m k : Value) (h : H) : Option (Value × H) :=
  match m, mapTy P t with
  | .map (some id), some (kt, et) =>
    match h.map id with
    | some (es, clock) =>
      if flat k = true ∧ (free P (Instr.checkKey false 10000 kt k)).isSome = true then
        match free P (Instr.findKey kt k es.toList) with
        | some (some (i, v)) =>
          match es[i]? with
          | some e => if Instr.sameBits 10000 e.key k = true ∧ flat v = true then some (.tuple #[v, goInt e.born], h.put id (.obj (.map (es.modify i fun e => { e with key := k }) clock))) else none
          | none => none
        | some none =>
          match tzero P et with
          | some z => if flat z = true then some (.tuple #[z, goInt clock], h.put id (.obj (.map (es.push { key := k, val := z, born := clock }) (clock + 1)))) else none
          | none => none
        | none => none
      else none
    | none => none
  | _, _ => none

def aentryStore (m stamp x : Value) (h : H) : Option (Value × H) :=
  match m, stamp with
  | .map (some id), .int _ born =>
    match h.map id with
    | some (es, clock) =>
      if flat x = true then
        match es.findIdx? (fun e => (e.born : Int) == born) with
        | some i => some (undef, h.put id (.obj (.map (es.modify i fun e => { e with val := x }) clock)))
        | none => none
      else none
    | none => none
  | _, _ => none

def amapUpdate (P : Program) (t : TypeId) (m k x : Value) (h : H) : Option (Value × H) :=
  match m, mapTy P t with
  | .map (some id), some (kt, _) =>
    match h.map id with
    | some (es, clock) =>
      if flat k = true ∧ flat x = true ∧ (free P (Instr.checkKey false 10000 kt k)).isSome = true then
        match free P (Instr.findKey kt k es.toList) with
        | some (some (i, _)) =>
          match es[i]? with
          | some e => if Instr.sameBits 10000 e.key k = true then some (undef, h.put id (.obj (.map (es.modify i fun e => { e with key := k, val := x }) clock))) else none
          | none => none
        | some none => some (undef, h.put id (.obj (.map (es.push { key := k, val := x, born := clock }) (clock + 1))))
        | none => none
      else none
    | none => none
  | _, _ => none

def alookup (P : Program) (t : TypeId) (m k : Value) (ok : Bool) (h : H) : Option (Value × H) :=
  match m, mapTy P t with
  | .map (some id), some (kt, et) =>
    match h.map id with
    | some (es, _) =>
      if flat k = true ∧ (free P (Instr.checkKey es.isEmpty 10000 kt k)).isSome = true then
        match free P (Instr.findKey kt k es.toList) with
        | some (some (_, v)) => if flat v = true then some (if ok = true then .tuple #[v, .bool true] else v, h) else none
        | some none =>
          match tzero P et with
          | some z => if flat z = true then some (if ok = true then .tuple #[z, .bool false] else z, h) else none
          | none => none
        | none => none
      else none
    | none => none
  | _, _ => none

def adelete (P : Program) (ts : Array TypeId) (m k : Value) (h : H) : Option (Value × H) :=
  match m, (ts[0]?).bind (mapTy P) with
  | .map (some id), some (kt, _) =>
    match h.map id with
    | some (es, clock) =>
      if flat k = true ∧ (free P (Instr.checkKey es.isEmpty 10000 kt k)).isSome = true then
        match free P (Instr.findKey kt k es.toList) with
        | some (some (i, _)) => some (.tuple #[], h.put id (.obj (.map (es.eraseIdxIfInBounds i) clock)))
        | some none => some (.tuple #[], h.put id (.obj (.map es clock)))
        | none => none
      else none
    | none => none
  | _, _ => none

def amapLen (P : Program) (ts : Array TypeId) (m : Value) (h : H) : Option (Value × H) :=
  match m, (ts[0]?).bind (mapTy P) with
  | .map (some id), some _ => (h.map id).map fun x => (goInt x.1.size, h)
  | _, _ => none

section
variable {P : Program} {I : Nat → Option Obj} {E : Env} {h : H} {w : World}

theorem gObj_map {b : Nat} {es : Array MapEntry} {clock : Nat} (hb : w.heap[b]? = some (.map es clock)) : (getObj b).run P w = .ok (.map es clock) w := by simp [getObj, Sem.run, hb]
theorem sObj_map {b : Nat} {es : Array MapEntry} {clock : Nat} (o : Obj) (hb : w.heap[b]? = some (.map es clock)) : (setObj b o).run P w = .ok () (w.turn b o) := by simp [setObj, Sem.run, hb, World.turn]

theorem mapTy_some {t kt et : TypeId} (ht : mapTy P t = some (kt, et)) : P.underlying t = some (.map kt et) := by
  unfold mapTy at ht
  split at ht
  · rename_i hu; cases ht; exact hu
  · cases ht

theorem hmap_some (r : R I E h w) {id : Nat} {es : Array MapEntry} {clock : Nat} (hm : h.map id = some (es, clock)) {c : Value} (hc : conc E (.map (some id)) = some c) :
    ∃ L, E id = some L ∧ c = .map (some L.b) ∧ w.heap[L.b]? = some (.map es clock) ∧ L.base = 0 ∧ h.live id ∧ id % 2 = 0 := by
  unfold H.map at hm
  split at hm
  · rename_i hg
    simp only [Option.some.injEq, Prod.mk.injEq] at hm
    obtain ⟨rfl, rfl⟩ := hm
    simp only [conc, Option.map_eq_some_iff] at hc
    obtain ⟨L, hL, rfl⟩ := hc
    obtain ⟨B, hB, hrel⟩ := r.blk id L hL (H.get_lt hg).2
    rw [hg] at hB; cases hB
    exact ⟨L, hL, rfl, hrel.1, hrel.2, ⟨_, hg, by simp⟩, (H.get_lt hg).2⟩
  · cases hm

theorem map_turn (r : R I E h w) {id : Nat} {L : Loc} (hL : E id = some L) (hid : id % 2 = 0) (hl : h.live id) (hb : L.base = 0) (es : Array MapEntry) (clock : Nat) :
    R I E (h.put id (.obj (.map es clock))) (w.turn L.b (.map es clock)) ∧ Adv E h w E (h.put id (.obj (.map es clock))) (w.turn L.b (.map es clock)) :=
  r.turn hid hL hl ⟨rfl, hb⟩

theorem amakeMap_sound (r : R I E h w) (t : TypeId) :
    ∃ u E' w', (Instr.makeMap t none).run P w = .ok u w' ∧ conc E' (.map (some h.new)) = some u ∧ R I E' (h ++ [.obj (.map #[] 0)] : H) w' ∧ Adv E h w E' (h ++ [.obj (.map #[] 0)] : H) w' := by
  obtain ⟨a1, a2⟩ := r.push (B := .obj (.map #[] 0)) (o := .map #[] 0) (L := { b := w.heap.size }) rfl ⟨rfl, rfl⟩
  refine ⟨.map (some w.heap.size), _, _, ?_, ?_, a1, a2⟩
  · simp only [Instr.makeMap, Sem.run_bind, run_newObj_alloc, Result.andThen_ok, Sem.run_pure]
  · simp only [conc, Env.upd_self, Option.map_some]

theorem keyThatStays_run {e : MapEntry} {k : Value} (hs : Instr.sameBits 10000 e.key k = true) (w : World) : (Instr.keyThatStays e.key k).run P w = .ok k w := by
  simp only [Instr.keyThatStays, hs, if_true, Sem.run_pure]

theorem amapEntry_sound (r : R I E h w) {t : TypeId} {m k cm ck : Value} (hm : conc E m = some cm) (hk : conc E k = some ck) {v : Value} {h' : H} (ha : amapEntry P t m k h = some (v, h')) :
    ∃ u E' w', (Instr.mapEntry t cm ck).run P w = .ok u w' ∧ conc E' v = some u ∧ R I E' h' w' ∧ Adv E h w E' h' w' := by
  unfold amapEntry at ha
  split at ha
  rotate_left
  · cases ha
  rename_i id kt et ht
  split at ha
  rotate_left
  · cases ha
  rename_i es clock hmap
  split at ha
  rotate_left
  · cases ha
  rename_i hfk
  obtain ⟨hf, hck⟩ := hfk
  obtain ⟨L, hL, rfl, hw, hb, hl, hid⟩ := hmap_some r hmap hm
  rw [conc_flat E k hf] at hk; cases hk
  obtain ⟨⟨⟩, hcheck⟩ := Option.isSome_iff_exists.1 hck
  have hcheck := free_run hcheck w
  have hu := mapTy_some ht
  split at ha
  · rename_i i x hfind
    have hfind := free_run hfind w
    split at ha
    · rename_i e he
      split at ha
      · rename_i hs
        cases ha
        obtain ⟨a1, a2⟩ := map_turn r hL hid hl hb (es.modify i fun e => { e with key := k }) clock
        refine ⟨_, E, _, ?_, conc_flat E _ (by simp only [flat, flatA, flatL, hs.2, goInt, Bool.and_self]), a1, a2⟩
        simp only [Instr.mapEntry, Sem.run_bind, run_underlying_of hu, gObj_map hw, hcheck, hfind, he, Option.map_some, Option.getD_some, keyThatStays_run hs.1, sObj_map _ hw, Result.andThen_ok, Sem.run_pure]
      · cases ha
    · cases ha
  · rename_i hfind
    have hfind := free_run hfind w
    split at ha
    · rename_i z hz
      split at ha
      · rename_i hs
        cases ha
        obtain ⟨a1, a2⟩ := map_turn r hL hid hl hb (es.push { key := k, val := z, born := clock }) (clock + 1)
        refine ⟨_, E, _, ?_, conc_flat E _ (by simp only [flat, flatA, flatL, hs, goInt, Bool.and_self]), a1, a2⟩
        simp only [Instr.mapEntry, Sem.run_bind, run_underlying_of hu, gObj_map hw, hcheck, hfind, run_zeroValue_of hz, sObj_map _ hw, Result.andThen_ok, Sem.run_pure]
      · cases ha
    · cases ha
  · cases ha

theorem asInt_run {j : IntKind} {n : Int} (w : World) : (asInt (.int j n)).run P w = .ok n w := by
  simp only [asInt, asIntOf, Sem.run_bind, Sem.run_pure, Result.andThen_ok]

theorem aentryStore_sound (r : R I E h w) (t : TypeId) {m s x cm cs cx : Value} (hm : conc E m = some cm) (hs : conc E s = some cs) (hx : conc E x = some cx) {v : Value} {h' : H} (ha : aentryStore m s x h = some (v, h')) :
    v = undef ∧ ∃ w', (Instr.entryStore t cm cs cx).run P w = .ok () w' ∧ R I E h' w' ∧ Adv E h w E h' w' := by
  unfold aentryStore at ha
  split at ha
  rotate_left
  · cases ha
  rename_i id j born
  split at ha
  rotate_left
  · cases ha
  rename_i es clock hmap
  split at ha
  rotate_left
  · cases ha
  rename_i hf
  obtain ⟨L, hL, rfl, hw, hb, hl, hid⟩ := hmap_some r hmap hm
  rw [conc_flat E x hf] at hx; cases hx
  simp only [conc, Option.some.injEq] at hs; subst hs
  split at ha
  · rename_i i hi
    cases ha
    obtain ⟨a1, a2⟩ := map_turn r hL hid hl hb (es.modify i fun e => { e with val := x }) clock
    refine ⟨rfl, _, ?_, a1, a2⟩
    simp only [Instr.entryStore, Sem.run_bind, gObj_map hw, asInt_run, hi, sObj_map _ hw, Result.andThen_ok]
  · cases ha

theorem amapUpdate_sound (r : R I E h w) {t : TypeId} {m k x cm ck cx : Value} (hm : conc E m = some cm) (hk : conc E k = some ck) (hx : conc E x = some cx) {v : Value} {h' : H} (ha : amapUpdate P t m k x h = some (v, h')) :
    v = undef ∧ ∃ w', (Instr.mapUpdate t cm ck cx).run P w = .ok () w' ∧ R I E h' w' ∧ Adv E h w E h' w' := by
  unfold amapUpdate at ha
  split at ha
  rotate_left
  · cases ha
  rename_i id kt et ht
  split at ha
  rotate_left
  · cases ha
  rename_i es clock hmap
  split at ha
  rotate_left
  · cases ha
  rename_i hfk
  obtain ⟨hf, hfx, hck⟩ := hfk
  obtain ⟨L, hL, rfl, hw, hb, hl, hid⟩ := hmap_some r hmap hm
  rw [conc_flat E k hf] at hk; cases hk
  rw [conc_flat E x hfx] at hx; cases hx
  obtain ⟨⟨⟩, hcheck⟩ := Option.isSome_iff_exists.1 hck
  have hcheck := free_run hcheck w
  have hu := mapTy_some ht
  split at ha
  · rename_i i y hfind
    have hfind := free_run hfind w
    split at ha
    · rename_i e he
      split at ha
      · rename_i hs
        cases ha
        obtain ⟨a1, a2⟩ := map_turn r hL hid hl hb (es.modify i fun e => { e with key := k, val := x }) clock
        refine ⟨rfl, _, ?_, a1, a2⟩
        simp only [Instr.mapUpdate, Sem.run_bind, run_underlying_of hu, gObj_map hw, hcheck, hfind, he, Option.map_some, Option.getD_some, keyThatStays_run hs, sObj_map _ hw, Result.andThen_ok]
      · cases ha
    · cases ha
  · rename_i hfind
    have hfind := free_run hfind w
    cases ha
    obtain ⟨a1, a2⟩ := map_turn r hL hid hl hb (es.push { key := k, val := x, born := clock }) (clock + 1)
    refine ⟨rfl, _, ?_, a1, a2⟩
    simp only [Instr.mapUpdate, Sem.run_bind, run_underlying_of hu, gObj_map hw, hcheck, hfind, sObj_map _ hw, Result.andThen_ok]
  · cases ha

theorem alookup_sound (r : R I E h w) {t : TypeId} {m k cm ck : Value} {ok : Bool} (hm : conc E m = some cm) (hk : conc E k = some ck) {v : Value} {h' : H} (ha : alookup P t m k ok h = some (v, h')) :
    h' = h ∧ ∃ u, (Instr.lookup t cm ck ok).run P w = .ok u w ∧ conc E v = some u := by
  unfold alookup at ha
  split at ha
  rotate_left
  · cases ha
  rename_i id kt et ht
  split at ha
  rotate_left
  · cases ha
  rename_i es clock hmap
  split at ha
  rotate_left
  · cases ha
  rename_i hfk
  obtain ⟨hf, hck⟩ := hfk
  obtain ⟨L, hL, rfl, hw, hb, hl, hid⟩ := hmap_some r hmap hm
  rw [conc_flat E k hf] at hk; cases hk
  obtain ⟨⟨⟩, hcheck⟩ := Option.isSome_iff_exists.1 hck
  have hcheck := free_run hcheck w
  have hu := mapTy_some ht
  split at ha
  · rename_i i y hfind
    have hfind := free_run hfind w
    split at ha
    · rename_i hs
      cases ha
      refine ⟨rfl, _, ?_, conc_flat E _ (by cases ok <;> simp [flat, flatA, flatL, hs])⟩
      simp only [Instr.lookup, Sem.run_bind, run_underlying_of hu, gObj_map hw, hcheck, hfind, Result.andThen_ok, Sem.run_pure]
    · cases ha
  · rename_i hfind
    have hfind := free_run hfind w
    split at ha
    · rename_i z hz
      split at ha
      · rename_i hs
        cases ha
        refine ⟨rfl, _, ?_, conc_flat E _ (by cases ok <;> simp [flat, flatA, flatL, hs])⟩
        simp only [Instr.lookup, Sem.run_bind, run_underlying_of hu, gObj_map hw, hcheck, hfind, run_zeroValue_of hz, Result.andThen_ok, Sem.run_pure]
      · cases ha
    · cases ha
  · cases ha

theorem adelete_sound (r : R I E h w) {ts : Array TypeId} {ty : TypeId} {m k cm ck : Value} (hm : conc E m = some cm) (hk : conc E k = some ck) {v : Value} {h' : H} (ha : adelete P ts m k h = some (v, h')) :
    ∃ u E' w', (Builtin.delete_ ts ty #[cm, ck]).run P w = .ok u w' ∧ conc E' v = some u ∧ R I E' h' w' ∧ Adv E h w E' h' w' := by
  unfold adelete at ha
  split at ha
  rotate_left
  · cases ha
  rename_i id kt et ht
  simp only [Option.bind_eq_some_iff] at ht
  obtain ⟨t, ht0, ht⟩ := ht
  split at ha
  rotate_left
  · cases ha
  rename_i es clock hmap
  split at ha
  rotate_left
  · cases ha
  rename_i hfk
  obtain ⟨hf, hck⟩ := hfk
  obtain ⟨L, hL, rfl, hw, hb, hl, hid⟩ := hmap_some r hmap hm
  rw [conc_flat E k hf] at hk; cases hk
  obtain ⟨⟨⟩, hcheck⟩ := Option.isSome_iff_exists.1 hck
  have hcheck := free_run hcheck w
  have hu := mapTy_some ht
  split at ha
  · rename_i i y hfind
    have hfind := free_run hfind w
    cases ha
    obtain ⟨a1, a2⟩ := map_turn r hL hid hl hb (es.eraseIdxIfInBounds i) clock
    refine ⟨_, E, _, ?_, conc_flat E _ rfl, a1, a2⟩
    simp only [Builtin.delete_, ht0, List.getElem?_toArray, List.getElem?_cons_zero, List.getElem?_cons_succ, Sem.run_bind, run_underlying_of hu, gObj_map hw, hcheck, hfind, sObj_map _ hw, Result.andThen_ok, Sem.run_pure]
  · rename_i hfind
    have hfind := free_run hfind w
    cases ha
    obtain ⟨a1, a2⟩ := map_turn r hL hid hl hb es clock
    refine ⟨_, E, _, ?_, conc_flat E _ rfl, a1, a2⟩
    simp only [Builtin.delete_, ht0, List.getElem?_toArray, List.getElem?_cons_zero, List.getElem?_cons_succ, Sem.run_bind, run_underlying_of hu, gObj_map hw, hcheck, hfind, sObj_map _ hw, Result.andThen_ok, Sem.run_pure]
  · cases ha

theorem amapLen_sound (r : R I E h w) {ts : Array TypeId} {ty : TypeId} {m cm : Value} (hm : conc E m = some cm) {v : Value} {h' : H} (ha : amapLen P ts m h = some (v, h')) :
    h' = h ∧ ∃ u, (Builtin.len_ ts ty #[cm]).run P w = .ok u w ∧ conc E v = some u := by
  unfold amapLen at ha
  split at ha
  rotate_left
  · cases ha
  rename_i id x ht
  obtain ⟨kt, et⟩ := x
  simp only [Option.bind_eq_some_iff] at ht
  obtain ⟨t, ht0, ht⟩ := ht
  simp only [Option.map_eq_some_iff, Prod.mk.injEq] at ha
  obtain ⟨⟨es, clock⟩, hmap, rfl, rfl⟩ := ha
  obtain ⟨L, hL, rfl, hw, hb, hl, hid⟩ := hmap_some r hmap hm
  have hu := mapTy_some ht
  refine ⟨rfl, _, ?_, conc_flat E _ rfl⟩
  simp only [Builtin.len_, ht0, List.getElem?_toArray, List.getElem?_cons_zero, Sem.run_bind, run_underlying_of hu, gObj_map hw, Result.andThen_ok, Sem.run_pure]

/-! one operation, those on maps as well -/
def abi2 (P : Program) (I : Nat → Option Obj) (b : Builtin) (ts : Array TypeId) (ty : TypeId) (args : List Value) (h : H) : Option (Value × H) :=
  match b, args with
  | .len, [.map (some id)] => amapLen P ts (.map (some id)) h
  | .delete, [m, k] => adelete P ts m k h
  | b, args => abi P I b ts ty args h

def step2 (P : Program) (I : Nat → Option Obj) (tm : List Value) (h : H) (ty : TypeId) (op : Op) : Option (Value × H) :=
  match op with
  | .makeMap _ none => some (.map (some h.new), h ++ [.obj (.map #[] 0)])
  | .mapEntry t m k => amapEntry P t (ev tm m) (ev tm k) h
  | .entryStore _ m s x => aentryStore (ev tm m) (ev tm s) (ev tm x) h
  | .mapUpdate t m k x => amapUpdate P t (ev tm m) (ev tm k) (ev tm x) h
  | .lookup t m k ok => alookup P t (ev tm m) (ev tm k) ok h
  | .call c => match c.callee with | .builtin b => abi2 P I b c.argTypes ty (c.args.toList.map (ev tm)) h | _ => none
  | op => stepOp P I tm h ty op

theorem step2_sound (r : R I E h w) {tm : List Value} {a : Act} (ht : concL E tm = some a.tmps.toList) {o : Oper} (hok : okOp o.op = true) {v : Value} {h' : H} (hs : step2 P I tm h o.type o.op = some (v, h')) :
    Does P I E h w (execOp a.eval o) v h' := by
  by_cases hst : ∃ x, stepOp P I tm h o.type o.op = some x ∧ x = (v, h')
  · obtain ⟨x, h1, rfl⟩ := hst
    exact stepOp_sound r ht hok h1
  obtain ⟨dst, op, ty, pos, aft, gd⟩ := o
  simp only at hok hs hst
  unfold step2 at hs
  split at hs
  · cases hs
    exact Does.of (amakeMap_sound r _)
  · simp only [okOp, Bool.and_eq_true] at hok
    exact Does.of (amapEntry_sound r (conc_ev ht hok.1) (conc_ev ht hok.2) hs)
  · rename_i mt m s x
    simp only [okOp, Bool.and_eq_true] at hok
    obtain ⟨rfl, w', h1, h2, h3⟩ := aentryStore_sound (P := P) r mt (conc_ev ht hok.1.1) (conc_ev ht hok.1.2) (conc_ev ht hok.2) hs
    exact ⟨undef, E, w', .inr ⟨by simp only [execOp, Sem.run_bind, h1, Result.andThen_ok, Sem.run_pure], rfl⟩, conc_undef E, h2, h3⟩
  · simp only [okOp, Bool.and_eq_true] at hok
    obtain ⟨rfl, w', h1, h2, h3⟩ := amapUpdate_sound (P := P) r (conc_ev ht hok.1.1) (conc_ev ht hok.1.2) (conc_ev ht hok.2) hs
    exact ⟨undef, E, w', .inr ⟨by simp only [execOp, Sem.run_bind, h1, Result.andThen_ok, Sem.run_pure], rfl⟩, conc_undef E, h2, h3⟩
  · simp only [okOp, Bool.and_eq_true] at hok
    obtain ⟨rfl, hh⟩ := alookup_sound r (conc_ev ht hok.1) (conc_ev ht hok.2) hs
    exact Does.of1 r hh
  · rename_i c
    simp only [okOp, Bool.and_eq_true] at hok
    split at hs
    · rename_i b hb
      have e2 : (c.args.toList.map a.eval).toArray = c.args.map a.eval := by apply Array.ext'; simp
      have hd := conc_evs ht _ hok.2
      simp only [execOp, resolve, hb, pure_bind, invoke]
      rw [← e2]
      generalize c.args.toList.map (ev tm) = args at *
      generalize c.args.toList.map a.eval = dargs at *
      unfold abi2 at hs
      split at hs
      · rename_i id
        simp only [concL, Option.bind_eq_some_iff, Option.map_eq_some_iff] at hd
        obtain ⟨cm, hm, l, hl, rfl⟩ := hd
        cases hl
        obtain ⟨rfl, hh⟩ := amapLen_sound (ty := ty) r hm hs
        exact Does.of1 r hh
      · rename_i m k
        simp only [concL, Option.bind_eq_some_iff, Option.map_eq_some_iff] at hd
        obtain ⟨cm, hm, l, ⟨ck, hk, l2, hl, rfl⟩, rfl⟩ := hd
        cases hl
        exact Does.of (adelete_sound (ty := ty) r hm hk hs)
      · exact abi_sound r hd hs
    · cases hs
  · exact absurd ⟨_, hs, rfl⟩ hst
end
end Go.Sym
namespace Go.Sym

structure St where
  tm : List Value
  df : List Nat
  h : H

def DRel (E : Env) : List Nat → List Deferred → Prop
  | [], [] => True
  | id :: ids, d :: ds => (∃ L, E id = some L ∧ d = { target := .collected L.b, args := #[] }) ∧ DRel E ids ds
  | _, _ => False
theorem DRel.ext {E E' : Env} (hE : Ext E E') : ∀ {ids : List Nat} {ds : List Deferred}, DRel E ids ds → DRel E' ids ds
  | [], [], _ => trivial
  | _ :: _, _ :: _, h => ⟨let ⟨L, h1, h2⟩ := h.1; ⟨L, hE _ _ h1, h2⟩, DRel.ext hE h.2⟩
  | [], _ :: _, h => h.elim
  | _ :: _, [], h => h.elim

/-- the fence of the code: outside of all rounds, or in a round of a loop over a function -/
def FE (E : Env) : Option Nat → Fence
  | none => Fence.wide
  | some id => Fence.wide.inRound (((E id).map (·.b)).getD 0)
def Kn (E : Env) (ro : Option Nat) : Prop := ∀ id, ro = some id → ∃ L, E id = some L
theorem Kn.ext {E E' : Env} (hE : Ext E E') {ro : Option Nat} (h : Kn E ro) : Kn E' ro := fun id hi => let ⟨L, hL⟩ := h id hi; ⟨L, hE _ _ hL⟩
theorem FE_ext {E E' : Env} (hE : Ext E E') {ro : Option Nat} (h : Kn E ro) : FE E' ro = FE E ro := by
  cases ro with
  | none => rfl
  | some id => obtain ⟨L, hL⟩ := h id rfl; simp only [FE, hL, hE _ _ hL]
theorem FE_fn (E : Env) (ro : Option Nat) (f : FuncId) : (FE E ro).fn f := by cases ro <;> trivial
theorem FE_depth (E : Env) (ro : Option Nat) : (FE E ro).depth = none := by cases ro <;> rfl
theorem FE_calls {E : Env} {ro : Option Nat} {n : Nat} {P : Program} {f : FuncId} {args : Array Value} {w : World} {R : Ending → World → Prop} (h : CallsIn Fence.wide n P f args w R) : CallsIn (FE E ro) n P f args w R := by
  cases ro with
  | none => exact h
  | some id => exact h
theorem FE_round {E : Env} {ro : Option Nat} {n : Nat} {P : Program} {l : Nat} {f : FuncId} {tmps : Array Value} {assign body : Code} {w : World} {R : Ending → World → Prop} (h : RoundIn Fence.wide n P l f tmps assign body w R) : RoundIn (FE E ro) n P l f tmps assign body w R := by
  cases ro with
  | none => exact h
  | some id => exact h

section
variable (P : Program) (I : Nat → Option Obj)

def Ret (E : Env) (h : H) (w : World) (v : Value) (h' : H) : Ending → World → Prop :=
  fun e w' => ∃ E' c, e = .returned c ∧ conc E' v = some c ∧ R I E' h' w' ∧ Adv E h w E' h' w'

def goodF (g : FuncId) : Prop := ∃ fn, P.funcs[g]? = some fn ∧ fn.name ≠ "runtime.NumGoroutine" ∧ fn.body.isSome = true

/-- a call, on an abstract heap, comes to a value and a heap -/
def Snd (fn : Fn) (args : List Value) (h : H) (v : Value) (h' : H) : Prop :=
  match fn with
  | .func g => goodF P g ∧ ∀ E w cargs, R I E h w → concL E args = some cargs → CallsIn Fence.wide 0 P g cargs.toArray w (Ret I E h w v h')
  | .yield l => ∀ E w cargs L, R I E h w → concL E args = some cargs → E l = some L →
      ∃ f tmps assign body, (Instr.yield L.b cargs.toArray).run P w = .ok (.round L.b f tmps assign body) w ∧ RoundIn Fence.wide 0 P L.b f tmps assign body w (Ret I E h w v h')
  | _ => False

def Post (E : Env) (h : H) (w : World) (Q : Exit → St → Prop) : Exit → Act → World → Prop :=
  fun e a' w' => ∃ E' st', R I E' st'.h w' ∧ concL E' st'.tm = some a'.tmps.toList ∧ DRel E' st'.df a'.defers ∧ Adv E h w E' st'.h w' ∧ Q e st'

/-- code, on an abstract heap, comes to ends that are good -/
def TC (ro : Option Nat) (c : Code) (Q : Exit → St → Prop) (st : St) : Prop :=
  ∀ E w a, R I E st.h w → concL E st.tm = some a.tmps.toList → DRel E st.df a.defers → Kn E ro → c.wpIn (FE E ro) 0 P (Post I E st.h w Q) a w

def acall (tm : List Value) (op : Op) : Option (Fn × List Value) :=
  match op with
  | .call c => match c.callee with
    | .value f => match ev tm f with
      | .func (.func g) first cap => some (.func g, first.toList ++ c.args.toList.map (ev tm) ++ cap.toList)
      | .func (.yield l) first _ => some (.yield l, first.toList ++ c.args.toList.map (ev tm))
      | _ => none
    | _ => none
  | _ => none

def putT (tm : List Value) (dst : Option Tmp) (v : Value) : List Value := match dst with | some d => tm.set d v | none => tm
def ayield (ops : Array Oper) (tm : List Value) (j : Nat) : Option Bool :=
  match ((ops[j]?).bind (·.dst)).bind (tm[·]?) with
  | some (.bool b) => some b
  | _ => none

def isCall (op : Op) : Bool := match op with | .call c => (match c.callee with | .value _ => true | _ => false) | _ => false

/-- operations one after another -/
def WO (ops : Array Oper) : List Oper → (List Value → H → Prop) → List Value → H → Prop
  | [], Q, tm, h => Q tm h
  | o :: rest, Q, tm, h =>
    if Region.wanted o (ayield ops tm) = true then
      (if isCall o.op = true then ∃ fn args v h', acall tm o.op = some (fn, args) ∧ Snd P I fn args h v h' ∧ WO ops rest Q (putT tm o.dst v) h'
       else match step2 P I tm h o.type o.op with
        | some (v, h') => WO ops rest Q (putT tm o.dst v) h'
        | none => False)
    else WO ops rest Q (putT tm o.dst undef) h

end

theorem conc_bool {E : Env} {v : Value} {b : Bool} (h : conc E v = some (.bool b)) : v = .bool b := by
  match v, h with
  | .bool c, h => simp only [conc, Option.some.injEq] at h; exact h
  | .int k n, h => simp [conc] at h
  | .string s, h => simp [conc] at h
  | .pointer none, h => simp [conc] at h
  | .pointer (some ⟨_, _, none⟩), h => simp [conc] at h
  | .pointer (some ⟨_, _, some _⟩), h => simp [conc] at h
  | .slice none 0 0, h => simp [conc] at h
  | .slice none 0 (n + 1), h => simp [conc] at h
  | .slice none (n + 1) m, h => simp [conc] at h
  | .slice (some ⟨_, _, none⟩) len cap, h => obtain ⟨L, c', _, h2, _⟩ := conc_slice h; cases h2
  | .slice (some ⟨_, _, some _⟩) len cap, h => simp [conc] at h
  | .map none, h => simp [conc] at h
  | .map (some id), h => simp [conc] at h
  | .func (.func f) a b, h => simp [conc, Option.bind_eq_some_iff] at h
  | .func (.yield l) a b, h => simp [conc, Option.bind_eq_some_iff] at h
  | .func (.method _) a b, h => simp [conc] at h
  | .func (.methodOf _ _) a b, h => simp [conc] at h
  | .func (.via _ _ _ _) a b, h => simp [conc] at h
  | .nilFunc, h => simp [conc] at h
  | .nilIface, h => simp [conc] at h
  | .iface t v, h => simp [conc] at h
  | .agg cs, h => simp [conc] at h
  | .tuple cs, h => simp [conc] at h
  | .float _ _, h => simp [conc] at h
  | .complex _ _ _, h => simp [conc] at h
  | .chan _, h => simp [conc] at h

theorem ayield_eq {E : Env} {tm : List Value} {a : Act} (ht : concL E tm = some a.tmps.toList) (ops : Array Oper) : ayield ops tm = yielded ops a.tmps := by
  funext j
  unfold ayield yielded
  cases (ops[j]?).bind (·.dst) with
  | none => rfl
  | some d =>
    simp only [Option.bind_some]
    cases hd : tm[d]? with
    | none =>
      have : a.tmps[d]? = none := by
        rw [List.getElem?_eq_none_iff] at hd
        rw [Array.getElem?_eq_none_iff, ← Array.length_toList, concL_length ht]; exact hd
      rw [this]
    | some v =>
      obtain ⟨c, hc, hv⟩ := concL_get ht d v hd
      rw [Array.getElem?_toList] at hc
      rw [hc]
      by_cases hb : ∃ b, v = .bool b
      · obtain ⟨b, rfl⟩ := hb
        simp only [conc, Option.some.injEq] at hv; subst hv; rfl
      · have hc' : ∀ b, c ≠ .bool b := fun b e => hb ⟨b, conc_bool (by rw [hv, e])⟩
        have hv' : ∀ b, v ≠ .bool b := fun b e => hb ⟨b, e⟩
        cases v <;> cases c <;> first | rfl | exact absurd rfl (hc' _) | exact absurd rfl (hv' _)

theorem conc_put {E : Env} {tm : List Value} {a : Act} {v c : Value} (ht : concL E tm = some a.tmps.toList) (hv : conc E v = some c) (dst : Option Tmp) :
    concL E (putT tm dst v) = some (a.put dst c).tmps.toList ∧ (a.put dst c).defers = a.defers := by
  cases dst with
  | none => exact ⟨ht, rfl⟩
  | some d =>
    refine ⟨?_, rfl⟩
    have := concL_set hv d ht
    simp only [putT, Act.put, Array.toList_setIfInBounds]
    exact this

section
variable {P : Program} {I : Nat → Option Obj}

theorem about_ok {E : Env} {ro : Option Nat} {o : Oper} {a : Act} {w : World} : ∀ f, o.about P w a.eval = some f → (FE E ro).fn f := fun f _ => FE_fn E ro f

theorem notDefer {o : Oper} (h : okOp o.op = true) : ∀ c, o.op ≠ .defer c := by
  intro c e; rw [e] at h; simp [okOp] at h

theorem semAt_ok (F : Fence) (ρ : Operand → Value) (o : Oper) (h : okOp o.op = true) : o.semAt F.round ρ = execOp ρ o := Oper.semAt_eq _ _ _ (notDefer h)

theorem wpIn_of_does2 {E : Env} {h : H} {w : World} {ro : Option Nat} {o : Oper} {a a2 : Act} {v : Value} {h' : H} {next : Act → World → Prop} {Q : Exit → Act → World → Prop} (hok : okOp o.op = true)
    (heq : execOp a2.eval o = execOp a.eval o)
    (hd : Does P I E h w (execOp a.eval o) v h') (hn : ∀ E' w' c, conc E' v = some c → R I E' h' w' → Adv E h w E' h' w' → next (a2.put o.dst c) w') :
    o.wpIn (FE E ro) 0 P a2 w next Q := by
  refine ⟨about_ok, ?_⟩
  rw [semAt_ok _ _ _ hok, heq]
  obtain ⟨c, E', w', hs | ⟨hs, rfl⟩, hc, hR, hA⟩ := hd
  · rw [hs, Oper.uponIn_value]; exact hn E' w' c hc hR hA
  · rw [hs, Oper.uponIn_skip]; exact hn E' w' undef hc hR hA

theorem callFunc_run {g : FuncId} (hg : goodF P g) (args : Array Value) (w : World) : (callFunc g args).run P w = .ok (.enter g args) w := by
  obtain ⟨fn, h1, h2, h3⟩ := hg
  have h2' : (fn.name == "runtime.NumGoroutine") = false := by simpa using h2
  have h3' : fn.body.isNone = false := by cases hb : fn.body <;> simp_all
  simp only [callFunc, Sem.run_bind, run_program, Result.andThen_ok, h1, h2', h3', Bool.false_eq_true, if_false, Sem.run_pure]

theorem wpIn_of_call2 {E : Env} {h : H} {w : World} {ro : Option Nat} {o : Oper} {a a2 : Act} {tm : List Value} {fn : Fn} {args : List Value} {v : Value} {h' : H} {next : Act → World → Prop} {Q : Exit → Act → World → Prop}
    (hok : okOp o.op = true) (heq : execOp a2.eval o = execOp a.eval o) (r : R I E h w) (ht : concL E tm = some a.tmps.toList) (hc : acall tm o.op = some (fn, args)) (hs : Snd P I fn args h v h')
    (hn : ∀ E' w' c, conc E' v = some c → R I E' h' w' → Adv E h w E' h' w' → next (a2.put o.dst c) w') :
    o.wpIn (FE E ro) 0 P a2 w next Q := by
  refine ⟨about_ok, ?_⟩
  rw [semAt_ok _ _ _ hok, heq]
  obtain ⟨dst, op, ty, pos, aft, gd⟩ := o
  simp only at hok hc
  unfold acall at hc
  split at hc
  · rename_i c
    simp only [okOp, Bool.and_eq_true] at hok
    split at hc
    · rename_i f hcal
      rw [hcal] at hok
      have hf := conc_ev ht hok.1
      have hargs := conc_evs ht _ hok.2
      have e2 : (c.args.toList.map a.eval).toArray = c.args.map a.eval := by apply Array.ext'; simp
      split at hc
      · rename_i g first cap hev
        cases hc
        rw [hev] at hf
        simp only [conc, Option.bind_eq_some_iff, Option.map_eq_some_iff] at hf
        obtain ⟨first', h1, cap', h2, he⟩ := hf
        obtain ⟨hg, hcall⟩ := hs
        have hcargs := concL_append (concL_append (concA_toList h1) hargs) (concA_toList h2)
        have := hcall E w _ r hcargs
        have e3 : (first'.toList ++ c.args.toList.map a.eval ++ cap'.toList).toArray = first' ++ c.args.map a.eval ++ cap' := by
          apply Array.ext'; simp
        rw [e3] at this
        have hrun : (execOp a.eval ⟨dst, .call c, ty, pos, aft, gd⟩).run P w = .ok (.enter g (first' ++ c.args.map a.eval ++ cap')) w := by
          simp only [execOp, resolve, hcal, ← he, Deferred.ofValue, pure_bind, invoke, callFunc_run hg]
        rw [hrun, Oper.uponIn_enter]
        refine ⟨fun hd => (by rw [FE_depth] at hd; cases hd), FE_calls ?_⟩
        exact ⟨this.1, fun cs hr => let ⟨e, w', fr, hR, hrest⟩ := this.2 cs hr; ⟨e, w', fr, by obtain ⟨E', u, rfl, hu, hR, hA⟩ := hR; exact hn E' w' u hu hR hA, hrest⟩⟩
      · rename_i l first cap hev
        cases hc
        rw [hev] at hf
        simp only [conc, Option.bind_eq_some_iff, Option.map_eq_some_iff] at hf
        obtain ⟨L, hL, first', h1, cap', h2, he⟩ := hf
        have hcargs := concL_append (concA_toList h1) hargs
        obtain ⟨fn, tmps, assign, body, hy, hround⟩ := hs E w _ L r hcargs hL
        have e3 : (first'.toList ++ c.args.toList.map a.eval).toArray = first' ++ c.args.map a.eval := by
          apply Array.ext'; simp
        rw [e3] at hy
        have hrun : (execOp a.eval ⟨dst, .call c, ty, pos, aft, gd⟩).run P w = .ok (.round L.b fn tmps assign body) w := by
          simp only [execOp, resolve, hcal, ← he, Deferred.ofValue, pure_bind, invoke, hy]
        rw [hrun, Oper.uponIn_round]
        refine ⟨fun hd => (by rw [FE_depth] at hd; cases hd), FE_round ?_⟩
        exact hround.mono fun e w' hR => by obtain ⟨E', u, rfl, hu, hR, hA⟩ := hR; exact hn E' w' u hu hR hA
      · cases hc
    · cases hc
  · cases hc

theorem WO_sound {ops : Array Oper} {ro : Option Nat} {Q : Exit → St → Prop} {df : List Nat} : ∀ (l : List Oper), (l.all fun o => okOp o.op) = true → ∀ (tm : List Value) (h : H) (E : Env) (w : World) (a : Act) (E0 : Env) (h0 : H) (w0 : World),
    WO P I ops l (fun tm h => Q .normal ⟨tm, df, h⟩) tm h → R I E h w → concL E tm = some a.tmps.toList → DRel E df a.defers → Kn E ro → Adv E0 h0 w0 E h w →
    wpListIn (FE E ro) 0 P ops (Post I E0 h0 w0 Q) l a w
  | [], _, tm, h, E, w, a, E0, h0, w0, hw, r, ht, hd, hk, adv => ⟨E, ⟨tm, df, h⟩, r, ht, hd, adv, hw⟩
  | o :: rest, hok, tm, h, E, w, a, E0, h0, w0, hw, r, ht, hd, hk, adv => by
    simp only [List.all_cons, Bool.and_eq_true] at hok
    unfold wpListIn
    rw [← ayield_eq ht ops]
    unfold WO at hw
    split at hw
    · rename_i hwant
      rw [if_pos hwant]
      split at hw
      · obtain ⟨fn, args, v, h', hc, hs, hrest⟩ := hw
        refine wpIn_of_call2 hok.1 rfl r ht hc hs fun E' w' c hcv hR hA => ?_
        obtain ⟨p1, p2⟩ := conc_put (concL_ext hA.ext _ _ ht) hcv o.dst
        rw [← FE_ext hA.ext hk]
        exact WO_sound rest hok.2 _ _ E' w' _ E0 h0 w0 hrest hR p1 (p2 ▸ hd.ext hA.ext) (hk.ext hA.ext) (adv.trans hA)
      · split at hw
        · rename_i v h' hs
          refine wpIn_of_does2 hok.1 rfl (step2_sound r ht hok.1 hs) fun E' w' c hcv hR hA => ?_
          obtain ⟨p1, p2⟩ := conc_put (concL_ext hA.ext _ _ ht) hcv o.dst
          rw [← FE_ext hA.ext hk]
          exact WO_sound rest hok.2 _ _ E' w' _ E0 h0 w0 hw hR p1 (p2 ▸ hd.ext hA.ext) (hk.ext hA.ext) (adv.trans hA)
        · exact hw.elim
    · rename_i hwant
      rw [if_neg hwant]
      obtain ⟨p1, p2⟩ := conc_put ht (conc_undef E) o.dst
      exact ⟨about_ok, WO_sound rest hok.2 _ _ E w _ E0 h0 w0 hw r p1 (p2 ▸ hd) hk adv⟩

theorem TC_region {ro : Option Nat} {id : Nat} {ops : Array Oper} {Q : Exit → St → Prop} {st : St} (hok : (ops.toList.all fun o => okOp o.op) = true)
    (h : WO P I ops ops.toList (fun tm h => Q .normal ⟨tm, st.df, h⟩) st.tm st.h) : TC P I ro (.region id ops false) Q st :=
  fun E w a r ht hd hk => wpIn_region_list (WO_sound _ hok _ _ E w a E st.h w h r ht hd hk (Adv.refl _ _ _))

theorem Post.trans {E E' : Env} {h h' : H} {w w' : World} {Q : Exit → St → Prop} (adv : Adv E h w E' h' w') {e : Exit} {a : Act} {w2 : World} (p : Post I E' h' w' Q e a w2) : Post I E h w Q e a w2 := by
  obtain ⟨E2, st2, r2, t2, d2, a2, q2⟩ := p
  exact ⟨E2, st2, r2, t2, d2, adv.trans a2, q2⟩

theorem TC.mono {ro : Option Nat} {c : Code} {Q Q' : Exit → St → Prop} {st : St} (h : TC P I ro c Q st) (hq : ∀ e s, Q e s → Q' e s) : TC P I ro c Q' st :=
  fun E w a r ht hd hk => wpIn_mono (h E w a r ht hd hk) fun _ _ _ ⟨E', st', h1, h2, h3, h4, h5⟩ => ⟨E', st', h1, h2, h3, h4, hq _ _ h5⟩

def thenQ (Q : Exit → St → Prop) (K : St → Prop) : Exit → St → Prop
  | .normal, s => K s
  | e, s => Q e s
def blockQ (id : Nat) (Q : Exit → St → Prop) : Exit → St → Prop
  | .exit i, s => if i = id then Q .normal s else Q (.exit i) s
  | e, s => Q e s

theorem TC_seq {ro : Option Nat} {x y : Code} {Q : Exit → St → Prop} {st : St} (h : TC P I ro x (thenQ Q (TC P I ro y Q)) st) : TC P I ro (.seq x y) Q st := by
  intro E w a r ht hd hk
  refine wpIn_seq (wpIn_mono (h E w a r ht hd hk) ?_)
  rintro e a' w' ⟨E', st', r', t', d', adv, q⟩
  cases e with
  | normal =>
    have := q E' w' a' r' t' d' (hk.ext adv.ext)
    rw [FE_ext adv.ext hk] at this
    exact wpIn_mono this fun _ _ _ p => p.trans adv
  | _ => exact ⟨E', st', r', t', d', adv, q⟩

theorem TC_cond {ro : Option Nat} {c : Operand} {x y : Code} {Q : Exit → St → Prop} {st : St} (hc : okO c = true) {b : Bool} (hb : ev st.tm c = .bool b) (ht : b = true → TC P I ro x Q st) (hf : b = false → TC P I ro y Q st) : TC P I ro (.cond c x y) Q st := by
  intro E w a r htm hd hk
  have he : a.eval c = .bool b := by rw [eval_flat htm hc (by rw [hb]; rfl), hb]
  refine wpIn_cond_split he ?_ ?_
  · intro h; exact ht h E w a r htm hd hk
  · intro h; exact hf h E w a r htm hd hk

theorem TC_block {ro : Option Nat} {id : Nat} {c : Code} {Q : Exit → St → Prop} {st : St} (h : TC P I ro c (blockQ id Q) st) : TC P I ro (.block id c) Q st := by
  intro E w a r ht hd hk
  refine wpIn_block (wpIn_mono (h E w a r ht hd hk) ?_)
  rintro e a' w' ⟨E', st', r', t', d', adv, q⟩
  cases e with
  | exit i =>
    simp only [blockQ] at q
    simp only [Exit.inBlock]
    split at q
    · rename_i hi; rw [if_pos hi]; exact ⟨E', st', r', t', d', adv, q⟩
    · rename_i hi; rw [if_neg hi]; exact ⟨E', st', r', t', d', adv, q⟩
  | _ => exact ⟨E', st', r', t', d', adv, q⟩

theorem TC_done {ro : Option Nat} {Q : Exit → St → Prop} {st : St} {e : Exit} (q : Q e st) {E : Env} {w : World} {a : Act} (r : R I E st.h w) (ht : concL E st.tm = some a.tmps.toList) (hd : DRel E st.df a.defers) (_ : Kn E ro) :
    Post I E st.h w Q e a w := ⟨E, st, r, ht, hd, Adv.refl _ _ _, q⟩
theorem TC_skip {ro : Option Nat} {Q : Exit → St → Prop} {st : St} (q : Q .normal st) : TC P I ro .skip Q st := fun _ _ _ r ht hd hk => wpIn_skip (TC_done q r ht hd hk)
theorem TC_label {ro : Option Nat} {l : Nat} {Q : Exit → St → Prop} {st : St} (q : Q .normal st) : TC P I ro (.label l) Q st := fun _ _ _ r ht hd hk => wpIn_label (TC_done q r ht hd hk)
theorem TC_ret {ro : Option Nat} {Q : Exit → St → Prop} {st : St} (q : Q .ret st) : TC P I ro .ret Q st := fun _ _ _ r ht hd hk => wpIn_ret (TC_done q r ht hd hk)
theorem TC_exit {ro : Option Nat} {id : Nat} {Q : Exit → St → Prop} {st : St} (q : Q (.exit id) st) : TC P I ro (.exit id) Q st := fun _ _ _ r ht hd hk => wpIn_exit (TC_done q r ht hd hk)

theorem stepR_scope {P : Program} {b : Frame} {a : Act} {k : List Item} {cs : List Frame} {w : World} {c : Code} : step P (lone (b.atR a (.code (.scope c) :: k)) cs w) = .next (lone (b.atR a (.code c :: .inScope c :: k)) cs w) :=
  step_lone_go (by simp [stepG, stepG.exec, Frame.atR])
theorem stepR_inScope {P : Program} {b : Frame} {a : Act} {k : List Item} {cs : List Frame} {w : World} {c : Code} : step P (lone (b.atR a (.inScope c :: k)) cs w) = .next (lone (b.atR a k) cs w) :=
  step_lone_go (by simp [stepG, stepG.exec, Frame.atR])

def scopeQ (Q : Exit → St → Prop) : Exit → St → Prop
  | .goto _, _ => False
  | e, s => Q e s

/-- a scope that is not left by a goto -/
theorem TC_scope {ro : Option Nat} {c : Code} {Q : Exit → St → Prop} {st : St} (h : TC P I ro c (scopeQ Q) st) : TC P I ro (.scope c) Q st := by
  intro E w a r ht hd hk b k cs hro hb hr
  have h0 : (lone (b.atR a (.code (.scope c) :: k)) cs w).fenced P (FE E ro) := fenced_calm hb hr rfl
  obtain ⟨e, a₁, w₁, ⟨E', st', r', t', d', adv, q⟩, harr⟩ := h E w a r ht hd hk b (.inScope c :: k) cs hro hb hr
  cases e with
  | normal => exact ⟨.normal, a₁, w₁, ⟨E', st', r', t', d', adv, q⟩, .head h0 stepR_scope (StepsIn.trans harr (.one (fenced_calm hb hr rfl) stepR_inScope))⟩
  | exit id =>
    have hx : exitTo id (.inScope c :: k) = exitTo id k := by simp [exitTo]
    exact ⟨.exit id, a₁, w₁, ⟨E', st', r', t', d', adv, q⟩, fun k' hk' => .head h0 stepR_scope (harr.1 k' (by rw [hx]; exact hk')),
      fun hr' hk' => let ⟨k₁, h1, h2⟩ := harr.2 hr' (by rw [hx]; exact hk'); ⟨k₁, h1, .head h0 stepR_scope h2⟩⟩
  | goto l => exact q.elim
  | ret => exact ⟨_, a₁, w₁, ⟨E', st', r', t', d', adv, q⟩, .of_steps (.one h0 stepR_scope) harr⟩
  | panic ch => exact ⟨_, a₁, w₁, ⟨E', st', r', t', d', adv, q⟩, .of_steps (.one h0 stepR_scope) harr⟩
  | outgrown => exact ⟨_, a₁, w₁, ⟨E', st', r', t', d', adv, q⟩, .of_steps (.one h0 stepR_scope) harr⟩

/-- a loop, by a relation and a measure -/
theorem TC_loop {ro : Option Nat} {c : Code} {Q : Exit → St → Prop} {st : St} (J : St → Prop) (μ : St → Nat) (h0 : J st) (round : ∀ s, J s → TC P I ro c (thenQ Q (fun s' => J s' ∧ μ s' < μ s)) s) : TC P I ro (.loop c) Q st := by
  have key : ∀ n s, μ s = n → J s → ∀ E w a, R I E s.h w → concL E s.tm = some a.tmps.toList → DRel E s.df a.defers → Kn E ro →
      ∀ (b : Frame) (k : List Item) (cs : List Frame), b.roundOf = (FE E ro).round → (FE E ro).fn b.fn → (FE E ro).room (cs.length + 1 + 0) →
      ∃ e a' w', Post I E s.h w Q e a' w' ∧ ArrivesIn (Machine.fenced P (FE E ro)) P (lone (b.atR a (.code c :: .inLoop c :: k)) cs w) b k cs e a' w' := by
    intro n
    induction n using Nat.strongRecOn with
    | _ n ih =>
      intro s hn hJ E w a r ht hd hk b k cs hro hb hr
      obtain ⟨e, a₁, w₁, hq, harr⟩ := round s hJ E w a r ht hd hk b (.inLoop c :: k) cs hro hb hr
      obtain ⟨E', s', r', t', d', adv, q⟩ := hq
      cases e with
      | normal =>
        obtain ⟨hJ', hlt⟩ := q
        have hrec := ih (μ s') (hn ▸ hlt) s' rfl hJ' E' w₁ a₁ r' t' d' (hk.ext adv.ext) b k cs
        rw [FE_ext adv.ext hk] at hrec
        obtain ⟨e₂, a₂, w₂, hq₂, harr₂⟩ := hrec hro hb hr
        exact ⟨e₂, a₂, w₂, hq₂.trans adv, .of_steps (StepsIn.trans harr (.one (fenced_calm hb hr rfl) stepR_inLoop)) harr₂⟩
      | exit id => exact ⟨_, a₁, w₁, ⟨E', s', r', t', d', adv, q⟩, .pass (x := .inLoop c) rfl (fun _ _ => .inl (by simp)) harr⟩
      | goto l => exact ⟨_, a₁, w₁, ⟨E', s', r', t', d', adv, q⟩, .pass (x := .inLoop c) rfl (fun _ _ => .inl (by simp)) harr⟩
      | ret => exact ⟨_, a₁, w₁, ⟨E', s', r', t', d', adv, q⟩, .pass (x := .inLoop c) rfl (fun _ _ => .inl (by simp)) harr⟩
      | panic ch => exact ⟨_, a₁, w₁, ⟨E', s', r', t', d', adv, q⟩, .pass (x := .inLoop c) rfl (fun _ _ => .inl (by simp)) harr⟩
      | outgrown => exact ⟨_, a₁, w₁, ⟨E', s', r', t', d', adv, q⟩, .pass (x := .inLoop c) rfl (fun _ _ => .inl (by simp)) harr⟩
  intro E w a r ht hd hk b k cs hro hb hr
  obtain ⟨e, a', w', hq, harr⟩ := key _ st rfl h0 E w a r ht hd hk b k cs hro hb hr
  exact ⟨e, a', w', hq, .of_steps (.one (fenced_calm hb hr rfl) stepR_loop) harr⟩

/-! whole functions -/
def leave : List Nat → H → Option H
  | [], h => some h
  | id :: ids, h => match h.get id with
    | some (.obj (.deferred (some []))) => leave ids (h.put id .dead)
    | _ => none

def aresL (P : Program) (I : Nat → Option Obj) (tm : List Value) (h : H) : List ResultVar → Option (List Value)
  | [] => some []
  | .tmp t :: l => (aresL P I tm h l).map fun m => tm.getD t undef :: m
  | .cell a t :: l => (aload P I t (tm.getD a undef) h).bind fun v => (aresL P I tm h l).map fun m => v :: m
def one : List Value → Value
  | [v] => v
  | l => .tuple l.toArray

def resM (tms : Array Value) : ResultVar → Sem Value
  | .tmp t => pure (tms.getD t undef)
  | .cell a t => do loadVar t (← asAddr (tms.getD a undef))
theorem results_eq (fn : Func) (tms : Array Value) : results fn tms = (fn.results.mapM (resM tms) >>= fun vs => pure (if h : vs.size = 1 then vs[0] else .tuple vs)) := by
  unfold results
  congr 1

theorem aresL_sound {E h w} (r : R I E h w) {tm : List Value} {tms : Array Value} (ht : concL E tm = some tms.toList) : ∀ {l : List ResultVar} {vs : List Value}, aresL P I tm h l = some vs →
    ∃ cs, concL E vs = some cs ∧ (l.mapM (resM tms)).run P w = .ok cs w
  | [], vs, h => by simp only [aresL, Option.some.injEq] at h; subst h; exact ⟨[], by simp only [concL], rfl⟩
  | .tmp t :: l, vs, h => by
    simp only [aresL, Option.map_eq_some_iff] at h
    obtain ⟨m, hm, rfl⟩ := h
    obtain ⟨cs, hc, hrun⟩ := aresL_sound r ht hm
    have h1 := conc_ev (a := { tmps := tms, defers := [] }) ht (x := .tmp t) rfl
    refine ⟨tms.getD t undef :: cs, ?_, ?_⟩
    · simp only [concL, hc]; simp only [ev, Act.eval] at h1; rw [h1]; rfl
    · simp only [List.mapM_cons, resM, Sem.run_bind, Sem.run_pure, Result.andThen_ok, hrun]
  | .cell x t :: l, vs, h => by
    simp only [aresL, Option.bind_eq_some_iff, Option.map_eq_some_iff] at h
    obtain ⟨v, hv, m, hm, rfl⟩ := h
    obtain ⟨cs, hc, hrun⟩ := aresL_sound r ht hm
    have h1 := conc_ev (a := { tmps := tms, defers := [] }) ht (x := .tmp x) rfl
    simp only [ev, Act.eval] at h1
    obtain ⟨u, hu, hcu⟩ := aload_sound (P := P) r h1 hv
    refine ⟨u :: cs, by simp only [concL, hcu, hc, Option.bind_some, Option.map_some], ?_⟩
    have hload : (do loadVar t (← asAddr (tms.getD x undef)) : Sem Value).run P w = .ok u w := by
      unfold Instr.loadAt at hu
      cases hval : tms.getD x undef with
      | pointer p =>
        rw [hval] at hu
        cases p with
        | none => simp [Instr.sureAddr] at hu
        | some p => simpa only [Instr.sureAddr, asAddr, Sem.run_bind, Sem.run_pure, Result.andThen_ok] using hu
      | _ => rw [hval] at hu; simp [Instr.sureAddr] at hu
    simp only [Sem.run_bind] at hload
    simp only [List.mapM_cons, resM, Sem.run_bind, Sem.run_pure]
    rw [hload]
    simp only [Result.andThen_ok, hrun]

theorem results_sound {E h w} (r : R I E h w) {tm : List Value} {tms : Array Value} (ht : concL E tm = some tms.toList) {fn : Func} {vs : List Value} (hv : aresL P I tm h fn.results.toList = some vs) :
    ∃ c, (results fn tms).run P w = .ok c w ∧ conc E (one vs) = some c := by
  obtain ⟨cs, hc, hrun⟩ := aresL_sound r ht hv
  have hm : (fn.results.mapM (resM tms)).run P w = .ok cs.toArray w := by
    rw [Array.mapM_eq_mapM_toList, Sem.run_map, hrun]; rfl
  refine ⟨one cs, ?_, ?_⟩
  · rw [results_eq, Sem.run_bind, hm]
    simp only [Result.andThen_ok, Sem.run_pure]
    match cs with
    | [] => rfl
    | [v] => rfl
    | _ :: _ :: _ => rfl
  · match vs, cs, hc with
    | [], cs, hc => simp only [concL, Option.some.injEq] at hc; subst hc; simp only [one, conc, concA, concL, Option.map_some]
    | [v], cs, hc =>
      simp only [concL, Option.bind_eq_some_iff, Option.map_eq_some_iff, Option.some.injEq] at hc
      obtain ⟨c, hc, m, rfl, rfl⟩ := hc
      exact hc
    | v :: u :: l, cs, hc =>
      have hc' := hc
      simp only [concL, Option.bind_eq_some_iff, Option.map_eq_some_iff] at hc'
      obtain ⟨c, _, m, ⟨d, _, k, _, rfl⟩, rfl⟩ := hc'
      exact conc_tuple hc

/-- how a function ends -/
def finQ (P : Program) (I : Nat → Option Obj) (fn : Func) (v : Value) (h' : H) : Exit → St → Prop :=
  fun e s => (e = .normal ∨ e = .ret) ∧ leave s.df s.h = some h' ∧ (aresL P I s.tm h' fn.results.toList).map one = some v

theorem leave_sound {n : Nat} {fn : Func} {v : Value} {h' : H} {tm : List Value} (hv : (aresL P I tm h' fn.results.toList).map one = some v) : ∀ {df : List Nat} {h : H} {E : Env} {w : World} {ds : List Deferred} {tms : Array Value} {E0 : Env} {h0 : H} {w0 : World},
    leave df h = some h' → R I E h w → concL E tm = some tms.toList → DRel E df ds → Adv E0 h0 w0 E h w → LeavesInM Fence.wide n P fn tms (Ret I E0 h0 w0 v h') ds .returning w
  | [], h, E, w, [], tms, E0, h0, w0, hl, r, ht, hd, adv => by
    simp only [leave, Option.some.injEq] at hl; subst hl
    simp only [Option.map_eq_some_iff] at hv
    obtain ⟨vs, hvs, rfl⟩ := hv
    obtain ⟨c, h1, h2⟩ := results_sound r ht hvs
    exact ⟨c, h1, E, c, rfl, h2, r, adv⟩
  | id :: df, h, E, w, d :: ds, tms, E0, h0, w0, hl, r, ht, hd, adv => by
    obtain ⟨⟨L, hL, rfl⟩, hds⟩ := hd
    simp only [leave] at hl
    split at hl
    · rename_i hg
      have hid := (H.get_lt hg).2
      obtain ⟨B, hg', hrel⟩ := r.blk id L hL hid
      rw [hg] at hg'; cases hg'
      obtain ⟨r2, a2⟩ := r.turn (B := .obj (.deferred none)) (o := .deferred none) hid hL ⟨_, hg, by simp⟩ ⟨rfl, hrel.2⟩
      obtain ⟨r3, a3⟩ := r2.kill id
      have hpp : (h.put id (.obj (.deferred none))).put id .dead = h.put id .dead := by
        unfold H.put; split <;> simp
      rw [hpp] at r3 a3
      refine ⟨by simp, .inl ⟨L.b, w.turn L.b (.deferred none), rfl, ?_, leave_sound hv hl r3 ht hds (adv.trans (a2.trans a3))⟩⟩
      have := run_takeDeferred (P := P) hrel.1
      simpa [World.putObj, World.turn] using this
    · cases hl
  | [], h, E, w, _ :: _, tms, E0, h0, w0, hl, r, ht, hd, adv => hd.elim
  | _ :: _, h, E, w, [], tms, E0, h0, w0, hl, r, ht, hd, adv => hd.elim

theorem Snd_of {g : FuncId} {fn : Func} {c : Code} {args : List Value} {h h' : H} {v : Value} (hf : P.funcs[g]? = some fn) (hb : fn.body = some c) (hn : fn.name ≠ "runtime.NumGoroutine")
    (hc : TC P I none c (finQ P I fn v h') ⟨args ++ List.replicate (fn.ntmps - args.length) undef, [], h⟩) : Snd P I (.func g) args h v h' := by
  refine ⟨⟨fn, hf, hn, by rw [hb]; rfl⟩, fun E w cargs r ha => ?_⟩
  have ht : concL E (args ++ List.replicate (fn.ntmps - args.length) undef) = some (cargs.toArray ++ Array.replicate (fn.ntmps - cargs.toArray.size) undef).toList := by
    have hl := concL_length ha
    have := concL_append ha (concL_replicate (conc_undef E) (fn.ntmps - args.length))
    simp only [Array.toList_append, Array.toList_replicate, List.size_toArray, hl]
    exact this
  have hw := hc E w { tmps := cargs.toArray ++ Array.replicate (fn.ntmps - cargs.toArray.size) undef, defers := [] } r ht trivial (fun id hi => (by cases hi))
  refine callsIn_of_wp_marks hf hb trivial (wpIn_mono hw ?_)
  rintro e a' w' ⟨E', st', r', t', d', adv, he, hl, hv⟩
  rcases he with rfl | rfl
  · exact leave_sound hv hl r' t' d' adv
  · exact leave_sound hv hl r' t' d' adv

end
end Go.Sym
namespace Go.Sym

def codeOk : Code → Bool
  | .skip | .label _ | .ret | .exit _ => true
  | .seq a b => codeOk a && codeOk b
  | .cond c a b => okO c && codeOk a && codeOk b
  | .block _ a => codeOk a
  | .loop a => codeOk a
  | .scope a => codeOk a
  | .region _ ops _ => ops.toList.all fun o => okOp o.op
  | .rangeFunc f _ a b => okO f && codeOk a && codeOk b
  | _ => false

section
variable (P : Program) (I : Nat → Option Obj)

def WC (ro : Option Nat) : Code → (Exit → St → Prop) → St → Prop
  | .skip, Q, s => Q .normal s
  | .label _, Q, s => Q .normal s
  | .ret, Q, s => Q .ret s
  | .exit id, Q, s => Q (.exit id) s
  | .seq a b, Q, s => WC ro a (thenQ Q (WC ro b Q)) s
  | .cond c a b, Q, s => ∃ t, ev s.tm c = .bool t ∧ (t = true → WC ro a Q s) ∧ (t = false → WC ro b Q s)
  | .block id a, Q, s => WC ro a (blockQ id Q) s
  | .region _ ops false, Q, s => WO P I ops ops.toList (fun tm h => Q .normal ⟨tm, s.df, h⟩) s.tm s.h
  | .loop a, Q, s => TC P I ro (.loop a) Q s
  | .rangeFunc f ps a b, Q, s => TC P I ro (.rangeFunc f ps a b) Q s
  | .region id ops true, Q, s => TC P I ro (.region id ops true) Q s
  | _, _, _ => False
end

section
variable {P : Program} {I : Nat → Option Obj}
theorem WC_sound {ro : Option Nat} : ∀ (c : Code), codeOk c = true → ∀ (Q : Exit → St → Prop) (s : St), WC P I ro c Q s → TC P I ro c Q s
  | .skip, _, Q, s, h => TC_skip h
  | .label _, _, Q, s, h => TC_label h
  | .ret, _, Q, s, h => TC_ret h
  | .exit _, _, Q, s, h => TC_exit h
  | .seq a b, hok, Q, s, h => by
    simp only [codeOk, Bool.and_eq_true] at hok
    refine TC_seq ((WC_sound a hok.1 _ s h).mono ?_)
    intro e s' q
    cases e with
    | normal => exact WC_sound b hok.2 Q s' q
    | _ => exact q
  | .cond c a b, hok, Q, s, h => by
    simp only [codeOk, Bool.and_eq_true] at hok
    obtain ⟨t, ht, h1, h2⟩ := h
    exact TC_cond hok.1.1 ht (fun e => WC_sound a hok.1.2 Q s (h1 e)) (fun e => WC_sound b hok.2 Q s (h2 e))
  | .block id a, hok, Q, s, h => TC_block (WC_sound a hok _ s h)
  | .region id ops false, hok, Q, s, h => TC_region hok h
  | .region id ops true, _, Q, s, h => h
  | .loop a, _, Q, s, h => h
  | .rangeFunc _ _ _ _, _, Q, s, h => h
  | .scope _, hok, Q, s, h => h.elim
  | .goto _, hok, Q, s, h => h.elim
  | .refuse _, hok, Q, s, h => h.elim

theorem WO_mono {ops : Array Oper} {Q Q' : List Value → H → Prop} (hq : ∀ tm h, Q tm h → Q' tm h) : ∀ (l : List Oper) (tm : List Value) (h : H), WO P I ops l Q tm h → WO P I ops l Q' tm h
  | [], tm, h, hw => hq tm h hw
  | o :: rest, tm, h, hw => by
    unfold WO at hw ⊢
    split at hw
    · rename_i h1
      rw [if_pos h1]
      split at hw
      · rename_i h2
        rw [if_pos h2]
        obtain ⟨fn, args, v, h', a, b, c⟩ := hw
        exact ⟨fn, args, v, h', a, b, WO_mono hq rest _ _ c⟩
      · rename_i h2
        rw [if_neg h2]
        split at hw
        · exact WO_mono hq rest _ _ hw
        · exact hw.elim
    · rename_i h1
      rw [if_neg h1]
      exact WO_mono hq rest _ _ hw

/-- a loop, by a relation and a measure, its round walked -/
theorem WC_loop {ro : Option Nat} {c : Code} {Q : Exit → St → Prop} {st : St} (hok : codeOk c = true) (J : St → Prop) (μ : St → Nat) (h0 : J st) (round : ∀ s, J s → WC P I ro c (thenQ Q (fun s' => J s' ∧ μ s' < μ s)) s) : TC P I ro (.loop c) Q st :=
  TC_loop J μ h0 fun s hs => WC_sound c hok _ s (round s hs)

def fnOk (fn : Func) : Bool := !(fn.name == "runtime.NumGoroutine") && (match fn.body with | some c => codeOk c | none => false)

/-- how a function ends, by its results' places -/
def finR (P : Program) (I : Nat → Option Obj) (rs : List ResultVar) (v : Value) (h' : H) : Exit → St → Prop :=
  fun e s => (e = .normal ∨ e = .ret) ∧ leave s.df s.h = some h' ∧ (aresL P I s.tm h' rs).map one = some v

theorem Snd_walk {g : FuncId} {fn : Func} {c : Code} {n : Nat} {rs : List ResultVar} {args : List Value} {h h' : H} {v : Value} (hf : P.funcs[g]? = some fn) (hok : fnOk fn = true) (hb : fn.body = some c) (hn : fn.ntmps = n) (hr : fn.results.toList = rs)
    (hc : WC P I none c (finR P I rs v h') ⟨args ++ List.replicate (n - args.length) undef, [], h⟩) : Snd P I (.func g) args h v h' := by
  simp only [fnOk, hb, Bool.and_eq_true, Bool.not_eq_true', beq_eq_false_iff_ne] at hok
  refine Snd_of hf hb hok.1 ?_
  rw [hn]
  unfold finQ
  rw [hr]
  exact WC_sound c hok.2 _ _ hc
end
end Go.Sym
