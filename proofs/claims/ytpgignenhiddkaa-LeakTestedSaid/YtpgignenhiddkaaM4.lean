/- Reading and writing, in forms for the simplifier. No program is named here. (own texts put together: SymP SymS1 SymEq SymRb SymKi SymAp SymBu) -/
import Derived.Test.YtpgignenhiddkaaM2e
import Derived.Test.YtpgignenhiddkaaM3
namespace Go.Sym
set_option linter.unusedSimpArgs false
set_option linter.unusedVariables false

def rdB (b : Option Blk) (off n : Nat) : Option (List Value) :=
  match b with
  | some (.cells vs _) => if off + n ≤ vs.length then some ((vs.drop off).take n) else none
  | some (.row vs _ _) => if off + n ≤ vs.length then some ((vs.drop off).take n) else none
  | _ => none
def wrB (b : Option Blk) (off : Nat) (vs : List Value) : Option Blk :=
  match b with
  | some (.cells l e) => if off + vs.length ≤ l.length ∧ vs.all (·.oneCell') = true then some (.cells (splice l off vs) e) else none
  | some (.row l e sz) => if off + vs.length ≤ l.length ∧ vs.all (·.oneCell') = true then some (.row (splice l off vs) e sz) else none
  | _ => none

section
variable {I : Nat → Option Obj} {h l : H} {id off n : Nat} {B : Blk} {vs : List Value}
theorem rdl_even (hid : id % 2 = 0) : rdl I h id off n = rdB (h.get id) off n := by
  unfold rdl H.get rdB
  rw [if_pos hid, if_pos hid]
  split <;> simp_all
theorem wrl_even (hid : id % 2 = 0) : wrl h id off vs = (wrB (h.get id) off vs).map (h.put id) := by
  unfold wrl H.get wrB
  rw [if_pos hid, if_pos hid]
  split <;> simp_all <;> split <;> simp_all
theorem get_z : (h ++ l : H).get (2 * h.length) = l[0]? := by
  unfold H.get
  rw [if_pos (by omega), List.getElem?_append_right (by omega)]
  congr 1; omega
theorem get_k {k : Nat} : (h ++ l : H).get (2 * (h.length + k)) = l[k]? := by
  unfold H.get
  rw [if_pos (by omega), List.getElem?_append_right (by omega)]
  congr 1; omega
theorem put_z : (h ++ l : H).put (2 * h.length) B = h ++ l.set 0 B := by
  unfold H.put
  rw [if_pos (by omega), List.set_append_right _ _ (by omega)]
  congr 2; omega
theorem put_k {k : Nat} : (h ++ l : H).put (2 * (h.length + k)) B = h ++ l.set k B := by
  unfold H.put
  rw [if_pos (by omega), List.set_append_right _ _ (by omega)]
  congr 2; omega
theorem put_old (hg : h.get id = some B) (B' : Blk) : (h ++ l : H).put id B' = h.put id B' ++ l := by
  have h1 := H.get_lt hg
  unfold H.put
  rw [if_pos h1.2, if_pos h1.2]
  unfold H.new at h1
  rw [List.set_append_left _ _ (by omega)]
/-- new blocks, read and written -/
theorem rd_z : rdl I (h ++ l) (2 * h.length) off n = rdB l[0]? off n := by rw [rdl_even (by omega), get_z]
theorem rd_k {k : Nat} : rdl I (h ++ l) (2 * (h.length + k)) off n = rdB l[k]? off n := by rw [rdl_even (by omega), get_k]
theorem wr_z : wrl (h ++ l) (2 * h.length) off vs = (wrB l[0]? off vs).map fun B => h ++ l.set 0 B := by
  rw [wrl_even (by omega), get_z]; congr 1; funext B; exact put_z
theorem wr_k {k : Nat} : wrl (h ++ l) (2 * (h.length + k)) off vs = (wrB l[k]? off vs).map fun B => h ++ l.set k B := by
  rw [wrl_even (by omega), get_k]; congr 1; funext B; exact put_k
/-- old blocks -/
theorem rd_at (hg : h.get id = some B) : rdl I h id off n = rdB (some B) off n := by rw [rdl_even (H.get_lt hg).2, hg]
theorem rd_at_app (hg : h.get id = some B) : rdl I (h ++ l) id off n = rdB (some B) off n := by rw [rdl_even (H.get_lt hg).2, H.get_append hg]
theorem wr_at (hg : h.get id = some B) : wrl h id off vs = (wrB (some B) off vs).map fun B => h.put id B := by rw [wrl_even (H.get_lt hg).2, hg]
theorem wr_at_app (hg : h.get id = some B) : wrl (h ++ l) id off vs = (wrB (some B) off vs).map fun B => h.put id B ++ l := by
  rw [wrl_even (H.get_lt hg).2, H.get_append hg]
  congr 1; funext B'; exact put_old hg B'
end

theorem rdB_cells {vs : List Value} {e : TypeId} {off n : Nat} (h : off + n ≤ vs.length) : rdB (some (.cells vs e)) off n = some ((vs.drop off).take n) := by
  unfold rdB; simp only; rw [if_pos h]
theorem rdB_row {vs : List Value} {e : TypeId} {sz off n : Nat} (h : off + n ≤ vs.length) : rdB (some (.row vs e sz)) off n = some ((vs.drop off).take n) := by
  unfold rdB; simp only; rw [if_pos h]
theorem wrB_cells {l vs : List Value} {e : TypeId} {off : Nat} (h : off + vs.length ≤ l.length) (ho : vs.all (·.oneCell') = true) : wrB (some (.cells l e)) off vs = some (.cells (splice l off vs) e) := by
  unfold wrB; simp only; rw [if_pos ⟨h, ho⟩]

/-- what is read of a part of what can be read -/
theorem inL_len {I : Nat → Option Obj} : ∀ {l m : List Value}, inL I l = some m → m.length = l.length
  | [], m, h => by simp only [inL, Option.some.injEq] at h; subst h; rfl
  | v :: l, m, h => by
    simp only [inL, Option.bind_eq_some_iff, Option.map_eq_some_iff] at h
    obtain ⟨a, ha, k, hk, rfl⟩ := h
    simp [inL_len hk]
theorem inL_part {I : Nat → Option Obj} : ∀ {l m : List Value}, inL I l = some m → ∀ a b, inL I ((l.drop a).take b) = some ((m.drop a).take b)
  | [], m, h, a, b => by simp only [inL, Option.some.injEq] at h; subst h; simp [inL]
  | v :: l, m, h, a, b => by
    have h0 := h
    simp only [inL, Option.bind_eq_some_iff, Option.map_eq_some_iff] at h
    obtain ⟨x, hx, k, hk, rfl⟩ := h
    cases a with
    | zero =>
      cases b with
      | zero => simp [inL]
      | succ b =>
        have := inL_part hk 0 b
        simp only [List.drop_zero] at this
        simp only [List.drop_zero, List.take_succ_cons, inL, hx, this, Option.bind_some, Option.map_some]
    | succ a => simpa using inL_part hk a b
theorem rdl_part {I : Nat → Option Obj} {h : H} {id off n : Nat} {l : List Value} (hr : rdl I h id off n = some l) (a b : Nat) (hab : a + b ≤ n) : rdl I h id (off + a) b = some ((l.drop a).take b) := by
  unfold rdl at hr ⊢
  split
  · rename_i hid
    rw [if_pos hid] at hr
    split at hr
    · split at hr
      · rename_i hl; cases hr
        rw [if_pos (by omega), List.drop_take, List.take_take, List.drop_drop]
        congr 2; omega
      · cases hr
    · split at hr
      · rename_i hl; cases hr
        rw [if_pos (by omega), List.drop_take, List.take_take, List.drop_drop]
        congr 2; omega
      · cases hr
    · cases hr
  · rename_i hid
    rw [if_neg hid] at hr
    split at hr
    · rename_i c e fz hI
      split at hr
      · rename_i hl
        rw [if_pos (by omega)]
        have := inL_part hr a b
        rw [List.drop_take, List.take_take, List.drop_drop] at this
        rw [← this]; congr 2; omega
      · cases hr
    · cases hr

/-! numbers in a row of cells -/
def arrL (N : Nat) (f : Nat → Int) : List Value := (List.range N).map fun i => .int .i64 (f i)
theorem arrL_length (N : Nat) (f : Nat → Int) : (arrL N f).length = N := by simp [arrL]
theorem arrL_get (N : Nat) (f : Nat → Int) {i : Nat} (h : i < N) : (arrL N f)[i]? = some (.int .i64 (f i)) := by simp [arrL, h]
theorem arrL_one (N : Nat) (f : Nat → Int) : (arrL N f).all (·.oneCell') = true := by simp [arrL, Value.oneCell']
theorem arrL_flat (N : Nat) (f : Nat → Int) : flatL (arrL N f) = true := by
  unfold arrL
  generalize List.range N = l
  induction l with
  | nil => rfl
  | cons a l ih => simp only [List.map_cons, flatL, flat, ih, Bool.and_self]
def upd (f : Nat → Int) (i : Nat) (x : Int) : Nat → Int := fun j => if j = i then x else f j
theorem arrL_set (N : Nat) (f : Nat → Int) (i : Nat) (x : Int) : (arrL N f).set i (.int .i64 x) = arrL N (upd f i x) := by
  apply List.ext_getElem?
  intro j
  unfold arrL upd
  rw [List.getElem?_set, List.getElem?_map, List.getElem?_map]
  by_cases hj : j < N
  · rw [List.getElem?_range hj]
    by_cases e : i = j
    · subst e; simp [hj]
    · simp [e, Ne.symm e]
  · rw [List.getElem?_eq_none (by simp; omega)]
    by_cases e : i = j
    · subst e; simp [hj]
    · simp [e]
theorem arrL_part (N : Nat) (f : Nat → Int) {i : Nat} (h : i < N) : ((arrL N f).drop i).take 1 = [.int .i64 (f i)] := by
  rw [List.drop_eq_getElem_cons (by rw [arrL_length]; exact h)]
  simp [arrL]
theorem arrL_ext {N : Nat} {f g : Nat → Int} (h : ∀ i, i < N → f i = g i) : arrL N f = arrL N g := by
  unfold arrL
  exact List.map_congr_left fun i hi => by rw [h i (List.mem_range.1 hi)]
/-! loads -/
def ld1 (o : Option (List Value)) : Option Value := match o with | some (v :: _) => some v | _ => none
def ldA (o : Option (List Value)) : Option Value := o.map fun l => .agg l.toArray
theorem ld1_some {v : Value} {l : List Value} : ld1 (some (v :: l)) = some v := rfl
theorem ldA_some {l : List Value} : ldA (some l) = some (.agg l.toArray) := rfl
theorem allocV_eq {z : Value} {h : H} {t : TypeId} (hf : flat z = true) : allocV (some z) t h = some (nptr h, h ++ [.cells z.cells.toList t]) := by
  unfold allocV; simp only [hf, if_true]
theorem allocA_eq {z : Value} {t : TypeId} {rid : Nat} (hf : flat z = true) : allocA (some z) t rid = some (.pointer (some ⟨rid, 0, none⟩), .cells z.cells.toList t) := by
  unfold allocA; simp only [hf, if_true]
end Go.Sym
namespace Go.Sym
section
variable {P : Program} {I : Nat → Option Obj}
def finS (P : Program) (I : Nat → Option Obj) (rs : List ResultVar) (v : Value) (hb : H) : Exit → St → Prop :=
  fun e s => (e = .normal ∨ e = .ret) ∧ ∃ h', leave s.df s.h = some h' ∧ (∃ l, h' = hb ++ l) ∧ (aresL P I s.tm h' rs).map one = some v
theorem finS_ret {rs : List ResultVar} {v : Value} {hb : H} {tm : List Value} {h : H} : finS P I rs v hb .ret ⟨tm, [], h⟩ = ((∃ l, h = hb ++ l) ∧ (aresL P I tm h rs).map one = some v) := by
  simp [finS, leave]
theorem finS_normal {rs : List ResultVar} {v : Value} {hb : H} {tm : List Value} {h : H} : finS P I rs v hb .normal ⟨tm, [], h⟩ = ((∃ l, h = hb ++ l) ∧ (aresL P I tm h rs).map one = some v) := by
  simp [finS, leave]
/-- new blocks dropped: hb is what stays -/
theorem Snd_runS {g : FuncId} {fn : Func} {c : Code} {nt : Nat} {rs : List ResultVar} {args : List Value} {h hb : H} {v : Value} (n : Nat) (hf : P.funcs[g]? = some fn) (hok : fnOk fn = true) (hbd : fn.body = some c) (hn : fn.ntmps = nt) (hr : fn.results.toList = rs)
    (hlen : h.length ≤ hb.length) (hcl : ∀ id B, hb.get id = some B → closedB (okN hb.length) B = true ∨ h.get id = some B) (hv : closedV (okN hb.length) v = true)
    (hc : Run P I none n [.code c] (finS P I rs v hb) ⟨args ++ List.replicate (nt - args.length) undef, [], h⟩) : Snd P I (.func g) args h v hb := by
  have hok' := hok
  simp only [fnOk, hbd, Bool.and_eq_true, Bool.not_eq_true', beq_eq_false_iff_ne] at hok
  have hs : SndQ P I (.func g) args h (fun u h' => u = v ∧ ∃ l, h' = hb ++ l) := by
    refine SndQ_of hf hbd hok.1 ?_
    rw [hn]
    refine (Run_TC hok.2 hc).mono fun e s q => ?_
    obtain ⟨he, h', hl, hx, ha⟩ := q
    exact ⟨v, h', ⟨rfl, hx⟩, he, hl, by rw [hr]; exact ha⟩
  refine ⟨hs.1, fun E w cargs r ha => CallsIn.mono (hs.2 E w cargs r ha) ?_⟩
  rintro e w' ⟨u, h', ⟨rfl, l, rfl⟩, hret⟩
  have := hret.gc r (N := hb.length) hlen (by simp) hv fun id B hlt hg => ?_
  · simpa using this
  · refine hcl id B ?_
    have e : (hb ++ l : H).take hb.length = hb := by simp
    rw [← e, get_take hlt]; exact hg
/-- nothing stays -/
theorem Snd_run0 {g : FuncId} {fn : Func} {c : Code} {nt : Nat} {rs : List ResultVar} {args : List Value} {h : H} {v : Value} (n : Nat) (hf : P.funcs[g]? = some fn) (hok : fnOk fn = true) (hbd : fn.body = some c) (hn : fn.ntmps = nt) (hr : fn.results.toList = rs) (hv : flat v = true)
    (hc : Run P I none n [.code c] (finS P I rs v h) ⟨args ++ List.replicate (nt - args.length) undef, [], h⟩) : Snd P I (.func g) args h v h :=
  Snd_runS n hf hok hbd hn hr (Nat.le_refl _) (fun _ _ hg => .inr hg) (closed_flat _ v hv) hc
end
theorem rdl_mono {I : Nat → Option Obj} {h : H} {id off n : Nat} {r : List Value} (hr : rdl I h id off n = some r) (l : H) : rdl I (h ++ l) id off n = some r := by
  unfold rdl at hr ⊢
  split
  · rename_i hid
    rw [if_pos hid] at hr
    cases hg : h[id / 2]? with
    | none => rw [hg] at hr; cases hr
    | some B =>
      have hlt := (List.getElem?_eq_some_iff.1 hg).1
      rw [List.getElem?_append_left hlt, hg]
      rw [hg] at hr
      exact hr
  · rename_i hid
    rw [if_neg hid] at hr
    exact hr
theorem splice_nil (l : List Value) (off : Nat) : splice l off [] = l := rfl
theorem splice_cons (l : List Value) (off : Nat) (v : Value) (vs : List Value) : splice l off (v :: vs) = splice (l.set off v) (off + 1) vs := rfl
theorem oc_int (k : IntKind) (n : Int) : (Value.int k n).oneCell' = true := rfl
theorem oc_bool (b : Bool) : (Value.bool b).oneCell' = true := rfl
theorem oc_slice (p : Option Addr) (n c : Nat) : (Value.slice p n c).oneCell' = true := rfl
theorem oc_ptr (p : Option Addr) : (Value.pointer p).oneCell' = true := rfl
theorem oc_func (f : Fn) (a b : Array Value) : (Value.func f a b).oneCell' = true := rfl
theorem oc_map (m : Option Nat) : (Value.map m).oneCell' = true := rfl
theorem getElem?_snoc {α : Type} (l : List α) (a : α) : (l ++ [a])[l.length]? = some a := by simp
theorem set_snoc {α : Type} (l : List α) (a b : α) : (l ++ [a]).set l.length b = l ++ [b] := by
  rw [List.set_append_right _ _ (Nat.le_refl _)]; simp

section
variable {P : Program} {I : Nat → Option Obj}
theorem bin_quo {k : IntKind} {t : TypeId} {x y : Operand} {a b : Int} (hb : b ≠ 0) : abin P .quo t x y (.int k a) (.int k b) = some (.int k (k.wrap (a.tdiv b))) := by
  have e : eqGuard .quo t x y (.int k a) (.int k b) = pure () := by simp [eqGuard]
  simp [abin, flat, binOp, Op.intDiv, e, hb, chk]
theorem bin_rem {k : IntKind} {t : TypeId} {x y : Operand} {a b : Int} (hb : b ≠ 0) : abin P .rem t x y (.int k a) (.int k b) = some (.int k (a.tmod b)) := by
  have e : eqGuard .rem t x y (.int k a) (.int k b) = pure () := by simp [eqGuard]
  simp [abin, flat, binOp, Op.intDiv, e, hb, chk]
theorem abi_min {ts : Array TypeId} {ty : TypeId} {k k' : IntKind} {a b : Int} {h : H} : abi P I .min ts ty [.int k a, .int k' b] h = some (.int k (min a b), h) := by
  have : min a b = if b < a then b else a := by omega
  unfold abi
  simp only [flatL, flat, Bool.and_self, if_true, this]
  rfl
theorem abi_max {ts : Array TypeId} {ty : TypeId} {k k' : IntKind} {a b : Int} {h : H} : abi P I .max ts ty [.int k a, .int k' b] h = some (.int k (max a b), h) := by
  have : max a b = if b > a then b else a := by omega
  unfold abi
  simp only [flatL, flat, Bool.and_self, if_true, this]
  rfl
theorem abi2_min {ts : Array TypeId} {ty : TypeId} {k k' : IntKind} {a b : Int} {h : H} : abi2 P I .min ts ty [.int k a, .int k' b] h = some (.int k (min a b), h) := abi_min (P := P) (I := I) (ts := ts) (ty := ty) (k' := k')
theorem abi2_max {ts : Array TypeId} {ty : TypeId} {k k' : IntKind} {a b : Int} {h : H} : abi2 P I .max ts ty [.int k a, .int k' b] h = some (.int k (max a b), h) := abi_max (P := P) (I := I) (ts := ts) (ty := ty) (k' := k')
end

/-! draws: the blocks' numbers renamed -/
def Ct.ren (f : Nat → Nat) : Ct → Ct
  | .read i => .read (i.map f)
  | .eff i => .eff (i.map f)
  | c => c
theorem Ct.ren_nm (f : Nat → Nat) (c : Ct) : (c.ren f).nm = c.nm := by cases c <;> rfl
theorem disj_ren (f : Nat → Nat) (a b : Ct) (h : disj (a.ren f) (b.ren f) = true) : disj a b = true := by
  cases a with
  | eff i => cases i with
    | none => cases b <;> simp [Ct.ren, disj] at h
    | some i => cases b with
      | read j => cases j with
        | none => simp [Ct.ren, disj] at h
        | some j =>
          simp [Ct.ren, disj] at h ⊢
          exact fun e => h (by rw [e])
      | _ => simp [Ct.ren, disj] at h
  | read i => cases i with
    | none => cases b <;> simp [Ct.ren, disj] at h
    | some i => cases b with
      | eff j => cases j with
        | none => simp [Ct.ren, disj] at h
        | some j =>
          simp [Ct.ren, disj] at h ⊢
          exact fun e => h (by rw [e])
      | _ => simp [Ct.ren, disj] at h
  | _ => cases b <;> simp [Ct.ren, disj] at h
theorem memT_ren (f : Nat → Nat) (a b : Ct) (h : memT (a.ren f) (b.ren f) = false) : memT a b = false := by
  unfold memT at h ⊢
  rw [Ct.ren_nm, Ct.ren_nm] at h
  rw [Bool.and_eq_false_iff] at h ⊢
  rcases h with h | h
  · exact .inl h
  · exact .inr (by rw [Bool.not_eq_false'] at h ⊢; exact disj_ren f a b h)
theorem pairsOk_ren (f : Nat → Nat) (b : OI) (cb : Ct) : ∀ (l : List (OI × Ct)) (i : Nat), pairsOk b (cb.ren f) i (l.map fun x => (x.1, x.2.ren f)) = true → pairsOk b cb i l = true
  | [], i, h => rfl
  | (a, ca) :: rest, i, h => by
    simp only [List.map_cons, pairsOk, Bool.and_eq_true, Bool.or_eq_true, Bool.not_eq_true'] at h ⊢
    refine ⟨?_, pairsOk_ren f b cb rest (i + 1) h.2⟩
    rcases h.1 with h | h
    · exact .inl ⟨h.1, memT_ren f ca cb h.2⟩
    · exact .inr h
theorem drawGo_ren (f : Nat → Nat) : ∀ (os : List OI) (j : Nat) (done : List (OI × Ct)) (cs : List Ct), drawGo j (done.map fun x => (x.1, x.2.ren f)) os (cs.map (Ct.ren f)) = true → drawGo j done os cs = true
  | [], j, done, cs, h => by cases cs <;> rfl
  | o :: os, j, done, [], h => by simp [drawGo] at h
  | o :: os, j, done, c :: cs, h => by
    simp only [List.map_cons, drawGo, Bool.and_eq_true] at h ⊢
    refine ⟨⟨h.1.1, pairsOk_ren f o c done 0 h.1.2⟩, drawGo_ren f os (j + 1) (done ++ [(o, c)]) cs ?_⟩
    rw [List.map_append]
    exact h.2
theorem drawOk_ren (f : Nat → Nat) {ops : List Oper} {cs cs' : List Ct} (h : cs.map (Ct.ren f) = cs') (hd : drawOk ops cs' = true) : drawOk ops cs = true := by
  subst h
  exact drawGo_ren f (info ops) 0 [] cs hd
theorem ren2 {a b : Nat} (h : a ≠ b) : ∃ f : Nat → Nat, f a = 1 ∧ f b = 2 := ⟨fun i => if i = a then 1 else 2, by simp, by simp [Ne.symm h]⟩
theorem ren3 {a b c : Nat} (h : a ≠ b) (h2 : a ≠ c) (h3 : b ≠ c) : ∃ f : Nat → Nat, f a = 1 ∧ f b = 2 ∧ f c = 3 := ⟨fun i => if i = a then 1 else if i = b then 2 else 3, by simp, by simp [Ne.symm h], by simp [Ne.symm h2, Ne.symm h3]⟩

theorem range_filter {α : Type} (p : α → Bool) : ∀ (l : List α), ((List.range l.length).filter fun i => match l[i]? with | some o => p o | none => false).length = (l.filter p).length
  | [] => rfl
  | a :: l => by
    rw [List.length_cons, List.range_succ_eq_map, List.filter_cons]
    have ih := range_filter p l
    have e : ((List.map Nat.succ (List.range l.length)).filter fun i => match (a :: l)[i]? with | some o => p o | none => false).length = (l.filter p).length := by
      rw [List.filter_map, List.length_map, ← ih]
      congr 1
    simp only [List.getElem?_cons_zero, List.filter_cons]
    by_cases hp : p a = true
    · rw [if_pos hp, if_pos hp, List.length_cons, List.length_cons, e]
    · rw [if_neg hp, if_neg hp, e]
theorem slots_len (l : List Oper) : (slotsL l).length = (l.filter fun o => isAlloc o.op).length := by
  unfold slotsL
  refine Eq.trans ?_ (range_filter (fun o : Oper => isAlloc o.op) l)
  congr 1
  apply List.filter_congr
  intro i _
  cases l[i]? <;> rfl

theorem splice_eq : ∀ (vs l : List Value) (off : Nat), off + vs.length ≤ l.length → splice l off vs = l.take off ++ vs ++ l.drop (off + vs.length)
  | [], l, off, h => by simp [splice]
  | v :: vs, l, off, h => by
    simp only [List.length_cons] at h
    rw [splice_cons, splice_eq vs (l.set off v) (off + 1) (by simp; omega)]
    apply List.ext_getElem?
    intro i
    simp only [List.getElem?_append, List.getElem?_take, List.length_append, List.length_take, List.length_set, List.getElem?_drop, List.getElem?_set, List.length_cons]
    by_cases h1 : i < off
    · rw [if_pos (by omega), if_pos (by omega), if_pos (by omega), if_neg (by omega), if_pos (by omega), if_pos (by omega), if_pos (by omega)]
    · by_cases h2 : i = off
      · subst h2
        rw [if_pos (by omega), if_pos (by omega), if_pos (by omega), if_pos rfl, if_pos (by omega), if_pos (by omega), if_neg (by omega)]
        have : i - min i l.length = 0 := by omega
        rw [this]; rfl
      · by_cases h3 : i < off + 1 + vs.length
        · rw [if_pos (by omega), if_neg (by omega), if_pos (by omega), if_neg (by omega)]
          have e1 : i - min (off + 1) l.length = i - off - 1 := by omega
          have e2 : i - min off l.length = (i - off - 1) + 1 := by omega
          rw [e1, e2]; simp
        · rw [if_neg (by omega), if_neg (by omega), if_neg (by omega)]
          congr 1; omega
theorem splice_full {vs l : List Value} (h : vs.length = l.length) : splice l 0 vs = vs := by
  rw [splice_eq _ _ _ (by omega)]; simp [h]
theorem rdArrAll {N : Nat} {w : Nat → Int} {e : TypeId} : rdB (some (.cells (arrL N w) e)) 0 N = some (arrL N w) := by
  rw [rdB_cells (by rw [arrL_length]; omega), List.drop_zero, List.take_of_length_le (by rw [arrL_length]; omega)]
theorem wrArrAll {N : Nat} {w f : Nat → Int} {e : TypeId} : wrB (some (.cells (arrL N f) e)) 0 (arrL N w) = some (.cells (arrL N w) e) := by
  rw [wrB_cells (by rw [arrL_length, arrL_length]; omega) (arrL_one N w), splice_full (by rw [arrL_length, arrL_length])]
theorem take_arrL {N : Nat} {w : Nat → Int} : (arrL N w).take N = arrL N w := List.take_of_length_le (by rw [arrL_length]; omega)
theorem splice_arrL {N : Nat} {w f : Nat → Int} : splice (arrL N f) 0 (arrL N w) = arrL N w := splice_full (by rw [arrL_length, arrL_length])
theorem len_assoc {l : H} {a b : Nat} : l.length + a + b = l.length + (a + b) := Nat.add_assoc _ _ _
theorem lit_eq {tm : List Value} {N : Nat} (h : tm.length = N) : tm = (List.range N).map fun i => tm.getD i undef := by
  subst h
  apply List.ext_getElem?
  intro i
  rw [List.getElem?_map]
  by_cases hi : i < tm.length
  · rw [List.getElem?_range hi, List.getElem?_eq_getElem hi]
    simp [hi]
  · rw [List.getElem?_eq_none (by omega), List.getElem?_eq_none (by simp; omega)]; rfl
theorem ym_undef : (yieldL.match_1 (fun _ => Option Bool) (some undef) (fun b => some b) (fun _ => none)) = none := rfl
end Go.Sym
namespace Go.Sym
set_option linter.unusedSimpArgs false
section
variable {P : Program}
theorem free_underlying {t : TypeId} {d : TypeDesc} (h : P.underlying t = some d) : free P (underlying t) = some d := by
  simp [underlying, h]
theorem free_sizeOf {t : TypeId} {n : Nat} (h : tsz P t = some n) : free P (sizeOf t) = some n := by
  unfold tsz at h
  rw [Option.map_eq_some_iff] at h
  obtain ⟨i, hi, rfl⟩ := h
  simp [sizeOf, typeInfo, hi]
theorem free_part {t : TypeId} {cs : List Value} {off : Nat} {v : Value} (h : partV P t cs off = some v) : free P (part t cs.toArray off) = some v := by
  unfold partV at h
  split at h
  · rename_i ht
    rw [Option.map_eq_some_iff] at h
    obtain ⟨n, hn, rfl⟩ := h
    unfold tagg at ht
    rw [Option.map_eq_some_iff] at ht
    obtain ⟨d, hd, hb⟩ := ht
    have ha : free P (isAgg t) = some true := by
      unfold isAgg
      rw [free_bind, free_underlying hd]
      cases d <;> simp_all
    unfold part
    rw [free_bind, ha]
    simp only [Option.bind_some, if_true]
    rw [free_bind, free_sizeOf hn]
    simp only [Option.bind_some, free_pure, extract_list]
  · rename_i ht
    unfold tagg at ht
    rw [Option.map_eq_some_iff] at ht
    obtain ⟨d, hd, hb⟩ := ht
    have ha : free P (isAgg t) = some false := by
      unfold isAgg
      rw [free_bind, free_underlying hd]
      cases d <;> simp_all
    unfold part
    rw [free_bind, ha]
    simp only [Option.bind_some, Bool.false_eq_true, if_false, List.getElem?_toArray, h, free_pure]
  · cases h
theorem free_eq_int {d : Nat} {e : TypeId} {k k' : IntKind} {a b : Int} (h : P.underlying e = some (.int k)) : free P (Op.equalIn (d + 1) e (.int k' a) (.int k' b)) = some (decide (a = b)) := by
  simp only [Op.equalIn]
  rw [free_bind, free_underlying h]
  simp [BEq.beq]
theorem free_loop {α : Type} {f : α → Option Bool × Unit → Sem (ForInStep (Option Bool × Unit))} {r : α → Bool} : ∀ (l : List α), (∀ i ∈ l, free P (f i (none, ())) = some (if r i = true then .yield (none, ()) else .done (some false, ()))) →
    free P (forIn l (none, ()) f) = some (if l.all r = true then (none, ()) else (some false, ()))
  | [], _ => by simp
  | i :: l, h => by
    have ih := free_loop (f := f) (r := r) l (fun j hj => h j (List.mem_cons_of_mem _ hj))
    have hi := h i (List.mem_cons_self ..)
    simp only [List.forIn_cons, free_bind, hi, Option.bind_some]
    cases hr : r i with
    | false => simp [hr]
    | true =>
      simp only [if_true, List.all_cons, hr, Bool.true_and]
      exact ih
theorem free_eq_array {d N s : Nat} {t e : TypeId} {xs ys : List Value} {r : Nat → Bool} (hu : P.underlying t = some (.array N e)) (hs : tsz P e = some s)
    (hr : ∀ i, i < N → ∃ x y, partV P e xs (i * s) = some x ∧ partV P e ys (i * s) = some y ∧ free P (Op.equalIn d e x y) = some (r i)) :
    free P (Op.equalIn (d + 1) t (.agg xs.toArray) (.agg ys.toArray)) = some ((List.range N).all r) := by
  simp only [Op.equalIn]
  rw [free_bind, free_underlying hu]
  simp only [Option.bind_some]
  rw [free_bind, free_sizeOf hs]
  simp only [Option.bind_some]
  simp only [Std.Legacy.Range.forIn_eq_forIn_range', Std.Legacy.Range.size, Nat.sub_zero, Nat.add_one_sub_one, Nat.div_one, ← List.range_eq_range']
  rw [free_bind, free_loop (r := r) (List.range N) (fun i hi => ?_)]
  · simp only [Option.bind_some]
    cases (List.range N).all r <;> rfl
  · obtain ⟨x, y, hx, hy, he⟩ := hr i (List.mem_range.1 hi)
    rw [free_bind, free_part hx, Option.bind_some, free_bind, free_part hy, Option.bind_some, free_bind, he, Option.bind_some]
    cases r i <;> rfl
theorem free_eqGuard {op : BinOp} {t : TypeId} {x y : Operand} {a b : Array Value} (h : op = .eql ∨ op = .neq) (hg : P.eqGuardType P.depth t = false) : free P (eqGuard op t x y (.agg a) (.agg b)) = some () := by
  rcases h with rfl | rfl <;> simp [eqGuard, hg]
theorem bin_eql_agg {t : TypeId} {x y : Operand} {a b : List Value} {r : Bool} (ha : flatL a = true) (hb : flatL b = true) (hg : P.eqGuardType P.depth t = false) (h : free P (Op.equalIn (9999 + 1) t (.agg a.toArray) (.agg b.toArray)) = some r) :
    abin P .eql t x y (.agg a.toArray) (.agg b.toArray) = some (.bool r) := by
  unfold abin
  rw [if_pos ⟨by simpa [flat, flatA] using ha, by simpa [flat, flatA] using hb⟩]
  rw [free_bind, free_eqGuard (.inl rfl) hg]
  have : free P (binOp .eql t (.agg a.toArray) (.agg b.toArray)) = some (.bool r) := by
    have e : binOp .eql t (.agg a.toArray) (.agg b.toArray) = (do pure (.bool (← Op.equal t (.agg a.toArray) (.agg b.toArray)))) := by rfl
    rw [e, free_bind]
    have e2 : Op.equal t (.agg a.toArray) (.agg b.toArray) = Op.equalIn (9999 + 1) t (.agg a.toArray) (.agg b.toArray) := rfl
    rw [e2, h]; rfl
  rw [Option.bind_some, this]; rfl
theorem bin_neq_agg {t : TypeId} {x y : Operand} {a b : List Value} {r : Bool} (ha : flatL a = true) (hb : flatL b = true) (hg : P.eqGuardType P.depth t = false) (h : free P (Op.equalIn (9999 + 1) t (.agg a.toArray) (.agg b.toArray)) = some r) :
    abin P .neq t x y (.agg a.toArray) (.agg b.toArray) = some (.bool !r) := by
  unfold abin
  rw [if_pos ⟨by simpa [flat, flatA] using ha, by simpa [flat, flatA] using hb⟩]
  rw [free_bind, free_eqGuard (.inr rfl) hg]
  have : free P (binOp .neq t (.agg a.toArray) (.agg b.toArray)) = some (.bool !r) := by
    have e : binOp .neq t (.agg a.toArray) (.agg b.toArray) = (do pure (.bool !(← Op.equal t (.agg a.toArray) (.agg b.toArray)))) := by rfl
    rw [e, free_bind]
    have e2 : Op.equal t (.agg a.toArray) (.agg b.toArray) = Op.equalIn (9999 + 1) t (.agg a.toArray) (.agg b.toArray) := rfl
    rw [e2, h]; rfl
  rw [Option.bind_some, this]; rfl
/-- rows of numbers -/
def eqN (N : Nat) (f g : Nat → Int) : Bool := (List.range N).all fun i => decide (f i = g i)
theorem eqN_iff {N : Nat} {f g : Nat → Int} : eqN N f g = true ↔ ∀ i, i < N → f i = g i := by simp [eqN]
theorem free_eq_arrL {d N : Nat} {t e : TypeId} {k : IntKind} {f g : Nat → Int} (hu : P.underlying t = some (.array N e)) (hs : tsz P e = some 1) (ht : tagg P e = some false) (he : P.underlying e = some (.int k)) :
    free P (Op.equalIn (d + 1 + 1) t (.agg (arrL N f).toArray) (.agg (arrL N g).toArray)) = some (eqN N f g) :=
  free_eq_array (r := fun i => decide (f i = g i)) hu hs (fun i hi => ⟨.int .i64 (f i), .int .i64 (g i), by unfold partV; rw [ht, Nat.mul_one]; exact arrL_get N f hi, by unfold partV; rw [ht, Nat.mul_one]; exact arrL_get N g hi, free_eq_int he⟩)
end
end Go.Sym
namespace Go.Sym
section
variable {P : Program} {I : Nat → Option Obj}
def busyB : Blk → Blk
  | .loop tm ps asg body _ p d => .loop tm ps asg body .busy p d
  | b => b
/-- left by 'return' -/
def retB : Blk → Blk
  | .loop tm ps asg body _ _ d => .loop tm ps asg body .done (some .ret) d
  | b => b
def roundB (l : Nat) (Bl : Blk) (v : Value) (h' : H) : Exit → St → Prop :=
  fun e s => s.h.get l = some (busyB Bl) ∧ (match e with
    | .normal => v = .bool true ∧ h' = s.h.put l Bl
    | .ret => v = .bool false ∧ h' = s.h.put l (retB Bl)
    | _ => False)
theorem Snd_yieldB {l d : Nat} {Bl : Blk} {tm args : List Value} {ps : Array Tmp} {asg body : Code} {h h' : H} {v : Value} (hBl : Bl = Blk.loop tm ps asg body .ready none d) (hg : h.get l = some Bl) (hn : args.length = ps.size)
    (hc : TC P I (some l) asg (fun e s => e = .normal ∧ s.h.get l = some Bl ∧ TC P I (some l) body (roundB l Bl v h') ⟨s.tm, s.df, s.h.put l (busyB Bl)⟩) ⟨setAll ps.toList args tm, [], h⟩) : Snd P I (.yield l) args h v h' := by
  subst hBl
  refine Snd_yield hg hn (hc.mono fun e s q => ?_)
  obtain ⟨he, hg', hb⟩ := q
  refine ⟨he, _, _, _, _, _, _, hg', hb.mono fun e s q => ?_⟩
  obtain ⟨h1, h2⟩ := q
  refine ⟨_, _, _, _, _, _, _, h1, ?_⟩
  cases e with
  | normal => exact h2
  | ret => exact h2
  | _ => exact h2.elim
theorem TC_rangeB {f : Operand} {ps : Array Tmp} {asg body : Code} {Q : Exit → St → Prop} {tm : List Value} {df : List Nat} {h : H} {g : FuncId} {first cap : Array Value} {h2 : Blk → H} {v : Value} (hok : okO f = true) (hev : ev tm f = .func (.func g) first cap)
    (hs : ∀ Bl, Bl = Blk.loop tm ps asg body .ready none (2 * h.length) → Snd P I (.func g) (first.toList ++ [.func (.yield (2 * (h.length + 1))) #[] #[]] ++ cap.toList) (h ++ [.obj (.deferred (some [])), Bl]) v (h2 Bl))
    (hg : ∀ Bl, (h2 Bl).get (2 * (h.length + 1)) = some Bl) (q : ∀ Bl, Q .normal ⟨tm, (2 * h.length) :: df, (h2 Bl).put (2 * (h.length + 1)) .dead⟩) : TC P I none (.rangeFunc f ps asg body) Q ⟨tm, df, h⟩ :=
  TC_range hok hev (hs _ rfl) (hg _) (by simp) (q _)
theorem TC_rangeR {f : Operand} {ps : Array Tmp} {asg body : Code} {Q : Exit → St → Prop} {tm : List Value} {df : List Nat} {h : H} {g : FuncId} {first cap : Array Value} {h2 : Blk → H} {v : Value} (hok : okO f = true) (hev : ev tm f = .func (.func g) first cap)
    (hs : ∀ Bl, Bl = Blk.loop tm ps asg body .ready none (2 * h.length) → Snd P I (.func g) (first.toList ++ [.func (.yield (2 * (h.length + 1))) #[] #[]] ++ cap.toList) (h ++ [.obj (.deferred (some [])), Bl]) v (h2 Bl))
    (hg : ∀ Bl, (h2 Bl).get (2 * (h.length + 1)) = some (retB Bl)) (q : ∀ Bl, Q .ret ⟨tm, (2 * h.length) :: df, (h2 Bl).put (2 * (h.length + 1)) .dead⟩) : TC P I none (.rangeFunc f ps asg body) Q ⟨tm, df, h⟩ :=
  TC_range hok hev (hs _ rfl) (hg _) (by simp) (q _)

/-! what is deferred: nothing -/
theorem leave_app {hb : H} : ∀ (df : List Nat) (l : H), df.Nodup → (∀ id ∈ df, ∃ k, id = 2 * (hb.length + k) ∧ l[k]? = some (.obj (.deferred (some [])))) → ∃ l', leave df (hb ++ l) = some (hb ++ l') ∧ l'.length = l.length ∧ ∀ k, (2 * (hb.length + k)) ∉ df → l'[k]? = l[k]?
  | [], l, _, _ => ⟨l, rfl, rfl, fun _ _ => rfl⟩
  | id :: df, l, hnd, h => by
    obtain ⟨k, rfl, hk⟩ := h id (List.mem_cons_self ..)
    rw [List.nodup_cons] at hnd
    obtain ⟨l', h1, h2, h3⟩ := leave_app df (l.set k .dead) hnd.2 (fun i hi => by
      obtain ⟨j, rfl, hj⟩ := h i (List.mem_cons_of_mem _ hi)
      refine ⟨j, rfl, ?_⟩
      have : k ≠ j := by rintro rfl; exact hnd.1 hi
      rw [List.getElem?_set_ne this]; exact hj)
    refine ⟨l', ?_, by rw [h2, List.length_set], fun j hj => ?_⟩
    · unfold leave
      rw [get_k, hk]
      simp only
      rw [put_k]; exact h1
    · rw [List.mem_cons, not_or] at hj
      rw [h3 j hj.2]
      have : k ≠ j := by rintro rfl; exact hj.1 rfl
      rw [List.getElem?_set_ne this]
end
theorem getElem?_app_k {l m : H} {k : Nat} : (l ++ m : H)[l.length + k]? = m[k]? := by
  rw [List.getElem?_append_right (by omega)]; congr 1; omega
theorem getElem?_app_z {l m : H} : (l ++ m : H)[l.length]? = m[0]? := by
  rw [List.getElem?_append_right (by omega)]; congr 1; omega
theorem set_app_k {l m : H} {k : Nat} {B : Blk} : (l ++ m : H).set (l.length + k) B = l ++ m.set k B := by
  rw [List.set_append_right _ _ (by omega)]; congr 2; omega
theorem set_app_z {l m : H} {B : Blk} : (l ++ m : H).set l.length B = l ++ m.set 0 B := by
  rw [List.set_append_right _ _ (by omega)]; congr 2; omega
/-- a heap with a block of numbers that turn -/
structure GHeap {A : Type} (M pg : Nat) (bl : A → Blk) (G : A → H) : Prop where
  len : ∀ a, (G a).length = M
  get : ∀ a, (G a).get pg = some (bl a)
  put : ∀ a b, (G a).put pg (bl b) = G b
section
variable {A : Type} {M pg : Nat} {bl : A → Blk} {G : A → H} {I : Nat → Option Obj} {l : H} {a : A} {k off n : Nat} {vs : List Value}
theorem GHeap.app (g : GHeap M pg bl G) (l : H) : GHeap (M + l.length) pg bl (fun a => G a ++ l) :=
  ⟨fun a => by rw [List.length_append, g.len], fun a => H.get_append (g.get a) l, fun a b => by rw [put_old (g.get a), g.put]⟩
theorem GHeap.rd (g : GHeap M pg bl G) : rdl I (G a ++ l) pg off n = rdB (some (bl a)) off n := rd_at_app (g.get a)
theorem GHeap.wr (g : GHeap M pg bl G) : wrl (G a ++ l) pg off vs = (wrB (some (bl a)) off vs).map fun B => (G a).put pg B ++ l := wr_at_app (g.get a)
theorem GHeap.rd_z (g : GHeap M pg bl G) : rdl I (G a ++ l) (2 * M) off n = rdB l[0]? off n := by rw [← g.len a]; exact Sym.rd_z
theorem GHeap.rd_k (g : GHeap M pg bl G) : rdl I (G a ++ l) (2 * (M + k)) off n = rdB l[k]? off n := by rw [← g.len a]; exact Sym.rd_k
theorem GHeap.wr_z (g : GHeap M pg bl G) : wrl (G a ++ l) (2 * M) off vs = (wrB l[0]? off vs).map fun B => G a ++ l.set 0 B := by rw [← g.len a]; exact Sym.wr_z
theorem GHeap.wr_k (g : GHeap M pg bl G) : wrl (G a ++ l) (2 * (M + k)) off vs = (wrB l[k]? off vs).map fun B => G a ++ l.set k B := by rw [← g.len a]; exact Sym.wr_k
theorem GHeap.get_z (g : GHeap M pg bl G) : (G a ++ l : H).get (2 * M) = l[0]? := by rw [← g.len a]; exact Sym.get_z
theorem GHeap.get_k (g : GHeap M pg bl G) : (G a ++ l : H).get (2 * (M + k)) = l[k]? := by rw [← g.len a]; exact Sym.get_k
theorem GHeap.put_z (g : GHeap M pg bl G) {B : Blk} : (G a ++ l : H).put (2 * M) B = G a ++ l.set 0 B := by rw [← g.len a]; exact Sym.put_z
theorem GHeap.put_k (g : GHeap M pg bl G) {B : Blk} : (G a ++ l : H).put (2 * (M + k)) B = G a ++ l.set k B := by rw [← g.len a]; exact Sym.put_k
end
/-- a heap, its block at pg turned -/
theorem GHeap.of {A : Type} {h : H} {pg : Nat} {bl : A → Blk} {a0 : A} (hg : h.get pg = some (bl a0)) : GHeap h.length pg bl (fun a => h.put pg (bl a)) :=
  ⟨fun a => H.length_put _ _ _, fun a => H.get_put_same hg _, fun a b => by unfold H.put; split <;> simp⟩
end Go.Sym
namespace Go.Sym
section
variable {P : Program} {I : Nat → Option Obj}
/-- hb is hk, some blocks forgotten -/
def Forgets (hk hb : H) : Prop := hk.length = hb.length ∧ ∀ i : Nat, hb[i]? = hk[i]? ∨ hb[i]? = some .dead
theorem Ret.put {E : Env} {h : H} {w : World} {v : Value} {h' : H} {e : Ending} {w' : World} (ret : Ret I E h w v h' e w') (id : Nat) : Ret I E h w v (h'.put id .dead) e w' := by
  obtain ⟨E', c, he, hc, r, a⟩ := ret
  obtain ⟨r2, a2⟩ := r.kill id
  exact ⟨E', c, he, hc, r2, a.trans a2⟩
/-- the first n blocks, forgotten as in hb -/
def forgetN (hb : H) : Nat → H → H
  | 0, h => h
  | n + 1, h => match hb[n]? with
    | some .dead => forgetN hb n (h.put (2 * n) .dead)
    | _ => forgetN hb n h
theorem Ret.forget {E : Env} {h : H} {w : World} {v : Value} {e : Ending} {w' : World} (hb : H) : ∀ (n : Nat) (h' : H), Ret I E h w v h' e w' → Ret I E h w v (forgetN hb n h') e w'
  | 0, h', r => r
  | n + 1, h', r => by
    unfold forgetN
    split
    · exact Ret.forget hb n _ (r.put _)
    · exact Ret.forget hb n _ r
open Classical in
theorem forgetN_get (hb : H) : ∀ (n : Nat) (h : H) (i : Nat), n ≤ h.length → (forgetN hb n h)[i]? = if i < n ∧ hb[i]? = some .dead then some .dead else h[i]?
  | 0, h, i, _ => by simp [forgetN]
  | n + 1, h, i, hn => by
    unfold forgetN
    split
    · rename_i hd
      have hp : h.put (2 * n) .dead = h.set n .dead := by unfold H.put; rw [if_pos (by omega)]; congr 1; omega
      rw [hp, forgetN_get hb n _ i (by simp; omega)]
      by_cases hi : i = n
      · subst hi
        rw [if_neg (by omega), if_pos ⟨by omega, hd⟩, List.getElem?_set_self (by omega)]
      · rw [List.getElem?_set_ne (by omega)]
        by_cases h2 : i < n ∧ hb[i]? = some .dead
        · rw [if_pos h2, if_pos ⟨by omega, h2.2⟩]
        · rw [if_neg h2, if_neg (fun hh => h2 ⟨by omega, hh.2⟩)]
    · rename_i hd
      rw [forgetN_get hb n h i (by omega)]
      by_cases hi : i = n
      · subst hi
        rw [if_neg (by omega), if_neg (fun hh => hd hh.2)]
      · by_cases h2 : i < n ∧ hb[i]? = some .dead
        · rw [if_pos h2, if_pos ⟨by omega, h2.2⟩]
        · rw [if_neg h2, if_neg (fun hh => h2 ⟨by omega, hh.2⟩)]
open Classical in
theorem forget_all {hk hb l : H} (hf : Forgets hk hb) : forgetN hb hb.length (hk ++ l) = hb ++ l := by
  apply List.ext_getElem?
  intro i
  rw [forgetN_get _ _ _ _ (by rw [List.length_append, hf.1]; omega)]
  by_cases hi : i < hb.length
  · rw [List.getElem?_append_left hi]
    split
    · rename_i h2; exact h2.2.symm
    · rename_i h2
      rw [List.getElem?_append_left (by rw [hf.1]; exact hi)]
      rcases hf.2 i with h | h
      · exact h.symm
      · exact absurd ⟨hi, h⟩ h2
  · rw [if_neg (fun h => hi h.1), List.getElem?_append_right (by rw [hf.1]; omega), List.getElem?_append_right (by omega), hf.1]
def finK (P : Program) (I : Nat → Option Obj) (rs : List ResultVar) (v : Value) (hb : H) : Exit → St → Prop :=
  fun e s => (e = .normal ∨ e = .ret) ∧ ∃ h', leave s.df s.h = some h' ∧ (∃ hk l, h' = hk ++ l ∧ Forgets hk hb) ∧ (aresL P I s.tm h' rs).map one = some v
theorem finK_ret {rs : List ResultVar} {v : Value} {hb : H} {tm : List Value} {h : H} : finK P I rs v hb .ret ⟨tm, [], h⟩ = ((∃ hk l, h = hk ++ l ∧ Forgets hk hb) ∧ (aresL P I tm h rs).map one = some v) := by
  simp [finK, leave]
theorem Snd_runK {g : FuncId} {fn : Func} {c : Code} {nt : Nat} {rs : List ResultVar} {args : List Value} {h hb : H} {v : Value} (n : Nat) (hf : P.funcs[g]? = some fn) (hok : fnOk fn = true) (hbd : fn.body = some c) (hn : fn.ntmps = nt) (hr : fn.results.toList = rs)
    (hlen : h.length ≤ hb.length) (hcl : ∀ id B, hb.get id = some B → closedB (okN hb.length) B = true ∨ h.get id = some B) (hv : closedV (okN hb.length) v = true)
    (hc : Run P I none n [.code c] (finK P I rs v hb) ⟨args ++ List.replicate (nt - args.length) undef, [], h⟩) : Snd P I (.func g) args h v hb := by
  have hok' := hok
  simp only [fnOk, hbd, Bool.and_eq_true, Bool.not_eq_true', beq_eq_false_iff_ne] at hok
  have hs : SndQ P I (.func g) args h (fun u h' => u = v ∧ ∃ hk l, h' = hk ++ l ∧ Forgets hk hb) := by
    refine SndQ_of hf hbd hok.1 ?_
    rw [hn]
    refine (Run_TC hok.2 hc).mono fun e s q => ?_
    obtain ⟨he, h', hl, hx, ha⟩ := q
    exact ⟨v, h', ⟨rfl, hx⟩, he, hl, by rw [hr]; exact ha⟩
  refine ⟨hs.1, fun E w cargs r ha => CallsIn.mono (hs.2 E w cargs r ha) ?_⟩
  rintro e w' ⟨u, h', ⟨rfl, hk, l, rfl, hfg⟩, hret⟩
  have h1 := hret.forget hb hb.length
  rw [forget_all hfg] at h1
  have := h1.gc r (N := hb.length) hlen (by simp) hv fun id B hlt hg => ?_
  · simpa using this
  · refine hcl id B ?_
    have e : (hb ++ l : H).take hb.length = hb := by simp
    rw [← e, get_take hlt]; exact hg
end
end Go.Sym
set_option linter.unusedSimpArgs false
set_option linter.unusedVariables false
namespace Go.Sym
/-- a slice that has grown to n elements, in block q; nil at first -/
def slA (q n : Nat) : Value := if n = 0 then .slice none 0 0 else .slice (some ⟨q, 0, none⟩) n UNK
theorem slA_zero (q : Nat) : slA q 0 = .slice none 0 0 := rfl
theorem slA_pos {q n : Nat} (h : n ≠ 0) : slA q n = .slice (some ⟨q, 0, none⟩) n UNK := if_neg h
/-- the old row is given up -/
def killL (n : Nat) (T : H) (q : Nat) : H := if n = 0 then T else T.set q .dead
theorem killL_len {n q : Nat} {T : H} : (killL n T q).length = T.length := by unfold killL; split <;> simp
theorem killL_get {n q k : Nat} {T : H} (h : k ≠ q) : (killL n T q)[k]? = T[k]? := by
  unfold killL; split
  · rfl
  · rw [List.getElem?_set_ne (by omega)]
theorem killL_app {n q : Nat} {T l : H} (h : n ≠ 0 → q < T.length) : killL n (T ++ l) q = killL n T q ++ l := by
  unfold killL; split
  · rfl
  · rename_i hn; rw [List.set_append_left _ _ (h hn)]
theorem getElem?_app_lt {l m : H} {k : Nat} {b : Blk} (h : l[k]? = some b) : (l ++ m : H)[k]? = some b := by
  rw [List.getElem?_append_left (List.getElem?_eq_some_iff.1 h).1]; exact h
section
variable {P : Program} {I : Nat → Option Obj}
theorem aappend_row {t e : TypeId} {sz by_ : Nat} {z x : Value} {h X : H} {q m : Nat} {ks new : List Value} (e1 : P.underlying t = some (.slice e)) (e2 : tsz P e = some sz) (e3 : tbytes P e = some by_) (e4 : tzero P e = some z)
    (e5 : z.cells.size = sz ∧ 0 < sz ∧ 0 < by_) (hk : m ≠ 0 → X[q]? = some (.row ks e sz)) (hk0 : m = 0 → ks = []) (hk2 : ks.length = m * sz) (hx : rdS I (h ++ X) sz x = some (1, new)) (ho : new.all (·.oneCell') = true) (hb : (2 * (m + 1) + 200) * by_ ≤ 281474976710656) :
    aappend P I t t (slA (2 * (h.length + q)) m) x (h ++ X) = some (slA (2 * (h.length + X.length)) (m + 1), h ++ (killL m X q ++ [.row (ks ++ new) e sz])) := by
  have hn : (h ++ X : H).new = 2 * (h.length + X.length) := by simp [H.new]
  unfold aappend
  simp only [e1, e2, e3, e4, hx]
  rw [if_pos e5]
  by_cases h0 : m = 0
  · subst h0
    rw [hk0 rfl]
    simp only [slA, killL, if_true]
    rw [if_neg (by omega), if_pos (by simpa using hb), hn, List.append_assoc]
    simp
  · have hr : (h ++ X : H).get (2 * (h.length + q)) = some (.row ks e sz) := by rw [get_k]; exact hk h0
    simp only [slA, killL, if_neg h0, Nat.add_eq_zero_iff, Nat.one_ne_zero, and_false, if_false]
    rw [if_neg (by simp [UNK])]
    rw [if_pos ⟨trivial, trivial, hb⟩, hr]
    simp only
    rw [if_pos ⟨by omega, trivial, trivial, ho⟩, hn, put_k, List.append_assoc, List.take_of_length_le (by omega)]
theorem effOk_free1 {ops : List Oper} {N0 j i k : Nat} {h h' : H} (h1 : ((slotsL ops).filter fun i => !anc ops j i) = [i]) (h2 : ((ops.take i).filter fun o => isAlloc o.op).length = k) (h3 : h'.get (2 * (N0 + k)) = h.get (2 * (N0 + k))) (h4 : h.length ≤ h'.length) : effOk ops N0 j h h' := by
  refine ⟨fun id hid => ?_, h4⟩
  unfold freeIds at hid
  rw [h1] at hid
  simp only [List.map_cons, List.map_nil, List.mem_cons, List.not_mem_nil, or_false] at hid
  subst hid
  unfold ridOf
  rw [h2]; exact h3
end
section
variable {P : Program} {I : Nat → Option Obj} {ro : Option Nat}
theorem scopeQ_ret {Q : Exit → St → Prop} {s : St} : scopeQ Q .ret s = Q .ret s := rfl
theorem scopeQ_normal {Q : Exit → St → Prop} {s : St} : scopeQ Q .normal s = Q .normal s := rfl
theorem scopeQ_exit {Q : Exit → St → Prop} {s : St} {i : Nat} : scopeQ Q (.exit i) s = Q (.exit i) s := rfl
/-- a scope: its body run by itself -/
theorem Run_scope {c : Code} {n : Nat} {k : List K} {Q : Exit → St → Prop} {s : St} (m : Nat) (hok : codeOk c = true) (h : Run P I ro m [.code c] (scopeQ (ContK P I ro n k Q)) s) : Run P I ro (n + 1) (.code (.scope c) :: k) Q s := by
  have h' : TC P I ro (.scope c) (ContK P I ro n k Q) s := TC_scope (Run_TC hok h)
  show TC P I ro (.scope c) _ s
  refine h'.mono fun e s q => ?_
  cases e <;> exact q
end
theorem apW_slA {q n : Nat} (hq : q % 2 = 0) (r : Nat) (hr : r % 2 = 0) (hn : n ≠ 0 → q ≠ r) : ∃ w, apW (slA q n) = some w ∧ w ≠ r := by
  by_cases h : n = 0
  · subst h; exact ⟨1, rfl, by omega⟩
  · rw [slA_pos h]; exact ⟨q, rfl, hn h⟩
/-- a row of numbers -/
theorem arrL_snoc (n : Nat) (f : Nat → Int) : arrL n f ++ [.int .i64 (f n)] = arrL (n + 1) f := by
  unfold arrL; rw [List.range_succ, List.map_append]; rfl
theorem rd_arrRow {I : Nat → Option Obj} {h T : H} {k n i : Nat} {f : Nat → Int} {e : TypeId} (hT : T[k]? = some (.row (arrL n f) e 1)) (hi : i < n) : rdl I (h ++ T) (2 * (h.length + k)) i 1 = some [.int .i64 (f i)] := by
  rw [rd_k, hT, rdB_row (by rw [arrL_length]; omega), arrL_part n f hi]
end Go.Sym
namespace Go.Sym
set_option linter.defProp false
def sB := And.intro (And.intro (And.intro (And.intro (And.intro (And.intro (And.intro (@Run_seq) (@Run_region)) (And.intro (@Run_ops_nil) (@Run_ret))) (And.intro (And.intro (@Run_skip) (@Run_label)) (And.intro (@Run_exit) (And.intro (@Run_endB) (@Run_block))))) (And.intro (And.intro (And.intro (@Run_cond) (@Run_guard)) (And.intro (@Run_opcall) (And.intro (@RunX_some) (@RunX_none)))) (And.intro (And.intro (@RunB_true) (@RunB_false)) (And.intro (@RunS_some) (And.intro (@RunG_tt) (@RunG_ff)))))) (And.intro (And.intro (And.intro (And.intro (@RunG_tf) (@RunG_ft)) (And.intro (@RunG_none) (And.intro (@Rn_move) (@Rn_assign)))) (And.intro (And.intro (@Rn_pick) (@Rn_alloc)) (And.intro (@Rn_box) (And.intro (@Rn_build) (@Rn_buildSlice))))) (And.intro (And.intro (And.intro (@Rn_load) (@Rn_store)) (And.intro (@Rn_nilCheck) (And.intro (@Rn_binOp) (@Rn_unOp)))) (And.intro (And.intro (@Rn_convert) (@Rn_makeFunc)) (And.intro (@Rn_makeSlice) (And.intro (@Rn_slice) (@Rn_fieldAddr))))))) (And.intro (And.intro (And.intro (And.intro (And.intro (@Rn_field) (@Rn_indexAddr)) (And.intro (@Rn_index) (And.intro (@Rn_extract) (@Rn_builtin)))) (And.intro (And.intro (@pickV_true) (@pickV_false)) (And.intro (@pickV_bool) (And.intro (@liftV_some) (@storeV_some))))) (And.intro (And.intro (And.intro (@nilV_ptr) (@sliceV_some)) (And.intro (@extV_tuple) (And.intro (@putT_some) (@putT_none)))) (And.intro (And.intro (@ev_tmp) (@ev_const)) (And.intro (@ev_func) (And.intro (@fin_ret) (@fin_normal)))))) (And.intro (And.intro (And.intro (And.intro (@leave_nil) (@aresL_nil)) (And.intro (@aresL_tmp) (And.intro (@aresL_cell) (@one_one)))) (And.intro (And.intro (@one_two) (@one_three)) (And.intro (@bin_add) (And.intro (@bin_sub) (@bin_mul))))) (And.intro (And.intro (And.intro (@bin_lss) (@bin_leq)) (And.intro (@bin_gtr) (And.intro (@bin_geq) (@bin_eql)))) (And.intro (And.intro (@bin_neq) (@un_not)) (And.intro (@un_neg) (And.intro (@List.length_cons.{0}) (@List.length_nil.{0})))))))) (And.intro (And.intro (And.intro (And.intro (And.intro (And.intro (@List.replicate_succ.{0}) (@List.replicate_zero.{0})) (And.intro (@List.cons_append.{0}) (And.intro (@List.nil_append.{0}) (@List.set_cons_succ.{0})))) (And.intro (And.intro (@List.set_cons_zero.{0}) (@List.getD_cons_succ.{0})) (And.intro (@List.getD_cons_zero.{0}) (And.intro (@List.getElem?_cons_succ.{0}) (@List.getElem?_cons_zero.{0}))))) (And.intro (And.intro (And.intro (@Option.map_some.{0,0}) (@Option.bind_some.{0,0})) (And.intro (@if_true.{1}) (And.intro (@decide_true) (@decide_false)))) (And.intro (And.intro (@Bool.not_true) (@Bool.not_false)) (And.intro (@and_self) (And.intro (@List.map_toArray.{0,0}) (@List.map_cons.{0,0})))))) (And.intro (And.intro (And.intro (And.intro (@List.map_nil.{0,0}) (@and_true)) (And.intro (@List.toList_toArray.{0}) (And.intro (@List.length_append.{0}) (@Nat.zero_add)))) (And.intro (And.intro (@Nat.add_zero) (@List.append_assoc.{0})) (And.intro (@rd_z) (And.intro (@rd_k) (@wr_z))))) (And.intro (And.intro (And.intro (@wr_k) (@put_z)) (And.intro (@put_k) (And.intro (@ld1_some) (@ldA_some)))) (And.intro (And.intro (@abi_min) (@abi_max)) (And.intro (@abi2_min) (And.intro (@abi2_max) (@Bool.false_eq_true))))))) (And.intro (And.intro (And.intro (And.intro (And.intro (@if_false.{1}) (@Int.toNat_natCast)) (And.intro (@Nat.one_ne_zero) (And.intro (@Nat.zero_ne_one) (@ym_undef)))) (And.intro (And.intro (@rdArrAll) (@wrArrAll)) (And.intro (@take_arrL) (And.intro (@splice_arrL) (@arrL_one))))) (And.intro (And.intro (And.intro (@arrL_length) (@rdB_cells)) (And.intro (@rdB_row) (And.intro (@wrB_cells) (@splice_nil)))) (And.intro (And.intro (@splice_cons) (@oc_int)) (And.intro (@oc_bool) (And.intro (@oc_slice) (@oc_ptr)))))) (And.intro (And.intro (And.intro (And.intro (@oc_func) (@oc_map)) (And.intro (@List.all_cons.{0}) (And.intro (@List.all_nil.{0}) (@Bool.and_self)))) (And.intro (And.intro (@Nat.le_refl) (@List.drop_zero.{0})) (And.intro (@List.drop_succ_cons.{0}) (And.intro (@List.take_succ_cons.{0}) (@List.take_zero.{0}))))) (And.intro (And.intro (And.intro (@List.take_nil.{0}) (@List.drop_nil.{0})) (And.intro (@getElem?_snoc) (And.intro (@set_snoc) (@Run_nil)))) (And.intro (And.intro (@finS_ret) (@finS_normal)) (And.intro (@Run_loop) (And.intro (@Run_rangeFunc) (@true_and))))))))
def sD := And.intro (And.intro (And.intro (And.intro (And.intro (@List.append_nil.{0}) (@Run_draw)) (And.intro (@slots_len) (And.intro (@List.filter_cons.{0}) (@List.filter_nil.{0})))) (And.intro (And.intro (@Run_dnil) (And.intro (@Rd_alloc) (@Rd_box))) (And.intro (@Rd_buildSlice) (And.intro (@Rd_pick) (@Rd_build))))) (And.intro (And.intro (And.intro (@Rd_nilCheck) (@Rd_binOp)) (And.intro (@Rd_unOp) (And.intro (@Rd_convert) (@Rd_fieldAddr)))) (And.intro (And.intro (@Rd_field) (And.intro (@Rd_indexAddr) (@Rd_index))) (And.intro (@Rd_extract) (And.intro (@Rd_move) (@Rd_assign)))))) (And.intro (And.intro (And.intro (And.intro (@Rd_makeFunc) (@Rd_load)) (And.intro (@Rd_slice) (And.intro (@Rd_store) (@Rd_makeSlice)))) (And.intro (And.intro (@Rd_len) (And.intro (@Rd_min) (@Rd_max))) (And.intro (@Rd_append) (And.intro (@Rd_copy) (@Rd_opcall))))) (And.intro (And.intro (And.intro (@Rd_guard) (@RunDG_tt)) (And.intro (@RunDG_ff) (And.intro (@RunDG_tf) (@RunDG_ft)))) (And.intro (And.intro (@RunDG_none) (And.intro (@RunDS_some) (@RunDA_some))) (And.intro (@RunDE_some) (And.intro (@get_z) (@get_k))))))
end Go.Sym
