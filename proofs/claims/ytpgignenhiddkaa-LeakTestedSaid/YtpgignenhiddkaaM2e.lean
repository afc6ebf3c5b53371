/- Loops over functions: yield, and the statement. No program is named here. (own texts put together: SymX SymY) -/
import Derived.Test.YtpgignenhiddkaaM2d
import Derived.RangeFuncIn
import Derived.RangeFuncRecord
namespace Go.Sym

def setAll (ps : List Tmp) (args : List Value) (tm : List Value) : List Value := (ps.zip args).foldl (fun tm p => tm.set p.1 p.2) tm

theorem conc_setAll {E : Env} : ∀ {ps : List Tmp} {args cargs tm : List Value} {tc : Array Value}, concL E args = some cargs → concL E tm = some tc.toList →
    concL E (setAll ps args tm) = some ((ps.zip cargs).foldl (fun tmps (p : Tmp × Value) => tmps.setIfInBounds p.1 p.2) tc).toList
  | [], args, cargs, tm, tc, _, ht => ht
  | p :: ps, [], cargs, tm, tc, ha, ht => by simp only [concL, Option.some.injEq] at ha; subst ha; exact ht
  | p :: ps, v :: args, cargs, tm, tc, ha, ht => by
    simp only [concL, Option.bind_eq_some_iff, Option.map_eq_some_iff] at ha
    obtain ⟨c, hc, l, hl, rfl⟩ := ha
    simp only [setAll, List.zip_cons_cons, List.foldl_cons]
    refine conc_setAll (ps := ps) hl ?_
    have := concL_set hc p ht
    rw [this]
    simp

section
variable {P : Program} {I : Nat → Option Obj}

def roundQ (l : Nat) (v : Value) (h' : H) : Exit → St → Prop :=
  fun e s => ∃ tm ps as body st p d, s.h.get l = some (.loop tm ps as body st p d) ∧ (match e with
    | .normal => v = .bool true ∧ h' = s.h.put l (.loop tm ps as body .ready none d)
    | .ret => v = .bool false ∧ h' = s.h.put l (.loop tm ps as body .done (some .ret) d)
    | .exit id => v = .bool false ∧ h' = s.h.put l (.loop tm ps as body .done (some (.exit id)) d)
    | _ => False)

def asQ (P : Program) (I : Nat → Option Obj) (l : Nat) (v : Value) (h' : H) : Exit → St → Prop :=
  fun e s => e = .normal ∧ ∃ tm ps as body p d, s.h.get l = some (.loop tm ps as body .ready p d) ∧ ∃ body0, body0 = body ∧ TC P I (some l) body0 (roundQ l v h') ⟨s.tm, s.df, s.h.put l (.loop tm ps as body .busy p d)⟩

theorem turn_put (w : World) (b : Nat) (o : Obj) : w.putObj b o = w.turn b o := rfl

theorem Snd_yield {l : Nat} {args : List Value} {h h' : H} {v : Value} {tm : List Value} {ps : Array Tmp} {as body : Code} {pend : Option Code} {df : Nat} (hg : h.get l = some (.loop tm ps as body .ready pend df)) (hn : args.length = ps.size)
    (hc : TC P I (some l) as (fun e s => e = .normal ∧ ∃ tm1 ps1 as1 b1 p1 d1, s.h.get l = some (.loop tm1 ps1 as1 b1 .ready p1 d1) ∧ TC P I (some l) body (roundQ l v h') ⟨s.tm, s.df, s.h.put l (.loop tm1 ps1 as1 b1 .busy p1 d1)⟩)
      ⟨setAll ps.toList args tm, [], h⟩) : Snd P I (.yield l) args h v h' := by
  intro E w cargs L r ha hL
  have hid := (H.get_lt hg).2
  obtain ⟨B, hg', hrel⟩ := r.blk l L hL hid
  rw [hg] at hg'; cases hg'
  obtain ⟨fn, tc, D, h1, h2, h3, h4⟩ := hrel
  have hsz : cargs.toArray.size = ps.size := by rw [List.size_toArray, concL_length ha]; exact hn
  refine ⟨fn, _, as, body, run_yield h3 hsz, ?_⟩
  have ht := conc_setAll (ps := ps.toList) (tc := tc.toArray) ha h1
  have e1 : ((ps.toList.zip cargs).foldl (fun tmps (p : Tmp × Value) => tmps.setIfInBounds p.1 p.2) tc.toArray) = (ps.zip cargs.toArray).foldl (fun tmps (x : Tmp × Value) => match x with | (t, a) => tmps.setIfInBounds t a) tc.toArray := by
    rw [← Array.foldl_toList, Array.toList_zip]
  rw [e1] at ht
  refine roundIn_of_wpIn trivial ?_
  have hk : Kn E (some l) := fun id hi => by cases hi; exact ⟨L, hL⟩
  have hFE : FE E (some l) = Fence.wide.inRound L.b := by simp only [FE, hL, Option.map_some, Option.getD_some]
  have hw := hc E w { tmps := _, defers := [] } r ht trivial hk
  rw [hFE] at hw
  refine wpIn_mono hw ?_
  rintro e a1 w1 ⟨E1, s1, r1, t1, d1, adv1, rfl, tm1, ps1, as1, b1, p1, dd1, hg1, hbody⟩
  have hL1 := adv1.ext _ _ hL
  obtain ⟨B, hg1', hrel1⟩ := r1.blk l L hL1 hid
  rw [hg1] at hg1'; cases hg1'
  obtain ⟨fn1, tc1, D1, q1, q2, q3, q4⟩ := hrel1
  refine ⟨_, run_beginRound q3 rfl, ?_⟩
  have hB : BRel E1 L (.loop tm1 ps1 as1 b1 .busy p1 dd1) (some (.loop { state := .busy, pending := p1, fn := fn1, tmps := tc1.toArray, params := ps1, assign := as1, body := b1, defers := D1.b })) := ⟨fn1, tc1, D1, q1, q2, rfl, q4⟩
  obtain ⟨r2, adv2⟩ := r1.turn hid hL1 ⟨_, hg1, by simp⟩ hB
  have hk1 := hk.ext adv1.ext
  have hFE1 : FE E1 (some l) = Fence.wide.inRound L.b := by rw [FE_ext adv1.ext hk, hFE]
  have hw2 := hbody E1 _ a1 r2 t1 d1 hk1
  rw [hFE1] at hw2
  refine wpIn_mono hw2 ?_
  rintro e a2 w2 ⟨E2, s2, r3, t3, d3, adv3, tm2, ps2, as2, b2, st2, p2, dd2, hg2, hend⟩
  have hL2 := adv3.ext _ _ hL1
  obtain ⟨B, hg2', hrel2⟩ := r3.blk l L hL2 hid
  rw [hg2] at hg2'; cases hg2'
  obtain ⟨fn2, tc2, D2, u1, u2, u3, u4⟩ := hrel2
  have fin : ∀ (jump : Option Code) (st' : LoopState), (st' = if jump.isNone then .ready else .done) → v = .bool jump.isNone → h' = s2.h.put l (.loop tm2 ps2 as2 b2 st' jump dd2) →
      ∃ c w', (Instr.endRound L.b jump).run P w2 = .ok c w' ∧ Ret I E h w v h' (.returned c) w' := by
    intro jump st' hst hv hh
    refine ⟨_, _, run_endRound jump u3, ?_⟩
    obtain ⟨r4, adv4⟩ := r3.turn (B := .loop tm2 ps2 as2 b2 st' jump dd2) (o := .loop { state := st', pending := jump, fn := fn2, tmps := tc2.toArray, params := ps2, assign := as2, body := b2, defers := D2.b }) hid hL2 ⟨_, hg2, by simp⟩ ⟨fn2, tc2, D2, u1, u2, rfl, u4⟩
    subst hst
    rw [hh, hv]
    exact ⟨E2, _, rfl, by simp only [conc], r4, adv1.trans (adv2.trans (adv3.trans adv4))⟩
  cases e with
  | normal => exact fin none .ready rfl hend.1 hend.2
  | ret => exact fin (some .ret) .done rfl hend.1 hend.2
  | exit id => exact fin (some (.exit id)) .done rfl hend.1 hend.2
  | _ => exact hend.elim

def pendQ (pend : Option Code) (Q : Exit → St → Prop) (s : St) : Prop :=
  match pend with
  | none => Q .normal s
  | some .ret => Q .ret s
  | some (.exit id) => Q (.exit id) s
  | _ => False

/-- the statement, outside of all rounds -/
theorem TC_range {f : Operand} {ps : Array Tmp} {as body : Code} {Q : Exit → St → Prop} {tm : List Value} {df : List Nat} {h : H} {g : FuncId} {first cap : Array Value} {h2 : H} {v : Value} (hok : okO f = true) (hev : ev tm f = .func (.func g) first cap)
    (hs : Snd P I (.func g) (first.toList ++ [.func (.yield (2 * (h.length + 1))) #[] #[]] ++ cap.toList) (h ++ [.obj (.deferred (some [])), .loop tm ps as body .ready none (2 * h.length)]) v h2)
    {tm1 : List Value} {ps1 : Array Tmp} {as1 b1 : Code} {st1 : LoopState} {pend : Option Code} {d1 : Nat} (hg : h2.get (2 * (h.length + 1)) = some (.loop tm1 ps1 as1 b1 st1 pend d1)) (hb : st1 ≠ .busy)
    (q : pendQ pend Q ⟨tm, (2 * h.length) :: df, h2.put (2 * (h.length + 1)) .dead⟩) : TC P I none (.rangeFunc f ps as body) Q ⟨tm, df, h⟩ := by
  intro E w a r ht hd _
  have hf := conc_ev ht hok
  rw [hev] at hf
  simp only [conc, Option.bind_eq_some_iff, Option.map_eq_some_iff] at hf
  obtain ⟨first', hc1, cap', hc2, he⟩ := hf
  obtain ⟨hg0, hcall⟩ := hs
  refine wpIn_rangeFunc fun fn _ => ?_
  -- the two blocks
  obtain ⟨r1, adv1⟩ := r.push (B := .obj (.deferred (some []))) (o := .deferred (some [])) (L := { b := w.heap.size }) rfl ⟨rfl, rfl⟩
  have hnew1 : H.new (h ++ [Blk.obj (.deferred (some []))] : H) = 2 * (h.length + 1) := by unfold H.new; simp
  have hE1d : E.upd h.new { b := w.heap.size } (2 * h.length) = some { b := w.heap.size } := Env.upd_self _ _ _
  have hsz1 : (w.alloc (.deferred (some []))).heap.size = w.heap.size + 1 := World.size_alloc _ _
  have hB2 : BRel ((E.upd h.new { b := w.heap.size }).upd (2 * (h.length + 1)) { b := w.heap.size + 1 }) { b := w.heap.size + 1 } (.loop tm ps as body .ready none (2 * h.length))
      (some (.loop { state := .ready, pending := none, fn := fn, tmps := a.tmps, params := ps, assign := as, body := body, defers := w.heap.size })) := by
    have hn : E.upd h.new { b := w.heap.size } (2 * (h.length + 1)) = none := by rw [← hnew1]; exact r1.new_none
    refine ⟨fn, a.tmps.toList, { b := w.heap.size }, ?_, ?_, by simp, rfl⟩
    · exact concL_ext (adv1.ext.trans (Ext.upd hn _)) _ _ ht
    · exact (Ext.upd hn _) _ _ hE1d
  obtain ⟨r2, adv2⟩ := r1.push (L := { b := w.heap.size + 1 }) (by rw [hsz1]) (by rw [hnew1]; exact hB2)
  rw [hnew1] at r2 adv2
  have happ : ((h ++ [Blk.obj (.deferred (some []))] : H) ++ [Blk.loop tm ps as body .ready none (2 * h.length)] : H) = h ++ [.obj (.deferred (some [])), .loop tm ps as body .ready none (2 * h.length)] := by simp
  rw [happ] at r2 adv2
  have hL : ((E.upd h.new { b := w.heap.size }).upd (2 * (h.length + 1)) { b := w.heap.size + 1 }) (2 * (h.length + 1)) = some { b := w.heap.size + 1 } := Env.upd_self _ _ _
  have adv := adv1.trans adv2
  have hargs : concL ((E.upd h.new { b := w.heap.size }).upd (2 * (h.length + 1)) { b := w.heap.size + 1 }) (first.toList ++ [.func (.yield (2 * (h.length + 1))) #[] #[]] ++ cap.toList) = some (first'.toList ++ [.func (.yield (w.heap.size + 1)) #[] #[]] ++ cap'.toList) := by
    refine concL_append (concL_append (concL_ext adv.ext _ _ (concA_toList hc1)) ?_) (concL_ext adv.ext _ _ (concA_toList hc2))
    simp only [concL, conc, hL, concA, Option.bind_some, Option.map_some]
  let w2 : World := (w.alloc (.deferred (some []))).alloc (.loop { state := .ready, pending := none, fn := fn, tmps := a.tmps, params := ps, assign := as, body := body, defers := w.heap.size })
  refine ⟨w.heap.size + 1, [{ target := .collected w.heap.size, args := #[] }], w2, { target := .fn (.func g) cap', args := first' ++ #[.func (.yield (w.heap.size + 1)) #[] #[]] }, w2, g, first' ++ #[.func (.yield (w.heap.size + 1)) #[] #[]] ++ cap', w2, run_enterLoop_outer fn a.tmps ps as body, ?_, fun _ _ => FE_fn _ _ _, ?_, fun hd => (by rw [FE_depth] at hd; cases hd), ?_⟩
  · simp only [resolve, ← he, Deferred.ofValue, Sem.run_pure]
    simp [Act.eval]
  · simp only [invoke, callFunc_run hg0]
  · have := hcall _ _ _ r2 hargs
    have e3 : (first'.toList ++ [Value.func (.yield (w.heap.size + 1)) #[] #[]] ++ cap'.toList).toArray = first' ++ #[.func (.yield (w.heap.size + 1)) #[] #[]] ++ cap' := by
      apply Array.ext'; simp
    rw [e3] at this
    refine CallsIn.mono (FE_calls this) ?_
    rintro e w3 ⟨E', c, rfl, hcv, r3, adv3⟩
    have hL' := adv3.ext _ _ hL
    have hid : 2 * (h.length + 1) % 2 = 0 := by omega
    obtain ⟨B, hg', hrel⟩ := r3.blk _ _ hL' hid
    rw [hg] at hg'; cases hg'
    obtain ⟨fn1, tc1, D1, u1, u2, u3, u4⟩ := hrel
    refine ⟨_, _, run_endLoop u3 hb, ?_⟩
    obtain ⟨r4, adv4⟩ := r3.turn (B := .loop tm1 ps1 as1 b1 .exhausted pend d1) (o := .loop { state := .exhausted, pending := pend, fn := fn1, tmps := tc1.toArray, params := ps1, assign := as1, body := b1, defers := D1.b }) hid hL' ⟨_, hg, by simp⟩ ⟨fn1, tc1, D1, u1, u2, rfl, u4⟩
    obtain ⟨r5, adv5⟩ := r4.kill (2 * (h.length + 1))
    have hpp : (h2.put (2 * (h.length + 1)) (.loop tm1 ps1 as1 b1 .exhausted pend d1)).put (2 * (h.length + 1)) .dead = h2.put (2 * (h.length + 1)) .dead := by
      unfold H.put; split <;> simp
    rw [hpp] at r5 adv5
    have hadv := adv.trans (adv3.trans (adv4.trans adv5))
    have post : ∀ e, Q e ⟨tm, (2 * h.length) :: df, h2.put (2 * (h.length + 1)) .dead⟩ → Post I E h w Q e { a with defers := [{ target := .collected w.heap.size, args := #[] }] ++ a.defers } (w3.turn (w.heap.size + 1) (.loop { state := .exhausted, pending := pend, fn := fn1, tmps := tc1.toArray, params := ps1, assign := as1, body := b1, defers := D1.b })) := by
      intro e hq
      refine ⟨E', ⟨tm, (2 * h.length) :: df, h2.put (2 * (h.length + 1)) .dead⟩, r5, concL_ext hadv.ext _ _ ht, ⟨⟨{ b := w.heap.size }, ?_, rfl⟩, hd.ext hadv.ext⟩, hadv, hq⟩
      exact adv3.ext _ _ (adv2.ext _ _ hE1d)
    cases pend with
    | none => exact post _ q
    | some c =>
      cases c with
      | ret => exact wpIn_ret (post _ q)
      | exit id => exact wpIn_exit (post _ q)
      | _ => exact q.elim
end
end Go.Sym
namespace Go.Sym

mutual
def closedV (ok : Nat → Bool) : Value → Bool
  | .pointer (some ⟨id, _, _⟩) => ok id
  | .slice (some ⟨id, _, _⟩) _ _ => ok id
  | .map (some id) => ok id
  | .func (.func _) a c => closedA ok a && closedA ok c
  | .func (.yield l) a c => ok l && closedA ok a && closedA ok c
  | .iface _ v => closedV ok v
  | .agg cs => closedA ok cs
  | .tuple cs => closedA ok cs
  | _ => true
def closedA (ok : Nat → Bool) : Array Value → Bool
  | ⟨l⟩ => closedL ok l
def closedL (ok : Nat → Bool) : List Value → Bool
  | [] => true
  | v :: l => closedV ok v && closedL ok l
end

mutual
theorem conc_same {E E' : Env} {ok : Nat → Bool} (hE : ∀ id, ok id = true → E' id = E id) : ∀ v, closedV ok v = true → conc E' v = conc E v
  | .bool _, _ => by simp only [conc]
  | .int _ _, _ => by simp only [conc]
  | .string _, _ => by simp only [conc]
  | .pointer none, _ => by simp only [conc]
  | .pointer (some ⟨id, off, none⟩), h => by simp only [closedV] at h; simp only [conc, hE id h]
  | .pointer (some ⟨id, off, some s⟩), h => by simp [conc]
  | .slice none 0 0, _ => by simp only [conc]
  | .slice none 0 (n + 1), _ => by simp [conc]
  | .slice none (n + 1) m, _ => by simp [conc]
  | .slice (some ⟨id, off, none⟩) len cap, h => by simp only [closedV] at h; simp only [conc, hE id h]
  | .slice (some ⟨id, off, some s⟩) len cap, h => by simp [conc]
  | .map none, _ => by simp only [conc]
  | .map (some id), h => by simp only [closedV] at h; simp only [conc, hE id h]
  | .func (.func f) a b, h => by simp only [closedV, Bool.and_eq_true] at h; simp only [conc, concA_same hE a h.1, concA_same hE b h.2]
  | .func (.yield l) a b, h => by simp only [closedV, Bool.and_eq_true] at h; simp only [conc, hE l h.1.1, concA_same hE a h.1.2, concA_same hE b h.2]
  | .func (.method _) a b, h => by simp [conc]
  | .func (.methodOf _ _) a b, h => by simp [conc]
  | .func (.via _ _ _ _) a b, h => by simp [conc]
  | .nilFunc, _ => by simp only [conc]
  | .nilIface, _ => by simp only [conc]
  | .iface t v, h => by simp only [closedV] at h; simp only [conc, conc_same hE v h]
  | .agg cs, h => by simp only [closedV] at h; simp only [conc, concA_same hE cs h]
  | .tuple cs, h => by simp only [closedV] at h; simp only [conc, concA_same hE cs h]
  | .float _ _, _ => by simp [conc]
  | .complex _ _ _, _ => by simp [conc]
  | .chan _, _ => by simp [conc]
theorem concA_same {E E' : Env} {ok : Nat → Bool} (hE : ∀ id, ok id = true → E' id = E id) : ∀ v, closedA ok v = true → concA E' v = concA E v
  | ⟨l⟩, h => by simp only [closedA] at h; simp only [concA, concL_same hE l h]
theorem concL_same {E E' : Env} {ok : Nat → Bool} (hE : ∀ id, ok id = true → E' id = E id) : ∀ v, closedL ok v = true → concL E' v = concL E v
  | [], _ => by simp only [concL]
  | v :: l, h => by simp only [closedL, Bool.and_eq_true] at h; simp only [concL, conc_same hE v h.1, concL_same hE l h.2]
end

mutual
theorem closed_flat (ok : Nat → Bool) : ∀ v, flat v = true → closedV ok v = true
  | .bool _, _ => by simp only [closedV]
  | .int _ _, _ => by simp only [closedV]
  | .string _, _ => by simp only [closedV]
  | .pointer none, _ => by simp only [closedV]
  | .slice none 0 0, _ => by simp only [closedV]
  | .map none, _ => by simp only [closedV]
  | .func (.func f) a c, h => by
    simp only [flat, Bool.and_eq_true] at h
    simp only [closedV, closedA_flat ok a h.1, closedA_flat ok c h.2, Bool.and_self]
  | .nilFunc, _ => by simp only [closedV]
  | .nilIface, _ => by simp only [closedV]
  | .iface _ v, h => by simp only [flat] at h; simp only [closedV, closed_flat ok v h]
  | .agg cs, h => by simp only [flat] at h; simp only [closedV, closedA_flat ok cs h]
  | .tuple cs, h => by simp only [flat] at h; simp only [closedV, closedA_flat ok cs h]
theorem closedA_flat (ok : Nat → Bool) : ∀ v, flatA v = true → closedA ok v = true
  | ⟨l⟩, h => by simp only [flatA] at h; simp only [closedA, closedL_flat ok l h]
theorem closedL_flat (ok : Nat → Bool) : ∀ v, flatL v = true → closedL ok v = true
  | [], _ => by simp only [closedL]
  | v :: l, h => by
    simp only [flatL, Bool.and_eq_true] at h
    simp only [closedL, closed_flat ok v h.1, closedL_flat ok l h.2, Bool.and_self]
end

def closedB (ok : Nat → Bool) : Blk → Bool
  | .cells vs _ => closedL ok vs
  | .row vs _ _ => closedL ok vs
  | .loop tm _ _ _ _ _ df => closedL ok tm && ok df
  | .iter m _ _ _ => ok m
  | _ => true

theorem BRel_same {E E' : Env} {ok : Nat → Bool} (hE : ∀ id, ok id = true → E' id = E id) {L : Loc} {B : Blk} {o : Option Obj} (hc : closedB ok B = true) (h : BRel E L B o) : BRel E' L B o := by
  cases B with
  | cells vs elem => obtain ⟨cs, h1, h2⟩ := h; exact ⟨cs, by rw [concL_same hE vs hc]; exact h1, h2⟩
  | row vs elem sz => obtain ⟨c, cs, h0, h1, h2⟩ := h; exact ⟨c, cs, h0, by rw [concL_same hE vs hc]; exact h1, h2⟩
  | obj ob => exact h
  | loop tm ps as body st pend df =>
    obtain ⟨fn, tc, D, h1, h2, h3⟩ := h
    simp only [closedB, Bool.and_eq_true] at hc
    exact ⟨fn, tc, D, by rw [concL_same hE tm hc.1]; exact h1, by rw [hE df hc.2]; exact h2, h3⟩
  | iter m since seen last => obtain ⟨D, h1, h2⟩ := h; exact ⟨D, by rw [hE m hc]; exact h1, h2⟩
  | dead => trivial

def okN (N : Nat) (id : Nat) : Bool := id % 2 == 1 || decide (id < 2 * N)
def cutE (E : Env) (N : Nat) : Env := fun id => if okN N id = true then E id else none

theorem get_take {h : H} {N id : Nat} (hlt : id < 2 * N) : H.get (h.take N) id = h.get id := by
  unfold H.get
  split
  · rw [List.getElem?_take]; rw [if_pos (by omega)]
  · rfl
theorem get_take_some {h : H} {N id : Nat} {B : Blk} (hg : H.get (h.take N) id = some B) : h.get id = some B := by
  have := (H.get_lt hg).1
  unfold H.new at this
  rw [List.length_take] at this
  rw [← hg, get_take (by omega)]

section
variable {P : Program} {I : Nat → Option Obj}

theorem Ret.gc {E : Env} {h : H} {w : World} {v : Value} {h' : H} {e : Ending} {w' : World} (r : R I E h w) (ret : Ret I E h w v h' e w') {N : Nat} (hN : h.length ≤ N) (hN' : N ≤ h'.length) (hv : closedV (okN N) v = true)
    (hb : ∀ id B, id < 2 * N → h'.get id = some B → closedB (okN N) B = true ∨ h.get id = some B) : Ret I E h w v (h'.take N) e w' := by
  obtain ⟨E', c, rfl, hc, r', adv⟩ := ret
  have same : ∀ id, okN N id = true → cutE E' N id = E' id := fun id hok => by unfold cutE; rw [if_pos hok]
  have sub : Ext (cutE E' N) E' := fun id L hL => by
    unfold cutE at hL; split at hL
    · exact hL
    · cases hL
  have hext : Ext E (cutE E' N) := by
    intro id L hL
    rw [same]
    · exact adv.ext _ _ hL
    · unfold okN
      by_cases hid : id % 2 = 0
      · obtain ⟨B, hB, _⟩ := r.blk id L hL hid
        have := (H.get_lt hB).1
        unfold H.new at this
        have : id < 2 * N := by omega
        simp [this]
      · have : id % 2 = 1 := by omega
        simp [this]
  have hlt : ∀ id L, cutE E' N id = some L → id % 2 = 0 → id < 2 * N := by
    intro id L hL hid
    unfold cutE at hL
    split at hL
    · rename_i hok; unfold okN at hok; simp at hok; omega
    · cases hL
  refine ⟨cutE E' N, c, rfl, by rw [conc_same same v hv]; exact hc, ⟨?_, ?_, ?_, ?_, ?_⟩, ⟨hext, adv.frame, adv.grow, ?_, ?_, adv.tape, adv.os, adv.out, ?_⟩⟩
  · intro id L hL hid
    have hl := hlt id L hL hid
    have hL' := sub _ _ hL
    obtain ⟨B, hB, hrel⟩ := r'.blk id L hL' hid
    refine ⟨B, by rw [get_take hl]; exact hB, ?_⟩
    rcases hb id B hl hB with hcl | hold
    · exact BRel_same same hcl hrel
    · have hlt' := (H.get_lt hold).1
      have hE : E id = some L := by
        cases hx : E id with
        | some M => have := adv.ext _ _ hx; rw [hL'] at this; exact this.symm
        | none => have := (adv.fresh id L hx hL').1.2; omega
      obtain ⟨B', hB', hrel'⟩ := r.blk id L hE hid
      rw [hold] at hB'; cases hB'
      exact (BRel.move hrel' hrel' hrel (Ext.refl E) (Ext.refl E) adv.ext).ext hext
  · intro b o hbo
    obtain ⟨h1, h2⟩ := r'.inp b o hbo
    refine ⟨?_, h2⟩
    rw [same _ (by unfold okN; simp)]; exact h1
  · intro b
    rw [same _ (by unfold okN; simp)]; exact r'.inpd b
  · intro i j L M hi hj hi2 hj2 hli hlj he
    obtain ⟨B1, g1, d1⟩ := hli
    obtain ⟨B2, g2, d2⟩ := hlj
    exact r'.inj i j L M (sub _ _ hi) (sub _ _ hj) hi2 hj2 ⟨B1, get_take_some g1, d1⟩ ⟨B2, get_take_some g2, d2⟩ he
  · intro i L hi hi2 hli
    obtain ⟨B1, g1, d1⟩ := hli
    exact r'.sep i L (sub _ _ hi) hi2 ⟨B1, get_take_some g1, d1⟩
  · intro id L h1 h2
    exact adv.fresh id L h1 (sub _ _ h2)
  · intro id L hL hid hli
    obtain ⟨B1, g1, d1⟩ := hli
    exact adv.dead id L hL hid ⟨B1, get_take_some g1, d1⟩
  · unfold H.new; rw [List.length_take]; omega

/-- what is new and reached by nothing is dropped -/
theorem Snd.gc {fn : Fn} {args : List Value} {h h' : H} {v : Value} (hs : Snd P I fn args h v h') {N : Nat} (hN : h.length ≤ N) (hN' : N ≤ h'.length) (hv : closedV (okN N) v = true)
    (hb : ∀ id B, id < 2 * N → h'.get id = some B → closedB (okN N) B = true ∨ h.get id = some B) : Snd P I fn args h v (h'.take N) := by
  cases fn with
  | func g =>
    refine ⟨hs.1, fun E w cargs r ha => ?_⟩
    have := hs.2 E w cargs r ha
    exact CallsIn.mono this fun e w' hr => hr.gc r hN hN' hv hb
  | yield l =>
    intro E w cargs L r ha hL
    obtain ⟨f, tmps, assign, body, h1, h2⟩ := hs E w cargs L r ha hL
    exact ⟨f, tmps, assign, body, h1, h2.mono fun e w' hr => hr.gc r hN hN' hv hb⟩
  | _ => exact hs

/-- all that is new is dropped -/
theorem Snd.still {fn : Fn} {args : List Value} {h l : H} {v : Value} (hs : Snd P I fn args h v (h ++ l)) (hv : flat v = true) : Snd P I fn args h v h := by
  have := hs.gc (N := h.length) (Nat.le_refl _) (by simp) (closed_flat _ v hv) fun id B hlt hg => .inr ?_
  · simpa using this
  · rw [← hg]
    have e : (h ++ l : H).take h.length = h := by simp
    rw [← get_take (h := (h ++ l : H)) hlt, e]

/-- the same, where one old block has turned -/
theorem Snd.still1 {fn : Fn} {args : List Value} {h l : H} {v : Value} {p : Nat} {B : Blk} (hs : Snd P I fn args h v (h.put p B ++ l)) (hv : flat v = true) (hB : closedB (okN h.length) B = true) : Snd P I fn args h v (h.put p B) := by
  have hl : (h.put p B).length = h.length := H.length_put _ _ _
  have e : (h.put p B ++ l : H).take h.length = h.put p B := by rw [← hl]; simp
  have := hs.gc (N := h.length) (Nat.le_refl _) (by simp [hl]) (closed_flat _ v hv) fun id B' hlt hg => ?_
  · rw [e] at this; exact this
  · rw [← get_take (h := h.put p B ++ l) hlt, e] at hg
    by_cases hp : id = p
    · subst hp
      left
      have h2 := (H.get_lt hg)
      have : ∃ B0, h.get id = some B0 := by
        unfold H.get
        rw [if_pos h2.2]
        have : id / 2 < h.length := by omega
        exact ⟨_, List.getElem?_eq_getElem this⟩
      obtain ⟨B0, h0⟩ := this
      rw [H.get_put_same h0] at hg; cases hg; exact hB
    · right; rw [H.get_put_ne _ hp] at hg; exact hg

/-- a call on the empty heap is one on all heaps -/
theorem Snd.frame {g : FuncId} {args : List Value} {h h' : H} {v : Value} (hs : Snd P I (.func g) args [] v h') (ha : closedL (fun id => id % 2 == 1) args = true) (hv : closedV (fun id => id % 2 == 1) v = true) : Snd P I (.func g) args h v h := by
  refine ⟨hs.1, fun E w cargs r hargs => ?_⟩
  have same : ∀ id, (id % 2 == 1) = true → cutE E 0 id = E id := fun id hok => by unfold cutE okN; rw [hok]; rfl
  have sub : Ext (cutE E 0) E := fun id L hL => by
    unfold cutE at hL; split at hL
    · exact hL
    · cases hL
  have odd : ∀ id L, cutE E 0 id = some L → id % 2 = 1 := fun id L hL => by
    unfold cutE at hL; split at hL
    · rename_i hok; unfold okN at hok; simpa using hok
    · cases hL
  have r0 : R I (cutE E 0) [] w := by
    refine ⟨fun id L hL hid => ?_, fun b o hbo => ?_, fun b => by rw [same _ (by simp)]; exact r.inpd b, fun i j L M hi hj hi2 hj2 => ?_, fun i L hi hi2 => ?_⟩
    · have := odd id L hL; omega
    · obtain ⟨h1, h2⟩ := r.inp b o hbo
      exact ⟨by rw [same _ (by simp)]; exact h1, h2⟩
    · have := odd i L hi; omega
    · have := odd i L hi; omega
  have hargs0 : concL (cutE E 0) args = some cargs := by rw [concL_same same args ha]; exact hargs
  refine CallsIn.mono (hs.2 (cutE E 0) w cargs r0 hargs0) ?_
  rintro e w' ⟨E', c, rfl, hc, r', adv⟩
  have hodd : ∀ id, (id % 2 == 1) = true → E' id = E id := by
    intro id hok
    rw [← same id hok]
    cases hx : cutE E 0 id with
    | some L => exact adv.ext _ _ hx
    | none =>
      cases hy : E' id with
      | none => rfl
      | some L => have := (adv.fresh id L hx hy).1.1; have : id % 2 = 1 := by simpa using hok
                  omega
  have hfr : ∀ b, b < w.heap.size → w'.heap[b]? = w.heap[b]? := fun b hb => adv.frame b hb fun id L hL hid => by have := odd id L hL; omega
  refine ⟨E, c, rfl, by rw [← conc_same hodd v hv]; exact hc, ⟨fun id L hL hid => ?_, fun b o hbo => ?_, r.inpd, r.inj, r.sep⟩, ⟨Ext.refl E, fun b hb _ => hfr b hb, adv.grow, fun _ _ h1 h2 => (by rw [h1] at h2; cases h2), fun _ _ _ _ hl => hl, adv.tape, adv.os, adv.out, Nat.le_refl _⟩⟩
  · obtain ⟨B, hB, hrel⟩ := r.blk id L hL hid
    refine ⟨B, hB, ?_⟩
    by_cases hd : B = .dead
    · subst hd; trivial
    · rw [hfr _ (r.live_lt hL hid ⟨B, hB, hd⟩)]; exact hrel
  · obtain ⟨h1, h2⟩ := r.inp b o hbo
    exact ⟨h1, by rw [hfr b (r.inp_lt hbo)]; exact h2⟩
end
end Go.Sym
