/- Code run piece by piece, what is left hidden. No program is named here. (own texts put together: SymCut SymSl) -/
import Derived.Test.YtpgignenhiddkaaM4
set_option linter.unusedSimpArgs false
set_option linter.unusedVariables false
namespace Go.Sym
section
variable {P : Program} {I : Nat → Option Obj} {ro : Option Nat}
/-- a function, its new blocks dropped; by the relation on code -/
theorem Snd_tcS {g : FuncId} {fn : Func} {c : Code} {nt : Nat} {rs : List ResultVar} {args : List Value} {h hb : H} {v : Value} (hf : P.funcs[g]? = some fn) (hok : fnOk fn = true) (hbd : fn.body = some c) (hn : fn.ntmps = nt) (hr : fn.results.toList = rs)
    (hlen : h.length ≤ hb.length) (hcl : ∀ id B, hb.get id = some B → closedB (okN hb.length) B = true ∨ h.get id = some B) (hv : closedV (okN hb.length) v = true)
    (hc : TC P I none c (finS P I rs v hb) ⟨args ++ List.replicate (nt - args.length) undef, [], h⟩) : Snd P I (.func g) args h v hb := by
  have hok' := hok
  simp only [fnOk, hbd, Bool.and_eq_true, Bool.not_eq_true', beq_eq_false_iff_ne] at hok
  have hs : SndQ P I (.func g) args h (fun u h' => u = v ∧ ∃ l, h' = hb ++ l) := by
    refine SndQ_of hf hbd hok.1 ?_
    rw [hn]
    refine hc.mono fun e s q => ?_
    obtain ⟨he, h', hl, hx, ha⟩ := q
    exact ⟨v, h', ⟨rfl, hx⟩, he, hl, by rw [hr]; exact ha⟩
  refine ⟨hs.1, fun E w cargs r ha => CallsIn.mono (hs.2 E w cargs r ha) ?_⟩
  rintro e w' ⟨u, h', ⟨rfl, l, rfl⟩, hret⟩
  have := hret.gc r (N := hb.length) hlen (by simp) hv fun id B hlt hg => ?_
  · simpa using this
  · refine hcl id B ?_
    have e : (hb ++ l : H).take hb.length = hb := by simp
    rw [← e, get_take hlt]; exact hg
theorem Snd_tc0 {g : FuncId} {fn : Func} {c : Code} {nt : Nat} {rs : List ResultVar} {args : List Value} {h : H} {v : Value} (hf : P.funcs[g]? = some fn) (hok : fnOk fn = true) (hbd : fn.body = some c) (hn : fn.ntmps = nt) (hr : fn.results.toList = rs) (hv : flat v = true)
    (hc : TC P I none c (finS P I rs v h) ⟨args ++ List.replicate (nt - args.length) undef, [], h⟩) : Snd P I (.func g) args h v h :=
  Snd_tcS hf hok hbd hn hr (Nat.le_refl _) (fun _ _ hg => .inr hg) (closed_flat _ v hv) hc
theorem Snd_tcK {g : FuncId} {fn : Func} {c : Code} {nt : Nat} {rs : List ResultVar} {args : List Value} {h hb : H} {v : Value} (hf : P.funcs[g]? = some fn) (hok : fnOk fn = true) (hbd : fn.body = some c) (hn : fn.ntmps = nt) (hr : fn.results.toList = rs)
    (hlen : h.length ≤ hb.length) (hcl : ∀ id B, hb.get id = some B → closedB (okN hb.length) B = true ∨ h.get id = some B) (hv : closedV (okN hb.length) v = true)
    (hc : TC P I none c (finK P I rs v hb) ⟨args ++ List.replicate (nt - args.length) undef, [], h⟩) : Snd P I (.func g) args h v hb := by
  have hok' := hok
  simp only [fnOk, hbd, Bool.and_eq_true, Bool.not_eq_true', beq_eq_false_iff_ne] at hok
  have hs : SndQ P I (.func g) args h (fun u h' => u = v ∧ ∃ hk l, h' = hk ++ l ∧ Forgets hk hb) := by
    refine SndQ_of hf hbd hok.1 ?_
    rw [hn]
    refine hc.mono fun e s q => ?_
    obtain ⟨he, h', hl, hx, ha⟩ := q
    exact ⟨v, h', ⟨rfl, hx⟩, he, hl, by rw [hr]; exact ha⟩
  refine ⟨hs.1, fun E w cargs r ha => CallsIn.mono (hs.2 E w cargs r ha) ?_⟩
  rintro e w' ⟨u, h', ⟨rfl, hk, l, rfl, hfg⟩, hret⟩
  have h1 := hret.forget hb hb.length
  rw [forget_all hfg] at h1
  have := h1.gc r (N := hb.length) hlen (by simp) hv fun id B hlt hg => ?_
  · simpa using this
  · refine hcl id B ?_
    have e : (hb ++ l : H).take hb.length = hb := by simp
    rw [← e, get_take hlt]; exact hg
/-- the first piece, run, what is left hidden -/
theorem TC_cut {a b : Code} {Q : Exit → St → Prop} {s : St} (n : Nat) (hok : codeOk a = true) (h : ∀ Q' : Exit → St → Prop, (∀ s, TC P I ro b Q s → Q' .normal s) → (∀ s, Q .ret s → Q' .ret s) → (∀ i s, Q (.exit i) s → Q' (.exit i) s) → Run P I ro n [.code a] Q' s) : TC P I ro (.seq a b) Q s :=
  TC_seq (Run_TC hok (h (thenQ Q (TC P I ro b Q)) (fun _ x => x) (fun _ x => x) (fun _ _ x => x)))
/-- the first piece, with a relation at its end -/
theorem TC_cutJ {a b : Code} {Q : Exit → St → Prop} {s : St} (n : Nat) (hok : codeOk a = true) (J : St → Prop) (h : ∀ Q' : Exit → St → Prop, (∀ s, J s → Q' .normal s) → (∀ s, Q .ret s → Q' .ret s) → (∀ i s, Q (.exit i) s → Q' (.exit i) s) → Run P I ro n [.code a] Q' s) (hb : ∀ s, J s → TC P I ro b Q s) : TC P I ro (.seq a b) Q s :=
  TC_seq (Run_TC hok (h (thenQ Q (TC P I ro b Q)) (fun s x => hb s x) (fun _ x => x) (fun _ _ x => x)))
/-- the last piece -/
theorem TC_last {a : Code} {Q : Exit → St → Prop} {s : St} (n : Nat) (hok : codeOk a = true) (h : Run P I ro n [.code a] Q s) : TC P I ro a Q s := Run_TC hok h
end
end Go.Sym
set_option linter.unusedSimpArgs false
set_option linter.unusedVariables false
namespace Go.Sym
section
variable {P : Program} {I : Nat → Option Obj}
def endV (id off len s : Nat) (v : Value) : Prop := v = .slice (some ⟨id, off + len * s, none⟩) 0 UNK ∨ v = .slice (some ⟨id, off, none⟩) 0 0
theorem aslice_end_sound {E : Env} {h : H} {w : World} (r : R I E h w) {t e : TypeId} {s id off len : Nat} {el : TypeId} {vs : List Value} {c : Value} {lo hi mx : Option Value} (hlo : optInt lo = some (some (len : Int))) (hhi : optInt hi = some none) (hmx : optInt mx = some none)
    (hx : conc E (.slice (some ⟨id, off, none⟩) len UNK) = some c) (ht : P.underlying t = some (.slice e)) (hs : tsz P e = some s) (hg : h.get id = some (.row vs el s)) :
    ∃ v, endV id off len s v ∧ ∃ u, (Instr.sliceAt t c lo hi mx).run P w = .ok u w ∧ conc E v = some u := by
  obtain ⟨L, cap', hL, rfl, hcap⟩ := conc_slice hx
  obtain ⟨_, rfl, hlen⟩ : ¬ UNK < UNK ∧ cap' = capOf L off ∧ len ≤ capOf L off := by
    rcases hcap with h | h
    · omega
    · exact h
  have hb : abounds len len (some (len : Int)) none none = some (len, len, len) := by
    unfold abounds
    simp
  have hrun := sliceBounds_run (P := P) (isS := true) hlo hhi hmx hb hlen w
  rw [if_neg (by simp)] at hrun
  by_cases hc : capOf L off = len
  · refine ⟨_, .inr rfl, .slice (some ⟨L.b, L.base + off, none⟩) 0 0, ?_, ?_⟩
    · simp only [Instr.sliceAt, Instr.slice, Sem.run_bind, run_underlying_of ht, Result.andThen_ok, Sem.run_pure, hrun, run_sizeOf_of hs, Option.map_some]
      simp [hc]
    · simp only [conc, hL, Option.bind_some, if_pos (show 0 < UNK by simp [UNK])]
  · obtain ⟨B, hg', hrel⟩ := r.blk id L hL (H.get_lt hg).2
    rw [hg] at hg'; cases hg'
    obtain ⟨_, _, _, _, _, ⟨hes, hpos⟩, _⟩ := hrel
    have hcapl : capOf L (off + len * s) = capOf L off - len := by
      unfold capOf
      rw [hes, show L.room - (L.base + (off + len * s)) = L.room - (L.base + off) - s * len from by rw [Nat.mul_comm]; omega, Nat.sub_mul_div]
    refine ⟨_, .inl rfl, .slice (some ⟨L.b, L.base + (off + len * s), none⟩) 0 (capOf L off - len), ?_, ?_⟩
    · simp only [Instr.sliceAt, Instr.slice, Sem.run_bind, run_underlying_of ht, Result.andThen_ok, Sem.run_pure, hrun, run_sizeOf_of hs, Option.map_some]
      rw [if_neg hc, add_off, Nat.add_assoc]
      simp
    · simp only [conc, hL, Option.bind_some, if_neg (show ¬ UNK < UNK by omega), hcapl, if_pos (show 0 ≤ capOf L off - len by omega)]
theorem LC_sliceEnd {ops : Array Oper} {ro : Option Nat} {dst : Option Tmp} {t e ty : TypeId} {x y : Operand} {pos : String} {aft : Array Edge} {rest : List Oper} {tm : List Value} {df : List Nat} {h : H} {Q : Exit → St → Prop} {s id off len : Nat} {el : TypeId} {vs : List Value} {k : IntKind} (hox : okO x = true) (hoy : okO y = true)
    (hxe : ev tm x = .slice (some ⟨id, off, none⟩) len UNK) (hye : ev tm y = .int k len) (ht : P.underlying t = some (.slice e)) (hs : tsz P e = some s) (hg : h.get id = some (.row vs el s))
    (hr : ∀ v, endV id off len s v → LC P I ops ro rest (putT tm dst v) df h Q) : LC P I ops ro (⟨dst, .slice t x (some y) none none, ty, pos, aft, none⟩ :: rest) tm df h Q := by
  refine LC_does (Qc := fun v h' => h' = h ∧ endV id off len s v) (by intro c e; cases e) rfl (fun E w a r hc => ?_) (fun v h' q => by obtain ⟨rfl, q⟩ := q; exact hr v q)
  have h1 := optInt_ev (o := some y) (n := some (len : Int)) hc (by simpa using hoy) (by simp only [Option.map_some, hye]; rfl)
  have hx := conc_ev hc hox
  rw [hxe] at hx
  obtain ⟨v, hv, hu⟩ := aslice_end_sound r h1 (hi := none) (mx := none) rfl rfl hx ht hs hg
  exact ⟨v, h, ⟨rfl, hv⟩, Looks.does r (Looks.of1 (by simpa using hu))⟩
end
end Go.Sym
