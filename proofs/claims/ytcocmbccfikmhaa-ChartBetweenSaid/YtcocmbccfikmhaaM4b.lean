/- Code run piece by piece, what is left hidden. No program is named here. (own texts put together: SymCut) -/
import Derived.Test.YtcocmbccfikmhaaM4
set_option linter.unusedSimpArgs false
set_option linter.unusedVariables false
namespace Go.Sym
section
variable {P : Program} {I : Nat → Option Obj} {ro : Option Nat}
/-- a function, its new blocks dropped; by the relation on code -/
theorem Snd_tcS {g : FuncId} {fn : Func} {c : Code} {nt : Nat} {rs : List ResultVar} {args : List Value} {h hb : H} {v : Value} (hf : P.funcs[g]? = some fn) (hok : fnOk fn = true) (hbd : fn.body = some c) (hn : fn.ntmps = nt) (hr : fn.results.toList = rs)
    (hlen : h.length ≤ hb.length) (hcl : ∀ id B, hb.get id = some B → closedB (okN hb.length) B = true ∨ h.get id = some B) (hv : closedV (okN hb.length) v = true)
    (hc : TC P I none c (finS P I rs v hb) ⟨args ++ List.replicate (nt - args.length) undef, [], h⟩) : Snd P I (.func g) args h v hb := by
  have hok' := hok
  simp only [fnOk, hbd, Bool.and_eq_true, Bool.not_eq_true', beq_eq_false_iff_ne] at hok
  have hs : SndQ P I (.func g) args h (fun u h' => u = v ∧ ∃ l, h' = hb ++ l) := by
    refine SndQ_of hf hbd hok.1 ?_
    rw [hn]
    refine hc.mono fun e s q => ?_
    obtain ⟨he, h', hl, hx, ha⟩ := q
    exact ⟨v, h', ⟨rfl, hx⟩, he, hl, by rw [hr]; exact ha⟩
  refine ⟨hs.1, fun E w cargs r ha => CallsIn.mono (hs.2 E w cargs r ha) ?_⟩
  rintro e w' ⟨u, h', ⟨rfl, l, rfl⟩, hret⟩
  have := hret.gc r (N := hb.length) hlen (by simp) hv fun id B hlt hg => ?_
  · simpa using this
  · refine hcl id B ?_
    have e : (hb ++ l : H).take hb.length = hb := by simp
    rw [← e, get_take hlt]; exact hg
theorem Snd_tc0 {g : FuncId} {fn : Func} {c : Code} {nt : Nat} {rs : List ResultVar} {args : List Value} {h : H} {v : Value} (hf : P.funcs[g]? = some fn) (hok : fnOk fn = true) (hbd : fn.body = some c) (hn : fn.ntmps = nt) (hr : fn.results.toList = rs) (hv : flat v = true)
    (hc : TC P I none c (finS P I rs v h) ⟨args ++ List.replicate (nt - args.length) undef, [], h⟩) : Snd P I (.func g) args h v h :=
  Snd_tcS hf hok hbd hn hr (Nat.le_refl _) (fun _ _ hg => .inr hg) (closed_flat _ v hv) hc
theorem Snd_tcK {g : FuncId} {fn : Func} {c : Code} {nt : Nat} {rs : List ResultVar} {args : List Value} {h hb : H} {v : Value} (hf : P.funcs[g]? = some fn) (hok : fnOk fn = true) (hbd : fn.body = some c) (hn : fn.ntmps = nt) (hr : fn.results.toList = rs)
    (hlen : h.length ≤ hb.length) (hcl : ∀ id B, hb.get id = some B → closedB (okN hb.length) B = true ∨ h.get id = some B) (hv : closedV (okN hb.length) v = true)
    (hc : TC P I none c (finK P I rs v hb) ⟨args ++ List.replicate (nt - args.length) undef, [], h⟩) : Snd P I (.func g) args h v hb := by
  have hok' := hok
  simp only [fnOk, hbd, Bool.and_eq_true, Bool.not_eq_true', beq_eq_false_iff_ne] at hok
  have hs : SndQ P I (.func g) args h (fun u h' => u = v ∧ ∃ hk l, h' = hk ++ l ∧ Forgets hk hb) := by
    refine SndQ_of hf hbd hok.1 ?_
    rw [hn]
    refine hc.mono fun e s q => ?_
    obtain ⟨he, h', hl, hx, ha⟩ := q
    exact ⟨v, h', ⟨rfl, hx⟩, he, hl, by rw [hr]; exact ha⟩
  refine ⟨hs.1, fun E w cargs r ha => CallsIn.mono (hs.2 E w cargs r ha) ?_⟩
  rintro e w' ⟨u, h', ⟨rfl, hk, l, rfl, hfg⟩, hret⟩
  have h1 := hret.forget hb hb.length
  rw [forget_all hfg] at h1
  have := h1.gc r (N := hb.length) hlen (by simp) hv fun id B hlt hg => ?_
  · simpa using this
  · refine hcl id B ?_
    have e : (hb ++ l : H).take hb.length = hb := by simp
    rw [← e, get_take hlt]; exact hg
/-- the first piece, run, what is left hidden -/
theorem TC_cut {a b : Code} {Q : Exit → St → Prop} {s : St} (n : Nat) (hok : codeOk a = true) (h : ∀ Q' : Exit → St → Prop, (∀ s, TC P I ro b Q s → Q' .normal s) → (∀ s, Q .ret s → Q' .ret s) → (∀ i s, Q (.exit i) s → Q' (.exit i) s) → Run P I ro n [.code a] Q' s) : TC P I ro (.seq a b) Q s :=
  TC_seq (Run_TC hok (h (thenQ Q (TC P I ro b Q)) (fun _ x => x) (fun _ x => x) (fun _ _ x => x)))
/-- the first piece, with a relation at its end -/
theorem TC_cutJ {a b : Code} {Q : Exit → St → Prop} {s : St} (n : Nat) (hok : codeOk a = true) (J : St → Prop) (h : ∀ Q' : Exit → St → Prop, (∀ s, J s → Q' .normal s) → (∀ s, Q .ret s → Q' .ret s) → (∀ i s, Q (.exit i) s → Q' (.exit i) s) → Run P I ro n [.code a] Q' s) (hb : ∀ s, J s → TC P I ro b Q s) : TC P I ro (.seq a b) Q s :=
  TC_seq (Run_TC hok (h (thenQ Q (TC P I ro b Q)) (fun s x => hb s x) (fun _ x => x) (fun _ _ x => x)))
/-- the last piece -/
theorem TC_last {a : Code} {Q : Exit → St → Prop} {s : St} (n : Nat) (hok : codeOk a = true) (h : Run P I ro n [.code a] Q s) : TC P I ro a Q s := Run_TC hok h
end
end Go.Sym
