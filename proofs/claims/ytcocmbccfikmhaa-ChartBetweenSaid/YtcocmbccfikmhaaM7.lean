/- Own texts, put together. (own texts put together: T5 T6 T7 T8) -/
import Derived.Test.YtcocmbccfikmhaaM3
import Derived.Test.YtcocmbccfikmhaaProg
import Derived.KernelRfl
set_option linter.unusedSimpArgs false
set_option linter.unusedVariables false
namespace Go.Proofs.Ytcocmbccfikmhaa
open Go.Sym

/-- entries with stamps of their own, below the clock, flat -/
structure MapOk (es : Array MapEntry) (clock : Nat) : Prop where
  lt : ∀ e ∈ es, e.born < clock
  inj : ∀ e ∈ es, ∀ e' ∈ es, e.born = e'.born → e = e'
  flat : ∀ e ∈ es, Go.Sym.flat e.key = true ∧ Go.Sym.flat e.val = true

/-- what has been visited -/
structure Vis (es : Array MapEntry) (vs : List MapEntry) (seen : Array Nat) : Prop where
  sub : ∀ e ∈ vs, e ∈ es
  seen : seen.toList = vs.map (·.born)
  nd : (vs.map (·.born)).Nodup

theorem Vis.le {es : Array MapEntry} {vs : List MapEntry} {seen : Array Nat} (hv : Vis es vs seen) : vs.length ≤ es.size := by
  have := List.Nodup.length_le_of_subset (l₂ := es.toList.map (·.born)) hv.nd fun x hx => by
    obtain ⟨e, he, rfl⟩ := List.mem_map.1 hx
    exact List.mem_map.2 ⟨e, Array.mem_toList_iff.2 (hv.sub e he), rfl⟩
  simpa using this

/-- all have been visited: they are the same, in some order -/
theorem Vis.perm {es : Array MapEntry} {clock : Nat} (ok : MapOk es clock) {vs : List MapEntry} {seen : Array Nat} (hv : Vis es vs seen) (hnd : (es.toList.map (·.born)).Nodup) (hall : ∀ e ∈ es, e.born ∈ seen.toList) : vs.Perm es.toList := by
  have n1 : vs.Nodup := List.Pairwise.of_map (·.born) (fun a b h e => h (by rw [e])) hv.nd
  have n2 : es.toList.Nodup := List.Pairwise.of_map (·.born) (fun a b h e => h (by rw [e])) hnd
  refine (List.perm_ext_iff_of_nodup n1 n2).2 fun e => ⟨fun h => Array.mem_toList_iff.2 (hv.sub e h), fun h => ?_⟩
  have h' := Array.mem_toList_iff.1 h
  have := hall e h'
  rw [hv.seen] at this
  obtain ⟨e', he', hb⟩ := List.mem_map.1 this
  rw [← ok.inj e' (hv.sub e' he') e h' hb]; exact he'

theorem cands_some {es : Array MapEntry} {clock : Nat} (ok : MapOk es clock) {vs : List MapEntry} {seen : Array Nat} (hv : Vis es vs seen) {e : MapEntry} (he : some e ∈ cands es clock seen) : e ∈ es ∧ e.born ∉ seen.toList ∧ Vis es (vs ++ [e]) (seen.push e.born) := by
  have h1 : e ∈ es ∧ e.born ∉ seen.toList := by
    unfold cands at he
    simp only [Array.mem_append, Array.mem_map] at he
    rcases he with h0 | ⟨e', h0, h1⟩
    · split at h0 <;> simp at h0
    · cases h1
      have : e ∈ es.filter fun e => !seen.contains e.born := by
        rcases h0 with h0 | h0
        · exact (Array.mem_filter.1 h0).1
        · exact (Array.mem_filter.1 h0).1
      obtain ⟨q1, q2⟩ := Array.mem_filter.1 this
      exact ⟨q1, by simpa using q2⟩
  refine ⟨h1.1, h1.2, ⟨?_, ?_, ?_⟩⟩
  · intro x hx
    rcases List.mem_append.1 hx with hx | hx
    · exact hv.sub x hx
    · simp at hx; subst hx; exact h1.1
  · rw [Array.toList_push, hv.seen]; simp
  · rw [List.map_append, List.nodup_append]
    refine ⟨hv.nd, by simp, ?_⟩
    intro a ha b hb
    simp at hb; subst hb
    intro e'; subst e'
    rw [hv.seen] at h1
    exact h1.2 ha
theorem cands_none {es : Array MapEntry} {clock : Nat} (ok : MapOk es clock) {seen : Array Nat} (he : none ∈ cands es clock seen) : ∀ e ∈ es, e.born ∈ seen.toList := by
  unfold cands at he
  simp only [Array.mem_append, Array.mem_map] at he
  rcases he with h0 | ⟨e', h0, h1⟩
  · split at h0
    · rename_i hem
      intro e hes
      rw [Array.isEmpty_iff] at hem
      rcases Classical.em (e.born ∈ seen.toList) with h | h
      · exact h
      · exfalso
        have : e ∈ (es.filter fun e => !seen.contains e.born).filter (·.born < clock) :=
          Array.mem_filter.2 ⟨Array.mem_filter.2 ⟨hes, by simpa using h⟩, by simpa using ok.lt e hes⟩
        rw [hem] at this; simp at this
    · simp at h0
  · cases h1
theorem less_left {es : Array MapEntry} {seen : Array Nat} {e : MapEntry} (he : e ∈ es) (hn : e.born ∉ seen.toList) :
    (es.toList.filter fun x => !(seen.push e.born).toList.contains x.born).length < (es.toList.filter fun x => !seen.toList.contains x.born).length := by
  have h1 : (es.toList.filter fun x => !(seen.push e.born).toList.contains x.born) = (es.toList.filter fun x => !seen.toList.contains x.born).filter fun x => !(x.born == e.born) := by
    rw [List.filter_filter]
    congr 1
    funext x
    rw [Array.toList_push, List.contains_eq_mem, List.contains_eq_mem]
    by_cases h : x.born = e.born <;> by_cases h2 : x.born ∈ seen.toList <;> simp [h, h2]
  rw [h1]
  refine List.length_filter_lt_length_iff_exists.2 ⟨e, List.mem_filter.2 ⟨Array.mem_toList_iff.2 he, ?_⟩, by simp⟩
  rw [List.contains_eq_mem]; simpa using hn

theorem hmap_of {h : H} {m : Nat} {es : Array MapEntry} {clock : Nat} (hm : h.get m = some (.obj (.map es clock))) : h.map m = some (es, clock) := by unfold H.map; rw [hm]

set_option maxRecDepth 100000 in
theorem keys83 (I : Nat → Option Obj) {h : H} {l bx m : Nat} {es : Array MapEntry} {clock : Nat} (ok : MapOk es clock) (K : Value → Prop) (hK : ∀ e ∈ es, K e.key) (hbx : h.get bx = some (.cells [.map (some m)] 118)) (hm : h.get m = some (.obj (.map es clock)))
    (Y : List Value → H → Prop) (hY0 : Y [] (h ++ [.iter m clock #[] clock])) (hput : ∀ ks hh B, Y ks hh → Y ks (hh.put h.new B))
    (hstep : ∀ ks hh k, K k → ks.length < es.size → Y ks hh → ∃ hh', Snd Try.prog I (.yield l) [k] hh (.bool true) hh' ∧ Y (ks ++ [k]) hh' ∧ ∀ id, id = bx ∨ id = m ∨ id = h.new → hh'.get id = hh.get id) :
    SndQ Try.prog I (.func 83) [.func (.yield l) #[] #[], .pointer (some ⟨bx, 0, none⟩)] h (fun v h' => v = .tuple #[] ∧ ∃ vs seen, Vis es vs seen ∧ (∀ e ∈ es, e.born ∈ seen.toList) ∧ Y (vs.map (·.key)) h') := by
  have hname : Try.f83.name ≠ "runtime.NumGoroutine" := by
    have : (Try.f83.name == "runtime.NumGoroutine") = false := by kernel_rfl
    simpa using this
  refine SndQ_of Try.func83 rfl hname ?_
  rw [Try.ntmps83]
  have hrd : ∀ hh : H, hh.get bx = some (.cells [.map (some m)] 118) → aload Try.prog I 118 (.pointer (some ⟨bx, 0, none⟩)) hh = some (.map (some m)) := by
    intro hh hg
    have ht : tagg Try.prog 118 = some false := by kernel_rfl
    unfold aload
    simp only [ht]
    unfold rdl
    have hid := (H.get_lt hg).2
    unfold H.get at hg
    rw [if_pos hid] at hg
    rw [if_pos hid, hg]
    rfl
  have hmt : Try.prog.underlying 118 = some (.map 2 3) := by kernel_rfl
  refine TC_seq (LC_region ?_)
  refine LC_step (v := .map (some m)) (h' := h) rfl rfl (by
    show (aload Try.prog I 118 (.pointer (some ⟨bx, 0, none⟩)) h).map _ = _
    rw [hrd h hbx]; rfl) ?_
  refine LC_does (Qc := fun v h' => v = nptr h ∧ h' = h ++ [.iter m clock #[] clock]) (by intro c e; cases e) rfl (fun E w a r ht => ⟨_, _, ⟨rfl, rfl⟩, ?_⟩) ?_
  · have hc := conc_ev ht (x := .tmp 4) rfl
    exact arange_sound r hmt (hmap_of hm) hc
  rintro v h' ⟨rfl, rfl⟩
  refine LC_nil ?_
  refine TC_block ?_
  have hbxlt := (H.get_lt hbx).1
  have hmlt := (H.get_lt hm).1
  let left (hh : H) : Nat := match hh.get h.new with
    | some (.iter _ _ seen _) => (es.toList.filter fun x => !seen.toList.contains x.born).length
    | _ => 0
  refine TC_loop (fun s => s.df = [] ∧ s.tm.length = 14 ∧ s.tm.getD 0 undef = .func (.yield l) #[] #[] ∧ s.tm.getD 5 undef = .pointer (some ⟨h.new, 0, none⟩) ∧
    ∃ vs seen, Vis es vs seen ∧ s.h.get h.new = some (.iter m clock seen clock) ∧ s.h.get m = some (.obj (.map es clock)) ∧ s.h.get bx = some (.cells [.map (some m)] 118) ∧ Y (vs.map (·.key)) s.h) (fun s => left s.h) ?_ ?_
  · refine ⟨rfl, rfl, rfl, rfl, [], #[], ⟨by simp, rfl, by simp⟩, H.get_new h _, H.get_append hm _, H.get_append hbx _, hY0⟩
  rintro ⟨tm, df, hh⟩ ⟨hdf, hlen, h0, h5, vs, seen, hv, hit, hm', hbx', hY⟩
  simp only at hdf hlen h0 h5 hit hm' hbx' hY
  subst hdf
  match tm, hlen, h0, h5 with
  | [x0, x1, x2, x3, x4, x5, x6, x7, x8, x9, x10, x11, x12, x13], _, h0, h5 =>
  simp only [List.getD_cons_zero, List.getD_cons_succ] at h0 h5
  subst h0; subst h5
  refine TC_seq (LC_region ?_)
  have hst : (!seen.isEmpty && !es.isEmpty && es.all (·.born ≥ clock)) = false := by
    cases hem : es.isEmpty with
    | true => simp
    | false =>
      have : es.all (·.born ≥ clock) = false := by
        rw [← Bool.not_eq_true, Array.all_eq_true_iff_forall_mem]
        intro hall
        have hne : 0 < es.size := by
          rw [Array.isEmpty_eq_false_iff] at hem
          exact Array.size_pos_iff.2 hem
        have h1 := hall es[0] (Array.getElem_mem hne)
        have h2 := ok.lt es[0] (Array.getElem_mem hne)
        simp at h1; omega
      rw [this]; simp
  refine LC_does (Qc := fun v h' => ∃ x ∈ cands es clock seen, match x with
        | some e => v = .tuple #[.bool true, e.key, e.val] ∧ h' = hh.put h.new (.iter m clock (seen.push e.born) clock)
        | none => v = .tuple #[.bool false] ∧ h' = hh) (by intro c e; cases e) rfl (fun E w a r ht => ?_) ?_
  · have hc := conc_ev ht (x := .tmp 5) rfl
    exact anext_sound r hit (hmap_of hm') hst ok.flat hc
  rintro v h' ⟨x, hx, hx2⟩
  cases x with
  | none =>
    obtain ⟨rfl, rfl⟩ := hx2
    refine LC_step (v := .bool false) rfl rfl rfl (LC_nil ?_)
    refine TC_seq (TC_cond (b := false) rfl rfl (fun h => by cases h) fun _ => TC_exit ?_)
    simp only [thenQ, blockQ, if_true]
    exact ⟨.tuple #[], _, ⟨rfl, vs, seen, hv, cands_none ok hx, hY⟩, .inl rfl, rfl, rfl⟩
  | some e =>
    obtain ⟨rfl, rfl⟩ := hx2
    obtain ⟨he, hne, hv2⟩ := cands_some ok hv hx
    refine LC_step (v := .bool true) rfl rfl rfl (LC_nil ?_)
    refine TC_seq (TC_cond (b := true) rfl rfl (fun _ => TC_skip ?_) fun h => by cases h)
    refine TC_block (TC_seq (LC_region ?_))
    have hit2 : (hh.put h.new (.iter m clock (seen.push e.born) clock)).get h.new = some (.iter m clock (seen.push e.born) clock) := H.get_put_same hit _
    have hm2 : (hh.put h.new (.iter m clock (seen.push e.born) clock)).get m = some (.obj (.map es clock)) := by rw [H.get_put_ne _ (by omega)]; exact hm'
    have hbx2 : (hh.put h.new (.iter m clock (seen.push e.born) clock)).get bx = some (.cells [.map (some m)] 118) := by rw [H.get_put_ne _ (by omega)]; exact hbx'
    have hY2 := hput _ _ (.iter m clock (seen.push e.born) clock) hY
    have hfind : es.find? (·.born == e.born) = some e := by
      cases hf : es.find? (·.born == e.born) with
      | none => have := Array.find?_eq_none.1 hf e he; simp at this
      | some e' =>
        have h1 := Array.find?_some hf
        have h2 := Array.mem_of_find?_eq_some hf
        rw [ok.inj e' h2 e he (by simpa using h1)]
    refine LC_does (Qc := fun v h' => v = .tuple #[e.key, e.val] ∧ h' = hh.put h.new (.iter m clock (seen.push e.born) clock)) (by intro c e; cases e) rfl (fun E w a r ht => ⟨_, _, ⟨rfl, rfl⟩, ?_⟩) ?_
    · have hc := conc_ev ht (x := .tmp 5) rfl
      exact aentry_sound r hit2 (hmap_of hm2) (by simp) hfind (ok.flat e he) hc
    rintro v h' ⟨rfl, rfl⟩
    refine LC_step (v := e.key) rfl rfl rfl ?_
    refine LC_step (v := e.key) rfl rfl rfl (LC_nil ?_)
    refine TC_seq (LC_region ?_)
    obtain ⟨h3, hs3, hY3, hkeep⟩ := hstep _ _ e.key (hK e he) (by have := hv2.le; simp at this ⊢; omega) hY2
    refine LC_step (v := .func (.yield l) #[] #[]) rfl rfl rfl ?_
    refine LC_step (v := e.key) rfl rfl rfl ?_
    refine LC_call (fn := .yield l) (args := [e.key]) rfl rfl rfl hs3 ?_
    refine LC_step (v := .bool false) (h' := h3) rfl rfl (congrArg (Option.map fun v => (v, h3)) (un_not (P := Try.prog) (b := true))) (LC_nil ?_)
    refine TC_cond (b := false) rfl rfl (fun h => by cases h) fun _ => TC_skip ?_
    simp only [blockQ, thenQ]
    refine ⟨⟨by trivial, by trivial, by first | rfl | trivial, by first | rfl | trivial, vs ++ [e], seen.push e.born, hv2, by rw [hkeep _ (.inr (.inr rfl))]; exact hit2, by rw [hkeep _ (.inr (.inl rfl))]; exact hm2, by rw [hkeep _ (.inl rfl)]; exact hbx2, by rw [List.map_append]; exact hY3⟩, ?_⟩
    show left h3 < left hh
    simp only [left]
    rw [hkeep _ (.inr (.inr rfl)), hit2, hit]
    exact less_left he hne
end Go.Proofs.Ytcocmbccfikmhaa
set_option linter.unusedSimpArgs false
set_option linter.unusedVariables false
namespace Go.Proofs.Ytcocmbccfikmhaa
open Go.Sym
def slOf (q n : Nat) : Value := if n = 0 then .slice none 0 0 else .slice (some ⟨q, 0, none⟩) n UNK

theorem TC_rangeQ2 {P : Program} {I : Nat → Option Obj} {f : Operand} {ps : Array Tmp} {asg body : Code} {Q : Exit → St → Prop} {tm : List Value} {df : List Nat} {h : H} {g : FuncId} {first cap : Array Value} (Qc : H → Value → H → Prop) (hok : okO f = true) (hev : ev tm f = .func (.func g) first cap)
    (hs : ∀ H1, H1 = (h ++ [.obj (.deferred (some [])), .loop tm ps asg body .ready none (2 * h.length)] : H) → SndQ P I (.func g) (first.toList ++ [.func (.yield (2 * (h.length + 1))) #[] #[]] ++ cap.toList) H1 (Qc H1))
    (hq : ∀ H1, H1 = (h ++ [.obj (.deferred (some [])), .loop tm ps asg body .ready none (2 * h.length)] : H) → ∀ v h2, Qc H1 v h2 → ∃ tm1 ps1 as1 b1 st1 pend d1, h2.get (2 * (h.length + 1)) = some (.loop tm1 ps1 as1 b1 st1 pend d1) ∧ st1 ≠ .busy ∧ pendQ pend Q ⟨tm, (2 * h.length) :: df, h2.put (2 * (h.length + 1)) .dead⟩) :
    TC P I none (.rangeFunc f ps asg body) Q ⟨tm, df, h⟩ := TC_rangeQ hok hev (hs _ rfl) (hq _ rfl)

theorem aload_cell1 {P : Program} {I : Nat → Option Obj} {t e : TypeId} {id : Nat} {v : Value} {hh : H} (ht : tagg P t = some false) (hg : hh.get id = some (.cells [v] e)) : aload P I t (.pointer (some ⟨id, 0, none⟩)) hh = some v := by
  unfold aload
  simp only [ht]
  unfold rdl
  have hid := (H.get_lt hg).2
  unfold H.get at hg
  rw [if_pos hid] at hg
  rw [if_pos hid, hg]
  rfl

/-- the yield side: so many keys, the slice in its box, the row -/
def Yst (n0 : Nat) (H1 : H) (ks : List Value) (hh : H) : Prop :=
  hh.length = n0 + 4 + 2 * ks.length ∧ (∀ id, id < 2 * (n0 + 3) → id ≠ 2 * n0 → hh.get id = H1.get id) ∧ hh.get (2 * n0) = some (.cells [slOf (2 * (n0 + 4 + 2 * ks.length - 1)) ks.length] 25) ∧
    (ks ≠ [] → hh.get (2 * (n0 + 4 + 2 * ks.length - 1)) = some (.row ks 2 1))

theorem rdl_row {I : Nat → Option Obj} {hh : H} {id n : Nat} {l : List Value} {e : TypeId} (hg : hh.get id = some (.cells l e)) (hn : l.length = n) : rdl I hh id 0 n = some l := by
  have hid := (H.get_lt hg).2
  unfold H.get at hg
  rw [if_pos hid] at hg
  unfold rdl
  rw [if_pos hid, hg]
  subst hn
  simp

theorem app_step {I : Nat → Option Obj} {hh : H} {old q : Nat} {ks : List Value} {k : Value} (hk : k.oneCell' = true) (hold : ks ≠ [] → hh.get old = some (.row ks 2 1)) (hq : hh.get q = some (.cells [k] 2)) (hn : ks.length < 1000) :
    aappend Try.prog I 25 25 (slOf old ks.length) (.slice (some ⟨q, 0, none⟩) 1 1) hh = some (slOf hh.new (ks.length + 1), (if ks.length = 0 then hh else hh.put old .dead) ++ [.row (ks ++ [k]) 2 1]) := by
  have e1 : Try.prog.underlying 25 = some (.slice 2) := by kernel_rfl
  have e2 : tsz Try.prog 2 = some 1 := by kernel_rfl
  have e3 : tbytes Try.prog 2 = some 8 := by kernel_rfl
  have e4 : tzero Try.prog 2 = some (.int .i64 0) := by kernel_rfl
  have e5 : rdS I hh 1 (.slice (some ⟨q, 0, none⟩) 1 1) = some (1, [k]) := by
    unfold rdS; simp only; rw [rdl_row (n := 1 * 1) hq rfl]; rfl
  unfold aappend
  simp only [e1, e2, e3, e4, e5]
  rw [if_pos ⟨rfl, by omega, by omega⟩]
  cases hks : ks with
  | nil =>
    simp only [List.length_nil, slOf, if_true]
    rfl
  | cons a l =>
    have hne : ks ≠ [] := by rw [hks]; simp
    have hr := hold hne
    rw [hks] at hr hn
    simp only [List.length_cons] at hn ⊢
    simp only [slOf, Nat.add_eq_zero_iff, Nat.one_ne_zero, and_false, if_false]
    rw [if_neg (by simp [UNK])]
    rw [if_pos ⟨trivial, trivial, by omega⟩, hr]
    simp [hk, H.new, H.length_put]

theorem astore_cell1 {P : Program} {t e : TypeId} {id : Nat} {v u : Value} {hh : H} (ht : tsz P t = some 1) (hs : v.cells = #[v]) (ho : v.oneCell' = true) (hg : hh.get id = some (.cells [u] e)) : astore P t (.pointer (some ⟨id, 0, none⟩)) v hh = some (hh.put id (.cells [v] e)) := by
  have hid := (H.get_lt hg).2
  unfold H.get at hg
  rw [if_pos hid] at hg
  unfold astore
  simp only [ht, hs]
  rw [if_pos (by simp)]
  unfold wrl
  rw [if_pos hid, hg]
  simp only
  rw [if_pos ⟨by simp, by simp [ho]⟩]
  rfl
theorem slOf_cells (q n : Nat) : (slOf q n).cells = #[slOf q n] := by unfold slOf; split <;> rfl
theorem slOf_one (q n : Nat) : (slOf q n).oneCell' = true := by unfold slOf; split <;> rfl

def busyB : Blk → Blk
  | .loop tm ps asg body _ p d => .loop tm ps asg body .busy p d
  | b => b
theorem LC_eqh {P : Program} {I : Nat → Option Obj} {ops : Array Oper} {ro : Option Nat} {l : List Oper} {tm : List Value} {df : List Nat} {h h' : H} {Q : Exit → St → Prop} (e : h = h') (hr : LC P I ops ro l tm df h' Q) : LC P I ops ro l tm df h Q := e ▸ hr

set_option maxRecDepth 100000 in
theorem append82 (I : Nat → Option Obj) {h : H} {bx m : Nat} {es : Array MapEntry} {clock : Nat} (ok : MapOk es clock) (hnd : (es.toList.map (·.born)).Nodup) (hsz : es.size ≤ 1000) (hK : ∀ e ∈ es, ∃ n, e.key = .int .i64 n) (hbx : h.get bx = some (.cells [.map (some m)] 118)) (hm : h.get m = some (.obj (.map es clock))) :
    SndQ Try.prog I (.func 82) [.slice none 0 0, .func (.func 83) #[] #[.pointer (some ⟨bx, 0, none⟩)]] h (fun v h' => ∃ ks : List Value, ks.Perm (es.toList.map (·.key)) ∧ h'.length = h.length + 4 + 2 * es.size ∧ (∀ id, id < h.new → h'.get id = h.get id) ∧
      v = slOf (2 * (h.length + 4 + 2 * es.size - 1)) es.size ∧ (es.size ≠ 0 → h'.get (2 * (h.length + 4 + 2 * es.size - 1)) = some (.row ks 2 1))) := by
  have hname : Try.f82.name ≠ "runtime.NumGoroutine" := by
    have : (Try.f82.name == "runtime.NumGoroutine") = false := by kernel_rfl
    simpa using this
  refine SndQ_of Try.func82 rfl hname ?_
  rw [Try.ntmps82]
  refine TC_seq (LC_region ?_)
  refine LC_step rfl rfl rfl ?_
  refine LC_step rfl rfl rfl (LC_nil ?_)
  refine TC_seq (TC_seq (LC_region ?_))
  refine LC_step rfl rfl rfl (LC_nil ?_)
  refine TC_block ?_
  have hmlt := (H.get_lt hm).1
  have hbxlt := (H.get_lt hbx).1
  simp only [putT, List.length_cons, List.length_nil, Nat.reduceAdd, Nat.reduceSub, List.replicate_succ, List.replicate_zero, List.cons_append, List.nil_append, List.set_cons_succ, List.set_cons_zero, ev, List.getD_cons_zero, List.getD_cons_succ, nptr, Value.cells]
  generalize hH0 : (h ++ [Blk.cells [Value.slice none 0 0] 25] : H) = H0
  have hlen0 : H0.length = h.length + 1 := by rw [← hH0]; simp
  refine TC_rangeQ2 (fun H1 v h' => v = .tuple #[] ∧ ∃ vs seen, Vis es vs seen ∧ (∀ e ∈ es, e.born ∈ seen.toList) ∧ Yst h.length H1 (vs.map (·.key)) h') (g := 83) (first := #[]) (cap := #[.pointer (some ⟨bx, 0, none⟩)]) rfl rfl (fun H1 hH1 => ?_) (fun H1 hH1 v h2 hv => ?_)
  · have hlen1 : H1.length = h.length + 3 := by rw [hH1]; simp [hlen0]
    have hold : ∀ {id B}, h.get id = some B → H1.get id = some B := by
      intro id B hg
      rw [hH1, ← hH0]
      exact H.get_append (H.get_append hg _) _
    have hnew : H1.new = 2 * (h.length + 3) := by unfold H.new; rw [hlen1]
    have hnh : h.new = 2 * h.length := rfl
    refine keys83 (m := m) I ok (fun v => ∃ n, v = .int .i64 n) hK (hold hbx) (hold hm) (Yst h.length H1) ?_ ?_ ?_
    · refine ⟨by simp [hlen1], fun id h1 h2 => ?_, ?_, fun hne => absurd rfl hne⟩
      · unfold H.get
        split
        · rw [List.getElem?_append_left (by omega)]
        · rfl
      · have : H1.get (2 * h.length) = some (.cells [.slice none 0 0] 25) := by
          rw [hH1, ← hH0]
          exact H.get_append (H.get_new h _) _
        exact H.get_append this _
    · intro ks hh B hY
      obtain ⟨y1, y2, y3, y4⟩ := hY
      rw [hnew]
      refine ⟨by rw [H.length_put]; exact y1, fun id h1 h2 => by rw [H.get_put_ne _ (by omega)]; exact y2 id h1 h2, by rw [H.get_put_ne _ (by omega)]; exact y3, fun hne => by
        have := List.length_pos_iff.2 hne
        rw [H.get_put_ne _ (by omega)]; exact y4 hne⟩
    · intro ks hh k hk hlt hY
      obtain ⟨nk, rfl⟩ := hk
      obtain ⟨y1, y2, y3, y4⟩ := hY
      have ht25 : tagg Try.prog 25 = some false := by kernel_rfl
      have ht25s : tsz Try.prog 25 = some 1 := by kernel_rfl
      have hl := y2 (2 * (H0.length + 1)) (by omega) (by omega)
      rw [hH1, get_app 1 (by omega)] at hl
      have hnl : H0.length + 1 < hh.length := by omega
      simp only [List.getElem?_cons_succ, List.getElem?_cons_zero] at hl
      have hl1 : H1.get (2 * (H0.length + 1)) = hh.get (2 * (H0.length + 1)) := (y2 _ (by omega) (by omega)).symm
      generalize hB : Blk.loop _ _ _ _ _ _ _ = B at hl
      obtain ⟨H2, hH2⟩ : ∃ x, hh.put (2 * (H0.length + 1)) (busyB B) = x := ⟨_, rfl⟩
      obtain ⟨H2', hH2'⟩ : ∃ x : H, H2 ++ [Blk.cells [.int .i64 nk] 2] = x := ⟨_, rfl⟩
      obtain ⟨H3, hH3⟩ : ∃ x : H, (if ks.length = 0 then H2' else H2'.put (2 * (h.length + 4 + 2 * ks.length - 1)) .dead) ++ [Blk.row (ks ++ [.int .i64 nk]) 2 1] = x := ⟨_, rfl⟩
      have hlen2 : H2.length = hh.length := by rw [← hH2, H.length_put]
      have hsb2 : H2.get (2 * h.length) = some (.cells [slOf (2 * (h.length + 4 + 2 * ks.length - 1)) ks.length] 25) := by
        rw [← hH2, H.get_put_ne _ (by omega)]; exact y3
      have hlen2' : H2'.length = hh.length + 1 := by rw [← hH2']; simp [hlen2]
      have hlen3 : H3.length = hh.length + 2 := by
        rw [← hH3]
        split
        · simp [hlen2']
        · simp [H.length_put, hlen2']
      have hnew2 : H2'.new = 2 * (h.length + 4 + 2 * (ks.length + 1) - 1) := by unfold H.new; omega
      have hq2 : H2'.get H2.new = some (.cells [.int .i64 nk] 2) := by rw [← hH2']; exact H.get_new _ _
      -- what is old stays
      have keep : ∀ id, id < 2 * hh.length → id ≠ 2 * (H0.length + 1) → (ks.length = 0 ∨ id ≠ 2 * (h.length + 4 + 2 * ks.length - 1)) → H3.get id = hh.get id := by
        intro id h1 h2 h3
        have e1 : H2'.get id = hh.get id := by
          have : H2.get id = hh.get id := by rw [← hH2, H.get_put_ne _ h2]
          rw [← this, ← hH2']
          unfold H.get
          split
          · rw [List.getElem?_append_left (by omega)]
          · rfl
        rw [← e1, ← hH3]
        unfold H.get
        split
        · rename_i hev
          split
          · rw [List.getElem?_append_left (by omega)]
          · rename_i hz
            rw [List.getElem?_append_left (by rw [H.length_put]; omega)]
            have := H.get_put_ne (h := H2') .dead (h3.resolve_left hz)
            unfold H.get at this
            rw [if_pos hev, if_pos hev] at this
            exact this
        · rfl
      refine ⟨(H3.put (2 * h.length) (.cells [slOf (2 * (h.length + 4 + 2 * (ks.length + 1) - 1)) (ks.length + 1)] 25)).put (2 * (H0.length + 1)) B, ?_, ?_, ?_⟩
      · subst hB
        refine Snd_yield hl rfl (LC_region (LC_step rfl rfl rfl (LC_nil ⟨rfl, _, _, _, _, _, _, hl, TC_block (LC_region (LC_eqh hH2 ?_))⟩)))
        simp only [putT, setAll, List.zip_cons_cons, List.zip_nil_right, List.foldl_cons, List.foldl_nil, List.set_cons_succ, List.set_cons_zero, ev, List.getD_cons_zero, List.getD_cons_succ]
        refine LC_step (v := slOf (2 * (h.length + 4 + 2 * ks.length - 1)) ks.length) (h' := H2) rfl rfl (congrArg (Option.map fun v => (v, H2)) (aload_cell1 (I := I) ht25 hsb2)) ?_
        refine LC_step rfl rfl rfl ?_
        refine LC_step (v := .slice (some ⟨H2.new, 0, none⟩) 1 1) (h' := H2 ++ [.cells [.int .i64 nk] 2]) rfl rfl (by kernel_rfl) ?_
        refine LC_eqh hH2' ?_
        have hold2 : ks ≠ [] → H2'.get (2 * (h.length + 4 + 2 * ks.length - 1)) = some (.row ks 2 1) := by
          intro hne
          have := List.length_pos_iff.2 hne
          rw [← hH2', ← hH2]
          refine H.get_append ?_ _
          rw [H.get_put_ne _ (by omega)]; exact y4 hne
        have happ := app_step (I := I) (k := .int .i64 nk) rfl hold2 hq2 (by omega)
        rw [hnew2, hH3] at happ
        have hsb3 : H3.get h.new = some (.cells [slOf (2 * (h.length + 4 + 2 * ks.length - 1)) ks.length] 25) := by
          rw [keep h.new (by omega) (by omega) (by omega)]; exact y3
        refine LC_step (v := slOf (2 * (h.length + 4 + 2 * (ks.length + 1) - 1)) (ks.length + 1)) (h' := H3) rfl rfl happ ?_
        have hst : astore Try.prog 25 (.pointer (some ⟨h.new, 0, none⟩)) (slOf (2 * (h.length + 4 + 2 * (ks.length + 1) - 1)) (ks.length + 1)) H3 = some (H3.put h.new (.cells [slOf (2 * (h.length + 4 + 2 * (ks.length + 1) - 1)) (ks.length + 1)] 25)) := astore_cell1 ht25s (slOf_cells _ _) (slOf_one _ _) hsb3
        refine LC_step (v := undef) (h' := H3.put h.new (.cells [slOf (2 * (h.length + 4 + 2 * (ks.length + 1) - 1)) (ks.length + 1)] 25)) rfl rfl (congrArg (Option.map fun h' => (undef, h')) hst) ?_
        refine LC_nil ?_
        have hlB : (H3.put h.new (.cells [slOf (2 * (h.length + 4 + 2 * (ks.length + 1) - 1)) (ks.length + 1)] 25)).get (2 * (H0.length + 1)) = H2.get (2 * (H0.length + 1)) := by
          rw [H.get_put_ne _ (by omega), ← hH3]
          obtain ⟨b0, e0⟩ : ∃ b, H2.get (2 * (H0.length + 1)) = some b := by rw [← hH2]; exact ⟨_, H.get_put_same hl _⟩
          have e1 : H2'.get (2 * (H0.length + 1)) = some b0 := by rw [← hH2']; exact H.get_append e0 _
          rw [e0]
          refine H.get_append ?_ _
          split
          · exact e1
          · rename_i hz
            rw [H.get_put_ne _ (by omega)]; exact e1
        rw [← hH2, H.get_put_same hl] at hlB
        exact ⟨_, _, _, _, _, _, _, hlB, rfl, rfl⟩
      · refine ⟨?_, ?_, ?_, ?_⟩
        · rw [H.length_put, H.length_put, hlen3]; simp; omega
        · intro id h1 h2
          by_cases he : id = 2 * (H0.length + 1)
          · subst he
            rw [hl1, hl]
            have : ∃ b, (H3.put (2 * h.length) (.cells [slOf (2 * (h.length + 4 + 2 * (ks.length + 1) - 1)) (ks.length + 1)] 25)).get (2 * (H0.length + 1)) = some b := by
              unfold H.get
              rw [if_pos (by omega)]
              rw [List.getElem?_eq_getElem (by rw [H.length_put]; omega)]
              exact ⟨_, rfl⟩
            obtain ⟨b, hb⟩ := this
            exact H.get_put_same hb B
          · rw [H.get_put_ne _ he, H.get_put_ne _ h2, keep id (by omega) he (by omega)]
            exact y2 id h1 h2
        · rw [H.get_put_ne _ (by omega), List.length_append]
          refine H.get_put_same (b := .cells [slOf (2 * (h.length + 4 + 2 * ks.length - 1)) ks.length] 25) ?_ _
          rw [keep _ (by omega) (by omega) (by omega)]; exact y3
        · intro _
          rw [List.length_append, List.length_cons, List.length_nil, H.get_put_ne _ (by omega), H.get_put_ne _ (by omega), ← hH3]
          have hn3 : 2 * (h.length + 4 + 2 * (ks.length + (0 + 1)) - 1) = H.new (if ks.length = 0 then H2' else H2'.put (2 * (h.length + 4 + 2 * ks.length - 1)) .dead) := by
            unfold H.new
            split
            · omega
            · rw [H.length_put]; omega
          rw [hn3]
          exact H.get_new _ _
      · intro id hid
        have hb1 : id < 2 * (h.length + 3) + 1 ∧ id ≠ 2 * h.length ∧ id ≠ 2 * (H0.length + 1) := by
          have := (H.get_lt hbx); have := H.get_lt hm
          rcases hid with rfl | rfl | rfl <;> omega
        rw [H.get_put_ne _ hb1.2.2, H.get_put_ne _ hb1.2.1, keep id (by omega) hb1.2.2 (by omega)]
  · obtain ⟨rfl, vs, seen, hvis, hall, y1, y2, y3, y4⟩ := hv
    have hlen1 : H1.length = h.length + 3 := by rw [hH1]; simp [hlen0]
    have hperm := hvis.perm ok hnd hall
    have hn : (vs.map (·.key)).length = es.size := by rw [List.length_map, hperm.length_eq]; simp
    rw [hn] at y1 y3 y4
    have hl : h2.get (2 * (H0.length + 1)) = H1.get (2 * (H0.length + 1)) := y2 _ (by omega) (by omega)
    have hd : h2.get (2 * H0.length) = some (.obj (.deferred (some []))) := by
      rw [y2 _ (by omega) (by omega), hH1]
      exact get_app 0 (by omega)
    rw [hH1, get_app 1 (by omega)] at hl
    refine ⟨_, _, _, _, _, _, _, hl, by simp, ?_⟩
    simp only [pendQ, blockQ, thenQ]
    have hsb : ((h2.put (2 * (H0.length + 1)) .dead).get (2 * h.length)) = some (.cells [slOf (2 * (h.length + 4 + 2 * es.size - 1)) es.size] 25) := by
      rw [H.get_put_ne _ (by omega)]; exact y3
    have ht25 : tagg Try.prog 25 = some false := by kernel_rfl
    refine TC_seq (LC_region ?_)
    refine LC_step (v := slOf (2 * (h.length + 4 + 2 * es.size - 1)) es.size) (h' := h2.put (2 * (H0.length + 1)) .dead) rfl rfl (congrArg (Option.map fun v => (v, h2.put (2 * (H0.length + 1)) .dead)) (aload_cell1 (I := I) ht25 hsb)) ?_
    refine LC_step (v := slOf (2 * (h.length + 4 + 2 * es.size - 1)) es.size) rfl rfl rfl (LC_nil (TC_ret ?_))
    refine ⟨slOf (2 * (h.length + 4 + 2 * es.size - 1)) es.size, (h2.put (2 * (H0.length + 1)) .dead).put (2 * H0.length) .dead, ⟨vs.map (·.key), hperm.map _, ?_, fun id hid => ?_, rfl, fun hne => ?_⟩, .inr rfl, ?_, rfl⟩
    · rw [H.length_put, H.length_put]; exact y1
    · have hid' : id < 2 * h.length := hid
      rw [H.get_put_ne _ (by omega), H.get_put_ne _ (by omega), y2 id (by omega) (by omega), hH1, ← hH0]
      unfold H.get
      split
      · rw [List.getElem?_append_left (by simp; omega), List.getElem?_append_left (by omega)]
      · rfl
    · rw [H.get_put_ne _ (by omega), H.get_put_ne _ (by omega)]
      exact y4 (fun e => hne (by rw [← hn, e]; rfl))
    · show leave [2 * H0.length] _ = _
      unfold leave
      rw [H.get_put_ne _ (by omega), hd]
      rfl
end Go.Proofs.Ytcocmbccfikmhaa
set_option linter.unusedSimpArgs false
set_option linter.unusedVariables false
namespace Go.Proofs.Ytcocmbccfikmhaa
open Go.Sym

theorem collect79 (I : Nat → Option Obj) {h : H} {bx m : Nat} {es : Array MapEntry} {clock : Nat} (ok : MapOk es clock) (hnd : (es.toList.map (·.born)).Nodup) (hsz : es.size ≤ 1000) (hK : ∀ e ∈ es, ∃ n, e.key = .int .i64 n) (hbx : h.get bx = some (.cells [.map (some m)] 118)) (hm : h.get m = some (.obj (.map es clock))) :
    SndQ Try.prog I (.func 79) [.func (.func 83) #[] #[.pointer (some ⟨bx, 0, none⟩)]] h (fun v h' => ∃ ks : List Value, ks.Perm (es.toList.map (·.key)) ∧ h'.length = h.length + 4 + 2 * es.size ∧ (∀ id, id < h.new → h'.get id = h.get id) ∧
      v = slOf (2 * (h.length + 4 + 2 * es.size - 1)) es.size ∧ (es.size ≠ 0 → h'.get (2 * (h.length + 4 + 2 * es.size - 1)) = some (.row ks 2 1))) := by
  have hname : Try.f79.name ≠ "runtime.NumGoroutine" := by
    have : (Try.f79.name == "runtime.NumGoroutine") = false := by kernel_rfl
    simpa using this
  refine SndQ_of Try.func79 rfl hname ?_
  rw [Try.ntmps79]
  refine TC_seq (LC_region ?_)
  refine LC_step rfl rfl rfl (LC_nil ?_)
  refine TC_seq (LC_region ?_)
  refine LC_step rfl rfl rfl ?_
  refine LC_callQ rfl rfl rfl (append82 I ok hnd hsz hK hbx hm) ?_
  intro v h' hv
  refine LC_step rfl rfl rfl (LC_nil (TC_ret ?_))
  exact ⟨v, h', hv, .inr rfl, rfl, rfl⟩

theorem min_ints {P : Program} {I : Nat → Option Obj} {ts : Array TypeId} {ty : TypeId} {a b : Int} {h : H} : abi2 P I .min ts ty [.int .i64 a, .int .i64 b] h = some (.int .i64 (if b < a then b else a), h) := by
  unfold abi2 abi
  simp only [flatL, flat, Bool.and_self, if_true]
  rfl
theorem U25 : Try.prog.underlying 25 = some (.slice 2) := by kernel_rfl
theorem m7sz2 : tsz Try.prog 2 = some 1 := by kernel_rfl
theorem m7tg2 : tagg Try.prog 2 = some false := by kernel_rfl
theorem len_25 {I : Nat → Option Obj} {ty : TypeId} {p : Option Addr} {n c : Nat} {h : H} : abi2 Try.prog I .len #[25] ty [.slice p n c] h = some (.int .i64 n, h) := by
  unfold abi2 abi
  simp [alen, U25]
theorem idx_25 {id off n c : Nat} {k : IntKind} {i : Int} : aindex Try.prog 25 (.slice (some ⟨id, off, none⟩) n c) (.int k i) = if 0 ≤ i ∧ i < n then some (.pointer (some ⟨id, off + i.toNat, none⟩)) else none := by
  simp only [aindex, U25, m7sz2, Option.map_some, Nat.mul_one]
theorem ld_2 {I : Nat → Option Obj} {id off : Nat} {h : H} {v : Value} (hr : rdl I h id off 1 = some [v]) : aload Try.prog I 2 (.pointer (some ⟨id, off, none⟩)) h = some v := by
  simp only [aload, m7tg2, hr]

def minI (a b : Int) : Int := if b < a then b else a
def imin (l : List Int) : Int := match l with | [] => 0 | a :: l => l.foldl minI a
theorem imin_snoc {l : List Int} (hne : l ≠ []) (b : Int) : imin (l ++ [b]) = minI (imin l) b := by
  cases l with
  | nil => exact absurd rfl hne
  | cons a l => simp [imin, List.foldl_append]
theorem imin_take {zs : List Int} {i : Nat} (h0 : 0 < i) (hi : i < zs.length) : minI (imin (zs.take i)) (zs[i]) = imin (zs.take (i + 1)) := by
  rw [List.take_succ_eq_append_getElem hi, imin_snoc]
  intro e
  have h2 : (zs.take i).length = i := by rw [List.length_take]; omega
  rw [e] at h2
  simp at h2; omega

theorem wrap_nat {n : Nat} (h : n < 9223372036854775808) : IntKind.i64.wrap ((n : Nat) : Int) = n := wrap_i64 (by omega) (by omega)

set_option maxRecDepth 100000 in
theorem min78 (I : Nat → Option Obj) {h : H} {q : Nat} {zs : List Int} (hne : zs ≠ []) (hsz : zs.length ≤ 1000) (hrd : ∀ i (hi : i < zs.length), rdl I h q i 1 = some [.int .i64 zs[i]]) :
    Snd Try.prog I (.func 78) [.slice (some ⟨q, 0, none⟩) zs.length UNK] h (.int .i64 (imin zs)) h := by
  have hname : Try.f78.name ≠ "runtime.NumGoroutine" := by
    have : (Try.f78.name == "runtime.NumGoroutine") = false := by kernel_rfl
    simpa using this
  refine Snd_of Try.func78 rfl hname ?_
  rw [Try.ntmps78]
  show TC _ _ _ _ (finR Try.prog I [.tmp 2] _ _) _
  have hlen0 : 0 < zs.length := List.length_pos_iff.2 hne
  have hlt1 : ¬ ((zs.length : Int) < 1) := by omega
  have h01 : (0 : Int) ≤ 0 ∧ (0 : Int) < (zs.length : Int) := ⟨by omega, by omega⟩
  have hr0 := ld_2 (hrd 0 hlen0)
  have ht0 : imin (zs.take 1) = zs[0]'hlen0 := by
    clear hr0 h01 hlt1
    cases zs with
    | nil => exact absurd rfl hne
    | cons a l => rfl
  refine TC_seq (Run_TC (by kernel_rfl) (n := 100) ?_)
  simp -implicitDefEqProofs only [Run_seq, Run_region, Run_ops_nil, Run_ret, Run_skip, Run_label, Run_exit, Run_endB, Run_block, Run_cond, Run_guard, Run_opcall, RunX_some, RunX_none, RunB_true, RunB_false, RunS_some, RunG_tt, RunG_ff, RunG_tf, RunG_ft, RunG_none,
      Rn_move, Rn_assign, Rn_pick, Rn_alloc, Rn_box, Rn_build, Rn_buildSlice, Rn_load, Rn_store, Rn_nilCheck, Rn_binOp, Rn_unOp, Rn_convert, Rn_makeFunc, Rn_makeSlice, Rn_slice, Rn_fieldAddr, Rn_field, Rn_indexAddr, Rn_index, Rn_extract, Rn_builtin,
      pickV_true, pickV_false, pickV_bool, liftV_some, storeV_some, nilV_ptr, sliceV_some, extV_tuple, putT_some, putT_none, ev_tmp, ev_const, ev_func, fin_ret, fin_normal, leave_nil, aresL_nil, aresL_tmp, aresL_cell, one_one, one_two, one_three,
      bin_add, bin_sub, bin_mul, bin_lss, bin_leq, bin_gtr, bin_geq, bin_eql, bin_neq, un_not, un_neg,
      List.length_cons, List.length_nil, Nat.reduceAdd, Nat.reduceSub, List.replicate_succ, List.replicate_zero, List.cons_append, List.nil_append, List.set_cons_succ, List.set_cons_zero,
      List.getD_cons_succ, List.getD_cons_zero, List.getElem?_cons_succ, List.getElem?_cons_zero, Option.map_some, Option.bind_some, yieldL, popK, if_true, decide_true, decide_false, Bool.not_true, Bool.not_false, flat, and_self, Run_nil, thenQ]
  refine TC_seq (TC_seq (Run_TC (by kernel_rfl) (n := 100) ?_))
  simp -implicitDefEqProofs only [Run_seq, Run_region, Run_ops_nil, Run_ret, Run_skip, Run_label, Run_exit, Run_endB, Run_block, Run_cond, Run_guard, Run_opcall, RunX_some, RunX_none, RunB_true, RunB_false, RunS_some, RunG_tt, RunG_ff, RunG_tf, RunG_ft, RunG_none,
      Rn_move, Rn_assign, Rn_pick, Rn_alloc, Rn_box, Rn_build, Rn_buildSlice, Rn_load, Rn_store, Rn_nilCheck, Rn_binOp, Rn_unOp, Rn_convert, Rn_makeFunc, Rn_makeSlice, Rn_slice, Rn_fieldAddr, Rn_field, Rn_indexAddr, Rn_index, Rn_extract, Rn_builtin,
      pickV_true, pickV_false, pickV_bool, liftV_some, storeV_some, nilV_ptr, sliceV_some, extV_tuple, putT_some, putT_none, ev_tmp, ev_const, ev_func, fin_ret, fin_normal, leave_nil, aresL_nil, aresL_tmp, aresL_cell, one_one, one_two, one_three,
      bin_add, bin_sub, bin_mul, bin_lss, bin_leq, bin_gtr, bin_geq, bin_eql, bin_neq, un_not, un_neg,
      List.length_cons, List.length_nil, Nat.reduceAdd, Nat.reduceSub, List.replicate_succ, List.replicate_zero, List.cons_append, List.nil_append, List.set_cons_succ, List.set_cons_zero,
      List.getD_cons_succ, List.getD_cons_zero, List.getElem?_cons_succ, List.getElem?_cons_zero, Option.map_some, Option.bind_some, yieldL, popK, if_true, decide_true, decide_false, Bool.not_true, Bool.not_false, flat, and_self, Run_nil, thenQ, List.map_toArray, List.map_cons, List.map_nil, len_25, hlt1]
  refine TC_cond (b := false) rfl rfl (by intro h; cases h) fun _ => TC_skip ?_
  refine Run_TC (by kernel_rfl) (n := 100) ?_
  simp -implicitDefEqProofs only [Run_seq, Run_region, Run_ops_nil, Run_ret, Run_skip, Run_label, Run_exit, Run_endB, Run_block, Run_cond, Run_guard, Run_opcall, RunX_some, RunX_none, RunB_true, RunB_false, RunS_some, RunG_tt, RunG_ff, RunG_tf, RunG_ft, RunG_none,
      Rn_move, Rn_assign, Rn_pick, Rn_alloc, Rn_box, Rn_build, Rn_buildSlice, Rn_load, Rn_store, Rn_nilCheck, Rn_binOp, Rn_unOp, Rn_convert, Rn_makeFunc, Rn_makeSlice, Rn_slice, Rn_fieldAddr, Rn_field, Rn_indexAddr, Rn_index, Rn_extract, Rn_builtin,
      pickV_true, pickV_false, pickV_bool, liftV_some, storeV_some, nilV_ptr, sliceV_some, extV_tuple, putT_some, putT_none, ev_tmp, ev_const, ev_func, fin_ret, fin_normal, leave_nil, aresL_nil, aresL_tmp, aresL_cell, one_one, one_two, one_three,
      bin_add, bin_sub, bin_mul, bin_lss, bin_leq, bin_gtr, bin_geq, bin_eql, bin_neq, un_not, un_neg,
      List.length_cons, List.length_nil, Nat.reduceAdd, Nat.reduceSub, List.replicate_succ, List.replicate_zero, List.cons_append, List.nil_append, List.set_cons_succ, List.set_cons_zero,
      List.getD_cons_succ, List.getD_cons_zero, List.getElem?_cons_succ, List.getElem?_cons_zero, Option.map_some, Option.bind_some, yieldL, popK, if_true, decide_true, decide_false, Bool.not_true, Bool.not_false, flat, and_self, and_true, List.map_toArray, List.map_cons, List.map_nil, len_25, hlt1, idx_25, h01, if_true, Int.toNat_zero, Nat.add_zero, hr0, Run_loop]
  refine Loop_run (by kernel_rfl) 100 (fun s => s.df = [] ∧ s.h = h ∧ s.tm.length = 25 ∧ s.tm.getD 0 undef = .slice (some ⟨q, 0, none⟩) zs.length UNK ∧ ∃ i : Nat, 0 < i ∧ i ≤ zs.length ∧ s.tm.getD 4 undef = .int .i64 i ∧ s.tm.getD 3 undef = .int .i64 (imin (zs.take i)))
    (fun s => match s.tm.getD 4 undef with | .int _ i => zs.length - i.toNat | _ => 0) ?_ ?_
  · exact ⟨rfl, rfl, rfl, rfl, 1, by omega, by omega, rfl, by rw [ht0]; rfl⟩
  rintro ⟨tm, df, hh⟩ ⟨hdf, hh', hl, h0, i, hi0, hi1, h4, h3⟩
  simp only at hdf hh' hl h0 h4 h3
  subst hdf; subst hh'
  match tm, hl, h0, h3, h4 with
  | [x0, x1, x2, x3, x4, x5, x6, x7, x8, x9, x10, x11, x12, x13, x14, x15, x16, x17, x18, x19, x20, x21, x22, x23, x24], _, h0, h3, h4 =>
  simp only [List.getD_cons_zero, List.getD_cons_succ] at h0 h3 h4
  subst h0; subst h3; subst h4
  by_cases hil : i < zs.length
  · have hil' : (i : Int) < (zs.length : Int) := by omega
    have hi2 : (0 : Int) ≤ (i : Int) ∧ (i : Int) < (zs.length : Int) := ⟨by omega, hil'⟩
    have hr := ld_2 (hrd i hil)
    have hw : IntKind.i64.wrap ((i : Int) + 1) = ((i + 1 : Nat) : Int) := by rw [wrap_i64 (by omega) (by omega)]; simp
    simp -implicitDefEqProofs only [Run_seq, Run_region, Run_ops_nil, Run_ret, Run_skip, Run_label, Run_exit, Run_endB, Run_block, Run_cond, Run_guard, Run_opcall, RunX_some, RunX_none, RunB_true, RunB_false, RunS_some, RunG_tt, RunG_ff, RunG_tf, RunG_ft, RunG_none,
      Rn_move, Rn_assign, Rn_pick, Rn_alloc, Rn_box, Rn_build, Rn_buildSlice, Rn_load, Rn_store, Rn_nilCheck, Rn_binOp, Rn_unOp, Rn_convert, Rn_makeFunc, Rn_makeSlice, Rn_slice, Rn_fieldAddr, Rn_field, Rn_indexAddr, Rn_index, Rn_extract, Rn_builtin,
      pickV_true, pickV_false, pickV_bool, liftV_some, storeV_some, nilV_ptr, sliceV_some, extV_tuple, putT_some, putT_none, ev_tmp, ev_const, ev_func, fin_ret, fin_normal, leave_nil, aresL_nil, aresL_tmp, aresL_cell, one_one, one_two, one_three,
      bin_add, bin_sub, bin_mul, bin_lss, bin_leq, bin_gtr, bin_geq, bin_eql, bin_neq, un_not, un_neg,
      List.length_cons, List.length_nil, Nat.reduceAdd, Nat.reduceSub, List.replicate_succ, List.replicate_zero, List.cons_append, List.nil_append, List.set_cons_succ, List.set_cons_zero,
      List.getD_cons_succ, List.getD_cons_zero, List.getElem?_cons_succ, List.getElem?_cons_zero, Option.map_some, Option.bind_some, yieldL, popK, if_true, decide_true, decide_false, Bool.not_true, Bool.not_false, flat, and_self, and_true, List.map_toArray, List.map_cons, List.map_nil, len_25, hil', idx_25, hi2, if_true, Int.toNat_natCast, Nat.zero_add, hr, min_ints, hw, Run_nil, thenQ]
    refine ⟨⟨by trivial, by trivial, by trivial, by trivial, i + 1, by omega, by omega, by first | rfl | trivial, ?_⟩, ?_⟩
    · show Value.int .i64 (minI (imin (zs.take i)) zs[i]) = _
      rw [imin_take hi0 hil]
    · show zs.length - ((i + 1 : Nat) : Int).toNat < zs.length - (i : Int).toNat
      omega
  · have hil' : ¬ (i : Int) < (zs.length : Int) := by omega
    simp -implicitDefEqProofs only [Run_seq, Run_region, Run_ops_nil, Run_ret, Run_skip, Run_label, Run_exit, Run_endB, Run_block, Run_cond, Run_guard, Run_opcall, RunX_some, RunX_none, RunB_true, RunB_false, RunS_some, RunG_tt, RunG_ff, RunG_tf, RunG_ft, RunG_none,
      Rn_move, Rn_assign, Rn_pick, Rn_alloc, Rn_box, Rn_build, Rn_buildSlice, Rn_load, Rn_store, Rn_nilCheck, Rn_binOp, Rn_unOp, Rn_convert, Rn_makeFunc, Rn_makeSlice, Rn_slice, Rn_fieldAddr, Rn_field, Rn_indexAddr, Rn_index, Rn_extract, Rn_builtin,
      pickV_true, pickV_false, pickV_bool, liftV_some, storeV_some, nilV_ptr, sliceV_some, extV_tuple, putT_some, putT_none, ev_tmp, ev_const, ev_func, fin_ret, fin_normal, leave_nil, aresL_nil, aresL_tmp, aresL_cell, one_one, one_two, one_three,
      bin_add, bin_sub, bin_mul, bin_lss, bin_leq, bin_gtr, bin_geq, bin_eql, bin_neq, un_not, un_neg,
      List.length_cons, List.length_nil, Nat.reduceAdd, Nat.reduceSub, List.replicate_succ, List.replicate_zero, List.cons_append, List.nil_append, List.set_cons_succ, List.set_cons_zero,
      List.getD_cons_succ, List.getD_cons_zero, List.getElem?_cons_succ, List.getElem?_cons_zero, Option.map_some, Option.bind_some, yieldL, popK, if_true, decide_true, decide_false, Bool.not_true, Bool.not_false, flat, and_self, and_true, List.map_toArray, List.map_cons, List.map_nil, len_25, hil', thenQ, ContK]
    have : i = zs.length := by omega
    subst this
    rw [List.take_length]
    exact ⟨trivial, rfl⟩
end Go.Proofs.Ytcocmbccfikmhaa
set_option linter.unusedSimpArgs false
set_option linter.unusedVariables false
namespace Go.Proofs.Ytcocmbccfikmhaa
open Go.Sym
set_option maxRecDepth 100000 in
theorem keys80 (I : Nat → Option Obj) (h : H) (m : Nat) : Snd Try.prog I (.func 80) [.map (some m)] h (.func (.func 83) #[] #[.pointer (some ⟨h.new, 0, none⟩)]) (h ++ [.cells [.map (some m)] 118]) := by
  refine Snd_run (rs := [.tmp 2]) 100 Try.func80 (by kernel_rfl) rfl Try.ntmps80 rfl ?_
  simp -implicitDefEqProofs only [Run_seq, Run_region, Run_ops_nil, Run_ret, Run_skip, Run_label, Run_exit, Run_endB, Run_block, Run_cond, Run_guard, Run_opcall, RunX_some, RunX_none, RunB_true, RunB_false, RunS_some, RunG_tt, RunG_ff, RunG_tf, RunG_ft, RunG_none,
      Rn_move, Rn_assign, Rn_pick, Rn_alloc, Rn_box, Rn_build, Rn_buildSlice, Rn_load, Rn_store, Rn_nilCheck, Rn_binOp, Rn_unOp, Rn_convert, Rn_makeFunc, Rn_makeSlice, Rn_slice, Rn_fieldAddr, Rn_field, Rn_indexAddr, Rn_index, Rn_extract, Rn_builtin,
      pickV_true, pickV_false, pickV_bool, liftV_some, storeV_some, nilV_ptr, sliceV_some, extV_tuple, putT_some, putT_none, ev_tmp, ev_const, ev_func, fin_ret, fin_normal, leave_nil, aresL_nil, aresL_tmp, aresL_cell, one_one, one_two, one_three,
      bin_add, bin_sub, bin_mul, bin_lss, bin_leq, bin_gtr, bin_geq, bin_eql, bin_neq, un_not, un_neg,
      List.length_cons, List.length_nil, Nat.reduceAdd, Nat.reduceSub, List.replicate_succ, List.replicate_zero, List.cons_append, List.nil_append, List.set_cons_succ, List.set_cons_zero,
      List.getD_cons_succ, List.getD_cons_zero, List.getElem?_cons_succ, List.getElem?_cons_zero, Option.map_some, Option.bind_some, yieldL, popK, if_true, decide_true, decide_false, Bool.not_true, Bool.not_false, flat, and_self, List.map_toArray, List.map_cons, List.map_nil, nptr, Value.cells, and_true]

theorem imin_le : ∀ (l : List Int) (a : Int), l.foldl minI a ≤ a ∧ ∀ x ∈ l, l.foldl minI a ≤ x
  | [], a => ⟨Int.le_refl _, by simp⟩
  | b :: l, a => by
    obtain ⟨h1, h2⟩ := imin_le l (minI a b)
    have hm : minI a b ≤ a ∧ minI a b ≤ b := by unfold minI; split <;> omega
    refine ⟨Int.le_trans h1 hm.1, fun x hx => ?_⟩
    rcases List.mem_cons.1 hx with rfl | hx
    · exact Int.le_trans h1 hm.2
    · exact h2 x hx
theorem imin_mem : ∀ (l : List Int) (a : Int), l.foldl minI a = a ∨ l.foldl minI a ∈ l
  | [], a => .inl rfl
  | b :: l, a => by
    rcases imin_mem l (minI a b) with h | h
    · have hm : minI a b = a ∨ minI a b = b := by unfold minI; split <;> simp
      rcases hm with hm | hm
      · left; show l.foldl minI (minI a b) = a; rw [h, hm]
      · right; show l.foldl minI (minI a b) ∈ _; rw [h, hm]; simp
    · right; exact List.mem_cons_of_mem _ h
theorem imin_spec {l : List Int} (hne : l ≠ []) : imin l ∈ l ∧ ∀ x ∈ l, imin l ≤ x := by
  cases l with
  | nil => exact absurd rfl hne
  | cons a l =>
    obtain ⟨h1, h2⟩ := imin_le l a
    refine ⟨?_, ?_⟩
    · rcases imin_mem l a with h | h
      · show l.foldl minI a ∈ _; rw [h]; simp
      · exact List.mem_cons_of_mem _ h
    · intro x hx
      rcases List.mem_cons.1 hx with rfl | hx
      · exact h1
      · exact h2 x hx
theorem imin_perm {l m : List Int} (hne : l ≠ []) (p : l.Perm m) : imin l = imin m := by
  have hne' : m ≠ [] := by rintro rfl; exact hne p.eq_nil
  obtain ⟨a1, a2⟩ := imin_spec hne
  obtain ⟨b1, b2⟩ := imin_spec hne'
  exact Int.le_antisymm (a2 _ (p.mem_iff.2 b1)) (b2 _ (p.mem_iff.1 a1))

def intOf : Value → Int | .int _ n => n | _ => 0
theorem perm_ints {ks : List Value} {zs : List Int} (p : ks.Perm (zs.map (.int .i64 ·))) : ∃ zs' : List Int, zs'.Perm zs ∧ ks = zs'.map (.int .i64 ·) := by
  refine ⟨ks.map intOf, ?_, ?_⟩
  · have := p.map intOf
    rw [List.map_map] at this
    have e : (intOf ∘ fun x => Value.int .i64 x) = id := by funext x; rfl
    rw [e, List.map_id] at this
    exact this
  · rw [List.map_map]
    have hk : ∀ k ∈ ks, ((fun x => Value.int .i64 x) ∘ intOf) k = id k := by
      intro k hk
      obtain ⟨n, _, rfl⟩ := List.mem_map.1 (p.mem_iff.1 hk)
      rfl
    rw [List.map_congr_left hk, List.map_id]

def killN : Nat → Nat → H → H
  | _, 0, h => h
  | b, k + 1, h => killN (b + 1) k (h.put (2 * b) .dead)
theorem LC_killN {P : Program} {I : Nat → Option Obj} {ops : Array Oper} {ro : Option Nat} {l : List Oper} {tm : List Value} {df : List Nat} {Q : Exit → St → Prop} : ∀ (k b : Nat) (h : H), LC P I ops ro l tm df (killN b k h) Q → LC P I ops ro l tm df h Q
  | 0, b, h, hr => hr
  | k + 1, b, h, hr => LC_kill (2 * b) (LC_killN k (b + 1) _ hr)
theorem killN_get : ∀ (k b : Nat) (h : H) (i : Nat), b + k ≤ h.length → (killN b k h)[i]? = if b ≤ i ∧ i < b + k then some .dead else h[i]?
  | 0, b, h, i, _ => by simp only [killN]; rw [if_neg (by omega)]
  | k + 1, b, h, i, hb => by
    have hp : h.put (2 * b) .dead = h.set b .dead := by
      unfold H.put; rw [if_pos (by omega)]; congr 1; omega
    simp only [killN]
    rw [hp, killN_get k (b + 1) _ i (by simp; omega)]
    by_cases hi : i = b
    · subst hi
      rw [if_neg (by omega), if_pos (by omega), List.getElem?_set_self (by omega)]
    · rw [List.getElem?_set_ne (by omega)]
      by_cases h2 : b + 1 ≤ i ∧ i < b + 1 + k
      · rw [if_pos h2, if_pos (by omega)]
      · rw [if_neg h2, if_neg (by omega)]
theorem get_list {h h2 : H} (hs : ∀ id, id < h.new → h2.get id = h.get id) {i : Nat} (hi : i < h.length) : h2[i]? = h[i]? := by
  have := hs (2 * i) (by unfold H.new; omega)
  unfold H.get at this
  rw [if_pos (by omega), if_pos (by omega)] at this
  have e : 2 * i / 2 = i := by omega
  rw [e] at this; exact this
theorem killN_all {h h2 : H} {k : Nat} (hl : h2.length = h.length + k) (hs : ∀ id, id < h.new → h2.get id = h.get id) : killN h.length k h2 = h ++ List.replicate k .dead := by
  apply List.ext_getElem?
  intro i
  rw [killN_get _ _ _ _ (by omega)]
  by_cases h1 : i < h.length
  · rw [if_neg (by omega), List.getElem?_append_left h1, get_list hs h1]
  · rw [List.getElem?_append_right (by omega)]
    by_cases h3 : i < h.length + k
    · rw [if_pos (by omega), List.getElem?_replicate, if_pos (by omega)]
    · rw [if_neg (by omega), List.getElem?_eq_none (by omega), List.getElem?_replicate, if_neg (by omega)]

def nodupB : List Nat → Bool
  | [] => true
  | a :: l => l.all (fun b => !(Nat.beq a b)) && nodupB l
theorem nodupB_nd : ∀ {l : List Nat}, nodupB l = true → l.Nodup
  | [], _ => List.nodup_nil
  | a :: l, h => by
    simp only [nodupB, Bool.and_eq_true, List.all_eq_true, Bool.not_eq_true'] at h
    refine List.nodup_cons.2 ⟨fun hm => ?_, nodupB_nd h.2⟩
    have := h.1 a hm
    simp at this

def keyInts : List MapEntry → Option (List Int)
  | [] => some []
  | e :: l => match e.key with | .int .i64 n => (keyInts l).map fun m => n :: m | _ => none
theorem keyInts_map : ∀ {l : List MapEntry} {zs : List Int}, keyInts l = some zs → l.map (·.key) = zs.map (.int .i64 ·)
  | [], zs, h => by cases h; rfl
  | e :: l, zs, h => by
    unfold keyInts at h
    split at h
    · rename_i n hk
      simp only [Option.map_eq_some_iff] at h
      obtain ⟨m, h1, rfl⟩ := h
      simp only [List.map_cons, hk, keyInts_map h1]
    · cases h

def keysOk (es : Array MapEntry) (clock : Nat) : Option (List Int) :=
  match es.toList.all (fun e => Nat.blt e.born clock && flat e.key && flat e.val) && nodupB (es.toList.map (·.born)) && Nat.ble es.toList.length 1000 && Nat.blt 0 es.toList.length with
  | true => keyInts es.toList
  | false => none

theorem keysOk_ok {es : Array MapEntry} {clock : Nat} {zs : List Int} (h : keysOk es clock = some zs) : MapOk es clock ∧ (es.toList.map (·.born)).Nodup ∧ es.size ≤ 1000 ∧ 0 < es.size ∧ (∀ e ∈ es, ∃ n, e.key = .int .i64 n) ∧ es.toList.map (·.key) = zs.map (.int .i64 ·) := by
  unfold keysOk at h
  split at h
  · rename_i hb
    simp only [Bool.and_eq_true, List.all_eq_true] at hb
    obtain ⟨⟨⟨h1, h2⟩, h3⟩, h4⟩ := hb
    have hk := keyInts_map h
    have hnd := nodupB_nd h2
    refine ⟨⟨fun e he => ?_, fun e he e' he' hb => ?_, fun e he => ?_⟩, hnd, by simpa using h3, by simpa using h4, fun e he => ?_, hk⟩
    · have := (h1 e (Array.mem_toList_iff.2 he)).1.1
      simpa using this
    · have he1 := Array.mem_toList_iff.2 he
      have he2 := Array.mem_toList_iff.2 he'
      clear h1 h h3 h4 hk h2
      generalize es.toList = l at hnd he1 he2
      induction l with
      | nil => cases he1
      | cons a l ih =>
        rw [List.map_cons, List.nodup_cons] at hnd
        rcases List.mem_cons.1 he1 with rfl | h1 <;> rcases List.mem_cons.1 he2 with rfl | h2
        · rfl
        · exact absurd (List.mem_map.2 ⟨e', h2, hb.symm⟩) hnd.1
        · exact absurd (List.mem_map.2 ⟨e, h1, hb⟩) hnd.1
        · exact ih hnd.2 h1 h2
    · exact ⟨(h1 e (Array.mem_toList_iff.2 he)).1.2, (h1 e (Array.mem_toList_iff.2 he)).2⟩
    · have : e.key ∈ es.toList.map (·.key) := List.mem_map.2 ⟨e, Array.mem_toList_iff.2 he, rfl⟩
      rw [hk] at this
      obtain ⟨n, _, hn⟩ := List.mem_map.1 this
      exact ⟨n, hn.symm⟩
  · cases h

/-- a call of a function with one temporary -/
def callTo (g : Nat) (o : Oper) : Option (Nat × Nat) :=
  match o.op with
  | .call ⟨.value (.func f), args, _⟩ =>
    match Nat.beq f g, o.dst, o.guard, args.toList with
    | true, some d, none, [.tmp a] => some (d, a)
    | _, _, _, _ => none
  | _ => none
theorem callTo_some {g : Nat} {o : Oper} {d a : Nat} (h : callTo g o = some (d, a)) : o.dst = some d ∧ o.guard = none ∧ okOp o.op = true ∧ ∀ tm, acall tm o.op = some (.func g, [tm.getD a undef]) := by
  unfold callTo at h
  split at h
  · rename_i f args ts hop
    split at h
    · rename_i d' a' h1 h2 h3 h4
      cases h
      have hf : f = g := by simpa using h1
      subst hf
      refine ⟨h2, h3, ?_, fun tm => ?_⟩
      · rw [hop]
        have : args = #[.tmp a] := by rw [← Array.toList_inj, h4]
        subst this; rfl
      · rw [hop]
        simp only [acall, ev, h4, List.map_cons, List.map_nil, List.nil_append, List.append_nil]
    · cases h
  · cases h

def spMin (n : Nat) (l : List Oper) (al : AL) (h : H) : Option (List Oper × AL × H) :=
  match l with
  | o1 :: l1 =>
    match callTo 80 o1 with
    | some (d1, a1) =>
      match l1 with
      | o2 :: o3 :: rest =>
        match callTo 79 o2, callTo 78 o3 with
        | some (d2, a2), some (d3, a3) =>
          match Nat.beq a2 d1 && Nat.beq a3 d2, Sym.look al a1 with
          | true, .map (some m) =>
            match h.get m with
            | some (.obj (.map es clock)) =>
              match keysOk es clock with
              | some zs =>
                match putA n al (some d1) (.func (.func 83) #[] #[.pointer (some ⟨h.new, 0, none⟩)]) with
                | some al1 =>
                  match putA n al1 (some d2) (.slice (some ⟨2 * ((h.length + 1) + 4 + 2 * es.size - 1), 0, none⟩) es.size UNK) with
                  | some al2 =>
                    match putA n al2 (some d3) (.int .i64 (imin zs)) with
                    | some al3 => some (rest, al3, h ++ List.replicate (5 + 2 * es.size) .dead)
                    | none => none
                  | none => none
                | none => none
              | none => none
            | _ => none
          | _, _ => none
        | _, _ => none
      | _ => none
    | none => none
  | [] => none

theorem look_put {n : Nat} {al al' : AL} {d : Nat} {v : Value} (h : putA n al (some d) v = some al') : Sym.look al' d = v := by
  unfold putA at h
  simp only at h
  split at h
  · cases h; simp [Sym.look]
  · cases h

theorem spMin_ok (I : Nat → Option Obj) (n : Nat) (l : List Oper) (al : AL) (h : H) (l' : List Oper) (al' : AL) (h' : H) (hs : spMin n l al h = some (l', al', h')) (tm : List Value) (r : TR n al tm) :
    ∃ tm', TR n al' tm' ∧ ∀ ops ro df Q, LC Try.prog I ops ro l' tm' df h' Q → LC Try.prog I ops ro l tm df h Q := by
  unfold spMin at hs
  split at hs
  rotate_left
  · cases hs
  rename_i o1 l1
  split at hs
  rotate_left
  · cases hs
  rename_i d1 a1 c1
  split at hs
  rotate_left
  · cases hs
  rename_i o2 o3 rest
  split at hs
  rotate_left
  · cases hs
  rename_i d2 a2 d3 a3 c2 c3
  split at hs
  rotate_left
  · cases hs
  rename_i m hd hm
  split at hs
  rotate_left
  · cases hs
  rename_i es clock hg
  split at hs
  rotate_left
  · cases hs
  rename_i zs hk
  split at hs
  rotate_left
  · cases hs
  rename_i al1 p1
  split at hs
  rotate_left
  · cases hs
  rename_i al2 p2
  split at hs
  rotate_left
  · cases hs
  rename_i al3 p3
  cases hs
  obtain ⟨k1, k2, k3, k4, k5, k6⟩ := keysOk_ok hk
  simp only [Bool.and_eq_true, Nat.beq_eq] at hd
  obtain ⟨rfl, rfl⟩ := hd
  have r1 := r.put p1
  have r2 := r1.put p2
  have r3 := r2.put p3
  refine ⟨_, r3, fun ops ro df Q hl => ?_⟩
  obtain ⟨e1, g1, q1, b1⟩ := callTo_some c1
  obtain ⟨e2, g2, q2, b2⟩ := callTo_some c2
  obtain ⟨e3, g3, q3, b3⟩ := callTo_some c3
  have hw : ∀ (o : Oper) tm, o.guard = none → Region.wanted o (ayield ops tm) = true := by
    intro o tm hg; simp [Region.wanted, hg]
  refine LC_call q1 (hw _ _ g1) (b1 _) (by rw [r.get, hm]; exact keys80 I h m) ?_
  rw [e1]
  refine LC_callQ q2 (hw _ _ g2) (b2 _) (by rw [r1.get, look_put p1]; exact collect79 I k1 k2 k3 k5 (H.get_new h _) (H.get_append hg _)) ?_
  rintro v h2 ⟨ks, hperm, hlen, hold, rfl, hrow⟩
  have hlen1 : (h ++ [Blk.cells [.map (some m)] 118] : H).length = h.length + 1 := by simp
  rw [hlen1] at hlen hrow
  have hn0 : es.size ≠ 0 := by omega
  have hsl : slOf (2 * ((h ++ [Blk.cells [.map (some m)] 118] : H).length + 4 + 2 * es.size - 1)) es.size = .slice (some ⟨2 * ((h.length + 1) + 4 + 2 * es.size - 1), 0, none⟩) es.size UNK := by
    rw [hlen1]; unfold slOf; rw [if_neg hn0]
  rw [hsl, e2]
  rw [k6] at hperm
  obtain ⟨zs', hz, rfl⟩ := perm_ints hperm
  have hzl : zs'.length = es.size := by
    rw [hz.length_eq]
    have := congrArg List.length k6
    simpa using this.symm
  have hrow := hrow hn0
  have hne : zs' ≠ [] := by rintro rfl; simp at hzl; omega
  have hmin := min78 I (h := h2) (q := 2 * ((h.length + 1) + 4 + 2 * es.size - 1)) (zs := zs') hne (by omega) (fun i hi => by
    have hid := (H.get_lt hrow).2
    unfold H.get at hrow
    rw [if_pos hid] at hrow
    unfold rdl
    rw [if_pos hid, hrow]
    simp only
    rw [if_pos (by simp; omega), List.drop_eq_getElem_cons (by simpa using hi)]
    simp)
  rw [hzl, imin_perm hne hz] at hmin
  refine LC_call q3 (hw _ _ g3) (b3 _) (by rw [r2.get, look_put p2]; exact hmin) ?_
  rw [e3]
  refine LC_killN (5 + 2 * es.size) h.length h2 ?_
  rw [killN_all (by omega) (fun id hid => ?_)]
  · exact hl
  · rw [hold id (by unfold H.new at hid ⊢; omega)]
    unfold H.get
    split
    · rw [List.getElem?_append_left (by unfold H.new at hid; omega)]
    · rfl
end Go.Proofs.Ytcocmbccfikmhaa
