/- What came in at this seat: tanks, numbers. (own texts put together: C24) -/
import Derived.Test.YtcocmbccfikmhaaM14
import Derived.Test.YtcocmbccfikmhaaM5
import Derived.WalkKit
import Derived.ProofKit
import Derived.OpenShut
import Derived.ShutString
import Derived.ChangeOld
import Derived.Below
import Derived.Lib.SmallJoins
set_option linter.unusedSimpArgs false
set_option linter.unusedVariables false
set_option maxRecDepth 100000
namespace Go.Proofs.Ytcocmbccfikmhaa
open Go.Sym Go.ChangeShapes Go.WideShapes Go.Deep
theorem un64 : Try.prog.underlying 64 = some (.struct #[⟨"Dip", 2, 0, false, "", "", 0⟩, ⟨"Litres", 34, 1, false, "", "", 8⟩]) := by kernel_rfl
theorem un24 : Try.prog.underlying 24 = some (.struct #[⟨"Rows", 22, 0, false, "", "", 0⟩, ⟨"Probe", 2, 1, false, "", "", 24⟩]) := by kernel_rfl
theorem co2 : Try.prog.cellsOf 2 = 1 := by kernel_rfl
theorem co34 : Try.prog.cellsOf 34 = 2 := by kernel_rfl
theorem co64 : Try.prog.cellsOf 64 = 3 := by kernel_rfl
theorem co24 : Try.prog.cellsOf 24 = 2 := by kernel_rfl
theorem co22 : Try.prog.cellsOf 22 = 1 := by kernel_rfl
theorem has_block {W : World} {r : Reach} {bs : Nat} {a : Addr} {e : TypeId} {n : Nat} (h : W.has Try.prog r bs a e n) : a.spot = none ∧ ∃ o, W.heap[a.block]? = some o := by
  obtain ⟨_, hs, row, cells, hsh, _⟩ := h
  refine ⟨hs, ?_⟩
  unfold World.shape? at hsh
  split at hsh
  · rename_i c e' fz hb; exact ⟨_, hb⟩
  · cases hsh
theorem slice_has {W : World} {r : Reach} {bs : Nat} {t e : TypeId} {a : Addr} {len cap : Nat} (ht : Try.prog.underlying t = some (.slice e)) (h : Cell.okWide Try.prog W r bs t (.slice (some a) len cap)) : a.spot = none ∧ ∃ o, W.heap[a.block]? = some o := by
  simp only [Cell.okWide, ht, Cell.ok] at h
  exact has_block h.2.2
theorem maxUnk {cap : Nat} (h : cap ≤ maxLen) : cap < UNK := by
  unfold maxLen at h; unfold UNK; omega
theorem row_ints {H : Type} {enc : TypeId × Value → H} {W : World} {base : Nat} {sp : Nat → Bool} {fuel : Nat} {cs : List Value} {x : DataW H × List MemPlace} (hl : cs.length = 3) (h : DataW.trod enc Try.prog W base sp true fuel 64 cs = some x) :
    ∃ d l u : Int, cs = [.int .i64 d, .int .i64 l, .int .i64 u] := by
  match cs, hl with
  | [c0, c1, c2], _ =>
    obtain ⟨y0, y1, n, _, _, h0, h1⟩ := trod_struct2 un64 h
    simp only [co2, co34, List.drop_zero, List.take_succ_cons, List.take_zero, List.drop_succ_cons] at h0 h1
    obtain ⟨d, e0, _, _⟩ := DataW.trod_int un2 h0
    obtain ⟨z0, z1, n2, _, _, g0, g1⟩ := trod_struct2 un34 h1
    simp only [co2, List.drop_zero, List.take_succ_cons, List.take_zero, List.drop_succ_cons] at g0 g1
    obtain ⟨l, e1, _, _⟩ := DataW.trod_int un2 g0
    obtain ⟨u, e2, _, _⟩ := DataW.trod_int un2 g1
    simp only [List.cons.injEq, and_true] at e0 e1 e2
    exact ⟨d, l, u, by rw [e0, e1, e2]⟩
theorem rows_in {H : Type} {enc : TypeId × Value → H} {W : World} {r : Reach} {bs : Nat} {v : Value} {fuel : Nat} {x : DataW H × List MemPlace} (h : DataW.trod enc Try.prog W 0 (fun _ => true) true fuel 22 [v] = some x) (hok : Cell.okWide Try.prog W r bs 22 v) :
    ∃ (av : Value) (n : Nat) (D L U : Nat → Int), Rows (inI W) av n D L U ∧ (∀ N, closedV (okN N) av = true) ∧ conc (inE W) av = some v := by
  rcases open_slice un22 h with ⟨hcs, _⟩ | ⟨a, len, cap, m, k, Dd, Pl, hcs, _, hl, hm, hmm, _, hx⟩
  · simp only [List.cons.injEq, and_true] at hcs
    subst hcs
    exact ⟨.slice none 0 0, 0, fun _ => 0, fun _ => 0, fun _ => 0, ⟨none, 0, rfl, by omega, fun h => by omega⟩, fun N => rfl, rfl⟩
  · simp only [List.cons.injEq, and_true] at hcs
    subst hcs
    obtain ⟨hs, o, hb⟩ := slice_has un22 hok
    have hcap := maxUnk hm
    obtain ⟨b, off, s⟩ := a
    simp only at hs hb
    subst hs
    simp only [if_true] at hmm
    have hrow : ∀ i, i < len → ∃ t : Int × Int × Int, W.cells? 0 ⟨b, off + i * 3, none⟩ 3 = some [.int .i64 t.1, .int .i64 t.2.1, .int .i64 t.2.2] := by
      intro i hi
      obtain ⟨cs', h1, h2⟩ := hx i (by omega)
      rw [co64] at h1
      obtain ⟨d, l, u, rfl⟩ := row_ints (World.cells?_some h1).2.1 h2
      rw [add_off] at h1
      exact ⟨(d, l, u), h1⟩
    obtain ⟨T, hT⟩ := choose_lt hrow
    refine ⟨.slice (some ⟨2 * b + 1, off, none⟩) len cap, len, fun i => (T i).1, fun i => (T i).2.1, fun i => (T i).2.2, ⟨_, _, rfl, by unfold maxLen at hm; omega, fun _ => ⟨_, _, rfl, fun hh i hi => ?_⟩⟩, fun N => ?_, conc_slice_in (a := ⟨b, off, none⟩) rfl hb hcap⟩
    · exact rdl_in (by omega) (hT i hi) (fun v hv => by
        simp only [List.mem_cons, List.not_mem_nil, or_false] at hv
        rcases hv with rfl | rfl | rfl <;> exact ⟨_, _, rfl⟩)
    · simp [closedV, okN]
theorem sees_in {H : Type} {enc : TypeId × Value → H} {W : World} {r : Reach} {bs : Nat} {v : Value} {d : DataW H} {p : List MemPlace} (h : DataW.Trod enc Try.prog W 0 (fun _ => true) true 25 v d p) (hok : Value.okWide Try.prog W r bs 25 v) :
    ∃ (av : Value) (n : Nat) (x : Nat → Int), (∀ h, Sees (inI W) h av n x) ∧ (∀ N, closedV (okN N) av = true) ∧ conc (inE W) av = some v := by
  have hok' : Cell.okWide Try.prog W r bs 25 v := by
    unfold Value.okWide at hok; rw [un25] at hok; exact hok
  obtain ⟨a0, len0, cap0, rfl⟩ := okWide_slice un25 hok
  obtain ⟨fuel, hf⟩ := h
  rcases open_slice1 un25 co2 hf with ⟨hcs, _⟩ | ⟨a, len, cap, m, k, V, Dd, Pl, hcs, _, hl, hm, hmm, _, hx⟩
  · simp [Value.cells] at hcs
    obtain ⟨rfl, rfl, rfl⟩ := hcs
    exact ⟨.slice none 0 0, 0, fun _ => 0, fun h => Sees.nil, fun N => rfl, rfl⟩
  · simp [Value.cells] at hcs
    obtain ⟨rfl, rfl, rfl⟩ := hcs
    obtain ⟨hs, o, hb⟩ := slice_has un25 hok'
    have hcap := maxUnk hm
    obtain ⟨b, off, s⟩ := a
    simp only at hs hb
    subst hs
    simp only [if_true] at hmm
    have hnum : ∀ i, i < len0 → ∃ t : Int, W.cell? ⟨b, off + i, none⟩ = some (.int .i64 t) := by
      intro i hi
      obtain ⟨h1, h2⟩ := hx i (by omega)
      obtain ⟨t, e, _, _⟩ := DataW.trod_int un2 h2
      simp only [List.cons.injEq, and_true] at e
      rw [add_off, e] at h1
      exact ⟨t, h1⟩
    obtain ⟨T, hT⟩ := choose_lt hnum
    refine ⟨.slice (some ⟨2 * b + 1, off, none⟩) len0 cap0, len0, T, fun hh => ⟨_, _, rfl, by unfold maxLen at hm; omega, fun _ => ⟨_, _, rfl, fun i hi => ?_⟩⟩, fun N => ?_, conc_slice_in (a := ⟨b, off, none⟩) rfl hb hcap⟩
    · refine rdl_in (base := 0) (by omega) (cs := [.int .i64 (T i)]) ?_ (fun v hv => by
        simp only [List.mem_cons, List.not_mem_nil, or_false] at hv
        subst hv; exact ⟨_, _, rfl⟩)
      unfold World.cells?
      rw [if_pos (Nat.zero_le _)]
      simp [List.range_succ, add_off, hT i hi]
    · simp [closedV, okN]
theorem tank_in {H : Type} {enc : TypeId × Value → H} {W : World} {r : Reach} {bs : Nat} {v : Value} {d : DataW H} {p : List MemPlace} (h : DataW.Trod enc Try.prog W 0 (fun _ => true) true 24 v d p) (hok : Value.okWide Try.prog W r bs 24 v) :
    ∃ (av : Value) (n : Nat) (D L U : Nat → Int) (pr : Int), Rows (inI W) av n D L U ∧ (∀ N, closedV (okN N) av = true) ∧ conc (inE W) (.agg #[av, .int .i64 pr]) = some v := by
  obtain ⟨v0, v1, y0, y1, k, rfl, _, _, h0, h1⟩ := Go.Joins.open_agg2 un24 (by kernel_rfl) co24 hok h
  obtain ⟨pr, e, _, _⟩ := DataW.trod_int un2 h1
  simp only [List.cons.injEq, and_true] at e
  subst e
  have hc : Cell.okWide Try.prog W r bs 22 v0 := by
    unfold Value.okWide at hok
    rw [un24] at hok
    obtain ⟨cs, hcs, _, ts, hts, _, hall⟩ := hok
    have ht : Try.prog.cellTypes Try.prog.depth 24 = some [22, 2] := by kernel_rfl
    rw [ht] at hts
    cases hts
    cases hcs
    obtain ⟨u, hu, hc⟩ := hall 0 v0 rfl
    simp at hu
    subst hu
    exact hc
  obtain ⟨av, n, D, L, U, g1, g2, g3⟩ := rows_in h0 hc
  refine ⟨av, n, D, L, U, pr, g1, g2, ?_⟩
  simp only [conc, concA, concL, g3, Option.bind_some, Option.map_some]
end Go.Proofs.Ytcocmbccfikmhaa
