/- What came in at this seat: lists, tests, sections. (own texts put together: D14) -/
import Derived.Test.YtpgignenhiddkaaM12
import Derived.Test.YtpgignenhiddkaaM5
import Derived.WalkKit
import Derived.ProofKit
import Derived.OpenShut
import Derived.ShutString
import Derived.ChangeOld
import Derived.Below
import Derived.Lib.SmallJoins
set_option linter.unusedSimpArgs false
set_option linter.unusedVariables false
set_option maxRecDepth 100000
namespace Go.Proofs.Ytpgignenhiddkaa
open Go.Sym Go.ChangeShapes Go.WideShapes Go.Deep
theorem un89 : Try.prog.underlying 89 = some (.struct #[⟨"Parts", 79, 0, false, "", "", 0⟩, ⟨"Lost", 43, 1, false, "", "", 24⟩]) := by kernel_rfl
theorem un3n : Try.prog.underlying 3 = some (.int .i64) := by kernel_rfl
theorem co2 : Try.prog.cellsOf 2 = 1 := by kernel_rfl
theorem co3 : Try.prog.cellsOf 3 = 1 := by kernel_rfl
theorem co43 : Try.prog.cellsOf 43 = 2 := by kernel_rfl
theorem co79 : Try.prog.cellsOf 79 = 1 := by kernel_rfl
theorem co89 : Try.prog.cellsOf 89 = 3 := by kernel_rfl
theorem maxUnk {cap : Nat} (h : cap ≤ maxLen) : cap < UNK := by
  unfold maxLen at h; unfold UNK; omega
theorem inV_nil {I : Nat → Option Obj} : inV I (.slice none 0 0) = some (.slice none 0 0) := rfl
theorem inV_int {I : Nat → Option Obj} {k : IntKind} {n : Int} : inV I (.int k n) = some (.int k n) := rfl
theorem inV_at {I : Nat → Option Obj} {b off len cap : Nat} (h : cap < UNK) : inV I (.slice (some ⟨b, off, none⟩) len cap) = some (.slice (some ⟨2 * b + 1, off, none⟩) len cap) := by
  simp only [inV, if_pos h]
theorem inV_spot {I : Nat → Option Obj} {b off len cap : Nat} {s} : inV I (.slice (some ⟨b, off, some s⟩) len cap) = some (.slice (some ⟨b, off, some s⟩) len cap) := by
  simp only [inV]
theorem cell_spot {W : World} {b off : Nat} {s} {v : Value} (h : W.cell? ((⟨b, off, some s⟩ : Addr).add 0) = some v) : False := by
  simp only [Addr.add, if_true] at h
  unfold World.cell? at h
  split at h <;> simp at h
theorem cells_spot {W : World} {base b off n : Nat} {s} {cs : List Value} (hn : 0 < n) (h : W.cells? base ((⟨b, off, some s⟩ : Addr).add 0) n = some cs) : False := by
  obtain ⟨_, hlen, hcell⟩ := World.cells?_some h
  have h0 := hcell 0 hn
  rw [List.getElem?_eq_getElem (by omega)] at h0
  simp only [Addr.add, if_true] at h0
  unfold World.cell? at h0
  split at h0 <;> simp at h0
section
variable {H : Type} {enc : TypeId × Value → H} {W : World}
theorem ints_in {t : TypeId} {fuel : Nat} {v : Value} {x : DataW H × List MemPlace} (ht : Try.prog.underlying t = some (.slice 3)) (h : DataW.trod enc Try.prog W 0 (fun _ => true) true fuel t [v] = some x) :
    ∃ (p : Option Addr) (m c : Nat) (xs : Nat → Int), inV (inI W) v = some (.slice p m c) ∧ ∀ h, Sees (inI W) h (.slice p m c) m xs := by
  rcases open_slice1 ht co3 h with ⟨hcs, _⟩ | ⟨a, len, cap, m, k, V, Dd, Pl, hcs, _, hl, hm, hmm, _, hx⟩
  · simp only [List.cons.injEq, and_true] at hcs
    subst hcs
    exact ⟨none, 0, 0, fun _ => 0, inV_nil, fun h => Sees.nil⟩
  · simp only [List.cons.injEq, and_true] at hcs
    subst hcs
    simp only [if_true] at hmm
    obtain ⟨b, off, s⟩ := a
    cases s with
    | some s =>
      have h0 : m = 0 := by
        cases m with
        | zero => rfl
        | succ m => exact (cell_spot (hx 0 (by omega)).1).elim
      exact ⟨_, _, _, fun _ => 0, inV_spot, fun h => ⟨_, _, rfl, by unfold maxLen at hm; omega, fun hh => by omega⟩⟩
    | none =>
      have hnum : ∀ i, i < len → ∃ t : Int, W.cell? ⟨b, off + i, none⟩ = some (.int .i64 t) := by
        intro i hi
        obtain ⟨h1, h2⟩ := hx i (by omega)
        obtain ⟨t, e, _, _⟩ := DataW.trod_int un3n h2
        simp only [List.cons.injEq, and_true] at e
        rw [add_off, e] at h1
        exact ⟨t, h1⟩
      obtain ⟨T, hT⟩ := choose_lt hnum
      refine ⟨_, _, _, T, inV_at (maxUnk hm), fun hh => ⟨_, _, rfl, by unfold maxLen at hm; omega, fun _ => ⟨_, _, rfl, fun i hi => ?_⟩⟩⟩
      refine rdl_in (base := 0) (by omega) (cs := [.int .i64 (T i)]) ?_ (fun v hv => by
        simp only [List.mem_cons, List.not_mem_nil, or_false] at hv
        subst hv; exact ⟨_, _, rfl⟩)
      unfold World.cells?
      rw [if_pos (Nat.zero_le _)]
      simp [List.range_succ, add_off, hT i hi]
/-- a row of tests -/
theorem test_in {fuel : Nat} {cs : List Value} {x : DataW H × List MemPlace} (hl : cs.length = 3) (h : DataW.trod enc Try.prog W 0 (fun _ => true) true fuel 89 cs = some x) :
    ∃ (p : Option Addr) (m c : Nat) (xs : Nat → Int) (lo hi : Int), inL (inI W) cs = some [.slice p m c, .int .i64 lo, .int .i64 hi] ∧ ∀ h, Sees (inI W) h (.slice p m c) m xs := by
  match cs, hl with
  | [c0, c1, c2], _ =>
    obtain ⟨y0, y1, n, _, _, h0, h1⟩ := trod_struct2 un89 h
    simp only [co79, co43, List.drop_zero, List.take_succ_cons, List.take_zero, List.drop_succ_cons] at h0 h1
    obtain ⟨p, m, c, xs, hv, hs⟩ := ints_in (by kernel_rfl) h0
    obtain ⟨z0, z1, n2, _, _, g0, g1⟩ := trod_struct2 un43 h1
    simp only [co2, List.drop_zero, List.take_succ_cons, List.take_zero, List.drop_succ_cons] at g0 g1
    obtain ⟨l, e1, _, _⟩ := DataW.trod_int un2 g0
    obtain ⟨u, e2, _, _⟩ := DataW.trod_int un2 g1
    simp only [List.cons.injEq, and_true] at e1 e2
    refine ⟨p, m, c, xs, l, u, ?_, hs⟩
    rw [e1, e2]
    simp only [inL, hv, inV_int, Option.bind_some, Option.map_some]
theorem tests_in {r : Reach} {bs : Nat} {v : Value} {d : DataW H} {p : List MemPlace} (h : DataW.Trod enc Try.prog W 0 (fun _ => true) true 64 v d p) (hok : Value.okWide Try.prog W r bs 64 v) :
    ∃ (av : Value) (T : TD), (∀ h, Tests (inI W) h av T) ∧ conc (inE W) av = some v := by
  have hok' : Cell.okWide Try.prog W r bs 64 v := by
    unfold Value.okWide at hok; rw [un64] at hok; exact hok
  obtain ⟨a0, len0, cap0, rfl⟩ := okWide_slice un64 hok
  obtain ⟨fuel, hf⟩ := h
  rcases open_slice un64 hf with ⟨hcs, _⟩ | ⟨a, len, cap, m, k, Dd, Pl, hcs, _, hl, hm, hmm, _, hx⟩
  · simp [Value.cells] at hcs
    obtain ⟨rfl, rfl, rfl⟩ := hcs
    exact ⟨.slice none 0 0, ⟨0, fun _ => none, fun _ => 0, fun _ => 0, fun _ _ => 0, fun _ => 0, fun _ => 0⟩, fun h => ⟨⟨none, 0, rfl, by simp, fun hh => absurd hh (by simp)⟩, fun i hi => absurd hi (by simp)⟩, rfl⟩
  · simp [Value.cells] at hcs
    obtain ⟨rfl, rfl, rfl⟩ := hcs
    simp only [if_true] at hmm
    obtain ⟨b, off, s⟩ := a
    cases s with
    | some s =>
      have h0 : m = 0 := by
        cases m with
        | zero => rfl
        | succ m =>
          obtain ⟨cs', h1, _⟩ := hx 0 (by omega)
          rw [Nat.zero_mul] at h1
          exact (cells_spot (by rw [co89]; omega) h1).elim
      have h1 : len0 = 0 := by omega
      subst h1
      exact ⟨_, ⟨0, fun _ => none, fun _ => 0, fun _ => 0, fun _ _ => 0, fun _ => 0, fun _ => 0⟩, fun h => ⟨⟨_, _, rfl, by simp, fun hh => absurd hh (by simp)⟩, fun i hi => absurd hi (by simp)⟩, conc_inV (R_in W) inV_spot⟩
    | none =>
      have hrow : ∀ i, i < len0 → ∃ t : Option Addr × Nat × Nat × (Nat → Int) × Int × Int, (∀ h, rdl (inI W) h (2 * b + 1) (off + i * 3) 3 = some [.slice t.1 t.2.1 t.2.2.1, .int .i64 t.2.2.2.2.1, .int .i64 t.2.2.2.2.2]) ∧ ∀ h, Sees (inI W) h (.slice t.1 t.2.1 t.2.2.1) t.2.1 t.2.2.2.1 := by
        intro i hi
        obtain ⟨cs', h1, h2⟩ := hx i (by omega)
        rw [co89] at h1
        obtain ⟨p, m, c, xs, lo, hi', hL, hs⟩ := test_in (World.cells?_some h1).2.1 h2
        rw [add_off] at h1
        exact ⟨(p, m, c, xs, lo, hi'), fun h => by rw [rdl_inL (by omega) h1, hL], hs⟩
      obtain ⟨T, hT⟩ := choose_lt hrow
      exact ⟨_, ⟨len0, fun i => (T i).1, fun i => (T i).2.1, fun i => (T i).2.2.1, fun i => (T i).2.2.2.1, fun i => (T i).2.2.2.2.1, fun i => (T i).2.2.2.2.2⟩, fun h => ⟨⟨_, _, rfl, by unfold maxLen at hm; simp only; omega, fun _ => ⟨_, _, rfl, fun i hi => (hT i hi).1 h⟩⟩, fun i hi => (hT i hi).2 h⟩, conc_inV (R_in W) (inV_at (maxUnk hm))⟩
theorem secs_in {r : Reach} {bs : Nat} {v : Value} {d : DataW H} {p : List MemPlace} (h : DataW.Trod enc Try.prog W 0 (fun _ => true) true 77 v d p) (hok : Value.okWide Try.prog W r bs 77 v) :
    ∃ (av : Value) (S : SD), (∀ h, Secs (inI W) h av S) ∧ conc (inE W) av = some v := by
  have hok' : Cell.okWide Try.prog W r bs 77 v := by
    unfold Value.okWide at hok; rw [un77] at hok; exact hok
  obtain ⟨a0, len0, cap0, rfl⟩ := okWide_slice un77 hok
  obtain ⟨fuel, hf⟩ := h
  rcases open_slice un77 hf with ⟨hcs, _⟩ | ⟨a, len, cap, m, k, Dd, Pl, hcs, _, hl, hm, hmm, _, hx⟩
  · simp [Value.cells] at hcs
    obtain ⟨rfl, rfl, rfl⟩ := hcs
    exact ⟨.slice none 0 0, ⟨0, fun _ => none, fun _ => 0, fun _ => 0, fun _ _ => 0⟩, fun h => ⟨⟨none, 0, rfl, by simp, fun hh => absurd hh (by simp)⟩, fun i hi => absurd hi (by simp)⟩, rfl⟩
  · simp [Value.cells] at hcs
    obtain ⟨rfl, rfl, rfl⟩ := hcs
    simp only [if_true] at hmm
    obtain ⟨b, off, s⟩ := a
    cases s with
    | some s =>
      have h0 : m = 0 := by
        cases m with
        | zero => rfl
        | succ m =>
          obtain ⟨cs', h1, _⟩ := hx 0 (by omega)
          rw [Nat.zero_mul] at h1
          exact (cells_spot (by rw [co79]; omega) h1).elim
      have h1 : len0 = 0 := by omega
      subst h1
      exact ⟨_, ⟨0, fun _ => none, fun _ => 0, fun _ => 0, fun _ _ => 0⟩, fun h => ⟨⟨_, _, rfl, by simp, fun hh => absurd hh (by simp)⟩, fun i hi => absurd hi (by simp)⟩, conc_inV (R_in W) inV_spot⟩
    | none =>
      have hrow : ∀ i, i < len0 → ∃ t : Option Addr × Nat × Nat × (Nat → Int), (∀ h, rdl (inI W) h (2 * b + 1) (off + i) 1 = some [.slice t.1 t.2.1 t.2.2.1]) ∧ ∀ h, Sees (inI W) h (.slice t.1 t.2.1 t.2.2.1) t.2.1 t.2.2.2 := by
        intro i hi
        obtain ⟨cs', h1, h2⟩ := hx i (by omega)
        rw [co79] at h1
        have hlen := (World.cells?_some h1).2.1
        match cs', hlen with
        | [c0], _ =>
          obtain ⟨p, m, c, xs, hL, hs⟩ := ints_in (by kernel_rfl) h2
          rw [add_off, Nat.mul_one] at h1
          exact ⟨(p, m, c, xs), fun h => by rw [rdl_inL (by omega) h1]; simp only [inL, hL, Option.bind_some, Option.map_some], hs⟩
      obtain ⟨T, hT⟩ := choose_lt hrow
      exact ⟨_, ⟨len0, fun i => (T i).1, fun i => (T i).2.1, fun i => (T i).2.2.1, fun i => (T i).2.2.2⟩, fun h => ⟨⟨_, _, rfl, by unfold maxLen at hm; simp only; omega, fun _ => ⟨_, _, rfl, fun i hi => (hT i hi).1 h⟩⟩, fun i hi => (hT i hi).2 h⟩, conc_inV (R_in W) (inV_at (maxUnk hm))⟩
end
end Go.Proofs.Ytpgignenhiddkaa
