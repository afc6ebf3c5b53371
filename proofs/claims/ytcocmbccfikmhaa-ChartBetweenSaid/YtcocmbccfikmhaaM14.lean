/- Contract: tight of the reference (own texts put together: C20 C21 C22) -/
import Derived.Test.YtcocmbccfikmhaaM13
import Derived.Test.YtcocmbccfikmhaaM4
import Derived.Test.YtcocmbccfikmhaaM11b
set_option linter.unusedSimpArgs false
set_option linter.unusedVariables false
namespace Go.Proofs.Ytcocmbccfikmhaa
open Go.Sym
def slO (q n : Nat) : Value := if n = 0 then .slice none 0 0 else .slice (some ⟨q, 0, none⟩) n UNK
theorem app51 {I : Nat → Option Obj} {hh : H} {old q m : Nat} {ks : List Value} {x y : Int} (hold : m ≠ 0 → hh.get old = some (.row ks 34 2)) (hks : ks.length = 2 * m) (hk0 : m = 0 → ks = []) (hq : hh.get q = some (.cells [.int .i64 x, .int .i64 y] 34)) (hm : m < 1000) :
    aappend Try.prog I 51 51 (slO old m) (.slice (some ⟨q, 0, none⟩) 1 1) hh = some (slO hh.new (m + 1), (if m = 0 then hh else hh.put old .dead) ++ [.row (ks ++ [.int .i64 x, .int .i64 y]) 34 2]) := by
  have e1 : Try.prog.underlying 51 = some (.slice 34) := by kernel_rfl
  have e3 : tbytes Try.prog 34 = some 16 := by kernel_rfl
  have e4 : tzero Try.prog 34 = some (.agg #[.int .i64 0, .int .i64 0]) := by kernel_rfl
  have e5 : rdS I hh 2 (.slice (some ⟨q, 0, none⟩) 1 1) = some (1, [.int .i64 x, .int .i64 y]) := by
    unfold rdS; simp only; rw [rd_at hq, rdB_cells (by simp)]; rfl
  unfold aappend
  simp only [e1, sz34, e3, e4, e5]
  rw [if_pos ⟨rfl, by omega, by omega⟩]
  by_cases h0 : m = 0
  · subst h0
    rw [hk0 rfl]
    simp only [slO, if_true]
    rfl
  · have hr := hold h0
    simp only [slO, if_neg h0, Nat.add_eq_zero_iff, Nat.one_ne_zero, and_false, if_false]
    rw [if_neg (by simp [UNK])]
    rw [if_pos ⟨trivial, trivial, by omega⟩, hr]
    simp only
    rw [if_pos ⟨by omega, trivial, trivial, rfl⟩]

    rw [List.take_of_length_le (by omega)]
theorem bs51 {h : H} {a b : Int} : abuildSlice Try.prog 51 1 [(0, .agg #[.int .i64 a, .int .i64 b])] h = some (.slice (some ⟨h.new, 0, none⟩) 1 1, h ++ [.cells [.int .i64 a, .int .i64 b] 34]) := by kernel_rfl
/-- the cells of ranges -/
def rcells (A B : Nat → Int) : Nat → List Value
  | 0 => []
  | i + 1 => rcells A B i ++ [.int .i64 (A i), .int .i64 (B i)]
theorem rcells_length (A B : Nat → Int) : ∀ n, (rcells A B n).length = 2 * n
  | 0 => rfl
  | n + 1 => by simp [rcells, rcells_length A B n]; omega
theorem rcells_get (A B : Nat → Int) : ∀ n i, i < n → (rcells A B n)[2 * i]? = some (.int .i64 (A i)) ∧ (rcells A B n)[2 * i + 1]? = some (.int .i64 (B i))
  | 0, i, h => by omega
  | n + 1, i, h => by
    have hl := rcells_length A B n
    by_cases e : i = n
    · subst e
      unfold rcells
      rw [List.getElem?_append_right (by omega), List.getElem?_append_right (by omega), hl]
      have e1 : 2 * i - 2 * i = 0 := by omega
      have e2 : 2 * i + 1 - 2 * i = 1 := by omega
      rw [e1, e2]; exact ⟨rfl, rfl⟩
    · obtain ⟨h1, h2⟩ := rcells_get A B n i (by omega)
      unfold rcells
      rw [List.getElem?_append_left (by omega), List.getElem?_append_left (by omega)]
      exact ⟨h1, h2⟩
theorem rcells_flat (A B : Nat → Int) : ∀ n, flatL (rcells A B n) = true
  | 0 => rfl
  | n + 1 => by
    have app : ∀ x y : List Value, flatL x = true → flatL y = true → flatL (x ++ y) = true := by
      intro x y hx hy
      induction x with
      | nil => exact hy
      | cons u l ih => simp only [flatL, Bool.and_eq_true] at hx; simp only [List.cons_append, flatL, hx.1, ih hx.2, Bool.and_self]
    exact app _ _ (rcells_flat A B n) rfl
def loI (L : Nat → Int) (i : Nat) : Nat → Int
  | 0 => L i
  | k + 1 => if k < i then max (loI L i k) (L k) else loI L i k
def hiI (U : Nat → Int) (i : Nat) : Nat → Int
  | 0 => U i
  | k + 1 => if k < i then hiI U i k else min (hiI U i k) (U k)
theorem loI_lt {L : Nat → Int} {i k : Nat} (h : k < i) : loI L i (k + 1) = max (loI L i k) (L k) := if_pos h
theorem loI_ge {L : Nat → Int} {i k : Nat} (h : ¬ k < i) : loI L i (k + 1) = loI L i k := if_neg h
theorem hiI_lt {U : Nat → Int} {i k : Nat} (h : k < i) : hiI U i (k + 1) = hiI U i k := if_pos h
theorem hiI_ge {U : Nat → Int} {i k : Nat} (h : ¬ k < i) : hiI U i (k + 1) = min (hiI U i k) (U k) := if_neg h
theorem loI_max (L : Nat → Int) (i : Nat) : ∀ k, k ≤ i → 0 < k → loI L i k = max (L i) (rmax L (k - 1))
  | 0, _, h => by omega
  | 1, hk, _ => by rw [loI_lt (by omega)]; rfl
  | k + 2, hk, _ => by
    rw [loI_lt (by omega), loI_max L i (k + 1) (by omega) (by omega)]
    have e : k + 2 - 1 = (k + 1 - 1) + 1 := by omega
    rw [e]
    simp only [rmax]
    have e2 : k + 1 - 1 = k := by omega
    rw [e2]; omega
theorem loI_end (L : Nat → Int) (i : Nat) : ∀ k, i ≤ k → loI L i k = rmax L i
  | k, h => by
    induction k with
    | zero =>
      have : i = 0 := by omega
      subst this; rfl
    | succ k ih =>
      by_cases e : i = k + 1
      · subst e
        rw [loI_max L (k + 1) (k + 1) (Nat.le_refl _) (by omega)]
        rfl
      · rw [loI_ge (by omega)]
        exact ih (by omega)
theorem hiI_pre (U : Nat → Int) (i : Nat) : ∀ k, k ≤ i → hiI U i k = U i
  | 0, _ => rfl
  | k + 1, h => by rw [hiI_lt (by omega)]; exact hiI_pre U i k (by omega)
/-- a lower bound that is reached: the least one -/
theorem hiI_spec (U : Nat → Int) (i : Nat) : ∀ k, i < k → (∃ j, i ≤ j ∧ j < k ∧ hiI U i k = U j) ∧ ∀ j, i ≤ j → j < k → hiI U i k ≤ U j
  | 0, h => by omega
  | k + 1, h => by
    rw [hiI_ge (by omega)]
    by_cases e : k = i
    · subst e
      rw [hiI_pre U k k (Nat.le_refl _)]
      refine ⟨⟨k, by omega, by omega, by omega⟩, fun j h1 h2 => ?_⟩
      have : j = k := by omega
      subst this; omega
    · obtain ⟨⟨j, h1, h2, h3⟩, h4⟩ := hiI_spec U i k (by omega)
      refine ⟨?_, fun j' g1 g2 => ?_⟩
      · by_cases c : U k ≤ hiI U i k
        · exact ⟨k, by omega, by omega, by omega⟩
        · exact ⟨j, h1, by omega, by omega⟩
      · by_cases c : j' = k
        · subst c; omega
        · have := h4 j' g1 (by omega); omega
theorem rmin_spec (U : Nat → Int) (n : Nat) : ∀ d i, n - 1 - i = d → i < n → (∃ j, i ≤ j ∧ j < n ∧ rmin U n i = U j) ∧ ∀ j, i ≤ j → j < n → rmin U n i ≤ U j
  | 0, i, hd, hi => by
    have : i = n - 1 := by omega
    subst this
    rw [rmin_last U (by omega)]
    refine ⟨⟨n - 1, by omega, by omega, rfl⟩, fun j h1 h2 => ?_⟩
    have : j = n - 1 := by omega
    rw [this]; omega
  | d + 1, i, hd, hi => by
    obtain ⟨⟨j, h1, h2, h3⟩, h4⟩ := rmin_spec U n d (i + 1) (by omega) (by omega)
    rw [rmin_step U (by omega)]
    refine ⟨?_, fun j' g1 g2 => ?_⟩
    · by_cases c : U i ≤ rmin U n (i + 1)
      · exact ⟨i, by omega, by omega, by omega⟩
      · exact ⟨j, by omega, h2, by omega⟩
    · by_cases c : j' = i
      · subst c; omega
      · have := h4 j' (by omega) g2; omega
theorem hiI_end (U : Nat → Int) {i n : Nat} (h : i < n) : hiI U i n = rmin U n i := by
  obtain ⟨⟨j, h1, h2, h3⟩, h4⟩ := hiI_spec U i n h
  obtain ⟨⟨j', g1, g2, g3⟩, g4⟩ := rmin_spec U n _ i rfl h
  have a := h4 j' g1 g2
  have b := g4 j h1 h2
  omega

set_option maxRecDepth 100000 in
set_option maxHeartbeats 4000000 in
theorem tight50 (I : Nat → Option Obj) {h : H} {v : Value} {n : Nat} {D L U : Nat → Int} {pr : Int} (hv : Rows I v n D L U) (hn2 : 2 ≤ n ∧ n ≤ 16) :
    Snd Try.prog I (.func 50) [.agg #[v, .int .i64 pr]] h (.slice (some ⟨2 * (h.length + 3 * n), 0, none⟩) n UNK) (h ++ (List.replicate (3 * n) .dead ++ [.row (rcells (fun j => rmax L j) (fun j => rmin U n j) n) 34 2])) := by
  obtain ⟨q, c, rfl, hn, hq⟩ := hv
  obtain ⟨id, off, rfl, hr⟩ := hq (by omega)
  refine Snd_runK (rs := [.tmp 2]) 600 Try.func50 (by kernel_rfl) rfl Try.ntmps50 rfl (by simp) ?_ ?_ ?_
  · intro x Bx hg
    by_cases hid : x < h.new
    · right
      have : (h ++ (List.replicate (3 * n) .dead ++ [Blk.row (rcells (fun j => rmax L j) (fun j => rmin U n j) n) 34 2]) : H).get x = h.get x := by
        unfold H.get; unfold H.new at hid
        split
        · rw [List.getElem?_append_left (by omega)]
        · rfl
      rw [← this]; exact hg
    · left
      have h1 := H.get_lt hg
      unfold H.new at hid
      obtain ⟨y, rfl⟩ : ∃ y, x = 2 * (h.length + y) := ⟨x / 2 - h.length, by omega⟩
      rw [get_k] at hg
      by_cases hy : y < 3 * n
      · rw [List.getElem?_append_left (by simpa using hy), List.getElem?_replicate, if_pos hy] at hg
        cases hg; rfl
      · have hlt := (List.getElem?_eq_some_iff.1 hg).1
        have hy2 : y = 3 * n := by simp at hlt; omega
        subst hy2
        rw [List.getElem?_append_right (by simp)] at hg
        simp at hg
        subst hg
        exact closedL_flat _ _ (rcells_flat _ _ n)
  · simp [closedV, okN]
  simp -implicitDefEqProofs only [sB, Nat.reduceAdd, Nat.reduceSub, yieldL, popK, flat, nptr, Value.cells, H.new, eq_self, Int.reduceEq, Int.reduceLT, Int.reduceLE, Nat.reduceEqDiff, Nat.reduceLeDiff, thenQ, ContK, ty2, ty3, ty4, ty5, ty22, ty24, ty34, ty51, ty64, Bool.not_true, Bool.not_false, decide_true, decide_false, if_true, if_false, st34, bs51, unk1, finK_ret]
  obtain ⟨Ja, hJa⟩ : ∃ J : St → Prop, J = fun s => ∃ (i : Nat) (Lx : H), s.df = [] ∧ s.h = h ++ (.cells [.slice (some ⟨id, off, none⟩) n c, .int .i64 pr] 24 :: Lx) ∧ s.tm.length = 57 ∧ s.tm.getD 1 undef = .pointer (some ⟨2 * h.length, 0, none⟩) ∧ s.tm.getD 3 undef = slO (2 * (h.length + 3 * i)) i ∧ s.tm.getD 4 undef = .int .i64 i ∧ (i ≤ n) ∧ (Lx.length = 3 * i) ∧ (i ≠ 0 → (Blk.cells [.slice (some ⟨id, off, none⟩) n c, .int .i64 pr] 24 :: Lx : H)[3 * i]? = some (.row (rcells (fun j => rmax L j) (fun j => rmin U n j) i) 34 2)) := ⟨_, rfl⟩
  refine Loop_run (by kernel_rfl) 600 Ja (muI 4 n) (by rw [hJa]; exact ⟨0, [], rfl, rfl, rfl, rfl, rfl, rfl, Nat.zero_le _, rfl, fun h => absurd rfl h⟩) ?_
  intro sa hsa
  rw [hJa] at hsa
  obtain ⟨tma, dfa, hha⟩ := sa
  obtain ⟨i, Lx, ea1, ea2, ea3, la1, la3, la4, hi, hlx, hrow⟩ := hsa
  simp only at ea1 ea2 ea3 la1 la3 la4
  subst dfa; subst hha
  have elita : tma = [tma.getD 0 undef, .pointer (some ⟨2 * h.length, 0, none⟩), tma.getD 2 undef, slO (2 * (h.length + 3 * i)) i, .int .i64 i, tma.getD 5 undef, tma.getD 6 undef, tma.getD 7 undef, tma.getD 8 undef, tma.getD 9 undef, tma.getD 10 undef, tma.getD 11 undef, tma.getD 12 undef, tma.getD 13 undef, tma.getD 14 undef, tma.getD 15 undef, tma.getD 16 undef, tma.getD 17 undef, tma.getD 18 undef, tma.getD 19 undef, tma.getD 20 undef, tma.getD 21 undef, tma.getD 22 undef, tma.getD 23 undef, tma.getD 24 undef, tma.getD 25 undef, tma.getD 26 undef, tma.getD 27 undef, tma.getD 28 undef, tma.getD 29 undef, tma.getD 30 undef, tma.getD 31 undef, tma.getD 32 undef, tma.getD 33 undef, tma.getD 34 undef, tma.getD 35 undef, tma.getD 36 undef, tma.getD 37 undef, tma.getD 38 undef, tma.getD 39 undef, tma.getD 40 undef, tma.getD 41 undef, tma.getD 42 undef, tma.getD 43 undef, tma.getD 44 undef, tma.getD 45 undef, tma.getD 46 undef, tma.getD 47 undef, tma.getD 48 undef, tma.getD 49 undef, tma.getD 50 undef, tma.getD 51 undef, tma.getD 52 undef, tma.getD 53 undef, tma.getD 54 undef, tma.getD 55 undef, tma.getD 56 undef] := by
    have e0 := lit_eq ea3
    have er : List.range 57 = [0, 1, 2, 3, 4, 5, 6, 7, 8, 9, 10, 11, 12, 13, 14, 15, 16, 17, 18, 19, 20, 21, 22, 23, 24, 25, 26, 27, 28, 29, 30, 31, 32, 33, 34, 35, 36, 37, 38, 39, 40, 41, 42, 43, 44, 45, 46, 47, 48, 49, 50, 51, 52, 53, 54, 55, 56] := by rfl
    rw [er] at e0
    simp only [List.map_cons, List.map_nil, la1, la3, la4] at e0
    exact e0
  rw [elita]
  clear la1
  clear la3
  clear la4
  clear elita ea3
  by_cases hin : i < n
  · have h1 : (i : Int) < (n : Int) := by omega
    have h2 : (0 : Int) ≤ (i : Int) ∧ (i : Int) < (n : Int) := ⟨by omega, h1⟩
    have h3 := fun h => hr h i hin
    have h4 := wrap_add1 (i := i) (by omega)
    simp -implicitDefEqProofs only [sB, Nat.reduceAdd, Nat.reduceSub, yieldL, popK, flat, nptr, Value.cells, H.new, eq_self, Int.reduceEq, Int.reduceLT, Int.reduceLE, Nat.reduceEqDiff, Nat.reduceLeDiff, thenQ, ContK, ty2, ty3, ty4, ty5, ty22, ty24, ty34, ty51, ty64, Bool.not_true, Bool.not_false, decide_true, decide_false, if_true, if_false, st34, bs51, unk1, h1, h2, row_R (h3 _)]
    obtain ⟨Jb, hJb⟩ : ∃ J : St → Prop, J = fun s => ∃ (k : Nat), s.df = [] ∧ s.h = h ++ (.cells [.slice (some ⟨id, off, none⟩) n c, .int .i64 pr] 24 :: (Lx ++ [.cells [.int .i64 (loI L i k), .int .i64 (hiI U i k)] 34])) ∧ s.tm.length = 57 ∧ s.tm.getD 1 undef = .pointer (some ⟨2 * h.length, 0, none⟩) ∧ s.tm.getD 3 undef = slO (2 * (h.length + 3 * i)) i ∧ s.tm.getD 4 undef = .int .i64 i ∧ s.tm.getD 5 undef = .pointer (some ⟨2 * (h.length + (Lx.length + 1)), 0, none⟩) ∧ s.tm.getD 6 undef = .int .i64 k ∧ (k ≤ n) := ⟨_, rfl⟩
    refine Loop_run (by kernel_rfl) 600 Jb (muI 6 n) (by rw [hJb]; exact ⟨0, rfl, rfl, rfl, rfl, rfl, rfl, rfl, rfl, Nat.zero_le _⟩) ?_
    intro sb hsb
    rw [hJb] at hsb
    obtain ⟨tmb, dfb, hhb⟩ := sb
    obtain ⟨k, eb1, eb2, eb3, lb1, lb3, lb4, lb5, lb6, hk⟩ := hsb
    simp only at eb1 eb2 eb3 lb1 lb3 lb4 lb5 lb6
    subst dfb; subst hhb
    have elitb : tmb = [tmb.getD 0 undef, .pointer (some ⟨2 * h.length, 0, none⟩), tmb.getD 2 undef, slO (2 * (h.length + 3 * i)) i, .int .i64 i, .pointer (some ⟨2 * (h.length + (Lx.length + 1)), 0, none⟩), .int .i64 k, tmb.getD 7 undef, tmb.getD 8 undef, tmb.getD 9 undef, tmb.getD 10 undef, tmb.getD 11 undef, tmb.getD 12 undef, tmb.getD 13 undef, tmb.getD 14 undef, tmb.getD 15 undef, tmb.getD 16 undef, tmb.getD 17 undef, tmb.getD 18 undef, tmb.getD 19 undef, tmb.getD 20 undef, tmb.getD 21 undef, tmb.getD 22 undef, tmb.getD 23 undef, tmb.getD 24 undef, tmb.getD 25 undef, tmb.getD 26 undef, tmb.getD 27 undef, tmb.getD 28 undef, tmb.getD 29 undef, tmb.getD 30 undef, tmb.getD 31 undef, tmb.getD 32 undef, tmb.getD 33 undef, tmb.getD 34 undef, tmb.getD 35 undef, tmb.getD 36 undef, tmb.getD 37 undef, tmb.getD 38 undef, tmb.getD 39 undef, tmb.getD 40 undef, tmb.getD 41 undef, tmb.getD 42 undef, tmb.getD 43 undef, tmb.getD 44 undef, tmb.getD 45 undef, tmb.getD 46 undef, tmb.getD 47 undef, tmb.getD 48 undef, tmb.getD 49 undef, tmb.getD 50 undef, tmb.getD 51 undef, tmb.getD 52 undef, tmb.getD 53 undef, tmb.getD 54 undef, tmb.getD 55 undef, tmb.getD 56 undef] := by
      have e0 := lit_eq eb3
      have er : List.range 57 = [0, 1, 2, 3, 4, 5, 6, 7, 8, 9, 10, 11, 12, 13, 14, 15, 16, 17, 18, 19, 20, 21, 22, 23, 24, 25, 26, 27, 28, 29, 30, 31, 32, 33, 34, 35, 36, 37, 38, 39, 40, 41, 42, 43, 44, 45, 46, 47, 48, 49, 50, 51, 52, 53, 54, 55, 56] := by rfl
      rw [er] at e0
      simp only [List.map_cons, List.map_nil, lb1, lb3, lb4, lb5, lb6] at e0
      exact e0
    rw [elitb]
    clear lb1
    clear lb3
    clear lb4
    clear lb5
    clear lb6
    clear elitb eb3
    by_cases hkn : k < n
    · have k1 : (k : Int) < (n : Int) := by omega
      have k2 : (0 : Int) ≤ (k : Int) ∧ (k : Int) < (n : Int) := ⟨by omega, k1⟩
      have k3 := fun h => hr h k hkn
      have k4 := wrap_add1 (i := k) (by omega)
      by_cases hki : k < i
      · have c1 : (k : Int) < (i : Int) := by omega
        simp -implicitDefEqProofs only [sB, Nat.reduceAdd, Nat.reduceSub, yieldL, popK, flat, nptr, Value.cells, H.new, eq_self, Int.reduceEq, Int.reduceLT, Int.reduceLE, Nat.reduceEqDiff, Nat.reduceLeDiff, thenQ, ContK, ty2, ty3, ty4, ty5, ty22, ty24, ty34, ty51, ty64, sD, mixT, isAlloc, ridOf, blockOf, Bool.not_true, Bool.not_false, decide_true, decide_false, if_true, if_false, st34, bs51, unk1, k1, k2, k4, row_L (k3 _), row_U (k3 _), c1]
        refine ⟨effOk_of (by kernel_rfl) (by simp), drawOk_ren (fun _ => 0) rfl (by kernel_rfl), by rw [← loI_lt hki, ← hiI_lt hki]; rw [hJb]; exact ⟨k + 1, rfl, rfl, rfl, rfl, rfl, rfl, rfl, rfl, by omega⟩, ?_⟩
        show n - ((k + 1 : Nat) : Int).toNat < n - (k : Int).toNat
        omega
      · have c1 : ¬ (k : Int) < (i : Int) := by omega
        simp -implicitDefEqProofs only [sB, Nat.reduceAdd, Nat.reduceSub, yieldL, popK, flat, nptr, Value.cells, H.new, eq_self, Int.reduceEq, Int.reduceLT, Int.reduceLE, Nat.reduceEqDiff, Nat.reduceLeDiff, thenQ, ContK, ty2, ty3, ty4, ty5, ty22, ty24, ty34, ty51, ty64, sD, mixT, isAlloc, ridOf, blockOf, Bool.not_true, Bool.not_false, decide_true, decide_false, if_true, if_false, st34, bs51, unk1, k1, k2, k4, row_L (k3 _), row_U (k3 _), c1]
        refine ⟨effOk_of (by kernel_rfl) (by simp), drawOk_ren (fun _ => 0) rfl (by kernel_rfl), by rw [← hiI_ge hki, ← loI_ge hki]; rw [hJb]; exact ⟨k + 1, rfl, rfl, rfl, rfl, rfl, rfl, rfl, rfl, by omega⟩, ?_⟩
        show n - ((k + 1 : Nat) : Int).toNat < n - (k : Int).toNat
        omega
    · have k1 : ¬ (k : Int) < (n : Int) := by omega
      have hkn' : k = n := by omega
      subst hkn'
      rw [loI_end L i k (by omega), hiI_end U hin]
      have hq2 : ∀ X : Blk, (h ++ (.cells [.slice (some ⟨id, off, none⟩) k c, .int .i64 pr] 24 :: (Lx ++ [X, .cells [.int .i64 (rmax L i), .int .i64 (rmin U k i)] 34])) : H).get (2 * (h.length + (Lx.length + 1 + 1))) = some (.cells [.int .i64 (rmax L i), .int .i64 (rmin U k i)] 34) := by
        intro X
        rw [get_k, List.getElem?_cons_succ, getElem?_app_k]; rfl
      obtain ⟨HH, hHH⟩ : ∃ x : H, h ++ (.cells [.slice (some ⟨id, off, none⟩) k c, .int .i64 pr] 24 :: (Lx ++ [.cells [.int .i64 (rmax L i), .int .i64 (rmin U k i)] 34, .cells [.int .i64 (rmax L i), .int .i64 (rmin U k i)] 34])) = x := ⟨_, rfl⟩
      have hold : i ≠ 0 → HH.get (2 * (h.length + 3 * i)) = some (.row (rcells (fun j => rmax L j) (fun j => rmin U k j) i) 34 2) := by
        intro hi0
        rw [← hHH, get_k]
        have := hrow hi0
        rw [← List.cons_append, List.getElem?_append_left (by rw [List.length_cons, hlx]; omega)]
        exact this
      have hnew : HH.new = 2 * (h.length + 3 * (i + 1)) := by
        rw [← hHH]; simp [H.new, hlx]; omega
      have happ0 := app51 (I := I) (x := rmax L i) (y := rmin U k i) hold (rcells_length _ _ i) (fun h => by rw [h]; rfl) (by rw [← hHH]; exact hq2 _) (by omega)
      obtain ⟨Lz, hLz, hlz, hrz⟩ : ∃ Lz : H, (if i = 0 then HH else HH.put (2 * (h.length + 3 * i)) .dead) ++ [Blk.row (rcells (fun j => rmax L j) (fun j => rmin U k j) i ++ [.int .i64 (rmax L i), .int .i64 (rmin U k i)]) 34 2] = h ++ (.cells [.slice (some ⟨id, off, none⟩) k c, .int .i64 pr] 24 :: Lz) ∧ Lz.length = 3 * (i + 1) ∧ (Blk.cells [.slice (some ⟨id, off, none⟩) k c, .int .i64 pr] 24 :: Lz : H)[3 * (i + 1)]? = some (.row (rcells (fun j => rmax L j) (fun j => rmin U k j) (i + 1)) 34 2) := by
        by_cases hi0 : i = 0
        · rw [if_pos hi0, ← hHH]
          refine ⟨_, by rw [List.append_assoc, List.cons_append], by simp [hlx]; omega, ?_⟩
          have e : 3 * (i + 1) = (Lx.length + 2) + 1 := by omega
          rw [e, List.getElem?_cons_succ, List.append_assoc, getElem?_app_k]; rfl
        · rw [if_neg hi0, ← hHH, put_k]
          obtain ⟨j, hj⟩ : ∃ j, 3 * i = j + 1 := ⟨3 * i - 1, by omega⟩
          rw [hj, List.set_cons_succ]
          refine ⟨_, by rw [List.append_assoc, List.cons_append], by simp [hlx]; omega, ?_⟩
          have e : 3 * (i + 1) = (Lx.length + 2) + 1 := by omega
          rw [e, List.getElem?_cons_succ, List.getElem?_append_right (by simp)]
          have e2 : Lx.length + 2 - ((Lx ++ [Blk.cells [.int .i64 (rmax L i), .int .i64 (rmin U k i)] 34, .cells [.int .i64 (rmax L i), .int .i64 (rmin U k i)] 34]).set j Blk.dead).length = 0 := by simp
          rw [e2]; rfl
      have happ : abi2 Try.prog I .append #[51, 51] 51 [slO (2 * (h.length + 3 * i)) i, .slice (some ⟨2 * (h.length + (Lx.length + 1 + 1)), 0, none⟩) 1 1] HH = some (slO (2 * (h.length + 3 * (i + 1))) (i + 1), h ++ (.cells [.slice (some ⟨id, off, none⟩) k c, .int .i64 pr] 24 :: Lz)) := by
        rw [← hLz, ← hnew]
        exact happ0
      simp -implicitDefEqProofs only [sB, Nat.reduceAdd, Nat.reduceSub, yieldL, popK, flat, nptr, Value.cells, H.new, eq_self, Int.reduceEq, Int.reduceLT, Int.reduceLE, Nat.reduceEqDiff, Nat.reduceLeDiff, thenQ, ContK, ty2, ty3, ty4, ty5, ty22, ty24, ty34, ty51, ty64, Bool.not_true, Bool.not_false, decide_true, decide_false, if_true, if_false, st34, bs51, unk1, k1, h4, hHH, happ]
      refine ⟨by rw [hJa]; exact ⟨i + 1, Lz, rfl, rfl, rfl, rfl, rfl, rfl, by omega, hlz, fun _ => hrz⟩, ?_⟩
      show k - ((i + 1 : Nat) : Int).toNat < k - (i : Int).toNat
      omega
  · have h1 : ¬ (i : Int) < (n : Int) := by omega
    have hin' : i = n := by omega
    subst hin'
    simp -implicitDefEqProofs only [sB, Nat.reduceAdd, Nat.reduceSub, yieldL, popK, flat, nptr, Value.cells, H.new, eq_self, Int.reduceEq, Int.reduceLT, Int.reduceLE, Nat.reduceEqDiff, Nat.reduceLeDiff, thenQ, ContK, ty2, ty3, ty4, ty5, ty22, ty24, ty34, ty51, ty64, Bool.not_true, Bool.not_false, decide_true, decide_false, if_true, if_false, st34, bs51, unk1, h1, finK_ret]
    refine ⟨⟨_, [], (List.append_nil _).symm, by simp [hlx], fun x => ?_⟩, by unfold slO; rw [if_neg (by omega)]⟩
    by_cases hx1 : x < h.length
    · left; rw [List.getElem?_append_left hx1, List.getElem?_append_left hx1]
    · obtain ⟨y, rfl⟩ : ∃ y, x = h.length + y := ⟨x - h.length, by omega⟩
      rw [getElem?_app_k, getElem?_app_k]
      by_cases hy : y < 3 * i
      · right; rw [List.getElem?_append_left (by simpa using hy), List.getElem?_replicate, if_pos hy]
      · left
        by_cases hy2 : y = 3 * i
        · subst hy2
          rw [hrow (by omega), List.getElem?_append_right (by simp)]
          simp
        · rw [List.getElem?_eq_none (by simp; omega), List.getElem?_eq_none (by simp [hlx]; omega)]
end Go.Proofs.Ytcocmbccfikmhaa
set_option linter.unusedSimpArgs false
set_option linter.unusedVariables false
namespace Go.Proofs.Ytcocmbccfikmhaa
open Go.Sym
theorem ckF_iff {L U : Nat → Int} {i : Nat} : ∀ m k, (ckF L U i m k).isSome = true ↔ ∃ j, k ≤ j ∧ j < k + m ∧ U j < L i
  | 0, k => by
    refine ⟨fun h => (by cases h), ?_⟩
    rintro ⟨j, h1, h2, _⟩; omega
  | m + 1, k => by
    unfold ckF
    by_cases h : U k < L i
    · rw [if_pos h]; exact ⟨fun _ => ⟨k, by omega, by omega, h⟩, fun _ => rfl⟩
    · rw [if_neg h, ckF_iff m (k + 1)]
      constructor
      · rintro ⟨j, h1, h2, h3⟩; exact ⟨j, by omega, by omega, h3⟩
      · rintro ⟨j, h1, h2, h3⟩
        refine ⟨j, ?_, by omega, h3⟩
        by_cases e : j = k
        · subst e; exact absurd h3 h
        · omega
theorem ciF_iff {L U : Nat → Int} {n : Nat} : ∀ m i, m + i = n → ((ciF L U n m i).isSome = true ↔ ∃ a b, i ≤ a ∧ a < b ∧ b < n ∧ U b < L a)
  | 0, i, h => by
    refine ⟨fun h => (by cases h), ?_⟩
    rintro ⟨a, b, h1, h2, h3, _⟩; omega
  | m + 1, i, h => by
    unfold ciF
    have hk := ckF_iff (L := L) (U := U) (i := i) (n - (i + 1)) (i + 1)
    cases hc : ckF L U i (n - (i + 1)) (i + 1) with
    | some k =>
      rw [hc] at hk
      obtain ⟨j, h1, h2, h3⟩ := hk.1 rfl
      exact ⟨fun _ => ⟨i, j, by omega, by omega, by omega, h3⟩, fun _ => rfl⟩
    | none =>
      rw [hc] at hk
      simp only
      rw [ciF_iff m (i + 1) (by omega)]
      constructor
      · rintro ⟨a, b, h1, h2, h3, h4⟩; exact ⟨a, b, by omega, h2, h3, h4⟩
      · rintro ⟨a, b, h1, h2, h3, h4⟩
        refine ⟨a, b, ?_, h2, h3, h4⟩
        by_cases e : a = i
        · subst e
          have := hk.2 ⟨b, by omega, by omega, h4⟩
          cases this
        · omega
theorem clash_iff {L U : Nat → Int} {n : Nat} : (clashP n L U).isSome = true ↔ ∃ a b, a < b ∧ b < n ∧ U b < L a := by
  unfold clashP
  rw [ciF_iff n 0 (by omega)]
  constructor
  · rintro ⟨a, b, _, h2, h3, h4⟩; exact ⟨a, b, h2, h3, h4⟩
  · rintro ⟨a, b, h2, h3, h4⟩; exact ⟨a, b, by omega, h2, h3, h4⟩
theorem rmax_spec (f : Nat → Int) : ∀ i, (∃ j, j ≤ i ∧ rmax f i = f j) ∧ ∀ j, j ≤ i → f j ≤ rmax f i
  | 0 => by
    refine ⟨⟨0, by omega, rfl⟩, fun j hj => ?_⟩
    have : j = 0 := by omega
    subst this; exact Int.le_refl _
  | i + 1 => by
    obtain ⟨⟨j, h1, h2⟩, h3⟩ := rmax_spec f i
    simp only [rmax]
    refine ⟨?_, fun j' g => ?_⟩
    · by_cases c : rmax f i ≤ f (i + 1)
      · exact ⟨i + 1, by omega, by omega⟩
      · exact ⟨j, by omega, by omega⟩
    · by_cases c : j' = i + 1
      · subst c; omega
      · have := h3 j' (by omega); omega
theorem rmax_congr {f g : Nat → Int} : ∀ i, (∀ j, j ≤ i → f j = g j) → rmax f i = rmax g i
  | 0, h => h 0 (Nat.le_refl _)
  | i + 1, h => by simp only [rmax]; rw [h (i + 1) (Nat.le_refl _), rmax_congr i (fun j hj => h j (by omega))]
theorem rminB_congr {f g : Nat → Int} {n : Nat} (hn : 0 < n) (h : ∀ j, j < n → f j = g j) : ∀ i, rminB f n i = rminB g n i
  | 0 => h (n - 1) (by omega)
  | i + 1 => by simp only [rminB]; rw [h (n - 1 - (i + 1)) (by omega), rminB_congr hn h i]
theorem tightA_1 {n : Nat} {L U : Nat → Int} {i : Nat} (hi : i < n) : (tightA n (rowA n L U)).1 i = rmax L i := by
  show fwd (cut n L) n i = _
  rw [fwd_in hi]
  exact rmax_congr i fun j hj => by unfold cut; rw [if_pos (by omega)]
theorem tightA_2 {n : Nat} {L U : Nat → Int} {i : Nat} (hi : i < n) : (tightA n (rowA n L U)).2 i = rmin U n i := by
  show bwd (cut n U) n n i = _
  rw [bwd_in (by omega)]
  exact rminB_congr (by omega) (fun j hj => by unfold cut; rw [if_pos (by omega)]) _
theorem tight_iff {n : Nat} {D L U : Nat → Int} {pr : Int} (t : TankOk n D L U pr) : tightOk n (rowA n L U) = !(clashP n L U).isSome := by
  rw [Bool.eq_iff_iff]
  unfold tightOk
  rw [Bool.not_eq_true', Bool.not_eq_true', ← Bool.not_eq_true, ← Bool.not_eq_true, anyN_iff, clash_iff]
  refine not_congr ?_
  constructor
  · rintro ⟨i, hi, h⟩
    rw [decide_eq_true_iff, tightA_1 hi, tightA_2 hi] at h
    obtain ⟨⟨j, h1, h2⟩, _⟩ := rmax_spec L i
    obtain ⟨⟨k, g1, g2, g3⟩, _⟩ := rmin_spec U n _ i rfl hi
    refine ⟨j, k, ?_, g2, by omega⟩
    by_cases e : j = k
    · subst e
      have := t.lit j (by omega)
      omega
    · omega
  · rintro ⟨a, b, h1, h2, h3⟩
    refine ⟨b, h2, ?_⟩
    rw [decide_eq_true_iff, tightA_1 h2, tightA_2 h2]
    have := (rmax_spec L b).2 a (by omega)
    have := (rmin_spec U n _ b rfl h2).2 b (by omega) h2
    omega
theorem rd_rcells {A B : Nat → Int} {e : TypeId} {n sz j : Nat} (hj : j < n) : rdB (some (.row (rcells A B n) e sz)) (j * 2) 1 = some [.int .i64 (A j)] ∧ rdB (some (.row (rcells A B n) e sz)) (j * 2 + 1) 1 = some [.int .i64 (B j)] := by
  obtain ⟨h1, h2⟩ := rcells_get A B n j hj
  have hl := rcells_length A B n
  rw [rdB_row (by omega), rdB_row (by omega)]
  have e1 : j * 2 = 2 * j := by omega
  rw [e1]
  have g : ∀ x (v : Value), (rcells A B n)[x]? = some v → ((rcells A B n).drop x).take 1 = [v] := by
    intro x v hx
    obtain ⟨hlt, he⟩ := List.getElem?_eq_some_iff.1 hx
    rw [List.drop_eq_getElem_cons hlt, he]; rfl
  rw [g _ _ h1, g _ _ h2]
  exact ⟨rfl, rfl⟩

set_option maxRecDepth 100000 in
set_option maxHeartbeats 4000000 in
theorem metered13 (I : Nat → Option Obj) {h : H} {v : Value} {n : Nat} {D L U : Nat → Int} {pr fr to : Int} (hv : Rows I v n D L U) :
    Snd Try.prog I (.func 13) [.agg #[v, .int .i64 pr], .int .i64 fr, .int .i64 to] h (metV n D L U pr fr to) h := by
  have hv0 := hv
  obtain ⟨q, c, rfl, hn, hq⟩ := hv
  refine Snd_run0 (rs := [.cell 6 34, .tmp 7]) 600 Try.func13 (by kernel_rfl) rfl Try.ntmps13 rfl metV_flat ?_
  simp -implicitDefEqProofs only [sB, Nat.reduceAdd, Nat.reduceSub, yieldL, popK, flat, nptr, Value.cells, H.new, eq_self, Int.reduceEq, Int.reduceLT, Int.reduceLE, Nat.reduceEqDiff, Nat.reduceLeDiff, thenQ, ContK, ty2, ty3, ty4, ty5, ty22, ty24, ty30, ty34, ty51, Bool.not_true, Bool.not_false, decide_true, decide_false, if_true, if_false, bl34, bl34_0, st34]
  refine RunCall_of (checkTank30 I hv0) ?_
  by_cases he : tankE n D L U pr = 0
  · rw [he]
    have t := tank_ok he
    have n2 := t.n2
    have n16 := t.n16
    by_cases c1 : fr < 0
    · simp -implicitDefEqProofs only [sB, Nat.reduceAdd, Nat.reduceSub, yieldL, popK, flat, nptr, Value.cells, H.new, eq_self, Int.reduceEq, Int.reduceLT, Int.reduceLE, Nat.reduceEqDiff, Nat.reduceLeDiff, thenQ, ContK, ty2, ty3, ty4, ty5, ty22, ty24, ty30, ty34, ty51, Bool.not_true, Bool.not_false, decide_true, decide_false, if_true, if_false, bl34, bl34_0, st34, c1]
      exact ⟨⟨_, rfl⟩, by unfold metV rgV; rw [if_neg (by rw [he]; simp), if_pos (by omega)]⟩
    by_cases c2 : (n : Int) ≤ fr
    · simp -implicitDefEqProofs only [sB, Nat.reduceAdd, Nat.reduceSub, yieldL, popK, flat, nptr, Value.cells, H.new, eq_self, Int.reduceEq, Int.reduceLT, Int.reduceLE, Nat.reduceEqDiff, Nat.reduceLeDiff, thenQ, ContK, ty2, ty3, ty4, ty5, ty22, ty24, ty30, ty34, ty51, Bool.not_true, Bool.not_false, decide_true, decide_false, if_true, if_false, bl34, bl34_0, st34, c1, c2]
      exact ⟨⟨_, rfl⟩, by unfold metV rgV; rw [if_neg (by rw [he]; simp), if_pos (by omega)]⟩
    by_cases c3 : to < 0
    · simp -implicitDefEqProofs only [sB, Nat.reduceAdd, Nat.reduceSub, yieldL, popK, flat, nptr, Value.cells, H.new, eq_self, Int.reduceEq, Int.reduceLT, Int.reduceLE, Nat.reduceEqDiff, Nat.reduceLeDiff, thenQ, ContK, ty2, ty3, ty4, ty5, ty22, ty24, ty30, ty34, ty51, Bool.not_true, Bool.not_false, decide_true, decide_false, if_true, if_false, bl34, bl34_0, st34, c1, c2, c3]
      exact ⟨⟨_, rfl⟩, by unfold metV rgV; rw [if_neg (by rw [he]; simp), if_pos (by omega)]⟩
    by_cases c4 : (n : Int) ≤ to
    · simp -implicitDefEqProofs only [sB, Nat.reduceAdd, Nat.reduceSub, yieldL, popK, flat, nptr, Value.cells, H.new, eq_self, Int.reduceEq, Int.reduceLT, Int.reduceLE, Nat.reduceEqDiff, Nat.reduceLeDiff, thenQ, ContK, ty2, ty3, ty4, ty5, ty22, ty24, ty30, ty34, ty51, Bool.not_true, Bool.not_false, decide_true, decide_false, if_true, if_false, bl34, bl34_0, st34, c1, c2, c3, c4]
      exact ⟨⟨_, rfl⟩, by unfold metV rgV; rw [if_neg (by rw [he]; simp), if_pos (by omega)]⟩
    have hin : ¬ (fr < 0 ∨ (n : Int) ≤ fr ∨ to < 0 ∨ (n : Int) ≤ to) := by omega
    by_cases c5 : to < fr
    · simp -implicitDefEqProofs only [sB, Nat.reduceAdd, Nat.reduceSub, yieldL, popK, flat, nptr, Value.cells, H.new, eq_self, Int.reduceEq, Int.reduceLT, Int.reduceLE, Nat.reduceEqDiff, Nat.reduceLeDiff, thenQ, ContK, ty2, ty3, ty4, ty5, ty22, ty24, ty30, ty34, ty51, Bool.not_true, Bool.not_false, decide_true, decide_false, if_true, if_false, bl34, bl34_0, st34, c1, c2, c3, c4, c5]
      exact ⟨⟨_, rfl⟩, by unfold metV rgV; rw [if_neg (by rw [he]; simp), if_neg hin, if_pos c5]⟩
    obtain ⟨i, rfl⟩ : ∃ i : Nat, fr = i := ⟨fr.toNat, by omega⟩
    obtain ⟨k, rfl⟩ : ∃ k : Nat, to = k := ⟨to.toNat, by omega⟩
    have hcl := tight_iff t
    simp -implicitDefEqProofs only [sB, Nat.reduceAdd, Nat.reduceSub, yieldL, popK, flat, nptr, Value.cells, H.new, eq_self, Int.reduceEq, Int.reduceLT, Int.reduceLE, Nat.reduceEqDiff, Nat.reduceLeDiff, thenQ, ContK, ty2, ty3, ty4, ty5, ty22, ty24, ty30, ty34, ty51, Bool.not_true, Bool.not_false, decide_true, decide_false, if_true, if_false, bl34, bl34_0, st34, c1, c2, c3, c4, c5]
    refine RunCall_of (clashes49 I hv0 t) ?_
    cases hc : (clashP n L U).isSome with
    | true =>
      have hok : tightOk n (rowA n L U) = false := by rw [hcl, hc]; rfl
      simp -implicitDefEqProofs only [sB, Nat.reduceAdd, Nat.reduceSub, yieldL, popK, flat, nptr, Value.cells, H.new, eq_self, Int.reduceEq, Int.reduceLT, Int.reduceLE, Nat.reduceEqDiff, Nat.reduceLeDiff, thenQ, ContK, ty2, ty3, ty4, ty5, ty22, ty24, ty30, ty34, ty51, Bool.not_true, Bool.not_false, decide_true, decide_false, if_true, if_false, bl34, bl34_0, st34]
      exact ⟨⟨_, rfl⟩, by unfold metV rgV; rw [if_neg (by rw [he]; simp), if_neg hin, if_neg c5, if_pos hok]⟩
    | false =>
      have hok : tightOk n (rowA n L U) = true := by rw [hcl, hc]; rfl
      by_cases c6 : i = k
      · subst c6
        simp -implicitDefEqProofs only [sB, Nat.reduceAdd, Nat.reduceSub, yieldL, popK, flat, nptr, Value.cells, H.new, eq_self, Int.reduceEq, Int.reduceLT, Int.reduceLE, Nat.reduceEqDiff, Nat.reduceLeDiff, thenQ, ContK, ty2, ty3, ty4, ty5, ty22, ty24, ty30, ty34, ty51, Bool.not_true, Bool.not_false, decide_true, decide_false, if_true, if_false, bl34, bl34_0, st34]
        exact ⟨⟨_, rfl⟩, by unfold metV rgV; rw [if_neg (by rw [he]; simp), if_neg hin, if_neg c5, if_neg (by rw [hok]; simp), if_pos rfl]⟩
      · have c6' : ¬ ((i : Int) = (k : Int)) := by omega
        simp -implicitDefEqProofs only [sB, Nat.reduceAdd, Nat.reduceSub, yieldL, popK, flat, nptr, Value.cells, H.new, eq_self, Int.reduceEq, Int.reduceLT, Int.reduceLE, Nat.reduceEqDiff, Nat.reduceLeDiff, thenQ, ContK, ty2, ty3, ty4, ty5, ty22, ty24, ty30, ty34, ty51, Bool.not_true, Bool.not_false, decide_true, decide_false, if_true, if_false, bl34, bl34_0, st34, c6']
        have i2 : (0 : Int) ≤ (i : Int) ∧ (i : Int) < (n : Int) := ⟨by omega, by omega⟩
        have k2 : (0 : Int) ≤ (k : Int) ∧ (k : Int) < (n : Int) := ⟨by omega, by omega⟩
        obtain ⟨a1, a2⟩ := tightA_rng t (i := i) (by omega)
        obtain ⟨b1, b2⟩ := tightA_rng t (i := k) (by omega)
        rw [tightA_1 (by omega)] at a1 b1
        rw [tightA_2 (by omega)] at a2 b2
        have w1 : IntKind.i64.wrap (rmax L k - rmin U n i) = rmax L k - rmin U n i := wrap_i64 (by omega) (by omega)
        have w2 : IntKind.i64.wrap (rmin U n k - rmax L i) = rmin U n k - rmax L i := wrap_i64 (by omega) (by omega)
        have hix : ∀ B1 B2 B3 : Blk, (B1 :: B2 :: (List.replicate (3 * n) .dead ++ [B3]))[2 + 3 * n]? = some B3 := by
          intro B1 B2 B3
          have e : 2 + 3 * n = 3 * n + 1 + 1 := by omega
          rw [e, List.getElem?_cons_succ, List.getElem?_cons_succ, List.getElem?_append_right (by simp)]
          simp
        have ri := rd_rcells (A := fun j => rmax L j) (B := fun j => rmin U n j) (e := 34) (sz := 2) (n := n) (j := i) (by omega)
        have rk := rd_rcells (A := fun j => rmax L j) (B := fun j => rmin U n j) (e := 34) (sz := 2) (n := n) (j := k) (by omega)
        refine RunCall_of (tight50 I hv0 ⟨n2, n16⟩) ?_
        simp -implicitDefEqProofs only [sB, Nat.reduceAdd, Nat.reduceSub, yieldL, popK, flat, nptr, Value.cells, H.new, eq_self, Int.reduceEq, Int.reduceLT, Int.reduceLE, Nat.reduceEqDiff, Nat.reduceLeDiff, thenQ, ContK, ty2, ty3, ty4, ty5, ty22, ty24, ty30, ty34, ty51, sD, mixT, isAlloc, ridOf, blockOf, Bool.not_true, Bool.not_false, decide_true, decide_false, if_true, if_false, bl34, bl34_0, st34, i2, k2, w1, w2, len_assoc, hix, ri.1, ri.2, rk.1, rk.2]
        refine ⟨effOk_of (by kernel_rfl) (by simp), drawOk_ren (fun _ => 0) rfl (by kernel_rfl), ⟨_, rfl⟩, ?_⟩
        unfold metV rgV
        rw [if_neg (by rw [he]; simp), if_neg hin, if_neg c5, if_neg (by rw [hok]; simp), if_neg c6', Int.toNat_natCast, Int.toNat_natCast, tightA_1 (by omega), tightA_1 (by omega), tightA_2 (by omega), tightA_2 (by omega)]
  · simp -implicitDefEqProofs only [sB, Nat.reduceAdd, Nat.reduceSub, yieldL, popK, flat, nptr, Value.cells, H.new, eq_self, Int.reduceEq, Int.reduceLT, Int.reduceLE, Nat.reduceEqDiff, Nat.reduceLeDiff, thenQ, ContK, ty2, ty3, ty4, ty5, ty22, ty24, ty30, ty34, ty51, Bool.not_true, Bool.not_false, decide_true, decide_false, if_true, if_false, bl34, bl34_0, st34, he]
    refine RunCall_of (checkTank30 I hv0) ?_
    simp -implicitDefEqProofs only [sB, Nat.reduceAdd, Nat.reduceSub, yieldL, popK, flat, nptr, Value.cells, H.new, eq_self, Int.reduceEq, Int.reduceLT, Int.reduceLE, Nat.reduceEqDiff, Nat.reduceLeDiff, thenQ, ContK, ty2, ty3, ty4, ty5, ty22, ty24, ty30, ty34, ty51, Bool.not_true, Bool.not_false, decide_true, decide_false, if_true, if_false, bl34, bl34_0, st34, he]
    exact ⟨⟨_, rfl⟩, by unfold metV rgV; rw [if_pos he]⟩
end Go.Proofs.Ytcocmbccfikmhaa
set_option linter.unusedSimpArgs false
set_option linter.unusedVariables false
namespace Go.Proofs.Ytcocmbccfikmhaa
open Go.Sym
theorem free_eq_fields {P : Program} {d : Nat} {t : TypeId} {fs : Array Field} {xs ys : List Value} {r : Field → Bool} (hu : P.underlying t = some (.struct fs)) (hh : P.stoodInHeld t = false)
    (hr : ∀ f ∈ fs.toList, f.name ≠ "_" ∧ ∃ x y, partV P f.type xs f.offset = some x ∧ partV P f.type ys f.offset = some y ∧ free P (Op.equalIn d f.type x y) = some (r f)) :
    free P (Op.equalIn (d + 1) t (.agg xs.toArray) (.agg ys.toArray)) = some (fs.toList.all r) := by
  simp only [Op.equalIn]
  rw [free_bind, free_underlying hu]
  simp only [Option.bind_some]
  rw [free_bind, free_program]
  simp only [Option.bind_some, hh, Bool.false_eq_true, if_false]
  rw [← Array.forIn_toList]
  rw [free_bind, free_loop (r := r) fs.toList (fun f hf => ?_)]
  · simp only [Option.bind_some]
    cases fs.toList.all r <;> rfl
  · obtain ⟨hn, x, y, hx, hy, he⟩ := hr f hf
    rw [if_pos hn, free_bind, free_part hx, Option.bind_some, free_bind, free_part hy, Option.bind_some, free_bind, he, Option.bind_some]
    cases r f <;> rfl
theorem un29 : Try.prog.underlying 29 = some (.struct #[⟨"Num", 2, 0, false, "", "", 0⟩, ⟨"Den", 2, 1, false, "", "", 8⟩]) := by kernel_rfl
theorem un34 : Try.prog.underlying 34 = some (.struct #[⟨"Lo", 2, 0, false, "", "", 0⟩, ⟨"Hi", 2, 1, false, "", "", 8⟩]) := by kernel_rfl
theorem un2 : Try.prog.underlying 2 = some (.int .i64) := by kernel_rfl
theorem eq_two {t : TypeId} {n1 n2 : String} {p1 p2 q1 q2 : String} {s1 s2 : Nat} {b1 b2 : Bool} {a b c d : Int} {x y : Operand} (hu : Try.prog.underlying t = some (.struct #[⟨n1, 2, 0, b1, p1, q1, s1⟩, ⟨n2, 2, 1, b2, p2, q2, s2⟩])) (hh : Try.prog.stoodInHeld t = false) (hg : Try.prog.eqGuardType Try.prog.depth t = false) (h1 : n1 ≠ "_") (h2 : n2 ≠ "_") :
    abin Try.prog .eql t x y (.agg #[.int .i64 a, .int .i64 b]) (.agg #[.int .i64 c, .int .i64 d]) = some (.bool (decide (a = c) && decide (b = d))) := by
  refine bin_eql_agg (a := [.int .i64 a, .int .i64 b]) (b := [.int .i64 c, .int .i64 d]) rfl rfl hg ?_
  have key := free_eq_fields (d := 9999) (xs := [.int .i64 a, .int .i64 b]) (ys := [.int .i64 c, .int .i64 d]) (r := fun f => if f.offset = 0 then decide (a = c) else decide (b = d)) hu hh (fun f hf => by
    simp only [List.mem_cons, List.not_mem_nil, or_false] at hf
    rcases hf with rfl | rfl
    · exact ⟨h1, .int .i64 a, .int .i64 c, by unfold partV; simp only [tg2]; rfl, by unfold partV; simp only [tg2]; rfl, free_eq_int un2⟩
    · exact ⟨h2, .int .i64 b, .int .i64 d, by unfold partV; simp only [tg2]; rfl, by unfold partV; simp only [tg2]; rfl, free_eq_int un2⟩)
  rw [key]
  simp
theorem eql29 {a b c d : Int} {x y : Operand} : abin Try.prog .eql 29 x y (.agg #[.int .i64 a, .int .i64 b]) (.agg #[.int .i64 c, .int .i64 d]) = some (.bool (decide (a = c) && decide (b = d))) :=
  eq_two un29 (by kernel_rfl) (by kernel_rfl) (by decide) (by decide)
theorem eql34 {a b c d : Int} {x y : Operand} : abin Try.prog .eql 34 x y (.agg #[.int .i64 a, .int .i64 b]) (.agg #[.int .i64 c, .int .i64 d]) = some (.bool (decide (a = c) && decide (b = d))) :=
  eq_two un34 (by kernel_rfl) (by kernel_rfl) (by decide) (by decide)
theorem belowV_form (n : Nat) (D L U : Nat → Int) (pr : Int) (m : Nat) (x : Nat → Int) (dip : Int) : ∃ a b e, belowV n D L U pr m x dip = .tuple #[.agg #[.int .i64 a, .int .i64 b], .int .i64 e] := by
  unfold belowV
  split
  · exact ⟨_, _, _, rfl⟩
  · split <;> exact ⟨_, _, _, rfl⟩
theorem metV_form (n : Nat) (D L U : Nat → Int) (pr fr to : Int) : ∃ a b e, metV n D L U pr fr to = .tuple #[.agg #[.int .i64 a, .int .i64 b], .int .i64 e] := by
  unfold metV rgV
  split
  · exact ⟨_, _, _, rfl⟩
  · split
    · exact ⟨_, _, _, rfl⟩
    · split
      · exact ⟨_, _, _, rfl⟩
      · split
        · exact ⟨_, _, _, rfl⟩
        · split <;> exact ⟨_, _, _, rfl⟩

set_option maxRecDepth 100000 in
theorem great8 (I : Nat → Option Obj) {h : H} {v : Value} {n : Nat} {D L U : Nat → Int} {pr : Int} (hv : Rows I v n D L U) :
    Snd Try.prog I (.func 8) [.agg #[v, .int .i64 pr]] h (.bool (decide (25 < n))) h := by
  obtain ⟨q, c, rfl, hn, hq⟩ := hv
  refine Snd_run0 (rs := [.tmp 2]) 400 Try.func8 (by kernel_rfl) rfl Try.ntmps8 rfl rfl ?_
  simp -implicitDefEqProofs only [sB, Nat.reduceAdd, Nat.reduceSub, yieldL, popK, flat, nptr, Value.cells, H.new, eq_self, Int.reduceEq, Int.reduceLT, Int.reduceLE, Nat.reduceEqDiff, Nat.reduceLeDiff, thenQ, ContK, ty3, ty4, ty22, ty24, Bool.not_true, Bool.not_false, decide_true, decide_false, if_true, if_false]
  exact ⟨⟨_, rfl⟩, by congr 2; rw [decide_eq_decide]; omega⟩
end Go.Proofs.Ytcocmbccfikmhaa
