/- What came in, as blocks that are read; a call on it. No program is named here. (own texts put together: SymIn) -/
import Derived.Test.YtpgignenhiddkaaM4
import Derived.Below
import Derived.Deep.Slices
namespace Go.Sym
open Go.RowKit
def inI (W : World) : Nat → Option Obj := fun b => W.heap[b]?
def inE (_ : World) : Env := oddE
theorem inE_odd (W : World) (b : Nat) : inE W (2 * b + 1) = some { b := b } := oddE_odd b
theorem inE_even (W : World) {id : Nat} (h : id % 2 = 0) : inE W id = none := oddE_even h
theorem R_in (W : World) : R (inI W) (inE W) [] W := by
  refine ⟨fun id L hL hid => ?_, fun b o hbo => ⟨inE_odd W b, hbo⟩, inE_odd W, fun i j L M hi _ hi2 => ?_, fun i L hi hi2 => ?_⟩
  · rw [inE_even W hid] at hL; cases hL
  · rw [inE_even W hi2] at hi; cases hi
  · rw [inE_even W hi2] at hi; cases hi
theorem Snd_calls {P : Program} {W : World} {g : FuncId} {args cargs : List Value} {v : Value} {h' : H} (hs : Snd P (inI W) (.func g) args [] v h') (ha : concL (inE W) args = some cargs) (hv : flat v = true) :
    Calls P g cargs.toArray W (fun e W' => e = .returned v ∧ Below W.heap.size W W') := by
  refine callsIn_wide.1 (CallsIn.mono (hs.2 (inE W) W cargs (R_in W) ha) ?_)
  rintro e W' ⟨E', c, rfl, hc, r', adv⟩
  rw [conc_flat _ _ hv] at hc
  cases hc
  refine ⟨rfl, adv.os, adv.tape, adv.out, adv.grow, fun k hk => adv.frame k hk fun id L hL hid => ?_⟩
  rw [inE_even W hid] at hL; cases hL
/-- a slice that came in -/
def absP : Option Addr → Option Addr
  | some a => some ⟨2 * a.block + 1, a.off, none⟩
  | none => none
theorem conc_slice_in {W : World} {a : Addr} {len cap : Nat} (hs : a.spot = none) (hc : cap < UNK) : conc (inE W) (.slice (absP (some a)) len cap) = some (.slice (some a) len cap) := by
  obtain ⟨b, off, s⟩ := a
  simp only at hs
  subst hs
  simp only [absP, conc, inE_odd, Option.bind_some, if_pos hc, Nat.zero_add]
theorem inL_ints {I : Nat → Option Obj} : ∀ (l : List Value), (∀ v ∈ l, ∃ k n, v = .int k n) → inL I l = some l
  | [], _ => rfl
  | v :: l, h => by
    obtain ⟨k, n, rfl⟩ := h v (List.mem_cons_self ..)
    simp only [inL, inV, inL_ints l (fun v hv => h v (List.mem_cons_of_mem _ hv)), Option.bind_some, Option.map_some]
theorem rdl_inL {W : World} {h : H} {base b off n : Nat} {cs : List Value} (hn : 0 < n) (hc : W.cells? base ⟨b, off, none⟩ n = some cs) : rdl (inI W) h (2 * b + 1) off n = inL (inI W) cs := by
  obtain ⟨_, hlen, hcell⟩ := World.cells?_some hc
  have key : ∀ i, i < n → W.cell? ⟨b, off + i, none⟩ = cs[i]? := by
    intro i hin
    have := hcell i hin
    rw [add_off] at this
    rw [this]
  have h0 := key 0 hn
  rw [List.getElem?_eq_getElem (by omega)] at h0
  unfold World.cell? at h0
  split at h0
  · rename_i c e fz hb
    have kc : ∀ i, i < n → c[off + i]? = cs[i]? := by
      intro i hin
      have := key i hin
      unfold World.cell? at this
      rw [hb] at this
      simpa using this
    have hsz : off + n ≤ c.size := by
      have h1 := kc (n - 1) (by omega)
      rw [List.getElem?_eq_getElem (by omega)] at h1
      have := (Array.getElem?_eq_some_iff.1 h1).1
      omega
    have hd : (c.toList.drop off).take n = cs := by
      apply List.ext_getElem?
      intro i
      by_cases hin : i < n
      · rw [List.getElem?_take_of_lt hin, List.getElem?_drop, Array.getElem?_toList]
        exact kc i hin
      · rw [List.getElem?_eq_none (by simp; omega), List.getElem?_eq_none (by omega)]
    unfold rdl
    rw [if_neg (by omega)]
    have e2 : (2 * b + 1) / 2 = b := by omega
    simp only [inI, e2, hb]
    rw [if_pos hsz, hd]
  · cases h0
theorem rdl_in {W : World} {h : H} {base b off n : Nat} {cs : List Value} (hn : 0 < n) (hc : W.cells? base ⟨b, off, none⟩ n = some cs) (hi : ∀ v ∈ cs, ∃ k x, v = .int k x) : rdl (inI W) h (2 * b + 1) off n = some cs :=
  (rdl_inL hn hc).trans (inL_ints cs hi)
end Go.Sym
