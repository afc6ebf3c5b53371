/- What the seat's types are, in forms for the simplifier; written by program (ty.py). (own texts put together: Ty) -/
import Derived.Test.YtcocmbccfikmhaaM4
import Derived.Test.YtcocmbccfikmhaaProg
import Derived.KernelRfl
namespace Go.Proofs.Ytcocmbccfikmhaa
open Go.Sym
set_option linter.unusedSimpArgs false
theorem sz2 : tsz Try.prog 2 = some 1 := by kernel_rfl
theorem sz3 : tsz Try.prog 3 = some 1 := by kernel_rfl
theorem sz4 : tsz Try.prog 4 = some 1 := by kernel_rfl
theorem sz5 : tsz Try.prog 5 = some 1 := by kernel_rfl
theorem sz22 : tsz Try.prog 22 = some 1 := by kernel_rfl
theorem sz24 : tsz Try.prog 24 = some 2 := by kernel_rfl
theorem sz25 : tsz Try.prog 25 = some 1 := by kernel_rfl
theorem sz29 : tsz Try.prog 29 = some 2 := by kernel_rfl
theorem sz30 : tsz Try.prog 30 = some 1 := by kernel_rfl
theorem sz34 : tsz Try.prog 34 = some 2 := by kernel_rfl
theorem sz40 : tsz Try.prog 40 = some 4 := by kernel_rfl
theorem sz44 : tsz Try.prog 44 = some 1 := by kernel_rfl
theorem sz45 : tsz Try.prog 45 = some 1 := by kernel_rfl
theorem sz46 : tsz Try.prog 46 = some 2 := by kernel_rfl
theorem sz47 : tsz Try.prog 47 = some 2 := by kernel_rfl
theorem sz51 : tsz Try.prog 51 = some 1 := by kernel_rfl
theorem sz59 : tsz Try.prog 59 = some 2 := by kernel_rfl
theorem sz64 : tsz Try.prog 64 = some 3 := by kernel_rfl
theorem sz70 : tsz Try.prog 70 = some 1 := by kernel_rfl
theorem sz78 : tsz Try.prog 78 = some 1 := by kernel_rfl
theorem sz80 : tsz Try.prog 80 = some 16 := by kernel_rfl
theorem sz81 : tsz Try.prog 81 = some 16 := by kernel_rfl
theorem sz90 : tsz Try.prog 90 = some 34 := by kernel_rfl
theorem sz94 : tsz Try.prog 94 = some 1 := by kernel_rfl
theorem sz97 : tsz Try.prog 97 = some 1 := by kernel_rfl
theorem sz100 : tsz Try.prog 100 = some 20 := by kernel_rfl
theorem sz101 : tsz Try.prog 101 = some 40 := by kernel_rfl
theorem sz111 : tsz Try.prog 111 = some 1 := by kernel_rfl
theorem sz116 : tsz Try.prog 116 = some 32 := by kernel_rfl
theorem sz118 : tsz Try.prog 118 = some 1 := by kernel_rfl
theorem sz123 : tsz Try.prog 123 = some 1 := by kernel_rfl
theorem tg2 : tagg Try.prog 2 = some false := by kernel_rfl
theorem ld2 {I : Nat → Option Obj} {id off : Nat} {h : H} : aload Try.prog I 2 (.pointer (some ⟨id, off, none⟩)) h = ld1 (rdl I h id off 1) := by unfold aload ld1; simp only [tg2]; rcases rdl I h id off 1 with _ | _ | _ <;> rfl
theorem st2 {id off : Nat} {h : H} {k : IntKind} {x : Int} : astore Try.prog 2 (.pointer (some ⟨id, off, none⟩)) (.int k x) h = wrl h id off [(.int k x)] := by unfold astore; simp only [sz2]; rfl
theorem az2 {h : H} : allocV (tzero Try.prog 2) 2 h = some (nptr h, h ++ [.cells ([Value.int .i64 0]) 2]) := by
  have e : tzero Try.prog 2 = some (Value.int .i64 0) := by kernel_rfl
  rw [e]; exact allocV_eq (by kernel_rfl)
theorem aza2 {rid : Nat} : allocA (tzero Try.prog 2) 2 rid = some (.pointer (some ⟨rid, 0, none⟩), .cells ([Value.int .i64 0]) 2) := by
  have e : tzero Try.prog 2 = some (Value.int .i64 0) := by kernel_rfl
  rw [e]; exact allocA_eq (by kernel_rfl)
theorem tg3 : tagg Try.prog 3 = some false := by kernel_rfl
theorem ld3 {I : Nat → Option Obj} {id off : Nat} {h : H} : aload Try.prog I 3 (.pointer (some ⟨id, off, none⟩)) h = ld1 (rdl I h id off 1) := by unfold aload ld1; simp only [tg3]; rcases rdl I h id off 1 with _ | _ | _ <;> rfl
theorem st3 {id off : Nat} {h : H} {k : IntKind} {x : Int} : astore Try.prog 3 (.pointer (some ⟨id, off, none⟩)) (.int k x) h = wrl h id off [(.int k x)] := by unfold astore; simp only [sz3]; rfl
theorem az3 {h : H} : allocV (tzero Try.prog 3) 3 h = some (nptr h, h ++ [.cells ([Value.int .i64 0]) 3]) := by
  have e : tzero Try.prog 3 = some (Value.int .i64 0) := by kernel_rfl
  rw [e]; exact allocV_eq (by kernel_rfl)
theorem aza3 {rid : Nat} : allocA (tzero Try.prog 3) 3 rid = some (.pointer (some ⟨rid, 0, none⟩), .cells ([Value.int .i64 0]) 3) := by
  have e : tzero Try.prog 3 = some (Value.int .i64 0) := by kernel_rfl
  rw [e]; exact allocA_eq (by kernel_rfl)
theorem tg4 : tagg Try.prog 4 = some false := by kernel_rfl
theorem ld4 {I : Nat → Option Obj} {id off : Nat} {h : H} : aload Try.prog I 4 (.pointer (some ⟨id, off, none⟩)) h = ld1 (rdl I h id off 1) := by unfold aload ld1; simp only [tg4]; rcases rdl I h id off 1 with _ | _ | _ <;> rfl
theorem st4 {id off : Nat} {h : H} {b : Bool} : astore Try.prog 4 (.pointer (some ⟨id, off, none⟩)) (.bool b) h = wrl h id off [(.bool b)] := by unfold astore; simp only [sz4]; rfl
theorem az4 {h : H} : allocV (tzero Try.prog 4) 4 h = some (nptr h, h ++ [.cells ([Value.bool false]) 4]) := by
  have e : tzero Try.prog 4 = some (Value.bool false) := by kernel_rfl
  rw [e]; exact allocV_eq (by kernel_rfl)
theorem aza4 {rid : Nat} : allocA (tzero Try.prog 4) 4 rid = some (.pointer (some ⟨rid, 0, none⟩), .cells ([Value.bool false]) 4) := by
  have e : tzero Try.prog 4 = some (Value.bool false) := by kernel_rfl
  rw [e]; exact allocA_eq (by kernel_rfl)
theorem tg5 : tagg Try.prog 5 = some false := by kernel_rfl
theorem ld5 {I : Nat → Option Obj} {id off : Nat} {h : H} : aload Try.prog I 5 (.pointer (some ⟨id, off, none⟩)) h = ld1 (rdl I h id off 1) := by unfold aload ld1; simp only [tg5]; rcases rdl I h id off 1 with _ | _ | _ <;> rfl
theorem st5 {id off : Nat} {h : H} {k : IntKind} {x : Int} : astore Try.prog 5 (.pointer (some ⟨id, off, none⟩)) (.int k x) h = wrl h id off [(.int k x)] := by unfold astore; simp only [sz5]; rfl
theorem az5 {h : H} : allocV (tzero Try.prog 5) 5 h = some (nptr h, h ++ [.cells ([Value.int .u8 0]) 5]) := by
  have e : tzero Try.prog 5 = some (Value.int .u8 0) := by kernel_rfl
  rw [e]; exact allocV_eq (by kernel_rfl)
theorem aza5 {rid : Nat} : allocA (tzero Try.prog 5) 5 rid = some (.pointer (some ⟨rid, 0, none⟩), .cells ([Value.int .u8 0]) 5) := by
  have e : tzero Try.prog 5 = some (Value.int .u8 0) := by kernel_rfl
  rw [e]; exact allocA_eq (by kernel_rfl)
theorem tg22 : tagg Try.prog 22 = some false := by kernel_rfl
theorem ld22 {I : Nat → Option Obj} {id off : Nat} {h : H} : aload Try.prog I 22 (.pointer (some ⟨id, off, none⟩)) h = ld1 (rdl I h id off 1) := by unfold aload ld1; simp only [tg22]; rcases rdl I h id off 1 with _ | _ | _ <;> rfl
theorem st22 {id off : Nat} {h : H} {p : Option Addr} {n c : Nat} : astore Try.prog 22 (.pointer (some ⟨id, off, none⟩)) (.slice p n c) h = wrl h id off [(.slice p n c)] := by unfold astore; simp only [sz22]; rfl
theorem az22 {h : H} : allocV (tzero Try.prog 22) 22 h = some (nptr h, h ++ [.cells ([Value.slice none 0 0]) 22]) := by
  have e : tzero Try.prog 22 = some (Value.slice none 0 0) := by kernel_rfl
  rw [e]; exact allocV_eq (by kernel_rfl)
theorem aza22 {rid : Nat} : allocA (tzero Try.prog 22) 22 rid = some (.pointer (some ⟨rid, 0, none⟩), .cells ([Value.slice none 0 0]) 22) := by
  have e : tzero Try.prog 22 = some (Value.slice none 0 0) := by kernel_rfl
  rw [e]; exact allocA_eq (by kernel_rfl)
theorem un22 : Try.prog.underlying 22 = some (.slice 64) := by kernel_rfl
theorem ln22 {I : Nat → Option Obj} {ty : TypeId} {p : Option Addr} {n c : Nat} {h : H} : abi2 Try.prog I .len #[22] ty [.slice p n c] h = some (.int .i64 n, h) := by unfold abi2 abi; simp [alen, un22]
theorem lnd22 {I : Nat → Option Obj} {ty : TypeId} {p : Option Addr} {n c : Nat} {h : H} : abi Try.prog I .len #[22] ty [.slice p n c] h = some (.int .i64 n, h) := by unfold abi; simp [alen, un22]
theorem ix22 {id off n c : Nat} {k : IntKind} {i : Int} : aindex Try.prog 22 (.slice (some ⟨id, off, none⟩) n c) (.int k i) = if 0 ≤ i ∧ i < n then some (.pointer (some ⟨id, off + i.toNat * 3, none⟩)) else none := by simp only [aindex, un22, sz64, Option.map_some, Nat.mul_one]
theorem tg24 : tagg Try.prog 24 = some true := by kernel_rfl
theorem ld24 {I : Nat → Option Obj} {id off : Nat} {h : H} : aload Try.prog I 24 (.pointer (some ⟨id, off, none⟩)) h = ldA (rdl I h id off 2) := by unfold aload ldA; simp only [tg24, sz24, Option.bind_some]
theorem st24 {id off : Nat} {h : H} {l : List Value} (hl : l.length = 2) : astore Try.prog 24 (.pointer (some ⟨id, off, none⟩)) (.agg l.toArray) h = wrl h id off l := by unfold astore; simp only [sz24, Value.cells, List.size_toArray, hl, if_true]
theorem az24 {h : H} : allocV (tzero Try.prog 24) 24 h = some (nptr h, h ++ [.cells (([Value.slice none 0 0] ++ [Value.int .i64 0])) 24]) := by
  have e : tzero Try.prog 24 = some ((.agg (([Value.slice none 0 0] ++ [Value.int .i64 0])).toArray)) := by kernel_rfl
  rw [e]; exact allocV_eq (by kernel_rfl)
theorem aza24 {rid : Nat} : allocA (tzero Try.prog 24) 24 rid = some (.pointer (some ⟨rid, 0, none⟩), .cells (([Value.slice none 0 0] ++ [Value.int .i64 0])) 24) := by
  have e : tzero Try.prog 24 = some ((.agg (([Value.slice none 0 0] ++ [Value.int .i64 0])).toArray)) := by kernel_rfl
  rw [e]; exact allocA_eq (by kernel_rfl)
theorem fa24_0 {id off : Nat} : afield Try.prog 24 (.pointer (some ⟨id, off, none⟩)) 0 = some (.pointer (some ⟨id, off, none⟩)) := by kernel_rfl
theorem fv24_0 {l : List Value} : afieldV Try.prog 24 (.agg l.toArray) 0 = l[0]? := by kernel_rfl
theorem fa24_1 {id off : Nat} : afield Try.prog 24 (.pointer (some ⟨id, off, none⟩)) 1 = some (.pointer (some ⟨id, off + 1, none⟩)) := by kernel_rfl
theorem fv24_1 {l : List Value} : afieldV Try.prog 24 (.agg l.toArray) 1 = l[1]? := by kernel_rfl
theorem tg25 : tagg Try.prog 25 = some false := by kernel_rfl
theorem ld25 {I : Nat → Option Obj} {id off : Nat} {h : H} : aload Try.prog I 25 (.pointer (some ⟨id, off, none⟩)) h = ld1 (rdl I h id off 1) := by unfold aload ld1; simp only [tg25]; rcases rdl I h id off 1 with _ | _ | _ <;> rfl
theorem st25 {id off : Nat} {h : H} {p : Option Addr} {n c : Nat} : astore Try.prog 25 (.pointer (some ⟨id, off, none⟩)) (.slice p n c) h = wrl h id off [(.slice p n c)] := by unfold astore; simp only [sz25]; rfl
theorem az25 {h : H} : allocV (tzero Try.prog 25) 25 h = some (nptr h, h ++ [.cells ([Value.slice none 0 0]) 25]) := by
  have e : tzero Try.prog 25 = some (Value.slice none 0 0) := by kernel_rfl
  rw [e]; exact allocV_eq (by kernel_rfl)
theorem aza25 {rid : Nat} : allocA (tzero Try.prog 25) 25 rid = some (.pointer (some ⟨rid, 0, none⟩), .cells ([Value.slice none 0 0]) 25) := by
  have e : tzero Try.prog 25 = some (Value.slice none 0 0) := by kernel_rfl
  rw [e]; exact allocA_eq (by kernel_rfl)
theorem un25 : Try.prog.underlying 25 = some (.slice 2) := by kernel_rfl
theorem ln25 {I : Nat → Option Obj} {ty : TypeId} {p : Option Addr} {n c : Nat} {h : H} : abi2 Try.prog I .len #[25] ty [.slice p n c] h = some (.int .i64 n, h) := by unfold abi2 abi; simp [alen, un25]
theorem lnd25 {I : Nat → Option Obj} {ty : TypeId} {p : Option Addr} {n c : Nat} {h : H} : abi Try.prog I .len #[25] ty [.slice p n c] h = some (.int .i64 n, h) := by unfold abi; simp [alen, un25]
theorem ix25 {id off n c : Nat} {k : IntKind} {i : Int} : aindex Try.prog 25 (.slice (some ⟨id, off, none⟩) n c) (.int k i) = if 0 ≤ i ∧ i < n then some (.pointer (some ⟨id, off + i.toNat, none⟩)) else none := by simp only [aindex, un25, sz2, Option.map_some, Nat.mul_one]
theorem tg29 : tagg Try.prog 29 = some true := by kernel_rfl
theorem ld29 {I : Nat → Option Obj} {id off : Nat} {h : H} : aload Try.prog I 29 (.pointer (some ⟨id, off, none⟩)) h = ldA (rdl I h id off 2) := by unfold aload ldA; simp only [tg29, sz29, Option.bind_some]
theorem st29 {id off : Nat} {h : H} {l : List Value} (hl : l.length = 2) : astore Try.prog 29 (.pointer (some ⟨id, off, none⟩)) (.agg l.toArray) h = wrl h id off l := by unfold astore; simp only [sz29, Value.cells, List.size_toArray, hl, if_true]
theorem az29 {h : H} : allocV (tzero Try.prog 29) 29 h = some (nptr h, h ++ [.cells (([Value.int .i64 0] ++ [Value.int .i64 0])) 29]) := by
  have e : tzero Try.prog 29 = some ((.agg (([Value.int .i64 0] ++ [Value.int .i64 0])).toArray)) := by kernel_rfl
  rw [e]; exact allocV_eq (by kernel_rfl)
theorem aza29 {rid : Nat} : allocA (tzero Try.prog 29) 29 rid = some (.pointer (some ⟨rid, 0, none⟩), .cells (([Value.int .i64 0] ++ [Value.int .i64 0])) 29) := by
  have e : tzero Try.prog 29 = some ((.agg (([Value.int .i64 0] ++ [Value.int .i64 0])).toArray)) := by kernel_rfl
  rw [e]; exact allocA_eq (by kernel_rfl)
theorem fa29_0 {id off : Nat} : afield Try.prog 29 (.pointer (some ⟨id, off, none⟩)) 0 = some (.pointer (some ⟨id, off, none⟩)) := by kernel_rfl
theorem fv29_0 {l : List Value} : afieldV Try.prog 29 (.agg l.toArray) 0 = l[0]? := by kernel_rfl
theorem fa29_1 {id off : Nat} : afield Try.prog 29 (.pointer (some ⟨id, off, none⟩)) 1 = some (.pointer (some ⟨id, off + 1, none⟩)) := by kernel_rfl
theorem fv29_1 {l : List Value} : afieldV Try.prog 29 (.agg l.toArray) 1 = l[1]? := by kernel_rfl
theorem tg30 : tagg Try.prog 30 = some false := by kernel_rfl
theorem ld30 {I : Nat → Option Obj} {id off : Nat} {h : H} : aload Try.prog I 30 (.pointer (some ⟨id, off, none⟩)) h = ld1 (rdl I h id off 1) := by unfold aload ld1; simp only [tg30]; rcases rdl I h id off 1 with _ | _ | _ <;> rfl
theorem st30 {id off : Nat} {h : H} {k : IntKind} {x : Int} : astore Try.prog 30 (.pointer (some ⟨id, off, none⟩)) (.int k x) h = wrl h id off [(.int k x)] := by unfold astore; simp only [sz30]; rfl
theorem az30 {h : H} : allocV (tzero Try.prog 30) 30 h = some (nptr h, h ++ [.cells ([Value.int .i64 0]) 30]) := by
  have e : tzero Try.prog 30 = some (Value.int .i64 0) := by kernel_rfl
  rw [e]; exact allocV_eq (by kernel_rfl)
theorem aza30 {rid : Nat} : allocA (tzero Try.prog 30) 30 rid = some (.pointer (some ⟨rid, 0, none⟩), .cells ([Value.int .i64 0]) 30) := by
  have e : tzero Try.prog 30 = some (Value.int .i64 0) := by kernel_rfl
  rw [e]; exact allocA_eq (by kernel_rfl)
theorem tg34 : tagg Try.prog 34 = some true := by kernel_rfl
theorem ld34 {I : Nat → Option Obj} {id off : Nat} {h : H} : aload Try.prog I 34 (.pointer (some ⟨id, off, none⟩)) h = ldA (rdl I h id off 2) := by unfold aload ldA; simp only [tg34, sz34, Option.bind_some]
theorem st34 {id off : Nat} {h : H} {l : List Value} (hl : l.length = 2) : astore Try.prog 34 (.pointer (some ⟨id, off, none⟩)) (.agg l.toArray) h = wrl h id off l := by unfold astore; simp only [sz34, Value.cells, List.size_toArray, hl, if_true]
theorem az34 {h : H} : allocV (tzero Try.prog 34) 34 h = some (nptr h, h ++ [.cells (([Value.int .i64 0] ++ [Value.int .i64 0])) 34]) := by
  have e : tzero Try.prog 34 = some ((.agg (([Value.int .i64 0] ++ [Value.int .i64 0])).toArray)) := by kernel_rfl
  rw [e]; exact allocV_eq (by kernel_rfl)
theorem aza34 {rid : Nat} : allocA (tzero Try.prog 34) 34 rid = some (.pointer (some ⟨rid, 0, none⟩), .cells (([Value.int .i64 0] ++ [Value.int .i64 0])) 34) := by
  have e : tzero Try.prog 34 = some ((.agg (([Value.int .i64 0] ++ [Value.int .i64 0])).toArray)) := by kernel_rfl
  rw [e]; exact allocA_eq (by kernel_rfl)
theorem fa34_0 {id off : Nat} : afield Try.prog 34 (.pointer (some ⟨id, off, none⟩)) 0 = some (.pointer (some ⟨id, off, none⟩)) := by kernel_rfl
theorem fv34_0 {l : List Value} : afieldV Try.prog 34 (.agg l.toArray) 0 = l[0]? := by kernel_rfl
theorem fa34_1 {id off : Nat} : afield Try.prog 34 (.pointer (some ⟨id, off, none⟩)) 1 = some (.pointer (some ⟨id, off + 1, none⟩)) := by kernel_rfl
theorem fv34_1 {l : List Value} : afieldV Try.prog 34 (.agg l.toArray) 1 = l[1]? := by kernel_rfl
theorem tg40 : tagg Try.prog 40 = some true := by kernel_rfl
theorem ld40 {I : Nat → Option Obj} {id off : Nat} {h : H} : aload Try.prog I 40 (.pointer (some ⟨id, off, none⟩)) h = ldA (rdl I h id off 4) := by unfold aload ldA; simp only [tg40, sz40, Option.bind_some]
theorem st40 {id off : Nat} {h : H} {l : List Value} (hl : l.length = 4) : astore Try.prog 40 (.pointer (some ⟨id, off, none⟩)) (.agg l.toArray) h = wrl h id off l := by unfold astore; simp only [sz40, Value.cells, List.size_toArray, hl, if_true]
theorem az40 {h : H} : allocV (tzero Try.prog 40) 40 h = some (nptr h, h ++ [.cells ((([Value.int .i64 0] ++ [Value.int .i64 0]) ++ ([Value.int .i64 0] ++ [Value.int .i64 0]))) 40]) := by
  have e : tzero Try.prog 40 = some ((.agg ((([Value.int .i64 0] ++ [Value.int .i64 0]) ++ ([Value.int .i64 0] ++ [Value.int .i64 0]))).toArray)) := by kernel_rfl
  rw [e]; exact allocV_eq (by kernel_rfl)
theorem aza40 {rid : Nat} : allocA (tzero Try.prog 40) 40 rid = some (.pointer (some ⟨rid, 0, none⟩), .cells ((([Value.int .i64 0] ++ [Value.int .i64 0]) ++ ([Value.int .i64 0] ++ [Value.int .i64 0]))) 40) := by
  have e : tzero Try.prog 40 = some ((.agg ((([Value.int .i64 0] ++ [Value.int .i64 0]) ++ ([Value.int .i64 0] ++ [Value.int .i64 0]))).toArray)) := by kernel_rfl
  rw [e]; exact allocA_eq (by kernel_rfl)
theorem fa40_0 {id off : Nat} : afield Try.prog 40 (.pointer (some ⟨id, off, none⟩)) 0 = some (.pointer (some ⟨id, off, none⟩)) := by kernel_rfl
theorem fv40_0 {l : List Value} : afieldV Try.prog 40 (.agg l.toArray) 0 = some (.agg ((l.drop 0).take 2).toArray) := by kernel_rfl
theorem fa40_1 {id off : Nat} : afield Try.prog 40 (.pointer (some ⟨id, off, none⟩)) 1 = some (.pointer (some ⟨id, off + 2, none⟩)) := by kernel_rfl
theorem fv40_1 {l : List Value} : afieldV Try.prog 40 (.agg l.toArray) 1 = some (.agg ((l.drop 2).take 2).toArray) := by kernel_rfl
theorem tg44 : tagg Try.prog 44 = some false := by kernel_rfl
theorem ld44 {I : Nat → Option Obj} {id off : Nat} {h : H} : aload Try.prog I 44 (.pointer (some ⟨id, off, none⟩)) h = ld1 (rdl I h id off 1) := by unfold aload ld1; simp only [tg44]; rcases rdl I h id off 1 with _ | _ | _ <;> rfl
theorem st44 {id off : Nat} {h : H} {p : Option Addr} {n c : Nat} : astore Try.prog 44 (.pointer (some ⟨id, off, none⟩)) (.slice p n c) h = wrl h id off [(.slice p n c)] := by unfold astore; simp only [sz44]; rfl
theorem az44 {h : H} : allocV (tzero Try.prog 44) 44 h = some (nptr h, h ++ [.cells ([Value.slice none 0 0]) 44]) := by
  have e : tzero Try.prog 44 = some (Value.slice none 0 0) := by kernel_rfl
  rw [e]; exact allocV_eq (by kernel_rfl)
theorem aza44 {rid : Nat} : allocA (tzero Try.prog 44) 44 rid = some (.pointer (some ⟨rid, 0, none⟩), .cells ([Value.slice none 0 0]) 44) := by
  have e : tzero Try.prog 44 = some (Value.slice none 0 0) := by kernel_rfl
  rw [e]; exact allocA_eq (by kernel_rfl)
theorem un44 : Try.prog.underlying 44 = some (.slice 70) := by kernel_rfl
theorem ln44 {I : Nat → Option Obj} {ty : TypeId} {p : Option Addr} {n c : Nat} {h : H} : abi2 Try.prog I .len #[44] ty [.slice p n c] h = some (.int .i64 n, h) := by unfold abi2 abi; simp [alen, un44]
theorem lnd44 {I : Nat → Option Obj} {ty : TypeId} {p : Option Addr} {n c : Nat} {h : H} : abi Try.prog I .len #[44] ty [.slice p n c] h = some (.int .i64 n, h) := by unfold abi; simp [alen, un44]
theorem ix44 {id off n c : Nat} {k : IntKind} {i : Int} : aindex Try.prog 44 (.slice (some ⟨id, off, none⟩) n c) (.int k i) = if 0 ≤ i ∧ i < n then some (.pointer (some ⟨id, off + i.toNat, none⟩)) else none := by simp only [aindex, un44, sz70, Option.map_some, Nat.mul_one]
theorem tg45 : tagg Try.prog 45 = some false := by kernel_rfl
theorem ld45 {I : Nat → Option Obj} {id off : Nat} {h : H} : aload Try.prog I 45 (.pointer (some ⟨id, off, none⟩)) h = ld1 (rdl I h id off 1) := by unfold aload ld1; simp only [tg45]; rcases rdl I h id off 1 with _ | _ | _ <;> rfl
theorem st45 {id off : Nat} {h : H} {k : IntKind} {x : Int} : astore Try.prog 45 (.pointer (some ⟨id, off, none⟩)) (.int k x) h = wrl h id off [(.int k x)] := by unfold astore; simp only [sz45]; rfl
theorem az45 {h : H} : allocV (tzero Try.prog 45) 45 h = some (nptr h, h ++ [.cells ([Value.int .u16 0]) 45]) := by
  have e : tzero Try.prog 45 = some (Value.int .u16 0) := by kernel_rfl
  rw [e]; exact allocV_eq (by kernel_rfl)
theorem aza45 {rid : Nat} : allocA (tzero Try.prog 45) 45 rid = some (.pointer (some ⟨rid, 0, none⟩), .cells ([Value.int .u16 0]) 45) := by
  have e : tzero Try.prog 45 = some (Value.int .u16 0) := by kernel_rfl
  rw [e]; exact allocA_eq (by kernel_rfl)
theorem tg46 : tagg Try.prog 46 = some true := by kernel_rfl
theorem ld46 {I : Nat → Option Obj} {id off : Nat} {h : H} : aload Try.prog I 46 (.pointer (some ⟨id, off, none⟩)) h = ldA (rdl I h id off 2) := by unfold aload ldA; simp only [tg46, sz46, Option.bind_some]
theorem st46 {id off : Nat} {h : H} {l : List Value} (hl : l.length = 2) : astore Try.prog 46 (.pointer (some ⟨id, off, none⟩)) (.agg l.toArray) h = wrl h id off l := by unfold astore; simp only [sz46, Value.cells, List.size_toArray, hl, if_true]
theorem az46 {h : H} : allocV (tzero Try.prog 46) 46 h = some (nptr h, h ++ [.cells (([Value.int .u16 0] ++ [Value.int .u16 0])) 46]) := by
  have e : tzero Try.prog 46 = some ((.agg (([Value.int .u16 0] ++ [Value.int .u16 0])).toArray)) := by kernel_rfl
  rw [e]; exact allocV_eq (by kernel_rfl)
theorem aza46 {rid : Nat} : allocA (tzero Try.prog 46) 46 rid = some (.pointer (some ⟨rid, 0, none⟩), .cells (([Value.int .u16 0] ++ [Value.int .u16 0])) 46) := by
  have e : tzero Try.prog 46 = some ((.agg (([Value.int .u16 0] ++ [Value.int .u16 0])).toArray)) := by kernel_rfl
  rw [e]; exact allocA_eq (by kernel_rfl)
theorem un46 : Try.prog.underlying 46 = some (.array 2 45) := by kernel_rfl
theorem ix46 {id off : Nat} {k : IntKind} {i : Int} : aindex Try.prog 46 (.pointer (some ⟨id, off, none⟩)) (.int k i) = if 0 ≤ i ∧ i < (2 : Nat) then some (.pointer (some ⟨id, off + i.toNat, none⟩)) else none := by simp only [aindex, un46, sz45, Option.map_some, Nat.mul_one]
theorem tg47 : tagg Try.prog 47 = some true := by kernel_rfl
theorem ld47 {I : Nat → Option Obj} {id off : Nat} {h : H} : aload Try.prog I 47 (.pointer (some ⟨id, off, none⟩)) h = ldA (rdl I h id off 2) := by unfold aload ldA; simp only [tg47, sz47, Option.bind_some]
theorem st47 {id off : Nat} {h : H} {l : List Value} (hl : l.length = 2) : astore Try.prog 47 (.pointer (some ⟨id, off, none⟩)) (.agg l.toArray) h = wrl h id off l := by unfold astore; simp only [sz47, Value.cells, List.size_toArray, hl, if_true]
theorem az47 {h : H} : allocV (tzero Try.prog 47) 47 h = some (nptr h, h ++ [.cells (([Value.int .u8 0] ++ [Value.int .u8 0])) 47]) := by
  have e : tzero Try.prog 47 = some ((.agg (([Value.int .u8 0] ++ [Value.int .u8 0])).toArray)) := by kernel_rfl
  rw [e]; exact allocV_eq (by kernel_rfl)
theorem aza47 {rid : Nat} : allocA (tzero Try.prog 47) 47 rid = some (.pointer (some ⟨rid, 0, none⟩), .cells (([Value.int .u8 0] ++ [Value.int .u8 0])) 47) := by
  have e : tzero Try.prog 47 = some ((.agg (([Value.int .u8 0] ++ [Value.int .u8 0])).toArray)) := by kernel_rfl
  rw [e]; exact allocA_eq (by kernel_rfl)
theorem un47 : Try.prog.underlying 47 = some (.array 2 5) := by kernel_rfl
theorem ix47 {id off : Nat} {k : IntKind} {i : Int} : aindex Try.prog 47 (.pointer (some ⟨id, off, none⟩)) (.int k i) = if 0 ≤ i ∧ i < (2 : Nat) then some (.pointer (some ⟨id, off + i.toNat, none⟩)) else none := by simp only [aindex, un47, sz5, Option.map_some, Nat.mul_one]
theorem tg51 : tagg Try.prog 51 = some false := by kernel_rfl
theorem ld51 {I : Nat → Option Obj} {id off : Nat} {h : H} : aload Try.prog I 51 (.pointer (some ⟨id, off, none⟩)) h = ld1 (rdl I h id off 1) := by unfold aload ld1; simp only [tg51]; rcases rdl I h id off 1 with _ | _ | _ <;> rfl
theorem st51 {id off : Nat} {h : H} {p : Option Addr} {n c : Nat} : astore Try.prog 51 (.pointer (some ⟨id, off, none⟩)) (.slice p n c) h = wrl h id off [(.slice p n c)] := by unfold astore; simp only [sz51]; rfl
theorem az51 {h : H} : allocV (tzero Try.prog 51) 51 h = some (nptr h, h ++ [.cells ([Value.slice none 0 0]) 51]) := by
  have e : tzero Try.prog 51 = some (Value.slice none 0 0) := by kernel_rfl
  rw [e]; exact allocV_eq (by kernel_rfl)
theorem aza51 {rid : Nat} : allocA (tzero Try.prog 51) 51 rid = some (.pointer (some ⟨rid, 0, none⟩), .cells ([Value.slice none 0 0]) 51) := by
  have e : tzero Try.prog 51 = some (Value.slice none 0 0) := by kernel_rfl
  rw [e]; exact allocA_eq (by kernel_rfl)
theorem un51 : Try.prog.underlying 51 = some (.slice 34) := by kernel_rfl
theorem ln51 {I : Nat → Option Obj} {ty : TypeId} {p : Option Addr} {n c : Nat} {h : H} : abi2 Try.prog I .len #[51] ty [.slice p n c] h = some (.int .i64 n, h) := by unfold abi2 abi; simp [alen, un51]
theorem lnd51 {I : Nat → Option Obj} {ty : TypeId} {p : Option Addr} {n c : Nat} {h : H} : abi Try.prog I .len #[51] ty [.slice p n c] h = some (.int .i64 n, h) := by unfold abi; simp [alen, un51]
theorem ix51 {id off n c : Nat} {k : IntKind} {i : Int} : aindex Try.prog 51 (.slice (some ⟨id, off, none⟩) n c) (.int k i) = if 0 ≤ i ∧ i < n then some (.pointer (some ⟨id, off + i.toNat * 2, none⟩)) else none := by simp only [aindex, un51, sz34, Option.map_some, Nat.mul_one]
theorem tg59 : tagg Try.prog 59 = some true := by kernel_rfl
theorem ld59 {I : Nat → Option Obj} {id off : Nat} {h : H} : aload Try.prog I 59 (.pointer (some ⟨id, off, none⟩)) h = ldA (rdl I h id off 2) := by unfold aload ldA; simp only [tg59, sz59, Option.bind_some]
theorem st59 {id off : Nat} {h : H} {l : List Value} (hl : l.length = 2) : astore Try.prog 59 (.pointer (some ⟨id, off, none⟩)) (.agg l.toArray) h = wrl h id off l := by unfold astore; simp only [sz59, Value.cells, List.size_toArray, hl, if_true]
theorem az59 {h : H} : allocV (tzero Try.prog 59) 59 h = some (nptr h, h ++ [.cells (([Value.int .i64 0] ++ [Value.int .i64 0])) 59]) := by
  have e : tzero Try.prog 59 = some ((.agg (([Value.int .i64 0] ++ [Value.int .i64 0])).toArray)) := by kernel_rfl
  rw [e]; exact allocV_eq (by kernel_rfl)
theorem aza59 {rid : Nat} : allocA (tzero Try.prog 59) 59 rid = some (.pointer (some ⟨rid, 0, none⟩), .cells (([Value.int .i64 0] ++ [Value.int .i64 0])) 59) := by
  have e : tzero Try.prog 59 = some ((.agg (([Value.int .i64 0] ++ [Value.int .i64 0])).toArray)) := by kernel_rfl
  rw [e]; exact allocA_eq (by kernel_rfl)
theorem un59 : Try.prog.underlying 59 = some (.array 2 2) := by kernel_rfl
theorem ix59 {id off : Nat} {k : IntKind} {i : Int} : aindex Try.prog 59 (.pointer (some ⟨id, off, none⟩)) (.int k i) = if 0 ≤ i ∧ i < (2 : Nat) then some (.pointer (some ⟨id, off + i.toNat, none⟩)) else none := by simp only [aindex, un59, sz2, Option.map_some, Nat.mul_one]
theorem tg64 : tagg Try.prog 64 = some true := by kernel_rfl
theorem ld64 {I : Nat → Option Obj} {id off : Nat} {h : H} : aload Try.prog I 64 (.pointer (some ⟨id, off, none⟩)) h = ldA (rdl I h id off 3) := by unfold aload ldA; simp only [tg64, sz64, Option.bind_some]
theorem st64 {id off : Nat} {h : H} {l : List Value} (hl : l.length = 3) : astore Try.prog 64 (.pointer (some ⟨id, off, none⟩)) (.agg l.toArray) h = wrl h id off l := by unfold astore; simp only [sz64, Value.cells, List.size_toArray, hl, if_true]
theorem az64 {h : H} : allocV (tzero Try.prog 64) 64 h = some (nptr h, h ++ [.cells (([Value.int .i64 0] ++ ([Value.int .i64 0] ++ [Value.int .i64 0]))) 64]) := by
  have e : tzero Try.prog 64 = some ((.agg (([Value.int .i64 0] ++ ([Value.int .i64 0] ++ [Value.int .i64 0]))).toArray)) := by kernel_rfl
  rw [e]; exact allocV_eq (by kernel_rfl)
theorem aza64 {rid : Nat} : allocA (tzero Try.prog 64) 64 rid = some (.pointer (some ⟨rid, 0, none⟩), .cells (([Value.int .i64 0] ++ ([Value.int .i64 0] ++ [Value.int .i64 0]))) 64) := by
  have e : tzero Try.prog 64 = some ((.agg (([Value.int .i64 0] ++ ([Value.int .i64 0] ++ [Value.int .i64 0]))).toArray)) := by kernel_rfl
  rw [e]; exact allocA_eq (by kernel_rfl)
theorem fa64_0 {id off : Nat} : afield Try.prog 64 (.pointer (some ⟨id, off, none⟩)) 0 = some (.pointer (some ⟨id, off, none⟩)) := by kernel_rfl
theorem fv64_0 {l : List Value} : afieldV Try.prog 64 (.agg l.toArray) 0 = l[0]? := by kernel_rfl
theorem fa64_1 {id off : Nat} : afield Try.prog 64 (.pointer (some ⟨id, off, none⟩)) 1 = some (.pointer (some ⟨id, off + 1, none⟩)) := by kernel_rfl
theorem fv64_1 {l : List Value} : afieldV Try.prog 64 (.agg l.toArray) 1 = some (.agg ((l.drop 1).take 2).toArray) := by kernel_rfl
theorem tg70 : tagg Try.prog 70 = some false := by kernel_rfl
theorem ld70 {I : Nat → Option Obj} {id off : Nat} {h : H} : aload Try.prog I 70 (.pointer (some ⟨id, off, none⟩)) h = ld1 (rdl I h id off 1) := by unfold aload ld1; simp only [tg70]; rcases rdl I h id off 1 with _ | _ | _ <;> rfl
theorem st70 {id off : Nat} {h : H} {k : IntKind} {x : Int} : astore Try.prog 70 (.pointer (some ⟨id, off, none⟩)) (.int k x) h = wrl h id off [(.int k x)] := by unfold astore; simp only [sz70]; rfl
theorem az70 {h : H} : allocV (tzero Try.prog 70) 70 h = some (nptr h, h ++ [.cells ([Value.int .u32 0]) 70]) := by
  have e : tzero Try.prog 70 = some (Value.int .u32 0) := by kernel_rfl
  rw [e]; exact allocV_eq (by kernel_rfl)
theorem aza70 {rid : Nat} : allocA (tzero Try.prog 70) 70 rid = some (.pointer (some ⟨rid, 0, none⟩), .cells ([Value.int .u32 0]) 70) := by
  have e : tzero Try.prog 70 = some (Value.int .u32 0) := by kernel_rfl
  rw [e]; exact allocA_eq (by kernel_rfl)
theorem tg78 : tagg Try.prog 78 = some false := by kernel_rfl
theorem ld78 {I : Nat → Option Obj} {id off : Nat} {h : H} : aload Try.prog I 78 (.pointer (some ⟨id, off, none⟩)) h = ld1 (rdl I h id off 1) := by unfold aload ld1; simp only [tg78]; rcases rdl I h id off 1 with _ | _ | _ <;> rfl
theorem st78 {id off : Nat} {h : H} {p : Option Addr} : astore Try.prog 78 (.pointer (some ⟨id, off, none⟩)) (.pointer p) h = wrl h id off [(.pointer p)] := by unfold astore; simp only [sz78]; rfl
theorem az78 {h : H} : allocV (tzero Try.prog 78) 78 h = some (nptr h, h ++ [.cells ([Value.pointer none]) 78]) := by
  have e : tzero Try.prog 78 = some (Value.pointer none) := by kernel_rfl
  rw [e]; exact allocV_eq (by kernel_rfl)
theorem aza78 {rid : Nat} : allocA (tzero Try.prog 78) 78 rid = some (.pointer (some ⟨rid, 0, none⟩), .cells ([Value.pointer none]) 78) := by
  have e : tzero Try.prog 78 = some (Value.pointer none) := by kernel_rfl
  rw [e]; exact allocA_eq (by kernel_rfl)
theorem tg80 : tagg Try.prog 80 = some true := by kernel_rfl
theorem ld80 {I : Nat → Option Obj} {id off : Nat} {h : H} : aload Try.prog I 80 (.pointer (some ⟨id, off, none⟩)) h = ldA (rdl I h id off 16) := by unfold aload ldA; simp only [tg80, sz80, Option.bind_some]
theorem st80 {id off : Nat} {h : H} {l : List Value} (hl : l.length = 16) : astore Try.prog 80 (.pointer (some ⟨id, off, none⟩)) (.agg l.toArray) h = wrl h id off l := by unfold astore; simp only [sz80, Value.cells, List.size_toArray, hl, if_true]
theorem az80 {h : H} : allocV (tzero Try.prog 80) 80 h = some (nptr h, h ++ [.cells (arrL 16 (fun _ => 0)) 80]) := by
  have e : tzero Try.prog 80 = some ((.agg (arrL 16 (fun _ => 0)).toArray)) := by kernel_rfl
  rw [e]; exact allocV_eq (by kernel_rfl)
theorem aza80 {rid : Nat} : allocA (tzero Try.prog 80) 80 rid = some (.pointer (some ⟨rid, 0, none⟩), .cells (arrL 16 (fun _ => 0)) 80) := by
  have e : tzero Try.prog 80 = some ((.agg (arrL 16 (fun _ => 0)).toArray)) := by kernel_rfl
  rw [e]; exact allocA_eq (by kernel_rfl)
theorem un80 : Try.prog.underlying 80 = some (.array 16 2) := by kernel_rfl
theorem ix80 {id off : Nat} {k : IntKind} {i : Int} : aindex Try.prog 80 (.pointer (some ⟨id, off, none⟩)) (.int k i) = if 0 ≤ i ∧ i < (16 : Nat) then some (.pointer (some ⟨id, off + i.toNat, none⟩)) else none := by simp only [aindex, un80, sz2, Option.map_some, Nat.mul_one]
theorem tg81 : tagg Try.prog 81 = some true := by kernel_rfl
theorem ld81 {I : Nat → Option Obj} {id off : Nat} {h : H} : aload Try.prog I 81 (.pointer (some ⟨id, off, none⟩)) h = ldA (rdl I h id off 16) := by unfold aload ldA; simp only [tg81, sz81, Option.bind_some]
theorem st81 {id off : Nat} {h : H} {l : List Value} (hl : l.length = 16) : astore Try.prog 81 (.pointer (some ⟨id, off, none⟩)) (.agg l.toArray) h = wrl h id off l := by unfold astore; simp only [sz81, Value.cells, List.size_toArray, hl, if_true]
theorem az81 {h : H} : allocV (tzero Try.prog 81) 81 h = some (nptr h, h ++ [.cells (arrL 16 (fun _ => 0)) 81]) := by
  have e : tzero Try.prog 81 = some ((.agg (arrL 16 (fun _ => 0)).toArray)) := by kernel_rfl
  rw [e]; exact allocV_eq (by kernel_rfl)
theorem aza81 {rid : Nat} : allocA (tzero Try.prog 81) 81 rid = some (.pointer (some ⟨rid, 0, none⟩), .cells (arrL 16 (fun _ => 0)) 81) := by
  have e : tzero Try.prog 81 = some ((.agg (arrL 16 (fun _ => 0)).toArray)) := by kernel_rfl
  rw [e]; exact allocA_eq (by kernel_rfl)
theorem un81 : Try.prog.underlying 81 = some (.array 16 2) := by kernel_rfl
theorem ix81 {id off : Nat} {k : IntKind} {i : Int} : aindex Try.prog 81 (.pointer (some ⟨id, off, none⟩)) (.int k i) = if 0 ≤ i ∧ i < (16 : Nat) then some (.pointer (some ⟨id, off + i.toNat, none⟩)) else none := by simp only [aindex, un81, sz2, Option.map_some, Nat.mul_one]
theorem tg90 : tagg Try.prog 90 = some true := by kernel_rfl
theorem ld90 {I : Nat → Option Obj} {id off : Nat} {h : H} : aload Try.prog I 90 (.pointer (some ⟨id, off, none⟩)) h = ldA (rdl I h id off 34) := by unfold aload ldA; simp only [tg90, sz90, Option.bind_some]
theorem st90 {id off : Nat} {h : H} {l : List Value} (hl : l.length = 34) : astore Try.prog 90 (.pointer (some ⟨id, off, none⟩)) (.agg l.toArray) h = wrl h id off l := by unfold astore; simp only [sz90, Value.cells, List.size_toArray, hl, if_true]
theorem az90 {h : H} : allocV (tzero Try.prog 90) 90 h = some (nptr h, h ++ [.cells ((([Value.slice none 0 0] ++ [Value.int .i64 0]) ++ arrL 16 (fun _ => 0) ++ arrL 16 (fun _ => 0))) 90]) := by
  have e : tzero Try.prog 90 = some ((.agg ((([Value.slice none 0 0] ++ [Value.int .i64 0]) ++ arrL 16 (fun _ => 0) ++ arrL 16 (fun _ => 0))).toArray)) := by kernel_rfl
  rw [e]; exact allocV_eq (by kernel_rfl)
theorem aza90 {rid : Nat} : allocA (tzero Try.prog 90) 90 rid = some (.pointer (some ⟨rid, 0, none⟩), .cells ((([Value.slice none 0 0] ++ [Value.int .i64 0]) ++ arrL 16 (fun _ => 0) ++ arrL 16 (fun _ => 0))) 90) := by
  have e : tzero Try.prog 90 = some ((.agg ((([Value.slice none 0 0] ++ [Value.int .i64 0]) ++ arrL 16 (fun _ => 0) ++ arrL 16 (fun _ => 0))).toArray)) := by kernel_rfl
  rw [e]; exact allocA_eq (by kernel_rfl)
theorem fa90_0 {id off : Nat} : afield Try.prog 90 (.pointer (some ⟨id, off, none⟩)) 0 = some (.pointer (some ⟨id, off, none⟩)) := by kernel_rfl
theorem fv90_0 {l : List Value} : afieldV Try.prog 90 (.agg l.toArray) 0 = some (.agg ((l.drop 0).take 2).toArray) := by kernel_rfl
theorem fa90_1 {id off : Nat} : afield Try.prog 90 (.pointer (some ⟨id, off, none⟩)) 1 = some (.pointer (some ⟨id, off + 2, none⟩)) := by kernel_rfl
theorem fv90_1 {l : List Value} : afieldV Try.prog 90 (.agg l.toArray) 1 = some (.agg ((l.drop 2).take 16).toArray) := by kernel_rfl
theorem fa90_2 {id off : Nat} : afield Try.prog 90 (.pointer (some ⟨id, off, none⟩)) 2 = some (.pointer (some ⟨id, off + 18, none⟩)) := by kernel_rfl
theorem fv90_2 {l : List Value} : afieldV Try.prog 90 (.agg l.toArray) 2 = some (.agg ((l.drop 18).take 16).toArray) := by kernel_rfl
theorem tg94 : tagg Try.prog 94 = some false := by kernel_rfl
theorem ld94 {I : Nat → Option Obj} {id off : Nat} {h : H} : aload Try.prog I 94 (.pointer (some ⟨id, off, none⟩)) h = ld1 (rdl I h id off 1) := by unfold aload ld1; simp only [tg94]; rcases rdl I h id off 1 with _ | _ | _ <;> rfl
theorem st94 {id off : Nat} {h : H} {f : Fn} {a b : Array Value} : astore Try.prog 94 (.pointer (some ⟨id, off, none⟩)) (.func f a b) h = wrl h id off [(.func f a b)] := by unfold astore; simp only [sz94]; rfl
theorem az94 {h : H} : allocV (tzero Try.prog 94) 94 h = some (nptr h, h ++ [.cells ([Value.nilFunc]) 94]) := by
  have e : tzero Try.prog 94 = some (Value.nilFunc) := by kernel_rfl
  rw [e]; exact allocV_eq (by kernel_rfl)
theorem aza94 {rid : Nat} : allocA (tzero Try.prog 94) 94 rid = some (.pointer (some ⟨rid, 0, none⟩), .cells ([Value.nilFunc]) 94) := by
  have e : tzero Try.prog 94 = some (Value.nilFunc) := by kernel_rfl
  rw [e]; exact allocA_eq (by kernel_rfl)
theorem tg97 : tagg Try.prog 97 = some false := by kernel_rfl
theorem ld97 {I : Nat → Option Obj} {id off : Nat} {h : H} : aload Try.prog I 97 (.pointer (some ⟨id, off, none⟩)) h = ld1 (rdl I h id off 1) := by unfold aload ld1; simp only [tg97]; rcases rdl I h id off 1 with _ | _ | _ <;> rfl
theorem st97 {id off : Nat} {h : H} {f : Fn} {a b : Array Value} : astore Try.prog 97 (.pointer (some ⟨id, off, none⟩)) (.func f a b) h = wrl h id off [(.func f a b)] := by unfold astore; simp only [sz97]; rfl
theorem az97 {h : H} : allocV (tzero Try.prog 97) 97 h = some (nptr h, h ++ [.cells ([Value.nilFunc]) 97]) := by
  have e : tzero Try.prog 97 = some (Value.nilFunc) := by kernel_rfl
  rw [e]; exact allocV_eq (by kernel_rfl)
theorem aza97 {rid : Nat} : allocA (tzero Try.prog 97) 97 rid = some (.pointer (some ⟨rid, 0, none⟩), .cells ([Value.nilFunc]) 97) := by
  have e : tzero Try.prog 97 = some (Value.nilFunc) := by kernel_rfl
  rw [e]; exact allocA_eq (by kernel_rfl)
theorem tg100 : tagg Try.prog 100 = some true := by kernel_rfl
theorem ld100 {I : Nat → Option Obj} {id off : Nat} {h : H} : aload Try.prog I 100 (.pointer (some ⟨id, off, none⟩)) h = ldA (rdl I h id off 20) := by unfold aload ldA; simp only [tg100, sz100, Option.bind_some]
theorem st100 {id off : Nat} {h : H} {l : List Value} (hl : l.length = 20) : astore Try.prog 100 (.pointer (some ⟨id, off, none⟩)) (.agg l.toArray) h = wrl h id off l := by unfold astore; simp only [sz100, Value.cells, List.size_toArray, hl, if_true]
theorem az100 {h : H} : allocV (tzero Try.prog 100) 100 h = some (nptr h, h ++ [.cells ((([Value.int .i64 0] ++ [Value.int .i64 0]) ++ arrL 16 (fun _ => 0) ++ ([Value.int .i64 0] ++ [Value.int .i64 0]))) 100]) := by
  have e : tzero Try.prog 100 = some ((.agg ((([Value.int .i64 0] ++ [Value.int .i64 0]) ++ arrL 16 (fun _ => 0) ++ ([Value.int .i64 0] ++ [Value.int .i64 0]))).toArray)) := by kernel_rfl
  rw [e]; exact allocV_eq (by kernel_rfl)
theorem aza100 {rid : Nat} : allocA (tzero Try.prog 100) 100 rid = some (.pointer (some ⟨rid, 0, none⟩), .cells ((([Value.int .i64 0] ++ [Value.int .i64 0]) ++ arrL 16 (fun _ => 0) ++ ([Value.int .i64 0] ++ [Value.int .i64 0]))) 100) := by
  have e : tzero Try.prog 100 = some ((.agg ((([Value.int .i64 0] ++ [Value.int .i64 0]) ++ arrL 16 (fun _ => 0) ++ ([Value.int .i64 0] ++ [Value.int .i64 0]))).toArray)) := by kernel_rfl
  rw [e]; exact allocA_eq (by kernel_rfl)
theorem fa100_0 {id off : Nat} : afield Try.prog 100 (.pointer (some ⟨id, off, none⟩)) 0 = some (.pointer (some ⟨id, off, none⟩)) := by kernel_rfl
theorem fv100_0 {l : List Value} : afieldV Try.prog 100 (.agg l.toArray) 0 = some (.agg ((l.drop 0).take 2).toArray) := by kernel_rfl
theorem fa100_1 {id off : Nat} : afield Try.prog 100 (.pointer (some ⟨id, off, none⟩)) 1 = some (.pointer (some ⟨id, off + 2, none⟩)) := by kernel_rfl
theorem fv100_1 {l : List Value} : afieldV Try.prog 100 (.agg l.toArray) 1 = some (.agg ((l.drop 2).take 16).toArray) := by kernel_rfl
theorem fa100_2 {id off : Nat} : afield Try.prog 100 (.pointer (some ⟨id, off, none⟩)) 2 = some (.pointer (some ⟨id, off + 18, none⟩)) := by kernel_rfl
theorem fv100_2 {l : List Value} : afieldV Try.prog 100 (.agg l.toArray) 2 = some (.agg ((l.drop 18).take 2).toArray) := by kernel_rfl
theorem tg101 : tagg Try.prog 101 = some true := by kernel_rfl
theorem ld101 {I : Nat → Option Obj} {id off : Nat} {h : H} : aload Try.prog I 101 (.pointer (some ⟨id, off, none⟩)) h = ldA (rdl I h id off 40) := by unfold aload ldA; simp only [tg101, sz101, Option.bind_some]
theorem st101 {id off : Nat} {h : H} {l : List Value} (hl : l.length = 40) : astore Try.prog 101 (.pointer (some ⟨id, off, none⟩)) (.agg l.toArray) h = wrl h id off l := by unfold astore; simp only [sz101, Value.cells, List.size_toArray, hl, if_true]
theorem az101 {h : H} : allocV (tzero Try.prog 101) 101 h = some (nptr h, h ++ [.cells (((([Value.int .i64 0] ++ [Value.int .i64 0]) ++ arrL 16 (fun _ => 0) ++ ([Value.int .i64 0] ++ [Value.int .i64 0])) ++ (([Value.int .i64 0] ++ [Value.int .i64 0]) ++ arrL 16 (fun _ => 0) ++ ([Value.int .i64 0] ++ [Value.int .i64 0])))) 101]) := by
  have e : tzero Try.prog 101 = some ((.agg (((([Value.int .i64 0] ++ [Value.int .i64 0]) ++ arrL 16 (fun _ => 0) ++ ([Value.int .i64 0] ++ [Value.int .i64 0])) ++ (([Value.int .i64 0] ++ [Value.int .i64 0]) ++ arrL 16 (fun _ => 0) ++ ([Value.int .i64 0] ++ [Value.int .i64 0])))).toArray)) := by kernel_rfl
  rw [e]; exact allocV_eq (by kernel_rfl)
theorem aza101 {rid : Nat} : allocA (tzero Try.prog 101) 101 rid = some (.pointer (some ⟨rid, 0, none⟩), .cells (((([Value.int .i64 0] ++ [Value.int .i64 0]) ++ arrL 16 (fun _ => 0) ++ ([Value.int .i64 0] ++ [Value.int .i64 0])) ++ (([Value.int .i64 0] ++ [Value.int .i64 0]) ++ arrL 16 (fun _ => 0) ++ ([Value.int .i64 0] ++ [Value.int .i64 0])))) 101) := by
  have e : tzero Try.prog 101 = some ((.agg (((([Value.int .i64 0] ++ [Value.int .i64 0]) ++ arrL 16 (fun _ => 0) ++ ([Value.int .i64 0] ++ [Value.int .i64 0])) ++ (([Value.int .i64 0] ++ [Value.int .i64 0]) ++ arrL 16 (fun _ => 0) ++ ([Value.int .i64 0] ++ [Value.int .i64 0])))).toArray)) := by kernel_rfl
  rw [e]; exact allocA_eq (by kernel_rfl)
theorem un101 : Try.prog.underlying 101 = some (.array 2 100) := by kernel_rfl
theorem ix101 {id off : Nat} {k : IntKind} {i : Int} : aindex Try.prog 101 (.pointer (some ⟨id, off, none⟩)) (.int k i) = if 0 ≤ i ∧ i < (2 : Nat) then some (.pointer (some ⟨id, off + i.toNat * 20, none⟩)) else none := by simp only [aindex, un101, sz100, Option.map_some, Nat.mul_one]
theorem tg111 : tagg Try.prog 111 = some false := by kernel_rfl
theorem ld111 {I : Nat → Option Obj} {id off : Nat} {h : H} : aload Try.prog I 111 (.pointer (some ⟨id, off, none⟩)) h = ld1 (rdl I h id off 1) := by unfold aload ld1; simp only [tg111]; rcases rdl I h id off 1 with _ | _ | _ <;> rfl
theorem st111 {id off : Nat} {h : H} {f : Fn} {a b : Array Value} : astore Try.prog 111 (.pointer (some ⟨id, off, none⟩)) (.func f a b) h = wrl h id off [(.func f a b)] := by unfold astore; simp only [sz111]; rfl
theorem az111 {h : H} : allocV (tzero Try.prog 111) 111 h = some (nptr h, h ++ [.cells ([Value.nilFunc]) 111]) := by
  have e : tzero Try.prog 111 = some (Value.nilFunc) := by kernel_rfl
  rw [e]; exact allocV_eq (by kernel_rfl)
theorem aza111 {rid : Nat} : allocA (tzero Try.prog 111) 111 rid = some (.pointer (some ⟨rid, 0, none⟩), .cells ([Value.nilFunc]) 111) := by
  have e : tzero Try.prog 111 = some (Value.nilFunc) := by kernel_rfl
  rw [e]; exact allocA_eq (by kernel_rfl)
theorem tg116 : tagg Try.prog 116 = some true := by kernel_rfl
theorem ld116 {I : Nat → Option Obj} {id off : Nat} {h : H} : aload Try.prog I 116 (.pointer (some ⟨id, off, none⟩)) h = ldA (rdl I h id off 32) := by unfold aload ldA; simp only [tg116, sz116, Option.bind_some]
theorem st116 {id off : Nat} {h : H} {l : List Value} (hl : l.length = 32) : astore Try.prog 116 (.pointer (some ⟨id, off, none⟩)) (.agg l.toArray) h = wrl h id off l := by unfold astore; simp only [sz116, Value.cells, List.size_toArray, hl, if_true]
theorem az116 {h : H} : allocV (tzero Try.prog 116) 116 h = some (nptr h, h ++ [.cells ((arrL 16 (fun _ => 0) ++ arrL 16 (fun _ => 0))) 116]) := by
  have e : tzero Try.prog 116 = some ((.agg ((arrL 16 (fun _ => 0) ++ arrL 16 (fun _ => 0))).toArray)) := by kernel_rfl
  rw [e]; exact allocV_eq (by kernel_rfl)
theorem aza116 {rid : Nat} : allocA (tzero Try.prog 116) 116 rid = some (.pointer (some ⟨rid, 0, none⟩), .cells ((arrL 16 (fun _ => 0) ++ arrL 16 (fun _ => 0))) 116) := by
  have e : tzero Try.prog 116 = some ((.agg ((arrL 16 (fun _ => 0) ++ arrL 16 (fun _ => 0))).toArray)) := by kernel_rfl
  rw [e]; exact allocA_eq (by kernel_rfl)
theorem un116 : Try.prog.underlying 116 = some (.array 2 81) := by kernel_rfl
theorem ix116 {id off : Nat} {k : IntKind} {i : Int} : aindex Try.prog 116 (.pointer (some ⟨id, off, none⟩)) (.int k i) = if 0 ≤ i ∧ i < (2 : Nat) then some (.pointer (some ⟨id, off + i.toNat * 16, none⟩)) else none := by simp only [aindex, un116, sz81, Option.map_some, Nat.mul_one]
theorem tg118 : tagg Try.prog 118 = some false := by kernel_rfl
theorem ld118 {I : Nat → Option Obj} {id off : Nat} {h : H} : aload Try.prog I 118 (.pointer (some ⟨id, off, none⟩)) h = ld1 (rdl I h id off 1) := by unfold aload ld1; simp only [tg118]; rcases rdl I h id off 1 with _ | _ | _ <;> rfl
theorem st118 {id off : Nat} {h : H} {m : Option Nat} : astore Try.prog 118 (.pointer (some ⟨id, off, none⟩)) (.map m) h = wrl h id off [(.map m)] := by unfold astore; simp only [sz118]; rfl
theorem az118 {h : H} : allocV (tzero Try.prog 118) 118 h = some (nptr h, h ++ [.cells ([Value.map none]) 118]) := by
  have e : tzero Try.prog 118 = some (Value.map none) := by kernel_rfl
  rw [e]; exact allocV_eq (by kernel_rfl)
theorem aza118 {rid : Nat} : allocA (tzero Try.prog 118) 118 rid = some (.pointer (some ⟨rid, 0, none⟩), .cells ([Value.map none]) 118) := by
  have e : tzero Try.prog 118 = some (Value.map none) := by kernel_rfl
  rw [e]; exact allocA_eq (by kernel_rfl)
theorem tg123 : tagg Try.prog 123 = some false := by kernel_rfl
theorem ld123 {I : Nat → Option Obj} {id off : Nat} {h : H} : aload Try.prog I 123 (.pointer (some ⟨id, off, none⟩)) h = ld1 (rdl I h id off 1) := by unfold aload ld1; simp only [tg123]; rcases rdl I h id off 1 with _ | _ | _ <;> rfl
theorem st123 {id off : Nat} {h : H} {f : Fn} {a b : Array Value} : astore Try.prog 123 (.pointer (some ⟨id, off, none⟩)) (.func f a b) h = wrl h id off [(.func f a b)] := by unfold astore; simp only [sz123]; rfl
theorem az123 {h : H} : allocV (tzero Try.prog 123) 123 h = some (nptr h, h ++ [.cells ([Value.nilFunc]) 123]) := by
  have e : tzero Try.prog 123 = some (Value.nilFunc) := by kernel_rfl
  rw [e]; exact allocV_eq (by kernel_rfl)
theorem aza123 {rid : Nat} : allocA (tzero Try.prog 123) 123 rid = some (.pointer (some ⟨rid, 0, none⟩), .cells ([Value.nilFunc]) 123) := by
  have e : tzero Try.prog 123 = some (Value.nilFunc) := by kernel_rfl
  rw [e]; exact allocA_eq (by kernel_rfl)
set_option linter.defProp false
def ty2 := And.intro (And.intro (@ld2) (@st2)) (And.intro (@az2) (@aza2))
def ty3 := And.intro (And.intro (@ld3) (@st3)) (And.intro (@az3) (@aza3))
def ty4 := And.intro (And.intro (@ld4) (@st4)) (And.intro (@az4) (@aza4))
def ty5 := And.intro (And.intro (@ld5) (@st5)) (And.intro (@az5) (@aza5))
def ty22 := And.intro (And.intro (@ld22) (And.intro (@st22) (@az22))) (And.intro (And.intro (@aza22) (@ln22)) (And.intro (@lnd22) (@ix22)))
def ty24 := And.intro (And.intro (@ld24) (And.intro (@az24) (@aza24))) (And.intro (And.intro (@fa24_0) (@fv24_0)) (And.intro (@fa24_1) (@fv24_1)))
def ty25 := And.intro (And.intro (@ld25) (And.intro (@st25) (@az25))) (And.intro (And.intro (@aza25) (@ln25)) (And.intro (@lnd25) (@ix25)))
def ty29 := And.intro (And.intro (@ld29) (And.intro (@az29) (@aza29))) (And.intro (And.intro (@fa29_0) (@fv29_0)) (And.intro (@fa29_1) (@fv29_1)))
def ty30 := And.intro (And.intro (@ld30) (@st30)) (And.intro (@az30) (@aza30))
def ty34 := And.intro (And.intro (@ld34) (And.intro (@az34) (@aza34))) (And.intro (And.intro (@fa34_0) (@fv34_0)) (And.intro (@fa34_1) (@fv34_1)))
def ty40 := And.intro (And.intro (@ld40) (And.intro (@az40) (@aza40))) (And.intro (And.intro (@fa40_0) (@fv40_0)) (And.intro (@fa40_1) (@fv40_1)))
def ty44 := And.intro (And.intro (@ld44) (And.intro (@st44) (@az44))) (And.intro (And.intro (@aza44) (@ln44)) (And.intro (@lnd44) (@ix44)))
def ty45 := And.intro (And.intro (@ld45) (@st45)) (And.intro (@az45) (@aza45))
def ty46 := And.intro (And.intro (@ld46) (@az46)) (And.intro (@aza46) (@ix46))
def ty47 := And.intro (And.intro (@ld47) (@az47)) (And.intro (@aza47) (@ix47))
def ty51 := And.intro (And.intro (@ld51) (And.intro (@st51) (@az51))) (And.intro (And.intro (@aza51) (@ln51)) (And.intro (@lnd51) (@ix51)))
def ty59 := And.intro (And.intro (@ld59) (@az59)) (And.intro (@aza59) (@ix59))
def ty64 := And.intro (And.intro (@ld64) (And.intro (@az64) (@aza64))) (And.intro (And.intro (@fa64_0) (@fv64_0)) (And.intro (@fa64_1) (@fv64_1)))
def ty70 := And.intro (And.intro (@ld70) (@st70)) (And.intro (@az70) (@aza70))
def ty78 := And.intro (And.intro (@ld78) (@st78)) (And.intro (@az78) (@aza78))
def ty80 := And.intro (And.intro (@ld80) (@az80)) (And.intro (@aza80) (@ix80))
def ty81 := And.intro (And.intro (@ld81) (@az81)) (And.intro (@aza81) (@ix81))
def ty90 := And.intro (And.intro (And.intro (@ld90) (@az90)) (And.intro (@aza90) (@fa90_0))) (And.intro (And.intro (@fv90_0) (@fa90_1)) (And.intro (@fv90_1) (And.intro (@fa90_2) (@fv90_2))))
def ty94 := And.intro (And.intro (@ld94) (@st94)) (And.intro (@az94) (@aza94))
def ty97 := And.intro (And.intro (@ld97) (@st97)) (And.intro (@az97) (@aza97))
def ty100 := And.intro (And.intro (And.intro (@ld100) (@az100)) (And.intro (@aza100) (@fa100_0))) (And.intro (And.intro (@fv100_0) (@fa100_1)) (And.intro (@fv100_1) (And.intro (@fa100_2) (@fv100_2))))
def ty101 := And.intro (And.intro (@ld101) (@az101)) (And.intro (@aza101) (@ix101))
def ty111 := And.intro (And.intro (@ld111) (@st111)) (And.intro (@az111) (@aza111))
def ty116 := And.intro (And.intro (@ld116) (@az116)) (And.intro (@aza116) (@ix116))
def ty118 := And.intro (And.intro (@ld118) (@st118)) (And.intro (@az118) (@aza118))
def ty123 := And.intro (And.intro (@ld123) (@st123)) (And.intro (@az123) (@aza123))
theorem mixT : Try.prog.follows .mixedOrders = true := by kernel_rfl
end Go.Proofs.Ytcocmbccfikmhaa
