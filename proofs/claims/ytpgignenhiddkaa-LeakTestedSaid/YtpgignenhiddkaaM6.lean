/- What the seat's types are, in forms for the simplifier; written by program (ty.py). (own texts put together: Ty) -/
import Derived.Test.YtpgignenhiddkaaM4
import Derived.Test.YtpgignenhiddkaaProg
import Derived.KernelRfl
namespace Go.Proofs.Ytpgignenhiddkaa
open Go.Sym
set_option linter.unusedSimpArgs false
theorem sz2 : tsz Try.prog 2 = some 1 := by kernel_rfl
theorem sz3 : tsz Try.prog 3 = some 1 := by kernel_rfl
theorem sz4 : tsz Try.prog 4 = some 1 := by kernel_rfl
theorem sz5 : tsz Try.prog 5 = some 1 := by kernel_rfl
theorem sz22 : tsz Try.prog 22 = some 1 := by kernel_rfl
theorem sz23 : tsz Try.prog 23 = some 1 := by kernel_rfl
theorem sz24 : tsz Try.prog 24 = some 1 := by kernel_rfl
theorem sz25 : tsz Try.prog 25 = some 2 := by kernel_rfl
theorem sz26 : tsz Try.prog 26 = some 2 := by kernel_rfl
theorem sz27 : tsz Try.prog 27 = some 1 := by kernel_rfl
theorem sz29 : tsz Try.prog 29 = some 1 := by kernel_rfl
theorem sz30 : tsz Try.prog 30 = some 1 := by kernel_rfl
theorem sz32 : tsz Try.prog 32 = some 1 := by kernel_rfl
theorem sz34 : tsz Try.prog 34 = some 1 := by kernel_rfl
theorem sz35 : tsz Try.prog 35 = some 1 := by kernel_rfl
theorem sz36 : tsz Try.prog 36 = some 1 := by kernel_rfl
theorem sz37 : tsz Try.prog 37 = some 3 := by kernel_rfl
theorem sz38 : tsz Try.prog 38 = some 3 := by kernel_rfl
theorem sz39 : tsz Try.prog 39 = some 1 := by kernel_rfl
theorem sz40 : tsz Try.prog 40 = some 1 := by kernel_rfl
theorem sz41 : tsz Try.prog 41 = some 1 := by kernel_rfl
theorem sz42 : tsz Try.prog 42 = some 2 := by kernel_rfl
theorem sz43 : tsz Try.prog 43 = some 2 := by kernel_rfl
theorem sz44 : tsz Try.prog 44 = some 3 := by kernel_rfl
theorem sz45 : tsz Try.prog 45 = some 3 := by kernel_rfl
theorem sz46 : tsz Try.prog 46 = some 1 := by kernel_rfl
theorem sz47 : tsz Try.prog 47 = some 1 := by kernel_rfl
theorem sz50 : tsz Try.prog 50 = some 2 := by kernel_rfl
theorem sz51 : tsz Try.prog 51 = some 1 := by kernel_rfl
theorem sz53 : tsz Try.prog 53 = some 1 := by kernel_rfl
theorem sz61 : tsz Try.prog 61 = some 2 := by kernel_rfl
theorem sz64 : tsz Try.prog 64 = some 1 := by kernel_rfl
theorem sz74 : tsz Try.prog 74 = some 1 := by kernel_rfl
theorem sz77 : tsz Try.prog 77 = some 1 := by kernel_rfl
theorem sz79 : tsz Try.prog 79 = some 1 := by kernel_rfl
theorem sz86 : tsz Try.prog 86 = some 1 := by kernel_rfl
theorem sz89 : tsz Try.prog 89 = some 3 := by kernel_rfl
theorem sz91 : tsz Try.prog 91 = some 3 := by kernel_rfl
theorem sz96 : tsz Try.prog 96 = some 1 := by kernel_rfl
theorem sz100 : tsz Try.prog 100 = some 2 := by kernel_rfl
theorem sz102 : tsz Try.prog 102 = some 1 := by kernel_rfl
theorem sz111 : tsz Try.prog 111 = some 1 := by kernel_rfl
theorem sz123 : tsz Try.prog 123 = some 12 := by kernel_rfl
theorem sz126 : tsz Try.prog 126 = some 1 := by kernel_rfl
theorem sz127 : tsz Try.prog 127 = some 1 := by kernel_rfl
theorem sz130 : tsz Try.prog 130 = some 2 := by kernel_rfl
theorem sz132 : tsz Try.prog 132 = some 1 := by kernel_rfl
theorem sz136 : tsz Try.prog 136 = some 1 := by kernel_rfl
theorem sz138 : tsz Try.prog 138 = some 1 := by kernel_rfl
theorem sz139 : tsz Try.prog 139 = some 1 := by kernel_rfl
theorem sz140 : tsz Try.prog 140 = some 1 := by kernel_rfl
theorem sz142 : tsz Try.prog 142 = some 3 := by kernel_rfl
theorem sz144 : tsz Try.prog 144 = some 1 := by kernel_rfl
theorem sz147 : tsz Try.prog 147 = some 1 := by kernel_rfl
theorem sz149 : tsz Try.prog 149 = some 1 := by kernel_rfl
theorem sz151 : tsz Try.prog 151 = some 4 := by kernel_rfl
theorem sz153 : tsz Try.prog 153 = some 1 := by kernel_rfl
theorem sz155 : tsz Try.prog 155 = some 1 := by kernel_rfl
theorem sz158 : tsz Try.prog 158 = some 5 := by kernel_rfl
theorem sz159 : tsz Try.prog 159 = some 1 := by kernel_rfl
theorem sz160 : tsz Try.prog 160 = some 1 := by kernel_rfl
theorem sz161 : tsz Try.prog 161 = some 1 := by kernel_rfl
theorem sz165 : tsz Try.prog 165 = some 1 := by kernel_rfl
theorem tg2 : tagg Try.prog 2 = some false := by kernel_rfl
theorem ld2 {I : Nat → Option Obj} {id off : Nat} {h : H} : aload Try.prog I 2 (.pointer (some ⟨id, off, none⟩)) h = ld1 (rdl I h id off 1) := by unfold aload ld1; simp only [tg2]; rcases rdl I h id off 1 with _ | _ | _ <;> rfl
theorem st2 {id off : Nat} {h : H} {k : IntKind} {x : Int} : astore Try.prog 2 (.pointer (some ⟨id, off, none⟩)) (.int k x) h = wrl h id off [(.int k x)] := by unfold astore; simp only [sz2]; rfl
theorem az2 {h : H} : allocV (tzero Try.prog 2) 2 h = some (nptr h, h ++ [.cells ([Value.int .i64 0]) 2]) := by
  have e : tzero Try.prog 2 = some (Value.int .i64 0) := by kernel_rfl
  rw [e]; exact allocV_eq (by kernel_rfl)
theorem aza2 {rid : Nat} : allocA (tzero Try.prog 2) 2 rid = some (.pointer (some ⟨rid, 0, none⟩), .cells ([Value.int .i64 0]) 2) := by
  have e : tzero Try.prog 2 = some (Value.int .i64 0) := by kernel_rfl
  rw [e]; exact allocA_eq (by kernel_rfl)
theorem tg3 : tagg Try.prog 3 = some false := by kernel_rfl
theorem ld3 {I : Nat → Option Obj} {id off : Nat} {h : H} : aload Try.prog I 3 (.pointer (some ⟨id, off, none⟩)) h = ld1 (rdl I h id off 1) := by unfold aload ld1; simp only [tg3]; rcases rdl I h id off 1 with _ | _ | _ <;> rfl
theorem st3 {id off : Nat} {h : H} {k : IntKind} {x : Int} : astore Try.prog 3 (.pointer (some ⟨id, off, none⟩)) (.int k x) h = wrl h id off [(.int k x)] := by unfold astore; simp only [sz3]; rfl
theorem az3 {h : H} : allocV (tzero Try.prog 3) 3 h = some (nptr h, h ++ [.cells ([Value.int .i64 0]) 3]) := by
  have e : tzero Try.prog 3 = some (Value.int .i64 0) := by kernel_rfl
  rw [e]; exact allocV_eq (by kernel_rfl)
theorem aza3 {rid : Nat} : allocA (tzero Try.prog 3) 3 rid = some (.pointer (some ⟨rid, 0, none⟩), .cells ([Value.int .i64 0]) 3) := by
  have e : tzero Try.prog 3 = some (Value.int .i64 0) := by kernel_rfl
  rw [e]; exact allocA_eq (by kernel_rfl)
theorem tg4 : tagg Try.prog 4 = some false := by kernel_rfl
theorem ld4 {I : Nat → Option Obj} {id off : Nat} {h : H} : aload Try.prog I 4 (.pointer (some ⟨id, off, none⟩)) h = ld1 (rdl I h id off 1) := by unfold aload ld1; simp only [tg4]; rcases rdl I h id off 1 with _ | _ | _ <;> rfl
theorem st4 {id off : Nat} {h : H} {b : Bool} : astore Try.prog 4 (.pointer (some ⟨id, off, none⟩)) (.bool b) h = wrl h id off [(.bool b)] := by unfold astore; simp only [sz4]; rfl
theorem az4 {h : H} : allocV (tzero Try.prog 4) 4 h = some (nptr h, h ++ [.cells ([Value.bool false]) 4]) := by
  have e : tzero Try.prog 4 = some (Value.bool false) := by kernel_rfl
  rw [e]; exact allocV_eq (by kernel_rfl)
theorem aza4 {rid : Nat} : allocA (tzero Try.prog 4) 4 rid = some (.pointer (some ⟨rid, 0, none⟩), .cells ([Value.bool false]) 4) := by
  have e : tzero Try.prog 4 = some (Value.bool false) := by kernel_rfl
  rw [e]; exact allocA_eq (by kernel_rfl)
theorem tg5 : tagg Try.prog 5 = some false := by kernel_rfl
theorem ld5 {I : Nat → Option Obj} {id off : Nat} {h : H} : aload Try.prog I 5 (.pointer (some ⟨id, off, none⟩)) h = ld1 (rdl I h id off 1) := by unfold aload ld1; simp only [tg5]; rcases rdl I h id off 1 with _ | _ | _ <;> rfl
theorem st5 {id off : Nat} {h : H} {k : IntKind} {x : Int} : astore Try.prog 5 (.pointer (some ⟨id, off, none⟩)) (.int k x) h = wrl h id off [(.int k x)] := by unfold astore; simp only [sz5]; rfl
theorem az5 {h : H} : allocV (tzero Try.prog 5) 5 h = some (nptr h, h ++ [.cells ([Value.int .u8 0]) 5]) := by
  have e : tzero Try.prog 5 = some (Value.int .u8 0) := by kernel_rfl
  rw [e]; exact allocV_eq (by kernel_rfl)
theorem aza5 {rid : Nat} : allocA (tzero Try.prog 5) 5 rid = some (.pointer (some ⟨rid, 0, none⟩), .cells ([Value.int .u8 0]) 5) := by
  have e : tzero Try.prog 5 = some (Value.int .u8 0) := by kernel_rfl
  rw [e]; exact allocA_eq (by kernel_rfl)
theorem tg22 : tagg Try.prog 22 = some false := by kernel_rfl
theorem ld22 {I : Nat → Option Obj} {id off : Nat} {h : H} : aload Try.prog I 22 (.pointer (some ⟨id, off, none⟩)) h = ld1 (rdl I h id off 1) := by unfold aload ld1; simp only [tg22]; rcases rdl I h id off 1 with _ | _ | _ <;> rfl
theorem st22 {id off : Nat} {h : H} {p : Option Addr} {n c : Nat} : astore Try.prog 22 (.pointer (some ⟨id, off, none⟩)) (.slice p n c) h = wrl h id off [(.slice p n c)] := by unfold astore; simp only [sz22]; rfl
theorem az22 {h : H} : allocV (tzero Try.prog 22) 22 h = some (nptr h, h ++ [.cells ([Value.slice none 0 0]) 22]) := by
  have e : tzero Try.prog 22 = some (Value.slice none 0 0) := by kernel_rfl
  rw [e]; exact allocV_eq (by kernel_rfl)
theorem aza22 {rid : Nat} : allocA (tzero Try.prog 22) 22 rid = some (.pointer (some ⟨rid, 0, none⟩), .cells ([Value.slice none 0 0]) 22) := by
  have e : tzero Try.prog 22 = some (Value.slice none 0 0) := by kernel_rfl
  rw [e]; exact allocA_eq (by kernel_rfl)
theorem un22 : Try.prog.underlying 22 = some (.slice 45) := by kernel_rfl
theorem ln22 {I : Nat → Option Obj} {ty : TypeId} {p : Option Addr} {n c : Nat} {h : H} : abi2 Try.prog I .len #[22] ty [.slice p n c] h = some (.int .i64 n, h) := by unfold abi2 abi; simp [alen, un22]
theorem lnd22 {I : Nat → Option Obj} {ty : TypeId} {p : Option Addr} {n c : Nat} {h : H} : abi Try.prog I .len #[22] ty [.slice p n c] h = some (.int .i64 n, h) := by unfold abi; simp [alen, un22]
theorem ix22 {id off n c : Nat} {k : IntKind} {i : Int} : aindex Try.prog 22 (.slice (some ⟨id, off, none⟩) n c) (.int k i) = if 0 ≤ i ∧ i < n then some (.pointer (some ⟨id, off + i.toNat * 3, none⟩)) else none := by simp only [aindex, un22, sz45, Option.map_some, Nat.mul_one]
theorem tg23 : tagg Try.prog 23 = some false := by kernel_rfl
theorem ld23 {I : Nat → Option Obj} {id off : Nat} {h : H} : aload Try.prog I 23 (.pointer (some ⟨id, off, none⟩)) h = ld1 (rdl I h id off 1) := by unfold aload ld1; simp only [tg23]; rcases rdl I h id off 1 with _ | _ | _ <;> rfl
theorem st23 {id off : Nat} {h : H} {f : Fn} {a b : Array Value} : astore Try.prog 23 (.pointer (some ⟨id, off, none⟩)) (.func f a b) h = wrl h id off [(.func f a b)] := by unfold astore; simp only [sz23]; rfl
theorem az23 {h : H} : allocV (tzero Try.prog 23) 23 h = some (nptr h, h ++ [.cells ([Value.nilFunc]) 23]) := by
  have e : tzero Try.prog 23 = some (Value.nilFunc) := by kernel_rfl
  rw [e]; exact allocV_eq (by kernel_rfl)
theorem aza23 {rid : Nat} : allocA (tzero Try.prog 23) 23 rid = some (.pointer (some ⟨rid, 0, none⟩), .cells ([Value.nilFunc]) 23) := by
  have e : tzero Try.prog 23 = some (Value.nilFunc) := by kernel_rfl
  rw [e]; exact allocA_eq (by kernel_rfl)
theorem tg24 : tagg Try.prog 24 = some false := by kernel_rfl
theorem ld24 {I : Nat → Option Obj} {id off : Nat} {h : H} : aload Try.prog I 24 (.pointer (some ⟨id, off, none⟩)) h = ld1 (rdl I h id off 1) := by unfold aload ld1; simp only [tg24]; rcases rdl I h id off 1 with _ | _ | _ <;> rfl
theorem st24 {id off : Nat} {h : H} {f : Fn} {a b : Array Value} : astore Try.prog 24 (.pointer (some ⟨id, off, none⟩)) (.func f a b) h = wrl h id off [(.func f a b)] := by unfold astore; simp only [sz24]; rfl
theorem az24 {h : H} : allocV (tzero Try.prog 24) 24 h = some (nptr h, h ++ [.cells ([Value.nilFunc]) 24]) := by
  have e : tzero Try.prog 24 = some (Value.nilFunc) := by kernel_rfl
  rw [e]; exact allocV_eq (by kernel_rfl)
theorem aza24 {rid : Nat} : allocA (tzero Try.prog 24) 24 rid = some (.pointer (some ⟨rid, 0, none⟩), .cells ([Value.nilFunc]) 24) := by
  have e : tzero Try.prog 24 = some (Value.nilFunc) := by kernel_rfl
  rw [e]; exact allocA_eq (by kernel_rfl)
theorem tg25 : tagg Try.prog 25 = some true := by kernel_rfl
theorem ld25 {I : Nat → Option Obj} {id off : Nat} {h : H} : aload Try.prog I 25 (.pointer (some ⟨id, off, none⟩)) h = ldA (rdl I h id off 2) := by unfold aload ldA; simp only [tg25, sz25, Option.bind_some]
theorem st25 {id off : Nat} {h : H} {l : List Value} (hl : l.length = 2) : astore Try.prog 25 (.pointer (some ⟨id, off, none⟩)) (.agg l.toArray) h = wrl h id off l := by unfold astore; simp only [sz25, Value.cells, List.size_toArray, hl, if_true]
theorem az25 {h : H} : allocV (tzero Try.prog 25) 25 h = some (nptr h, h ++ [.cells (([Value.int .i64 0] ++ [Value.int .i64 0])) 25]) := by
  have e : tzero Try.prog 25 = some ((.agg (([Value.int .i64 0] ++ [Value.int .i64 0])).toArray)) := by kernel_rfl
  rw [e]; exact allocV_eq (by kernel_rfl)
theorem aza25 {rid : Nat} : allocA (tzero Try.prog 25) 25 rid = some (.pointer (some ⟨rid, 0, none⟩), .cells (([Value.int .i64 0] ++ [Value.int .i64 0])) 25) := by
  have e : tzero Try.prog 25 = some ((.agg (([Value.int .i64 0] ++ [Value.int .i64 0])).toArray)) := by kernel_rfl
  rw [e]; exact allocA_eq (by kernel_rfl)
theorem fa25_0 {id off : Nat} : afield Try.prog 25 (.pointer (some ⟨id, off, none⟩)) 0 = some (.pointer (some ⟨id, off, none⟩)) := by kernel_rfl
theorem fv25_0 {l : List Value} : afieldV Try.prog 25 (.agg l.toArray) 0 = l[0]? := by kernel_rfl
theorem fa25_1 {id off : Nat} : afield Try.prog 25 (.pointer (some ⟨id, off, none⟩)) 1 = some (.pointer (some ⟨id, off + 1, none⟩)) := by kernel_rfl
theorem fv25_1 {l : List Value} : afieldV Try.prog 25 (.agg l.toArray) 1 = l[1]? := by kernel_rfl
theorem tg26 : tagg Try.prog 26 = some true := by kernel_rfl
theorem ld26 {I : Nat → Option Obj} {id off : Nat} {h : H} : aload Try.prog I 26 (.pointer (some ⟨id, off, none⟩)) h = ldA (rdl I h id off 2) := by unfold aload ldA; simp only [tg26, sz26, Option.bind_some]
theorem st26 {id off : Nat} {h : H} {l : List Value} (hl : l.length = 2) : astore Try.prog 26 (.pointer (some ⟨id, off, none⟩)) (.agg l.toArray) h = wrl h id off l := by unfold astore; simp only [sz26, Value.cells, List.size_toArray, hl, if_true]
theorem az26 {h : H} : allocV (tzero Try.prog 26) 26 h = some (nptr h, h ++ [.cells (([Value.int .i64 0] ++ [Value.int .i64 0])) 26]) := by
  have e : tzero Try.prog 26 = some ((.agg (([Value.int .i64 0] ++ [Value.int .i64 0])).toArray)) := by kernel_rfl
  rw [e]; exact allocV_eq (by kernel_rfl)
theorem aza26 {rid : Nat} : allocA (tzero Try.prog 26) 26 rid = some (.pointer (some ⟨rid, 0, none⟩), .cells (([Value.int .i64 0] ++ [Value.int .i64 0])) 26) := by
  have e : tzero Try.prog 26 = some ((.agg (([Value.int .i64 0] ++ [Value.int .i64 0])).toArray)) := by kernel_rfl
  rw [e]; exact allocA_eq (by kernel_rfl)
theorem fa26_0 {id off : Nat} : afield Try.prog 26 (.pointer (some ⟨id, off, none⟩)) 0 = some (.pointer (some ⟨id, off, none⟩)) := by kernel_rfl
theorem fv26_0 {l : List Value} : afieldV Try.prog 26 (.agg l.toArray) 0 = l[0]? := by kernel_rfl
theorem fa26_1 {id off : Nat} : afield Try.prog 26 (.pointer (some ⟨id, off, none⟩)) 1 = some (.pointer (some ⟨id, off + 1, none⟩)) := by kernel_rfl
theorem fv26_1 {l : List Value} : afieldV Try.prog 26 (.agg l.toArray) 1 = l[1]? := by kernel_rfl
theorem tg27 : tagg Try.prog 27 = some false := by kernel_rfl
theorem ld27 {I : Nat → Option Obj} {id off : Nat} {h : H} : aload Try.prog I 27 (.pointer (some ⟨id, off, none⟩)) h = ld1 (rdl I h id off 1) := by unfold aload ld1; simp only [tg27]; rcases rdl I h id off 1 with _ | _ | _ <;> rfl
theorem st27 {id off : Nat} {h : H} {k : IntKind} {x : Int} : astore Try.prog 27 (.pointer (some ⟨id, off, none⟩)) (.int k x) h = wrl h id off [(.int k x)] := by unfold astore; simp only [sz27]; rfl
theorem az27 {h : H} : allocV (tzero Try.prog 27) 27 h = some (nptr h, h ++ [.cells ([Value.int .i64 0]) 27]) := by
  have e : tzero Try.prog 27 = some (Value.int .i64 0) := by kernel_rfl
  rw [e]; exact allocV_eq (by kernel_rfl)
theorem aza27 {rid : Nat} : allocA (tzero Try.prog 27) 27 rid = some (.pointer (some ⟨rid, 0, none⟩), .cells ([Value.int .i64 0]) 27) := by
  have e : tzero Try.prog 27 = some (Value.int .i64 0) := by kernel_rfl
  rw [e]; exact allocA_eq (by kernel_rfl)
theorem tg29 : tagg Try.prog 29 = some false := by kernel_rfl
theorem ld29 {I : Nat → Option Obj} {id off : Nat} {h : H} : aload Try.prog I 29 (.pointer (some ⟨id, off, none⟩)) h = ld1 (rdl I h id off 1) := by unfold aload ld1; simp only [tg29]; rcases rdl I h id off 1 with _ | _ | _ <;> rfl
theorem st29 {id off : Nat} {h : H} {f : Fn} {a b : Array Value} : astore Try.prog 29 (.pointer (some ⟨id, off, none⟩)) (.func f a b) h = wrl h id off [(.func f a b)] := by unfold astore; simp only [sz29]; rfl
theorem az29 {h : H} : allocV (tzero Try.prog 29) 29 h = some (nptr h, h ++ [.cells ([Value.nilFunc]) 29]) := by
  have e : tzero Try.prog 29 = some (Value.nilFunc) := by kernel_rfl
  rw [e]; exact allocV_eq (by kernel_rfl)
theorem aza29 {rid : Nat} : allocA (tzero Try.prog 29) 29 rid = some (.pointer (some ⟨rid, 0, none⟩), .cells ([Value.nilFunc]) 29) := by
  have e : tzero Try.prog 29 = some (Value.nilFunc) := by kernel_rfl
  rw [e]; exact allocA_eq (by kernel_rfl)
theorem tg30 : tagg Try.prog 30 = some false := by kernel_rfl
theorem ld30 {I : Nat → Option Obj} {id off : Nat} {h : H} : aload Try.prog I 30 (.pointer (some ⟨id, off, none⟩)) h = ld1 (rdl I h id off 1) := by unfold aload ld1; simp only [tg30]; rcases rdl I h id off 1 with _ | _ | _ <;> rfl
theorem st30 {id off : Nat} {h : H} {f : Fn} {a b : Array Value} : astore Try.prog 30 (.pointer (some ⟨id, off, none⟩)) (.func f a b) h = wrl h id off [(.func f a b)] := by unfold astore; simp only [sz30]; rfl
theorem az30 {h : H} : allocV (tzero Try.prog 30) 30 h = some (nptr h, h ++ [.cells ([Value.nilFunc]) 30]) := by
  have e : tzero Try.prog 30 = some (Value.nilFunc) := by kernel_rfl
  rw [e]; exact allocV_eq (by kernel_rfl)
theorem aza30 {rid : Nat} : allocA (tzero Try.prog 30) 30 rid = some (.pointer (some ⟨rid, 0, none⟩), .cells ([Value.nilFunc]) 30) := by
  have e : tzero Try.prog 30 = some (Value.nilFunc) := by kernel_rfl
  rw [e]; exact allocA_eq (by kernel_rfl)
theorem tg32 : tagg Try.prog 32 = some false := by kernel_rfl
theorem ld32 {I : Nat → Option Obj} {id off : Nat} {h : H} : aload Try.prog I 32 (.pointer (some ⟨id, off, none⟩)) h = ld1 (rdl I h id off 1) := by unfold aload ld1; simp only [tg32]; rcases rdl I h id off 1 with _ | _ | _ <;> rfl
theorem st32 {id off : Nat} {h : H} {f : Fn} {a b : Array Value} : astore Try.prog 32 (.pointer (some ⟨id, off, none⟩)) (.func f a b) h = wrl h id off [(.func f a b)] := by unfold astore; simp only [sz32]; rfl
theorem az32 {h : H} : allocV (tzero Try.prog 32) 32 h = some (nptr h, h ++ [.cells ([Value.nilFunc]) 32]) := by
  have e : tzero Try.prog 32 = some (Value.nilFunc) := by kernel_rfl
  rw [e]; exact allocV_eq (by kernel_rfl)
theorem aza32 {rid : Nat} : allocA (tzero Try.prog 32) 32 rid = some (.pointer (some ⟨rid, 0, none⟩), .cells ([Value.nilFunc]) 32) := by
  have e : tzero Try.prog 32 = some (Value.nilFunc) := by kernel_rfl
  rw [e]; exact allocA_eq (by kernel_rfl)
theorem tg34 : tagg Try.prog 34 = some false := by kernel_rfl
theorem ld34 {I : Nat → Option Obj} {id off : Nat} {h : H} : aload Try.prog I 34 (.pointer (some ⟨id, off, none⟩)) h = ld1 (rdl I h id off 1) := by unfold aload ld1; simp only [tg34]; rcases rdl I h id off 1 with _ | _ | _ <;> rfl
theorem st34 {id off : Nat} {h : H} {f : Fn} {a b : Array Value} : astore Try.prog 34 (.pointer (some ⟨id, off, none⟩)) (.func f a b) h = wrl h id off [(.func f a b)] := by unfold astore; simp only [sz34]; rfl
theorem az34 {h : H} : allocV (tzero Try.prog 34) 34 h = some (nptr h, h ++ [.cells ([Value.nilFunc]) 34]) := by
  have e : tzero Try.prog 34 = some (Value.nilFunc) := by kernel_rfl
  rw [e]; exact allocV_eq (by kernel_rfl)
theorem aza34 {rid : Nat} : allocA (tzero Try.prog 34) 34 rid = some (.pointer (some ⟨rid, 0, none⟩), .cells ([Value.nilFunc]) 34) := by
  have e : tzero Try.prog 34 = some (Value.nilFunc) := by kernel_rfl
  rw [e]; exact allocA_eq (by kernel_rfl)
theorem tg35 : tagg Try.prog 35 = some false := by kernel_rfl
theorem ld35 {I : Nat → Option Obj} {id off : Nat} {h : H} : aload Try.prog I 35 (.pointer (some ⟨id, off, none⟩)) h = ld1 (rdl I h id off 1) := by unfold aload ld1; simp only [tg35]; rcases rdl I h id off 1 with _ | _ | _ <;> rfl
theorem st35 {id off : Nat} {h : H} {f : Fn} {a b : Array Value} : astore Try.prog 35 (.pointer (some ⟨id, off, none⟩)) (.func f a b) h = wrl h id off [(.func f a b)] := by unfold astore; simp only [sz35]; rfl
theorem az35 {h : H} : allocV (tzero Try.prog 35) 35 h = some (nptr h, h ++ [.cells ([Value.nilFunc]) 35]) := by
  have e : tzero Try.prog 35 = some (Value.nilFunc) := by kernel_rfl
  rw [e]; exact allocV_eq (by kernel_rfl)
theorem aza35 {rid : Nat} : allocA (tzero Try.prog 35) 35 rid = some (.pointer (some ⟨rid, 0, none⟩), .cells ([Value.nilFunc]) 35) := by
  have e : tzero Try.prog 35 = some (Value.nilFunc) := by kernel_rfl
  rw [e]; exact allocA_eq (by kernel_rfl)
theorem tg36 : tagg Try.prog 36 = some false := by kernel_rfl
theorem ld36 {I : Nat → Option Obj} {id off : Nat} {h : H} : aload Try.prog I 36 (.pointer (some ⟨id, off, none⟩)) h = ld1 (rdl I h id off 1) := by unfold aload ld1; simp only [tg36]; rcases rdl I h id off 1 with _ | _ | _ <;> rfl
theorem st36 {id off : Nat} {h : H} {f : Fn} {a b : Array Value} : astore Try.prog 36 (.pointer (some ⟨id, off, none⟩)) (.func f a b) h = wrl h id off [(.func f a b)] := by unfold astore; simp only [sz36]; rfl
theorem az36 {h : H} : allocV (tzero Try.prog 36) 36 h = some (nptr h, h ++ [.cells ([Value.nilFunc]) 36]) := by
  have e : tzero Try.prog 36 = some (Value.nilFunc) := by kernel_rfl
  rw [e]; exact allocV_eq (by kernel_rfl)
theorem aza36 {rid : Nat} : allocA (tzero Try.prog 36) 36 rid = some (.pointer (some ⟨rid, 0, none⟩), .cells ([Value.nilFunc]) 36) := by
  have e : tzero Try.prog 36 = some (Value.nilFunc) := by kernel_rfl
  rw [e]; exact allocA_eq (by kernel_rfl)
theorem tg37 : tagg Try.prog 37 = some true := by kernel_rfl
theorem ld37 {I : Nat → Option Obj} {id off : Nat} {h : H} : aload Try.prog I 37 (.pointer (some ⟨id, off, none⟩)) h = ldA (rdl I h id off 3) := by unfold aload ldA; simp only [tg37, sz37, Option.bind_some]
theorem st37 {id off : Nat} {h : H} {l : List Value} (hl : l.length = 3) : astore Try.prog 37 (.pointer (some ⟨id, off, none⟩)) (.agg l.toArray) h = wrl h id off l := by unfold astore; simp only [sz37, Value.cells, List.size_toArray, hl, if_true]
theorem az37 {h : H} : allocV (tzero Try.prog 37) 37 h = some (nptr h, h ++ [.cells (([Value.int .i64 0] ++ [Value.int .i64 0] ++ [Value.int .i64 0])) 37]) := by
  have e : tzero Try.prog 37 = some ((.agg (([Value.int .i64 0] ++ [Value.int .i64 0] ++ [Value.int .i64 0])).toArray)) := by kernel_rfl
  rw [e]; exact allocV_eq (by kernel_rfl)
theorem aza37 {rid : Nat} : allocA (tzero Try.prog 37) 37 rid = some (.pointer (some ⟨rid, 0, none⟩), .cells (([Value.int .i64 0] ++ [Value.int .i64 0] ++ [Value.int .i64 0])) 37) := by
  have e : tzero Try.prog 37 = some ((.agg (([Value.int .i64 0] ++ [Value.int .i64 0] ++ [Value.int .i64 0])).toArray)) := by kernel_rfl
  rw [e]; exact allocA_eq (by kernel_rfl)
theorem fa37_0 {id off : Nat} : afield Try.prog 37 (.pointer (some ⟨id, off, none⟩)) 0 = some (.pointer (some ⟨id, off, none⟩)) := by kernel_rfl
theorem fv37_0 {l : List Value} : afieldV Try.prog 37 (.agg l.toArray) 0 = l[0]? := by kernel_rfl
theorem fa37_1 {id off : Nat} : afield Try.prog 37 (.pointer (some ⟨id, off, none⟩)) 1 = some (.pointer (some ⟨id, off + 1, none⟩)) := by kernel_rfl
theorem fv37_1 {l : List Value} : afieldV Try.prog 37 (.agg l.toArray) 1 = l[1]? := by kernel_rfl
theorem fa37_2 {id off : Nat} : afield Try.prog 37 (.pointer (some ⟨id, off, none⟩)) 2 = some (.pointer (some ⟨id, off + 2, none⟩)) := by kernel_rfl
theorem fv37_2 {l : List Value} : afieldV Try.prog 37 (.agg l.toArray) 2 = l[2]? := by kernel_rfl
theorem tg38 : tagg Try.prog 38 = some true := by kernel_rfl
theorem ld38 {I : Nat → Option Obj} {id off : Nat} {h : H} : aload Try.prog I 38 (.pointer (some ⟨id, off, none⟩)) h = ldA (rdl I h id off 3) := by unfold aload ldA; simp only [tg38, sz38, Option.bind_some]
theorem st38 {id off : Nat} {h : H} {l : List Value} (hl : l.length = 3) : astore Try.prog 38 (.pointer (some ⟨id, off, none⟩)) (.agg l.toArray) h = wrl h id off l := by unfold astore; simp only [sz38, Value.cells, List.size_toArray, hl, if_true]
theorem az38 {h : H} : allocV (tzero Try.prog 38) 38 h = some (nptr h, h ++ [.cells (([Value.int .i64 0] ++ [Value.int .i64 0] ++ [Value.int .i64 0])) 38]) := by
  have e : tzero Try.prog 38 = some ((.agg (([Value.int .i64 0] ++ [Value.int .i64 0] ++ [Value.int .i64 0])).toArray)) := by kernel_rfl
  rw [e]; exact allocV_eq (by kernel_rfl)
theorem aza38 {rid : Nat} : allocA (tzero Try.prog 38) 38 rid = some (.pointer (some ⟨rid, 0, none⟩), .cells (([Value.int .i64 0] ++ [Value.int .i64 0] ++ [Value.int .i64 0])) 38) := by
  have e : tzero Try.prog 38 = some ((.agg (([Value.int .i64 0] ++ [Value.int .i64 0] ++ [Value.int .i64 0])).toArray)) := by kernel_rfl
  rw [e]; exact allocA_eq (by kernel_rfl)
theorem fa38_0 {id off : Nat} : afield Try.prog 38 (.pointer (some ⟨id, off, none⟩)) 0 = some (.pointer (some ⟨id, off, none⟩)) := by kernel_rfl
theorem fv38_0 {l : List Value} : afieldV Try.prog 38 (.agg l.toArray) 0 = l[0]? := by kernel_rfl
theorem fa38_1 {id off : Nat} : afield Try.prog 38 (.pointer (some ⟨id, off, none⟩)) 1 = some (.pointer (some ⟨id, off + 1, none⟩)) := by kernel_rfl
theorem fv38_1 {l : List Value} : afieldV Try.prog 38 (.agg l.toArray) 1 = l[1]? := by kernel_rfl
theorem fa38_2 {id off : Nat} : afield Try.prog 38 (.pointer (some ⟨id, off, none⟩)) 2 = some (.pointer (some ⟨id, off + 2, none⟩)) := by kernel_rfl
theorem fv38_2 {l : List Value} : afieldV Try.prog 38 (.agg l.toArray) 2 = l[2]? := by kernel_rfl
theorem tg39 : tagg Try.prog 39 = some false := by kernel_rfl
theorem ld39 {I : Nat → Option Obj} {id off : Nat} {h : H} : aload Try.prog I 39 (.pointer (some ⟨id, off, none⟩)) h = ld1 (rdl I h id off 1) := by unfold aload ld1; simp only [tg39]; rcases rdl I h id off 1 with _ | _ | _ <;> rfl
theorem st39 {id off : Nat} {h : H} {k : IntKind} {x : Int} : astore Try.prog 39 (.pointer (some ⟨id, off, none⟩)) (.int k x) h = wrl h id off [(.int k x)] := by unfold astore; simp only [sz39]; rfl
theorem az39 {h : H} : allocV (tzero Try.prog 39) 39 h = some (nptr h, h ++ [.cells ([Value.int .u16 0]) 39]) := by
  have e : tzero Try.prog 39 = some (Value.int .u16 0) := by kernel_rfl
  rw [e]; exact allocV_eq (by kernel_rfl)
theorem aza39 {rid : Nat} : allocA (tzero Try.prog 39) 39 rid = some (.pointer (some ⟨rid, 0, none⟩), .cells ([Value.int .u16 0]) 39) := by
  have e : tzero Try.prog 39 = some (Value.int .u16 0) := by kernel_rfl
  rw [e]; exact allocA_eq (by kernel_rfl)
theorem tg40 : tagg Try.prog 40 = some false := by kernel_rfl
theorem ld40 {I : Nat → Option Obj} {id off : Nat} {h : H} : aload Try.prog I 40 (.pointer (some ⟨id, off, none⟩)) h = ld1 (rdl I h id off 1) := by unfold aload ld1; simp only [tg40]; rcases rdl I h id off 1 with _ | _ | _ <;> rfl
theorem st40 {id off : Nat} {h : H} {f : Fn} {a b : Array Value} : astore Try.prog 40 (.pointer (some ⟨id, off, none⟩)) (.func f a b) h = wrl h id off [(.func f a b)] := by unfold astore; simp only [sz40]; rfl
theorem az40 {h : H} : allocV (tzero Try.prog 40) 40 h = some (nptr h, h ++ [.cells ([Value.nilFunc]) 40]) := by
  have e : tzero Try.prog 40 = some (Value.nilFunc) := by kernel_rfl
  rw [e]; exact allocV_eq (by kernel_rfl)
theorem aza40 {rid : Nat} : allocA (tzero Try.prog 40) 40 rid = some (.pointer (some ⟨rid, 0, none⟩), .cells ([Value.nilFunc]) 40) := by
  have e : tzero Try.prog 40 = some (Value.nilFunc) := by kernel_rfl
  rw [e]; exact allocA_eq (by kernel_rfl)
theorem tg41 : tagg Try.prog 41 = some false := by kernel_rfl
theorem ld41 {I : Nat → Option Obj} {id off : Nat} {h : H} : aload Try.prog I 41 (.pointer (some ⟨id, off, none⟩)) h = ld1 (rdl I h id off 1) := by unfold aload ld1; simp only [tg41]; rcases rdl I h id off 1 with _ | _ | _ <;> rfl
theorem st41 {id off : Nat} {h : H} {f : Fn} {a b : Array Value} : astore Try.prog 41 (.pointer (some ⟨id, off, none⟩)) (.func f a b) h = wrl h id off [(.func f a b)] := by unfold astore; simp only [sz41]; rfl
theorem az41 {h : H} : allocV (tzero Try.prog 41) 41 h = some (nptr h, h ++ [.cells ([Value.nilFunc]) 41]) := by
  have e : tzero Try.prog 41 = some (Value.nilFunc) := by kernel_rfl
  rw [e]; exact allocV_eq (by kernel_rfl)
theorem aza41 {rid : Nat} : allocA (tzero Try.prog 41) 41 rid = some (.pointer (some ⟨rid, 0, none⟩), .cells ([Value.nilFunc]) 41) := by
  have e : tzero Try.prog 41 = some (Value.nilFunc) := by kernel_rfl
  rw [e]; exact allocA_eq (by kernel_rfl)
theorem tg42 : tagg Try.prog 42 = some true := by kernel_rfl
theorem ld42 {I : Nat → Option Obj} {id off : Nat} {h : H} : aload Try.prog I 42 (.pointer (some ⟨id, off, none⟩)) h = ldA (rdl I h id off 2) := by unfold aload ldA; simp only [tg42, sz42, Option.bind_some]
theorem st42 {id off : Nat} {h : H} {l : List Value} (hl : l.length = 2) : astore Try.prog 42 (.pointer (some ⟨id, off, none⟩)) (.agg l.toArray) h = wrl h id off l := by unfold astore; simp only [sz42, Value.cells, List.size_toArray, hl, if_true]
theorem az42 {h : H} : allocV (tzero Try.prog 42) 42 h = some (nptr h, h ++ [.cells (([Value.int .i64 0] ++ [Value.int .i64 0])) 42]) := by
  have e : tzero Try.prog 42 = some ((.agg (([Value.int .i64 0] ++ [Value.int .i64 0])).toArray)) := by kernel_rfl
  rw [e]; exact allocV_eq (by kernel_rfl)
theorem aza42 {rid : Nat} : allocA (tzero Try.prog 42) 42 rid = some (.pointer (some ⟨rid, 0, none⟩), .cells (([Value.int .i64 0] ++ [Value.int .i64 0])) 42) := by
  have e : tzero Try.prog 42 = some ((.agg (([Value.int .i64 0] ++ [Value.int .i64 0])).toArray)) := by kernel_rfl
  rw [e]; exact allocA_eq (by kernel_rfl)
theorem fa42_0 {id off : Nat} : afield Try.prog 42 (.pointer (some ⟨id, off, none⟩)) 0 = some (.pointer (some ⟨id, off, none⟩)) := by kernel_rfl
theorem fv42_0 {l : List Value} : afieldV Try.prog 42 (.agg l.toArray) 0 = l[0]? := by kernel_rfl
theorem fa42_1 {id off : Nat} : afield Try.prog 42 (.pointer (some ⟨id, off, none⟩)) 1 = some (.pointer (some ⟨id, off + 1, none⟩)) := by kernel_rfl
theorem fv42_1 {l : List Value} : afieldV Try.prog 42 (.agg l.toArray) 1 = l[1]? := by kernel_rfl
theorem tg43 : tagg Try.prog 43 = some true := by kernel_rfl
theorem ld43 {I : Nat → Option Obj} {id off : Nat} {h : H} : aload Try.prog I 43 (.pointer (some ⟨id, off, none⟩)) h = ldA (rdl I h id off 2) := by unfold aload ldA; simp only [tg43, sz43, Option.bind_some]
theorem st43 {id off : Nat} {h : H} {l : List Value} (hl : l.length = 2) : astore Try.prog 43 (.pointer (some ⟨id, off, none⟩)) (.agg l.toArray) h = wrl h id off l := by unfold astore; simp only [sz43, Value.cells, List.size_toArray, hl, if_true]
theorem az43 {h : H} : allocV (tzero Try.prog 43) 43 h = some (nptr h, h ++ [.cells (([Value.int .i64 0] ++ [Value.int .i64 0])) 43]) := by
  have e : tzero Try.prog 43 = some ((.agg (([Value.int .i64 0] ++ [Value.int .i64 0])).toArray)) := by kernel_rfl
  rw [e]; exact allocV_eq (by kernel_rfl)
theorem aza43 {rid : Nat} : allocA (tzero Try.prog 43) 43 rid = some (.pointer (some ⟨rid, 0, none⟩), .cells (([Value.int .i64 0] ++ [Value.int .i64 0])) 43) := by
  have e : tzero Try.prog 43 = some ((.agg (([Value.int .i64 0] ++ [Value.int .i64 0])).toArray)) := by kernel_rfl
  rw [e]; exact allocA_eq (by kernel_rfl)
theorem fa43_0 {id off : Nat} : afield Try.prog 43 (.pointer (some ⟨id, off, none⟩)) 0 = some (.pointer (some ⟨id, off, none⟩)) := by kernel_rfl
theorem fv43_0 {l : List Value} : afieldV Try.prog 43 (.agg l.toArray) 0 = l[0]? := by kernel_rfl
theorem fa43_1 {id off : Nat} : afield Try.prog 43 (.pointer (some ⟨id, off, none⟩)) 1 = some (.pointer (some ⟨id, off + 1, none⟩)) := by kernel_rfl
theorem fv43_1 {l : List Value} : afieldV Try.prog 43 (.agg l.toArray) 1 = l[1]? := by kernel_rfl
theorem tg44 : tagg Try.prog 44 = some true := by kernel_rfl
theorem ld44 {I : Nat → Option Obj} {id off : Nat} {h : H} : aload Try.prog I 44 (.pointer (some ⟨id, off, none⟩)) h = ldA (rdl I h id off 3) := by unfold aload ldA; simp only [tg44, sz44, Option.bind_some]
theorem st44 {id off : Nat} {h : H} {l : List Value} (hl : l.length = 3) : astore Try.prog 44 (.pointer (some ⟨id, off, none⟩)) (.agg l.toArray) h = wrl h id off l := by unfold astore; simp only [sz44, Value.cells, List.size_toArray, hl, if_true]
theorem az44 {h : H} : allocV (tzero Try.prog 44) 44 h = some (nptr h, h ++ [.cells (([Value.int .i64 0] ++ ([Value.int .i64 0] ++ [Value.int .i64 0]))) 44]) := by
  have e : tzero Try.prog 44 = some ((.agg (([Value.int .i64 0] ++ ([Value.int .i64 0] ++ [Value.int .i64 0]))).toArray)) := by kernel_rfl
  rw [e]; exact allocV_eq (by kernel_rfl)
theorem aza44 {rid : Nat} : allocA (tzero Try.prog 44) 44 rid = some (.pointer (some ⟨rid, 0, none⟩), .cells (([Value.int .i64 0] ++ ([Value.int .i64 0] ++ [Value.int .i64 0]))) 44) := by
  have e : tzero Try.prog 44 = some ((.agg (([Value.int .i64 0] ++ ([Value.int .i64 0] ++ [Value.int .i64 0]))).toArray)) := by kernel_rfl
  rw [e]; exact allocA_eq (by kernel_rfl)
theorem fa44_0 {id off : Nat} : afield Try.prog 44 (.pointer (some ⟨id, off, none⟩)) 0 = some (.pointer (some ⟨id, off, none⟩)) := by kernel_rfl
theorem fv44_0 {l : List Value} : afieldV Try.prog 44 (.agg l.toArray) 0 = l[0]? := by kernel_rfl
theorem fa44_1 {id off : Nat} : afield Try.prog 44 (.pointer (some ⟨id, off, none⟩)) 1 = some (.pointer (some ⟨id, off + 1, none⟩)) := by kernel_rfl
theorem fv44_1 {l : List Value} : afieldV Try.prog 44 (.agg l.toArray) 1 = some (.agg ((l.drop 1).take 2).toArray) := by kernel_rfl
theorem tg45 : tagg Try.prog 45 = some true := by kernel_rfl
theorem ld45 {I : Nat → Option Obj} {id off : Nat} {h : H} : aload Try.prog I 45 (.pointer (some ⟨id, off, none⟩)) h = ldA (rdl I h id off 3) := by unfold aload ldA; simp only [tg45, sz45, Option.bind_some]
theorem st45 {id off : Nat} {h : H} {l : List Value} (hl : l.length = 3) : astore Try.prog 45 (.pointer (some ⟨id, off, none⟩)) (.agg l.toArray) h = wrl h id off l := by unfold astore; simp only [sz45, Value.cells, List.size_toArray, hl, if_true]
theorem az45 {h : H} : allocV (tzero Try.prog 45) 45 h = some (nptr h, h ++ [.cells (([Value.int .i64 0] ++ ([Value.int .i64 0] ++ [Value.int .i64 0]))) 45]) := by
  have e : tzero Try.prog 45 = some ((.agg (([Value.int .i64 0] ++ ([Value.int .i64 0] ++ [Value.int .i64 0]))).toArray)) := by kernel_rfl
  rw [e]; exact allocV_eq (by kernel_rfl)
theorem aza45 {rid : Nat} : allocA (tzero Try.prog 45) 45 rid = some (.pointer (some ⟨rid, 0, none⟩), .cells (([Value.int .i64 0] ++ ([Value.int .i64 0] ++ [Value.int .i64 0]))) 45) := by
  have e : tzero Try.prog 45 = some ((.agg (([Value.int .i64 0] ++ ([Value.int .i64 0] ++ [Value.int .i64 0]))).toArray)) := by kernel_rfl
  rw [e]; exact allocA_eq (by kernel_rfl)
theorem fa45_0 {id off : Nat} : afield Try.prog 45 (.pointer (some ⟨id, off, none⟩)) 0 = some (.pointer (some ⟨id, off, none⟩)) := by kernel_rfl
theorem fv45_0 {l : List Value} : afieldV Try.prog 45 (.agg l.toArray) 0 = l[0]? := by kernel_rfl
theorem fa45_1 {id off : Nat} : afield Try.prog 45 (.pointer (some ⟨id, off, none⟩)) 1 = some (.pointer (some ⟨id, off + 1, none⟩)) := by kernel_rfl
theorem fv45_1 {l : List Value} : afieldV Try.prog 45 (.agg l.toArray) 1 = some (.agg ((l.drop 1).take 2).toArray) := by kernel_rfl
theorem tg46 : tagg Try.prog 46 = some false := by kernel_rfl
theorem ld46 {I : Nat → Option Obj} {id off : Nat} {h : H} : aload Try.prog I 46 (.pointer (some ⟨id, off, none⟩)) h = ld1 (rdl I h id off 1) := by unfold aload ld1; simp only [tg46]; rcases rdl I h id off 1 with _ | _ | _ <;> rfl
theorem st46 {id off : Nat} {h : H} {f : Fn} {a b : Array Value} : astore Try.prog 46 (.pointer (some ⟨id, off, none⟩)) (.func f a b) h = wrl h id off [(.func f a b)] := by unfold astore; simp only [sz46]; rfl
theorem az46 {h : H} : allocV (tzero Try.prog 46) 46 h = some (nptr h, h ++ [.cells ([Value.nilFunc]) 46]) := by
  have e : tzero Try.prog 46 = some (Value.nilFunc) := by kernel_rfl
  rw [e]; exact allocV_eq (by kernel_rfl)
theorem aza46 {rid : Nat} : allocA (tzero Try.prog 46) 46 rid = some (.pointer (some ⟨rid, 0, none⟩), .cells ([Value.nilFunc]) 46) := by
  have e : tzero Try.prog 46 = some (Value.nilFunc) := by kernel_rfl
  rw [e]; exact allocA_eq (by kernel_rfl)
theorem tg47 : tagg Try.prog 47 = some false := by kernel_rfl
theorem ld47 {I : Nat → Option Obj} {id off : Nat} {h : H} : aload Try.prog I 47 (.pointer (some ⟨id, off, none⟩)) h = ld1 (rdl I h id off 1) := by unfold aload ld1; simp only [tg47]; rcases rdl I h id off 1 with _ | _ | _ <;> rfl
theorem st47 {id off : Nat} {h : H} {f : Fn} {a b : Array Value} : astore Try.prog 47 (.pointer (some ⟨id, off, none⟩)) (.func f a b) h = wrl h id off [(.func f a b)] := by unfold astore; simp only [sz47]; rfl
theorem az47 {h : H} : allocV (tzero Try.prog 47) 47 h = some (nptr h, h ++ [.cells ([Value.nilFunc]) 47]) := by
  have e : tzero Try.prog 47 = some (Value.nilFunc) := by kernel_rfl
  rw [e]; exact allocV_eq (by kernel_rfl)
theorem aza47 {rid : Nat} : allocA (tzero Try.prog 47) 47 rid = some (.pointer (some ⟨rid, 0, none⟩), .cells ([Value.nilFunc]) 47) := by
  have e : tzero Try.prog 47 = some (Value.nilFunc) := by kernel_rfl
  rw [e]; exact allocA_eq (by kernel_rfl)
theorem tg50 : tagg Try.prog 50 = some true := by kernel_rfl
theorem ld50 {I : Nat → Option Obj} {id off : Nat} {h : H} : aload Try.prog I 50 (.pointer (some ⟨id, off, none⟩)) h = ldA (rdl I h id off 2) := by unfold aload ldA; simp only [tg50, sz50, Option.bind_some]
theorem st50 {id off : Nat} {h : H} {l : List Value} (hl : l.length = 2) : astore Try.prog 50 (.pointer (some ⟨id, off, none⟩)) (.agg l.toArray) h = wrl h id off l := by unfold astore; simp only [sz50, Value.cells, List.size_toArray, hl, if_true]
theorem az50 {h : H} : allocV (tzero Try.prog 50) 50 h = some (nptr h, h ++ [.cells (([Value.int .u16 0] ++ [Value.int .u16 0])) 50]) := by
  have e : tzero Try.prog 50 = some ((.agg (([Value.int .u16 0] ++ [Value.int .u16 0])).toArray)) := by kernel_rfl
  rw [e]; exact allocV_eq (by kernel_rfl)
theorem aza50 {rid : Nat} : allocA (tzero Try.prog 50) 50 rid = some (.pointer (some ⟨rid, 0, none⟩), .cells (([Value.int .u16 0] ++ [Value.int .u16 0])) 50) := by
  have e : tzero Try.prog 50 = some ((.agg (([Value.int .u16 0] ++ [Value.int .u16 0])).toArray)) := by kernel_rfl
  rw [e]; exact allocA_eq (by kernel_rfl)
theorem un50 : Try.prog.underlying 50 = some (.array 2 39) := by kernel_rfl
theorem ix50 {id off : Nat} {k : IntKind} {i : Int} : aindex Try.prog 50 (.pointer (some ⟨id, off, none⟩)) (.int k i) = if 0 ≤ i ∧ i < (2 : Nat) then some (.pointer (some ⟨id, off + i.toNat, none⟩)) else none := by simp only [aindex, un50, sz39, Option.map_some, Nat.mul_one]
theorem tg51 : tagg Try.prog 51 = some false := by kernel_rfl
theorem ld51 {I : Nat → Option Obj} {id off : Nat} {h : H} : aload Try.prog I 51 (.pointer (some ⟨id, off, none⟩)) h = ld1 (rdl I h id off 1) := by unfold aload ld1; simp only [tg51]; rcases rdl I h id off 1 with _ | _ | _ <;> rfl
theorem st51 {id off : Nat} {h : H} {k : IntKind} {x : Int} : astore Try.prog 51 (.pointer (some ⟨id, off, none⟩)) (.int k x) h = wrl h id off [(.int k x)] := by unfold astore; simp only [sz51]; rfl
theorem az51 {h : H} : allocV (tzero Try.prog 51) 51 h = some (nptr h, h ++ [.cells ([Value.int .u32 0]) 51]) := by
  have e : tzero Try.prog 51 = some (Value.int .u32 0) := by kernel_rfl
  rw [e]; exact allocV_eq (by kernel_rfl)
theorem aza51 {rid : Nat} : allocA (tzero Try.prog 51) 51 rid = some (.pointer (some ⟨rid, 0, none⟩), .cells ([Value.int .u32 0]) 51) := by
  have e : tzero Try.prog 51 = some (Value.int .u32 0) := by kernel_rfl
  rw [e]; exact allocA_eq (by kernel_rfl)
theorem tg53 : tagg Try.prog 53 = some false := by kernel_rfl
theorem ld53 {I : Nat → Option Obj} {id off : Nat} {h : H} : aload Try.prog I 53 (.pointer (some ⟨id, off, none⟩)) h = ld1 (rdl I h id off 1) := by unfold aload ld1; simp only [tg53]; rcases rdl I h id off 1 with _ | _ | _ <;> rfl
theorem st53 {id off : Nat} {h : H} {p : Option Addr} {n c : Nat} : astore Try.prog 53 (.pointer (some ⟨id, off, none⟩)) (.slice p n c) h = wrl h id off [(.slice p n c)] := by unfold astore; simp only [sz53]; rfl
theorem az53 {h : H} : allocV (tzero Try.prog 53) 53 h = some (nptr h, h ++ [.cells ([Value.slice none 0 0]) 53]) := by
  have e : tzero Try.prog 53 = some (Value.slice none 0 0) := by kernel_rfl
  rw [e]; exact allocV_eq (by kernel_rfl)
theorem aza53 {rid : Nat} : allocA (tzero Try.prog 53) 53 rid = some (.pointer (some ⟨rid, 0, none⟩), .cells ([Value.slice none 0 0]) 53) := by
  have e : tzero Try.prog 53 = some (Value.slice none 0 0) := by kernel_rfl
  rw [e]; exact allocA_eq (by kernel_rfl)
theorem un53 : Try.prog.underlying 53 = some (.slice 22) := by kernel_rfl
theorem ln53 {I : Nat → Option Obj} {ty : TypeId} {p : Option Addr} {n c : Nat} {h : H} : abi2 Try.prog I .len #[53] ty [.slice p n c] h = some (.int .i64 n, h) := by unfold abi2 abi; simp [alen, un53]
theorem lnd53 {I : Nat → Option Obj} {ty : TypeId} {p : Option Addr} {n c : Nat} {h : H} : abi Try.prog I .len #[53] ty [.slice p n c] h = some (.int .i64 n, h) := by unfold abi; simp [alen, un53]
theorem ix53 {id off n c : Nat} {k : IntKind} {i : Int} : aindex Try.prog 53 (.slice (some ⟨id, off, none⟩) n c) (.int k i) = if 0 ≤ i ∧ i < n then some (.pointer (some ⟨id, off + i.toNat, none⟩)) else none := by simp only [aindex, un53, sz22, Option.map_some, Nat.mul_one]
theorem tg61 : tagg Try.prog 61 = some true := by kernel_rfl
theorem ld61 {I : Nat → Option Obj} {id off : Nat} {h : H} : aload Try.prog I 61 (.pointer (some ⟨id, off, none⟩)) h = ldA (rdl I h id off 2) := by unfold aload ldA; simp only [tg61, sz61, Option.bind_some]
theorem st61 {id off : Nat} {h : H} {l : List Value} (hl : l.length = 2) : astore Try.prog 61 (.pointer (some ⟨id, off, none⟩)) (.agg l.toArray) h = wrl h id off l := by unfold astore; simp only [sz61, Value.cells, List.size_toArray, hl, if_true]
theorem az61 {h : H} : allocV (tzero Try.prog 61) 61 h = some (nptr h, h ++ [.cells (([Value.int .i64 0] ++ [Value.int .i64 0])) 61]) := by
  have e : tzero Try.prog 61 = some ((.agg (([Value.int .i64 0] ++ [Value.int .i64 0])).toArray)) := by kernel_rfl
  rw [e]; exact allocV_eq (by kernel_rfl)
theorem aza61 {rid : Nat} : allocA (tzero Try.prog 61) 61 rid = some (.pointer (some ⟨rid, 0, none⟩), .cells (([Value.int .i64 0] ++ [Value.int .i64 0])) 61) := by
  have e : tzero Try.prog 61 = some ((.agg (([Value.int .i64 0] ++ [Value.int .i64 0])).toArray)) := by kernel_rfl
  rw [e]; exact allocA_eq (by kernel_rfl)
theorem un61 : Try.prog.underlying 61 = some (.array 2 3) := by kernel_rfl
theorem ix61 {id off : Nat} {k : IntKind} {i : Int} : aindex Try.prog 61 (.pointer (some ⟨id, off, none⟩)) (.int k i) = if 0 ≤ i ∧ i < (2 : Nat) then some (.pointer (some ⟨id, off + i.toNat, none⟩)) else none := by simp only [aindex, un61, sz3, Option.map_some, Nat.mul_one]
theorem tg64 : tagg Try.prog 64 = some false := by kernel_rfl
theorem ld64 {I : Nat → Option Obj} {id off : Nat} {h : H} : aload Try.prog I 64 (.pointer (some ⟨id, off, none⟩)) h = ld1 (rdl I h id off 1) := by unfold aload ld1; simp only [tg64]; rcases rdl I h id off 1 with _ | _ | _ <;> rfl
theorem st64 {id off : Nat} {h : H} {p : Option Addr} {n c : Nat} : astore Try.prog 64 (.pointer (some ⟨id, off, none⟩)) (.slice p n c) h = wrl h id off [(.slice p n c)] := by unfold astore; simp only [sz64]; rfl
theorem az64 {h : H} : allocV (tzero Try.prog 64) 64 h = some (nptr h, h ++ [.cells ([Value.slice none 0 0]) 64]) := by
  have e : tzero Try.prog 64 = some (Value.slice none 0 0) := by kernel_rfl
  rw [e]; exact allocV_eq (by kernel_rfl)
theorem aza64 {rid : Nat} : allocA (tzero Try.prog 64) 64 rid = some (.pointer (some ⟨rid, 0, none⟩), .cells ([Value.slice none 0 0]) 64) := by
  have e : tzero Try.prog 64 = some (Value.slice none 0 0) := by kernel_rfl
  rw [e]; exact allocA_eq (by kernel_rfl)
theorem un64 : Try.prog.underlying 64 = some (.slice 89) := by kernel_rfl
theorem ln64 {I : Nat → Option Obj} {ty : TypeId} {p : Option Addr} {n c : Nat} {h : H} : abi2 Try.prog I .len #[64] ty [.slice p n c] h = some (.int .i64 n, h) := by unfold abi2 abi; simp [alen, un64]
theorem lnd64 {I : Nat → Option Obj} {ty : TypeId} {p : Option Addr} {n c : Nat} {h : H} : abi Try.prog I .len #[64] ty [.slice p n c] h = some (.int .i64 n, h) := by unfold abi; simp [alen, un64]
theorem ix64 {id off n c : Nat} {k : IntKind} {i : Int} : aindex Try.prog 64 (.slice (some ⟨id, off, none⟩) n c) (.int k i) = if 0 ≤ i ∧ i < n then some (.pointer (some ⟨id, off + i.toNat * 3, none⟩)) else none := by simp only [aindex, un64, sz89, Option.map_some, Nat.mul_one]
theorem tg74 : tagg Try.prog 74 = some false := by kernel_rfl
theorem ld74 {I : Nat → Option Obj} {id off : Nat} {h : H} : aload Try.prog I 74 (.pointer (some ⟨id, off, none⟩)) h = ld1 (rdl I h id off 1) := by unfold aload ld1; simp only [tg74]; rcases rdl I h id off 1 with _ | _ | _ <;> rfl
theorem st74 {id off : Nat} {h : H} {p : Option Addr} {n c : Nat} : astore Try.prog 74 (.pointer (some ⟨id, off, none⟩)) (.slice p n c) h = wrl h id off [(.slice p n c)] := by unfold astore; simp only [sz74]; rfl
theorem az74 {h : H} : allocV (tzero Try.prog 74) 74 h = some (nptr h, h ++ [.cells ([Value.slice none 0 0]) 74]) := by
  have e : tzero Try.prog 74 = some (Value.slice none 0 0) := by kernel_rfl
  rw [e]; exact allocV_eq (by kernel_rfl)
theorem aza74 {rid : Nat} : allocA (tzero Try.prog 74) 74 rid = some (.pointer (some ⟨rid, 0, none⟩), .cells ([Value.slice none 0 0]) 74) := by
  have e : tzero Try.prog 74 = some (Value.slice none 0 0) := by kernel_rfl
  rw [e]; exact allocA_eq (by kernel_rfl)
theorem un74 : Try.prog.underlying 74 = some (.slice 38) := by kernel_rfl
theorem ln74 {I : Nat → Option Obj} {ty : TypeId} {p : Option Addr} {n c : Nat} {h : H} : abi2 Try.prog I .len #[74] ty [.slice p n c] h = some (.int .i64 n, h) := by unfold abi2 abi; simp [alen, un74]
theorem lnd74 {I : Nat → Option Obj} {ty : TypeId} {p : Option Addr} {n c : Nat} {h : H} : abi Try.prog I .len #[74] ty [.slice p n c] h = some (.int .i64 n, h) := by unfold abi; simp [alen, un74]
theorem ix74 {id off n c : Nat} {k : IntKind} {i : Int} : aindex Try.prog 74 (.slice (some ⟨id, off, none⟩) n c) (.int k i) = if 0 ≤ i ∧ i < n then some (.pointer (some ⟨id, off + i.toNat * 3, none⟩)) else none := by simp only [aindex, un74, sz38, Option.map_some, Nat.mul_one]
theorem tg77 : tagg Try.prog 77 = some false := by kernel_rfl
theorem ld77 {I : Nat → Option Obj} {id off : Nat} {h : H} : aload Try.prog I 77 (.pointer (some ⟨id, off, none⟩)) h = ld1 (rdl I h id off 1) := by unfold aload ld1; simp only [tg77]; rcases rdl I h id off 1 with _ | _ | _ <;> rfl
theorem st77 {id off : Nat} {h : H} {p : Option Addr} {n c : Nat} : astore Try.prog 77 (.pointer (some ⟨id, off, none⟩)) (.slice p n c) h = wrl h id off [(.slice p n c)] := by unfold astore; simp only [sz77]; rfl
theorem az77 {h : H} : allocV (tzero Try.prog 77) 77 h = some (nptr h, h ++ [.cells ([Value.slice none 0 0]) 77]) := by
  have e : tzero Try.prog 77 = some (Value.slice none 0 0) := by kernel_rfl
  rw [e]; exact allocV_eq (by kernel_rfl)
theorem aza77 {rid : Nat} : allocA (tzero Try.prog 77) 77 rid = some (.pointer (some ⟨rid, 0, none⟩), .cells ([Value.slice none 0 0]) 77) := by
  have e : tzero Try.prog 77 = some (Value.slice none 0 0) := by kernel_rfl
  rw [e]; exact allocA_eq (by kernel_rfl)
theorem un77 : Try.prog.underlying 77 = some (.slice 79) := by kernel_rfl
theorem ln77 {I : Nat → Option Obj} {ty : TypeId} {p : Option Addr} {n c : Nat} {h : H} : abi2 Try.prog I .len #[77] ty [.slice p n c] h = some (.int .i64 n, h) := by unfold abi2 abi; simp [alen, un77]
theorem lnd77 {I : Nat → Option Obj} {ty : TypeId} {p : Option Addr} {n c : Nat} {h : H} : abi Try.prog I .len #[77] ty [.slice p n c] h = some (.int .i64 n, h) := by unfold abi; simp [alen, un77]
theorem ix77 {id off n c : Nat} {k : IntKind} {i : Int} : aindex Try.prog 77 (.slice (some ⟨id, off, none⟩) n c) (.int k i) = if 0 ≤ i ∧ i < n then some (.pointer (some ⟨id, off + i.toNat, none⟩)) else none := by simp only [aindex, un77, sz79, Option.map_some, Nat.mul_one]
theorem tg79 : tagg Try.prog 79 = some false := by kernel_rfl
theorem ld79 {I : Nat → Option Obj} {id off : Nat} {h : H} : aload Try.prog I 79 (.pointer (some ⟨id, off, none⟩)) h = ld1 (rdl I h id off 1) := by unfold aload ld1; simp only [tg79]; rcases rdl I h id off 1 with _ | _ | _ <;> rfl
theorem st79 {id off : Nat} {h : H} {p : Option Addr} {n c : Nat} : astore Try.prog 79 (.pointer (some ⟨id, off, none⟩)) (.slice p n c) h = wrl h id off [(.slice p n c)] := by unfold astore; simp only [sz79]; rfl
theorem az79 {h : H} : allocV (tzero Try.prog 79) 79 h = some (nptr h, h ++ [.cells ([Value.slice none 0 0]) 79]) := by
  have e : tzero Try.prog 79 = some (Value.slice none 0 0) := by kernel_rfl
  rw [e]; exact allocV_eq (by kernel_rfl)
theorem aza79 {rid : Nat} : allocA (tzero Try.prog 79) 79 rid = some (.pointer (some ⟨rid, 0, none⟩), .cells ([Value.slice none 0 0]) 79) := by
  have e : tzero Try.prog 79 = some (Value.slice none 0 0) := by kernel_rfl
  rw [e]; exact allocA_eq (by kernel_rfl)
theorem un79 : Try.prog.underlying 79 = some (.slice 3) := by kernel_rfl
theorem ln79 {I : Nat → Option Obj} {ty : TypeId} {p : Option Addr} {n c : Nat} {h : H} : abi2 Try.prog I .len #[79] ty [.slice p n c] h = some (.int .i64 n, h) := by unfold abi2 abi; simp [alen, un79]
theorem lnd79 {I : Nat → Option Obj} {ty : TypeId} {p : Option Addr} {n c : Nat} {h : H} : abi Try.prog I .len #[79] ty [.slice p n c] h = some (.int .i64 n, h) := by unfold abi; simp [alen, un79]
theorem ix79 {id off n c : Nat} {k : IntKind} {i : Int} : aindex Try.prog 79 (.slice (some ⟨id, off, none⟩) n c) (.int k i) = if 0 ≤ i ∧ i < n then some (.pointer (some ⟨id, off + i.toNat, none⟩)) else none := by simp only [aindex, un79, sz3, Option.map_some, Nat.mul_one]
theorem tg86 : tagg Try.prog 86 = some false := by kernel_rfl
theorem ld86 {I : Nat → Option Obj} {id off : Nat} {h : H} : aload Try.prog I 86 (.pointer (some ⟨id, off, none⟩)) h = ld1 (rdl I h id off 1) := by unfold aload ld1; simp only [tg86]; rcases rdl I h id off 1 with _ | _ | _ <;> rfl
theorem st86 {id off : Nat} {h : H} {p : Option Addr} {n c : Nat} : astore Try.prog 86 (.pointer (some ⟨id, off, none⟩)) (.slice p n c) h = wrl h id off [(.slice p n c)] := by unfold astore; simp only [sz86]; rfl
theorem az86 {h : H} : allocV (tzero Try.prog 86) 86 h = some (nptr h, h ++ [.cells ([Value.slice none 0 0]) 86]) := by
  have e : tzero Try.prog 86 = some (Value.slice none 0 0) := by kernel_rfl
  rw [e]; exact allocV_eq (by kernel_rfl)
theorem aza86 {rid : Nat} : allocA (tzero Try.prog 86) 86 rid = some (.pointer (some ⟨rid, 0, none⟩), .cells ([Value.slice none 0 0]) 86) := by
  have e : tzero Try.prog 86 = some (Value.slice none 0 0) := by kernel_rfl
  rw [e]; exact allocA_eq (by kernel_rfl)
theorem un86 : Try.prog.underlying 86 = some (.slice 39) := by kernel_rfl
theorem ln86 {I : Nat → Option Obj} {ty : TypeId} {p : Option Addr} {n c : Nat} {h : H} : abi2 Try.prog I .len #[86] ty [.slice p n c] h = some (.int .i64 n, h) := by unfold abi2 abi; simp [alen, un86]
theorem lnd86 {I : Nat → Option Obj} {ty : TypeId} {p : Option Addr} {n c : Nat} {h : H} : abi Try.prog I .len #[86] ty [.slice p n c] h = some (.int .i64 n, h) := by unfold abi; simp [alen, un86]
theorem ix86 {id off n c : Nat} {k : IntKind} {i : Int} : aindex Try.prog 86 (.slice (some ⟨id, off, none⟩) n c) (.int k i) = if 0 ≤ i ∧ i < n then some (.pointer (some ⟨id, off + i.toNat, none⟩)) else none := by simp only [aindex, un86, sz39, Option.map_some, Nat.mul_one]
theorem tg89 : tagg Try.prog 89 = some true := by kernel_rfl
theorem ld89 {I : Nat → Option Obj} {id off : Nat} {h : H} : aload Try.prog I 89 (.pointer (some ⟨id, off, none⟩)) h = ldA (rdl I h id off 3) := by unfold aload ldA; simp only [tg89, sz89, Option.bind_some]
theorem st89 {id off : Nat} {h : H} {l : List Value} (hl : l.length = 3) : astore Try.prog 89 (.pointer (some ⟨id, off, none⟩)) (.agg l.toArray) h = wrl h id off l := by unfold astore; simp only [sz89, Value.cells, List.size_toArray, hl, if_true]
theorem az89 {h : H} : allocV (tzero Try.prog 89) 89 h = some (nptr h, h ++ [.cells (([Value.slice none 0 0] ++ ([Value.int .i64 0] ++ [Value.int .i64 0]))) 89]) := by
  have e : tzero Try.prog 89 = some ((.agg (([Value.slice none 0 0] ++ ([Value.int .i64 0] ++ [Value.int .i64 0]))).toArray)) := by kernel_rfl
  rw [e]; exact allocV_eq (by kernel_rfl)
theorem aza89 {rid : Nat} : allocA (tzero Try.prog 89) 89 rid = some (.pointer (some ⟨rid, 0, none⟩), .cells (([Value.slice none 0 0] ++ ([Value.int .i64 0] ++ [Value.int .i64 0]))) 89) := by
  have e : tzero Try.prog 89 = some ((.agg (([Value.slice none 0 0] ++ ([Value.int .i64 0] ++ [Value.int .i64 0]))).toArray)) := by kernel_rfl
  rw [e]; exact allocA_eq (by kernel_rfl)
theorem fa89_0 {id off : Nat} : afield Try.prog 89 (.pointer (some ⟨id, off, none⟩)) 0 = some (.pointer (some ⟨id, off, none⟩)) := by kernel_rfl
theorem fv89_0 {l : List Value} : afieldV Try.prog 89 (.agg l.toArray) 0 = l[0]? := by kernel_rfl
theorem fa89_1 {id off : Nat} : afield Try.prog 89 (.pointer (some ⟨id, off, none⟩)) 1 = some (.pointer (some ⟨id, off + 1, none⟩)) := by kernel_rfl
theorem fv89_1 {l : List Value} : afieldV Try.prog 89 (.agg l.toArray) 1 = some (.agg ((l.drop 1).take 2).toArray) := by kernel_rfl
theorem tg91 : tagg Try.prog 91 = some true := by kernel_rfl
theorem ld91 {I : Nat → Option Obj} {id off : Nat} {h : H} : aload Try.prog I 91 (.pointer (some ⟨id, off, none⟩)) h = ldA (rdl I h id off 3) := by unfold aload ldA; simp only [tg91, sz91, Option.bind_some]
theorem st91 {id off : Nat} {h : H} {l : List Value} (hl : l.length = 3) : astore Try.prog 91 (.pointer (some ⟨id, off, none⟩)) (.agg l.toArray) h = wrl h id off l := by unfold astore; simp only [sz91, Value.cells, List.size_toArray, hl, if_true]
theorem az91 {h : H} : allocV (tzero Try.prog 91) 91 h = some (nptr h, h ++ [.cells (([Value.int .i64 0] ++ [Value.int .i64 0] ++ [Value.int .i64 0])) 91]) := by
  have e : tzero Try.prog 91 = some ((.agg (([Value.int .i64 0] ++ [Value.int .i64 0] ++ [Value.int .i64 0])).toArray)) := by kernel_rfl
  rw [e]; exact allocV_eq (by kernel_rfl)
theorem aza91 {rid : Nat} : allocA (tzero Try.prog 91) 91 rid = some (.pointer (some ⟨rid, 0, none⟩), .cells (([Value.int .i64 0] ++ [Value.int .i64 0] ++ [Value.int .i64 0])) 91) := by
  have e : tzero Try.prog 91 = some ((.agg (([Value.int .i64 0] ++ [Value.int .i64 0] ++ [Value.int .i64 0])).toArray)) := by kernel_rfl
  rw [e]; exact allocA_eq (by kernel_rfl)
theorem un91 : Try.prog.underlying 91 = some (.array 3 3) := by kernel_rfl
theorem ix91 {id off : Nat} {k : IntKind} {i : Int} : aindex Try.prog 91 (.pointer (some ⟨id, off, none⟩)) (.int k i) = if 0 ≤ i ∧ i < (3 : Nat) then some (.pointer (some ⟨id, off + i.toNat, none⟩)) else none := by simp only [aindex, un91, sz3, Option.map_some, Nat.mul_one]
theorem tg96 : tagg Try.prog 96 = some false := by kernel_rfl
theorem ld96 {I : Nat → Option Obj} {id off : Nat} {h : H} : aload Try.prog I 96 (.pointer (some ⟨id, off, none⟩)) h = ld1 (rdl I h id off 1) := by unfold aload ld1; simp only [tg96]; rcases rdl I h id off 1 with _ | _ | _ <;> rfl
theorem st96 {id off : Nat} {h : H} {p : Option Addr} : astore Try.prog 96 (.pointer (some ⟨id, off, none⟩)) (.pointer p) h = wrl h id off [(.pointer p)] := by unfold astore; simp only [sz96]; rfl
theorem az96 {h : H} : allocV (tzero Try.prog 96) 96 h = some (nptr h, h ++ [.cells ([Value.pointer none]) 96]) := by
  have e : tzero Try.prog 96 = some (Value.pointer none) := by kernel_rfl
  rw [e]; exact allocV_eq (by kernel_rfl)
theorem aza96 {rid : Nat} : allocA (tzero Try.prog 96) 96 rid = some (.pointer (some ⟨rid, 0, none⟩), .cells ([Value.pointer none]) 96) := by
  have e : tzero Try.prog 96 = some (Value.pointer none) := by kernel_rfl
  rw [e]; exact allocA_eq (by kernel_rfl)
theorem tg100 : tagg Try.prog 100 = some true := by kernel_rfl
theorem ld100 {I : Nat → Option Obj} {id off : Nat} {h : H} : aload Try.prog I 100 (.pointer (some ⟨id, off, none⟩)) h = ldA (rdl I h id off 2) := by unfold aload ldA; simp only [tg100, sz100, Option.bind_some]
theorem st100 {id off : Nat} {h : H} {l : List Value} (hl : l.length = 2) : astore Try.prog 100 (.pointer (some ⟨id, off, none⟩)) (.agg l.toArray) h = wrl h id off l := by unfold astore; simp only [sz100, Value.cells, List.size_toArray, hl, if_true]
theorem az100 {h : H} : allocV (tzero Try.prog 100) 100 h = some (nptr h, h ++ [.cells ((([Value.int .i64 0] ++ [Value.int .i64 0]))) 100]) := by
  have e : tzero Try.prog 100 = some ((.agg ((([Value.int .i64 0] ++ [Value.int .i64 0]))).toArray)) := by kernel_rfl
  rw [e]; exact allocV_eq (by kernel_rfl)
theorem aza100 {rid : Nat} : allocA (tzero Try.prog 100) 100 rid = some (.pointer (some ⟨rid, 0, none⟩), .cells ((([Value.int .i64 0] ++ [Value.int .i64 0]))) 100) := by
  have e : tzero Try.prog 100 = some ((.agg ((([Value.int .i64 0] ++ [Value.int .i64 0]))).toArray)) := by kernel_rfl
  rw [e]; exact allocA_eq (by kernel_rfl)
theorem fa100_0 {id off : Nat} : afield Try.prog 100 (.pointer (some ⟨id, off, none⟩)) 0 = some (.pointer (some ⟨id, off, none⟩)) := by kernel_rfl
theorem fv100_0 {l : List Value} : afieldV Try.prog 100 (.agg l.toArray) 0 = some (.agg ((l.drop 0).take 2).toArray) := by kernel_rfl
theorem tg102 : tagg Try.prog 102 = some false := by kernel_rfl
theorem ld102 {I : Nat → Option Obj} {id off : Nat} {h : H} : aload Try.prog I 102 (.pointer (some ⟨id, off, none⟩)) h = ld1 (rdl I h id off 1) := by unfold aload ld1; simp only [tg102]; rcases rdl I h id off 1 with _ | _ | _ <;> rfl
theorem st102 {id off : Nat} {h : H} {f : Fn} {a b : Array Value} : astore Try.prog 102 (.pointer (some ⟨id, off, none⟩)) (.func f a b) h = wrl h id off [(.func f a b)] := by unfold astore; simp only [sz102]; rfl
theorem az102 {h : H} : allocV (tzero Try.prog 102) 102 h = some (nptr h, h ++ [.cells ([Value.nilFunc]) 102]) := by
  have e : tzero Try.prog 102 = some (Value.nilFunc) := by kernel_rfl
  rw [e]; exact allocV_eq (by kernel_rfl)
theorem aza102 {rid : Nat} : allocA (tzero Try.prog 102) 102 rid = some (.pointer (some ⟨rid, 0, none⟩), .cells ([Value.nilFunc]) 102) := by
  have e : tzero Try.prog 102 = some (Value.nilFunc) := by kernel_rfl
  rw [e]; exact allocA_eq (by kernel_rfl)
theorem tg111 : tagg Try.prog 111 = some false := by kernel_rfl
theorem ld111 {I : Nat → Option Obj} {id off : Nat} {h : H} : aload Try.prog I 111 (.pointer (some ⟨id, off, none⟩)) h = ld1 (rdl I h id off 1) := by unfold aload ld1; simp only [tg111]; rcases rdl I h id off 1 with _ | _ | _ <;> rfl
theorem st111 {id off : Nat} {h : H} {f : Fn} {a b : Array Value} : astore Try.prog 111 (.pointer (some ⟨id, off, none⟩)) (.func f a b) h = wrl h id off [(.func f a b)] := by unfold astore; simp only [sz111]; rfl
theorem az111 {h : H} : allocV (tzero Try.prog 111) 111 h = some (nptr h, h ++ [.cells ([Value.nilFunc]) 111]) := by
  have e : tzero Try.prog 111 = some (Value.nilFunc) := by kernel_rfl
  rw [e]; exact allocV_eq (by kernel_rfl)
theorem aza111 {rid : Nat} : allocA (tzero Try.prog 111) 111 rid = some (.pointer (some ⟨rid, 0, none⟩), .cells ([Value.nilFunc]) 111) := by
  have e : tzero Try.prog 111 = some (Value.nilFunc) := by kernel_rfl
  rw [e]; exact allocA_eq (by kernel_rfl)
theorem tg123 : tagg Try.prog 123 = some true := by kernel_rfl
theorem ld123 {I : Nat → Option Obj} {id off : Nat} {h : H} : aload Try.prog I 123 (.pointer (some ⟨id, off, none⟩)) h = ldA (rdl I h id off 12) := by unfold aload ldA; simp only [tg123, sz123, Option.bind_some]
theorem st123 {id off : Nat} {h : H} {l : List Value} (hl : l.length = 12) : astore Try.prog 123 (.pointer (some ⟨id, off, none⟩)) (.agg l.toArray) h = wrl h id off l := by unfold astore; simp only [sz123, Value.cells, List.size_toArray, hl, if_true]
theorem az123 {h : H} : allocV (tzero Try.prog 123) 123 h = some (nptr h, h ++ [.cells (arrL 12 (fun _ => 0)) 123]) := by
  have e : tzero Try.prog 123 = some ((.agg (arrL 12 (fun _ => 0)).toArray)) := by kernel_rfl
  rw [e]; exact allocV_eq (by kernel_rfl)
theorem aza123 {rid : Nat} : allocA (tzero Try.prog 123) 123 rid = some (.pointer (some ⟨rid, 0, none⟩), .cells (arrL 12 (fun _ => 0)) 123) := by
  have e : tzero Try.prog 123 = some ((.agg (arrL 12 (fun _ => 0)).toArray)) := by kernel_rfl
  rw [e]; exact allocA_eq (by kernel_rfl)
theorem un123 : Try.prog.underlying 123 = some (.array 12 3) := by kernel_rfl
theorem ix123 {id off : Nat} {k : IntKind} {i : Int} : aindex Try.prog 123 (.pointer (some ⟨id, off, none⟩)) (.int k i) = if 0 ≤ i ∧ i < (12 : Nat) then some (.pointer (some ⟨id, off + i.toNat, none⟩)) else none := by simp only [aindex, un123, sz3, Option.map_some, Nat.mul_one]
theorem tg126 : tagg Try.prog 126 = some false := by kernel_rfl
theorem ld126 {I : Nat → Option Obj} {id off : Nat} {h : H} : aload Try.prog I 126 (.pointer (some ⟨id, off, none⟩)) h = ld1 (rdl I h id off 1) := by unfold aload ld1; simp only [tg126]; rcases rdl I h id off 1 with _ | _ | _ <;> rfl
theorem st126 {id off : Nat} {h : H} {f : Fn} {a b : Array Value} : astore Try.prog 126 (.pointer (some ⟨id, off, none⟩)) (.func f a b) h = wrl h id off [(.func f a b)] := by unfold astore; simp only [sz126]; rfl
theorem az126 {h : H} : allocV (tzero Try.prog 126) 126 h = some (nptr h, h ++ [.cells ([Value.nilFunc]) 126]) := by
  have e : tzero Try.prog 126 = some (Value.nilFunc) := by kernel_rfl
  rw [e]; exact allocV_eq (by kernel_rfl)
theorem aza126 {rid : Nat} : allocA (tzero Try.prog 126) 126 rid = some (.pointer (some ⟨rid, 0, none⟩), .cells ([Value.nilFunc]) 126) := by
  have e : tzero Try.prog 126 = some (Value.nilFunc) := by kernel_rfl
  rw [e]; exact allocA_eq (by kernel_rfl)
theorem tg127 : tagg Try.prog 127 = some false := by kernel_rfl
theorem ld127 {I : Nat → Option Obj} {id off : Nat} {h : H} : aload Try.prog I 127 (.pointer (some ⟨id, off, none⟩)) h = ld1 (rdl I h id off 1) := by unfold aload ld1; simp only [tg127]; rcases rdl I h id off 1 with _ | _ | _ <;> rfl
theorem st127 {id off : Nat} {h : H} {p : Option Addr} {n c : Nat} : astore Try.prog 127 (.pointer (some ⟨id, off, none⟩)) (.slice p n c) h = wrl h id off [(.slice p n c)] := by unfold astore; simp only [sz127]; rfl
theorem az127 {h : H} : allocV (tzero Try.prog 127) 127 h = some (nptr h, h ++ [.cells ([Value.slice none 0 0]) 127]) := by
  have e : tzero Try.prog 127 = some (Value.slice none 0 0) := by kernel_rfl
  rw [e]; exact allocV_eq (by kernel_rfl)
theorem aza127 {rid : Nat} : allocA (tzero Try.prog 127) 127 rid = some (.pointer (some ⟨rid, 0, none⟩), .cells ([Value.slice none 0 0]) 127) := by
  have e : tzero Try.prog 127 = some (Value.slice none 0 0) := by kernel_rfl
  rw [e]; exact allocA_eq (by kernel_rfl)
theorem un127 : Try.prog.underlying 127 = some (.slice 130) := by kernel_rfl
theorem ln127 {I : Nat → Option Obj} {ty : TypeId} {p : Option Addr} {n c : Nat} {h : H} : abi2 Try.prog I .len #[127] ty [.slice p n c] h = some (.int .i64 n, h) := by unfold abi2 abi; simp [alen, un127]
theorem lnd127 {I : Nat → Option Obj} {ty : TypeId} {p : Option Addr} {n c : Nat} {h : H} : abi Try.prog I .len #[127] ty [.slice p n c] h = some (.int .i64 n, h) := by unfold abi; simp [alen, un127]
theorem ix127 {id off n c : Nat} {k : IntKind} {i : Int} : aindex Try.prog 127 (.slice (some ⟨id, off, none⟩) n c) (.int k i) = if 0 ≤ i ∧ i < n then some (.pointer (some ⟨id, off + i.toNat * 2, none⟩)) else none := by simp only [aindex, un127, sz130, Option.map_some, Nat.mul_one]
theorem tg130 : tagg Try.prog 130 = some true := by kernel_rfl
theorem ld130 {I : Nat → Option Obj} {id off : Nat} {h : H} : aload Try.prog I 130 (.pointer (some ⟨id, off, none⟩)) h = ldA (rdl I h id off 2) := by unfold aload ldA; simp only [tg130, sz130, Option.bind_some]
theorem st130 {id off : Nat} {h : H} {l : List Value} (hl : l.length = 2) : astore Try.prog 130 (.pointer (some ⟨id, off, none⟩)) (.agg l.toArray) h = wrl h id off l := by unfold astore; simp only [sz130, Value.cells, List.size_toArray, hl, if_true]
theorem az130 {h : H} : allocV (tzero Try.prog 130) 130 h = some (nptr h, h ++ [.cells (([Value.int .i64 0] ++ [Value.int .i64 0])) 130]) := by
  have e : tzero Try.prog 130 = some ((.agg (([Value.int .i64 0] ++ [Value.int .i64 0])).toArray)) := by kernel_rfl
  rw [e]; exact allocV_eq (by kernel_rfl)
theorem aza130 {rid : Nat} : allocA (tzero Try.prog 130) 130 rid = some (.pointer (some ⟨rid, 0, none⟩), .cells (([Value.int .i64 0] ++ [Value.int .i64 0])) 130) := by
  have e : tzero Try.prog 130 = some ((.agg (([Value.int .i64 0] ++ [Value.int .i64 0])).toArray)) := by kernel_rfl
  rw [e]; exact allocA_eq (by kernel_rfl)
theorem fa130_0 {id off : Nat} : afield Try.prog 130 (.pointer (some ⟨id, off, none⟩)) 0 = some (.pointer (some ⟨id, off, none⟩)) := by kernel_rfl
theorem fv130_0 {l : List Value} : afieldV Try.prog 130 (.agg l.toArray) 0 = l[0]? := by kernel_rfl
theorem fa130_1 {id off : Nat} : afield Try.prog 130 (.pointer (some ⟨id, off, none⟩)) 1 = some (.pointer (some ⟨id, off + 1, none⟩)) := by kernel_rfl
theorem fv130_1 {l : List Value} : afieldV Try.prog 130 (.agg l.toArray) 1 = l[1]? := by kernel_rfl
theorem tg132 : tagg Try.prog 132 = some false := by kernel_rfl
theorem ld132 {I : Nat → Option Obj} {id off : Nat} {h : H} : aload Try.prog I 132 (.pointer (some ⟨id, off, none⟩)) h = ld1 (rdl I h id off 1) := by unfold aload ld1; simp only [tg132]; rcases rdl I h id off 1 with _ | _ | _ <;> rfl
theorem st132 {id off : Nat} {h : H} {f : Fn} {a b : Array Value} : astore Try.prog 132 (.pointer (some ⟨id, off, none⟩)) (.func f a b) h = wrl h id off [(.func f a b)] := by unfold astore; simp only [sz132]; rfl
theorem az132 {h : H} : allocV (tzero Try.prog 132) 132 h = some (nptr h, h ++ [.cells ([Value.nilFunc]) 132]) := by
  have e : tzero Try.prog 132 = some (Value.nilFunc) := by kernel_rfl
  rw [e]; exact allocV_eq (by kernel_rfl)
theorem aza132 {rid : Nat} : allocA (tzero Try.prog 132) 132 rid = some (.pointer (some ⟨rid, 0, none⟩), .cells ([Value.nilFunc]) 132) := by
  have e : tzero Try.prog 132 = some (Value.nilFunc) := by kernel_rfl
  rw [e]; exact allocA_eq (by kernel_rfl)
theorem tg136 : tagg Try.prog 136 = some false := by kernel_rfl
theorem ld136 {I : Nat → Option Obj} {id off : Nat} {h : H} : aload Try.prog I 136 (.pointer (some ⟨id, off, none⟩)) h = ld1 (rdl I h id off 1) := by unfold aload ld1; simp only [tg136]; rcases rdl I h id off 1 with _ | _ | _ <;> rfl
theorem st136 {id off : Nat} {h : H} {p : Option Addr} {n c : Nat} : astore Try.prog 136 (.pointer (some ⟨id, off, none⟩)) (.slice p n c) h = wrl h id off [(.slice p n c)] := by unfold astore; simp only [sz136]; rfl
theorem az136 {h : H} : allocV (tzero Try.prog 136) 136 h = some (nptr h, h ++ [.cells ([Value.slice none 0 0]) 136]) := by
  have e : tzero Try.prog 136 = some (Value.slice none 0 0) := by kernel_rfl
  rw [e]; exact allocV_eq (by kernel_rfl)
theorem aza136 {rid : Nat} : allocA (tzero Try.prog 136) 136 rid = some (.pointer (some ⟨rid, 0, none⟩), .cells ([Value.slice none 0 0]) 136) := by
  have e : tzero Try.prog 136 = some (Value.slice none 0 0) := by kernel_rfl
  rw [e]; exact allocA_eq (by kernel_rfl)
theorem un136 : Try.prog.underlying 136 = some (.slice 2) := by kernel_rfl
theorem ln136 {I : Nat → Option Obj} {ty : TypeId} {p : Option Addr} {n c : Nat} {h : H} : abi2 Try.prog I .len #[136] ty [.slice p n c] h = some (.int .i64 n, h) := by unfold abi2 abi; simp [alen, un136]
theorem lnd136 {I : Nat → Option Obj} {ty : TypeId} {p : Option Addr} {n c : Nat} {h : H} : abi Try.prog I .len #[136] ty [.slice p n c] h = some (.int .i64 n, h) := by unfold abi; simp [alen, un136]
theorem ix136 {id off n c : Nat} {k : IntKind} {i : Int} : aindex Try.prog 136 (.slice (some ⟨id, off, none⟩) n c) (.int k i) = if 0 ≤ i ∧ i < n then some (.pointer (some ⟨id, off + i.toNat, none⟩)) else none := by simp only [aindex, un136, sz2, Option.map_some, Nat.mul_one]
theorem tg138 : tagg Try.prog 138 = some false := by kernel_rfl
theorem ld138 {I : Nat → Option Obj} {id off : Nat} {h : H} : aload Try.prog I 138 (.pointer (some ⟨id, off, none⟩)) h = ld1 (rdl I h id off 1) := by unfold aload ld1; simp only [tg138]; rcases rdl I h id off 1 with _ | _ | _ <;> rfl
theorem st138 {id off : Nat} {h : H} {f : Fn} {a b : Array Value} : astore Try.prog 138 (.pointer (some ⟨id, off, none⟩)) (.func f a b) h = wrl h id off [(.func f a b)] := by unfold astore; simp only [sz138]; rfl
theorem az138 {h : H} : allocV (tzero Try.prog 138) 138 h = some (nptr h, h ++ [.cells ([Value.nilFunc]) 138]) := by
  have e : tzero Try.prog 138 = some (Value.nilFunc) := by kernel_rfl
  rw [e]; exact allocV_eq (by kernel_rfl)
theorem aza138 {rid : Nat} : allocA (tzero Try.prog 138) 138 rid = some (.pointer (some ⟨rid, 0, none⟩), .cells ([Value.nilFunc]) 138) := by
  have e : tzero Try.prog 138 = some (Value.nilFunc) := by kernel_rfl
  rw [e]; exact allocA_eq (by kernel_rfl)
theorem tg139 : tagg Try.prog 139 = some false := by kernel_rfl
theorem ld139 {I : Nat → Option Obj} {id off : Nat} {h : H} : aload Try.prog I 139 (.pointer (some ⟨id, off, none⟩)) h = ld1 (rdl I h id off 1) := by unfold aload ld1; simp only [tg139]; rcases rdl I h id off 1 with _ | _ | _ <;> rfl
theorem st139 {id off : Nat} {h : H} {p : Option Addr} {n c : Nat} : astore Try.prog 139 (.pointer (some ⟨id, off, none⟩)) (.slice p n c) h = wrl h id off [(.slice p n c)] := by unfold astore; simp only [sz139]; rfl
theorem az139 {h : H} : allocV (tzero Try.prog 139) 139 h = some (nptr h, h ++ [.cells ([Value.slice none 0 0]) 139]) := by
  have e : tzero Try.prog 139 = some (Value.slice none 0 0) := by kernel_rfl
  rw [e]; exact allocV_eq (by kernel_rfl)
theorem aza139 {rid : Nat} : allocA (tzero Try.prog 139) 139 rid = some (.pointer (some ⟨rid, 0, none⟩), .cells ([Value.slice none 0 0]) 139) := by
  have e : tzero Try.prog 139 = some (Value.slice none 0 0) := by kernel_rfl
  rw [e]; exact allocA_eq (by kernel_rfl)
theorem un139 : Try.prog.underlying 139 = some (.slice 100) := by kernel_rfl
theorem ln139 {I : Nat → Option Obj} {ty : TypeId} {p : Option Addr} {n c : Nat} {h : H} : abi2 Try.prog I .len #[139] ty [.slice p n c] h = some (.int .i64 n, h) := by unfold abi2 abi; simp [alen, un139]
theorem lnd139 {I : Nat → Option Obj} {ty : TypeId} {p : Option Addr} {n c : Nat} {h : H} : abi Try.prog I .len #[139] ty [.slice p n c] h = some (.int .i64 n, h) := by unfold abi; simp [alen, un139]
theorem ix139 {id off n c : Nat} {k : IntKind} {i : Int} : aindex Try.prog 139 (.slice (some ⟨id, off, none⟩) n c) (.int k i) = if 0 ≤ i ∧ i < n then some (.pointer (some ⟨id, off + i.toNat * 2, none⟩)) else none := by simp only [aindex, un139, sz100, Option.map_some, Nat.mul_one]
theorem tg140 : tagg Try.prog 140 = some false := by kernel_rfl
theorem ld140 {I : Nat → Option Obj} {id off : Nat} {h : H} : aload Try.prog I 140 (.pointer (some ⟨id, off, none⟩)) h = ld1 (rdl I h id off 1) := by unfold aload ld1; simp only [tg140]; rcases rdl I h id off 1 with _ | _ | _ <;> rfl
theorem st140 {id off : Nat} {h : H} {p : Option Addr} {n c : Nat} : astore Try.prog 140 (.pointer (some ⟨id, off, none⟩)) (.slice p n c) h = wrl h id off [(.slice p n c)] := by unfold astore; simp only [sz140]; rfl
theorem az140 {h : H} : allocV (tzero Try.prog 140) 140 h = some (nptr h, h ++ [.cells ([Value.slice none 0 0]) 140]) := by
  have e : tzero Try.prog 140 = some (Value.slice none 0 0) := by kernel_rfl
  rw [e]; exact allocV_eq (by kernel_rfl)
theorem aza140 {rid : Nat} : allocA (tzero Try.prog 140) 140 rid = some (.pointer (some ⟨rid, 0, none⟩), .cells ([Value.slice none 0 0]) 140) := by
  have e : tzero Try.prog 140 = some (Value.slice none 0 0) := by kernel_rfl
  rw [e]; exact allocA_eq (by kernel_rfl)
theorem un140 : Try.prog.underlying 140 = some (.slice 158) := by kernel_rfl
theorem ln140 {I : Nat → Option Obj} {ty : TypeId} {p : Option Addr} {n c : Nat} {h : H} : abi2 Try.prog I .len #[140] ty [.slice p n c] h = some (.int .i64 n, h) := by unfold abi2 abi; simp [alen, un140]
theorem lnd140 {I : Nat → Option Obj} {ty : TypeId} {p : Option Addr} {n c : Nat} {h : H} : abi Try.prog I .len #[140] ty [.slice p n c] h = some (.int .i64 n, h) := by unfold abi; simp [alen, un140]
theorem ix140 {id off n c : Nat} {k : IntKind} {i : Int} : aindex Try.prog 140 (.slice (some ⟨id, off, none⟩) n c) (.int k i) = if 0 ≤ i ∧ i < n then some (.pointer (some ⟨id, off + i.toNat * 5, none⟩)) else none := by simp only [aindex, un140, sz158, Option.map_some, Nat.mul_one]
theorem tg142 : tagg Try.prog 142 = some true := by kernel_rfl
theorem ld142 {I : Nat → Option Obj} {id off : Nat} {h : H} : aload Try.prog I 142 (.pointer (some ⟨id, off, none⟩)) h = ldA (rdl I h id off 3) := by unfold aload ldA; simp only [tg142, sz142, Option.bind_some]
theorem st142 {id off : Nat} {h : H} {l : List Value} (hl : l.length = 3) : astore Try.prog 142 (.pointer (some ⟨id, off, none⟩)) (.agg l.toArray) h = wrl h id off l := by unfold astore; simp only [sz142, Value.cells, List.size_toArray, hl, if_true]
theorem az142 {h : H} : allocV (tzero Try.prog 142) 142 h = some (nptr h, h ++ [.cells (([Value.slice none 0 0] ++ [Value.slice none 0 0] ++ [Value.slice none 0 0])) 142]) := by
  have e : tzero Try.prog 142 = some ((.agg (([Value.slice none 0 0] ++ [Value.slice none 0 0] ++ [Value.slice none 0 0])).toArray)) := by kernel_rfl
  rw [e]; exact allocV_eq (by kernel_rfl)
theorem aza142 {rid : Nat} : allocA (tzero Try.prog 142) 142 rid = some (.pointer (some ⟨rid, 0, none⟩), .cells (([Value.slice none 0 0] ++ [Value.slice none 0 0] ++ [Value.slice none 0 0])) 142) := by
  have e : tzero Try.prog 142 = some ((.agg (([Value.slice none 0 0] ++ [Value.slice none 0 0] ++ [Value.slice none 0 0])).toArray)) := by kernel_rfl
  rw [e]; exact allocA_eq (by kernel_rfl)
theorem fa142_0 {id off : Nat} : afield Try.prog 142 (.pointer (some ⟨id, off, none⟩)) 0 = some (.pointer (some ⟨id, off, none⟩)) := by kernel_rfl
theorem fv142_0 {l : List Value} : afieldV Try.prog 142 (.agg l.toArray) 0 = l[0]? := by kernel_rfl
theorem fa142_1 {id off : Nat} : afield Try.prog 142 (.pointer (some ⟨id, off, none⟩)) 1 = some (.pointer (some ⟨id, off + 1, none⟩)) := by kernel_rfl
theorem fv142_1 {l : List Value} : afieldV Try.prog 142 (.agg l.toArray) 1 = l[1]? := by kernel_rfl
theorem fa142_2 {id off : Nat} : afield Try.prog 142 (.pointer (some ⟨id, off, none⟩)) 2 = some (.pointer (some ⟨id, off + 2, none⟩)) := by kernel_rfl
theorem fv142_2 {l : List Value} : afieldV Try.prog 142 (.agg l.toArray) 2 = l[2]? := by kernel_rfl
theorem tg144 : tagg Try.prog 144 = some false := by kernel_rfl
theorem ld144 {I : Nat → Option Obj} {id off : Nat} {h : H} : aload Try.prog I 144 (.pointer (some ⟨id, off, none⟩)) h = ld1 (rdl I h id off 1) := by unfold aload ld1; simp only [tg144]; rcases rdl I h id off 1 with _ | _ | _ <;> rfl
theorem st144 {id off : Nat} {h : H} {f : Fn} {a b : Array Value} : astore Try.prog 144 (.pointer (some ⟨id, off, none⟩)) (.func f a b) h = wrl h id off [(.func f a b)] := by unfold astore; simp only [sz144]; rfl
theorem az144 {h : H} : allocV (tzero Try.prog 144) 144 h = some (nptr h, h ++ [.cells ([Value.nilFunc]) 144]) := by
  have e : tzero Try.prog 144 = some (Value.nilFunc) := by kernel_rfl
  rw [e]; exact allocV_eq (by kernel_rfl)
theorem aza144 {rid : Nat} : allocA (tzero Try.prog 144) 144 rid = some (.pointer (some ⟨rid, 0, none⟩), .cells ([Value.nilFunc]) 144) := by
  have e : tzero Try.prog 144 = some (Value.nilFunc) := by kernel_rfl
  rw [e]; exact allocA_eq (by kernel_rfl)
theorem tg147 : tagg Try.prog 147 = some false := by kernel_rfl
theorem ld147 {I : Nat → Option Obj} {id off : Nat} {h : H} : aload Try.prog I 147 (.pointer (some ⟨id, off, none⟩)) h = ld1 (rdl I h id off 1) := by unfold aload ld1; simp only [tg147]; rcases rdl I h id off 1 with _ | _ | _ <;> rfl
theorem st147 {id off : Nat} {h : H} {m : Option Nat} : astore Try.prog 147 (.pointer (some ⟨id, off, none⟩)) (.map m) h = wrl h id off [(.map m)] := by unfold astore; simp only [sz147]; rfl
theorem az147 {h : H} : allocV (tzero Try.prog 147) 147 h = some (nptr h, h ++ [.cells ([Value.map none]) 147]) := by
  have e : tzero Try.prog 147 = some (Value.map none) := by kernel_rfl
  rw [e]; exact allocV_eq (by kernel_rfl)
theorem aza147 {rid : Nat} : allocA (tzero Try.prog 147) 147 rid = some (.pointer (some ⟨rid, 0, none⟩), .cells ([Value.map none]) 147) := by
  have e : tzero Try.prog 147 = some (Value.map none) := by kernel_rfl
  rw [e]; exact allocA_eq (by kernel_rfl)
theorem tg149 : tagg Try.prog 149 = some false := by kernel_rfl
theorem ld149 {I : Nat → Option Obj} {id off : Nat} {h : H} : aload Try.prog I 149 (.pointer (some ⟨id, off, none⟩)) h = ld1 (rdl I h id off 1) := by unfold aload ld1; simp only [tg149]; rcases rdl I h id off 1 with _ | _ | _ <;> rfl
theorem st149 {id off : Nat} {h : H} {p : Option Addr} {n c : Nat} : astore Try.prog 149 (.pointer (some ⟨id, off, none⟩)) (.slice p n c) h = wrl h id off [(.slice p n c)] := by unfold astore; simp only [sz149]; rfl
theorem az149 {h : H} : allocV (tzero Try.prog 149) 149 h = some (nptr h, h ++ [.cells ([Value.slice none 0 0]) 149]) := by
  have e : tzero Try.prog 149 = some (Value.slice none 0 0) := by kernel_rfl
  rw [e]; exact allocV_eq (by kernel_rfl)
theorem aza149 {rid : Nat} : allocA (tzero Try.prog 149) 149 rid = some (.pointer (some ⟨rid, 0, none⟩), .cells ([Value.slice none 0 0]) 149) := by
  have e : tzero Try.prog 149 = some (Value.slice none 0 0) := by kernel_rfl
  rw [e]; exact allocA_eq (by kernel_rfl)
theorem un149 : Try.prog.underlying 149 = some (.slice 151) := by kernel_rfl
theorem ln149 {I : Nat → Option Obj} {ty : TypeId} {p : Option Addr} {n c : Nat} {h : H} : abi2 Try.prog I .len #[149] ty [.slice p n c] h = some (.int .i64 n, h) := by unfold abi2 abi; simp [alen, un149]
theorem lnd149 {I : Nat → Option Obj} {ty : TypeId} {p : Option Addr} {n c : Nat} {h : H} : abi Try.prog I .len #[149] ty [.slice p n c] h = some (.int .i64 n, h) := by unfold abi; simp [alen, un149]
theorem ix149 {id off n c : Nat} {k : IntKind} {i : Int} : aindex Try.prog 149 (.slice (some ⟨id, off, none⟩) n c) (.int k i) = if 0 ≤ i ∧ i < n then some (.pointer (some ⟨id, off + i.toNat * 4, none⟩)) else none := by simp only [aindex, un149, sz151, Option.map_some, Nat.mul_one]
theorem tg151 : tagg Try.prog 151 = some true := by kernel_rfl
theorem ld151 {I : Nat → Option Obj} {id off : Nat} {h : H} : aload Try.prog I 151 (.pointer (some ⟨id, off, none⟩)) h = ldA (rdl I h id off 4) := by unfold aload ldA; simp only [tg151, sz151, Option.bind_some]
theorem st151 {id off : Nat} {h : H} {l : List Value} (hl : l.length = 4) : astore Try.prog 151 (.pointer (some ⟨id, off, none⟩)) (.agg l.toArray) h = wrl h id off l := by unfold astore; simp only [sz151, Value.cells, List.size_toArray, hl, if_true]
theorem az151 {h : H} : allocV (tzero Try.prog 151) 151 h = some (nptr h, h ++ [.cells ((([Value.int .i64 0] ++ [Value.int .i64 0]) ++ (([Value.int .i64 0] ++ [Value.int .i64 0])))) 151]) := by
  have e : tzero Try.prog 151 = some ((.agg ((([Value.int .i64 0] ++ [Value.int .i64 0]) ++ (([Value.int .i64 0] ++ [Value.int .i64 0])))).toArray)) := by kernel_rfl
  rw [e]; exact allocV_eq (by kernel_rfl)
theorem aza151 {rid : Nat} : allocA (tzero Try.prog 151) 151 rid = some (.pointer (some ⟨rid, 0, none⟩), .cells ((([Value.int .i64 0] ++ [Value.int .i64 0]) ++ (([Value.int .i64 0] ++ [Value.int .i64 0])))) 151) := by
  have e : tzero Try.prog 151 = some ((.agg ((([Value.int .i64 0] ++ [Value.int .i64 0]) ++ (([Value.int .i64 0] ++ [Value.int .i64 0])))).toArray)) := by kernel_rfl
  rw [e]; exact allocA_eq (by kernel_rfl)
theorem fa151_0 {id off : Nat} : afield Try.prog 151 (.pointer (some ⟨id, off, none⟩)) 0 = some (.pointer (some ⟨id, off, none⟩)) := by kernel_rfl
theorem fv151_0 {l : List Value} : afieldV Try.prog 151 (.agg l.toArray) 0 = some (.agg ((l.drop 0).take 2).toArray) := by kernel_rfl
theorem fa151_1 {id off : Nat} : afield Try.prog 151 (.pointer (some ⟨id, off, none⟩)) 1 = some (.pointer (some ⟨id, off + 2, none⟩)) := by kernel_rfl
theorem fv151_1 {l : List Value} : afieldV Try.prog 151 (.agg l.toArray) 1 = some (.agg ((l.drop 2).take 2).toArray) := by kernel_rfl
theorem tg153 : tagg Try.prog 153 = some false := by kernel_rfl
theorem ld153 {I : Nat → Option Obj} {id off : Nat} {h : H} : aload Try.prog I 153 (.pointer (some ⟨id, off, none⟩)) h = ld1 (rdl I h id off 1) := by unfold aload ld1; simp only [tg153]; rcases rdl I h id off 1 with _ | _ | _ <;> rfl
theorem st153 {id off : Nat} {h : H} {f : Fn} {a b : Array Value} : astore Try.prog 153 (.pointer (some ⟨id, off, none⟩)) (.func f a b) h = wrl h id off [(.func f a b)] := by unfold astore; simp only [sz153]; rfl
theorem az153 {h : H} : allocV (tzero Try.prog 153) 153 h = some (nptr h, h ++ [.cells ([Value.nilFunc]) 153]) := by
  have e : tzero Try.prog 153 = some (Value.nilFunc) := by kernel_rfl
  rw [e]; exact allocV_eq (by kernel_rfl)
theorem aza153 {rid : Nat} : allocA (tzero Try.prog 153) 153 rid = some (.pointer (some ⟨rid, 0, none⟩), .cells ([Value.nilFunc]) 153) := by
  have e : tzero Try.prog 153 = some (Value.nilFunc) := by kernel_rfl
  rw [e]; exact allocA_eq (by kernel_rfl)
theorem tg155 : tagg Try.prog 155 = some false := by kernel_rfl
theorem ld155 {I : Nat → Option Obj} {id off : Nat} {h : H} : aload Try.prog I 155 (.pointer (some ⟨id, off, none⟩)) h = ld1 (rdl I h id off 1) := by unfold aload ld1; simp only [tg155]; rcases rdl I h id off 1 with _ | _ | _ <;> rfl
theorem st155 {id off : Nat} {h : H} {f : Fn} {a b : Array Value} : astore Try.prog 155 (.pointer (some ⟨id, off, none⟩)) (.func f a b) h = wrl h id off [(.func f a b)] := by unfold astore; simp only [sz155]; rfl
theorem az155 {h : H} : allocV (tzero Try.prog 155) 155 h = some (nptr h, h ++ [.cells ([Value.nilFunc]) 155]) := by
  have e : tzero Try.prog 155 = some (Value.nilFunc) := by kernel_rfl
  rw [e]; exact allocV_eq (by kernel_rfl)
theorem aza155 {rid : Nat} : allocA (tzero Try.prog 155) 155 rid = some (.pointer (some ⟨rid, 0, none⟩), .cells ([Value.nilFunc]) 155) := by
  have e : tzero Try.prog 155 = some (Value.nilFunc) := by kernel_rfl
  rw [e]; exact allocA_eq (by kernel_rfl)
theorem tg158 : tagg Try.prog 158 = some true := by kernel_rfl
theorem ld158 {I : Nat → Option Obj} {id off : Nat} {h : H} : aload Try.prog I 158 (.pointer (some ⟨id, off, none⟩)) h = ldA (rdl I h id off 5) := by unfold aload ldA; simp only [tg158, sz158, Option.bind_some]
theorem st158 {id off : Nat} {h : H} {l : List Value} (hl : l.length = 5) : astore Try.prog 158 (.pointer (some ⟨id, off, none⟩)) (.agg l.toArray) h = wrl h id off l := by unfold astore; simp only [sz158, Value.cells, List.size_toArray, hl, if_true]
theorem az158 {h : H} : allocV (tzero Try.prog 158) 158 h = some (nptr h, h ++ [.cells ((([Value.int .i64 0] ++ ([Value.int .i64 0] ++ [Value.int .i64 0])) ++ [Value.int .i64 0] ++ [Value.int .i64 0])) 158]) := by
  have e : tzero Try.prog 158 = some ((.agg ((([Value.int .i64 0] ++ ([Value.int .i64 0] ++ [Value.int .i64 0])) ++ [Value.int .i64 0] ++ [Value.int .i64 0])).toArray)) := by kernel_rfl
  rw [e]; exact allocV_eq (by kernel_rfl)
theorem aza158 {rid : Nat} : allocA (tzero Try.prog 158) 158 rid = some (.pointer (some ⟨rid, 0, none⟩), .cells ((([Value.int .i64 0] ++ ([Value.int .i64 0] ++ [Value.int .i64 0])) ++ [Value.int .i64 0] ++ [Value.int .i64 0])) 158) := by
  have e : tzero Try.prog 158 = some ((.agg ((([Value.int .i64 0] ++ ([Value.int .i64 0] ++ [Value.int .i64 0])) ++ [Value.int .i64 0] ++ [Value.int .i64 0])).toArray)) := by kernel_rfl
  rw [e]; exact allocA_eq (by kernel_rfl)
theorem fa158_0 {id off : Nat} : afield Try.prog 158 (.pointer (some ⟨id, off, none⟩)) 0 = some (.pointer (some ⟨id, off, none⟩)) := by kernel_rfl
theorem fv158_0 {l : List Value} : afieldV Try.prog 158 (.agg l.toArray) 0 = some (.agg ((l.drop 0).take 3).toArray) := by kernel_rfl
theorem fa158_1 {id off : Nat} : afield Try.prog 158 (.pointer (some ⟨id, off, none⟩)) 1 = some (.pointer (some ⟨id, off + 3, none⟩)) := by kernel_rfl
theorem fv158_1 {l : List Value} : afieldV Try.prog 158 (.agg l.toArray) 1 = l[3]? := by kernel_rfl
theorem fa158_2 {id off : Nat} : afield Try.prog 158 (.pointer (some ⟨id, off, none⟩)) 2 = some (.pointer (some ⟨id, off + 4, none⟩)) := by kernel_rfl
theorem fv158_2 {l : List Value} : afieldV Try.prog 158 (.agg l.toArray) 2 = l[4]? := by kernel_rfl
theorem tg159 : tagg Try.prog 159 = some false := by kernel_rfl
theorem ld159 {I : Nat → Option Obj} {id off : Nat} {h : H} : aload Try.prog I 159 (.pointer (some ⟨id, off, none⟩)) h = ld1 (rdl I h id off 1) := by unfold aload ld1; simp only [tg159]; rcases rdl I h id off 1 with _ | _ | _ <;> rfl
theorem st159 {id off : Nat} {h : H} {p : Option Addr} {n c : Nat} : astore Try.prog 159 (.pointer (some ⟨id, off, none⟩)) (.slice p n c) h = wrl h id off [(.slice p n c)] := by unfold astore; simp only [sz159]; rfl
theorem az159 {h : H} : allocV (tzero Try.prog 159) 159 h = some (nptr h, h ++ [.cells ([Value.slice none 0 0]) 159]) := by
  have e : tzero Try.prog 159 = some (Value.slice none 0 0) := by kernel_rfl
  rw [e]; exact allocV_eq (by kernel_rfl)
theorem aza159 {rid : Nat} : allocA (tzero Try.prog 159) 159 rid = some (.pointer (some ⟨rid, 0, none⟩), .cells ([Value.slice none 0 0]) 159) := by
  have e : tzero Try.prog 159 = some (Value.slice none 0 0) := by kernel_rfl
  rw [e]; exact allocA_eq (by kernel_rfl)
theorem un159 : Try.prog.underlying 159 = some (.slice 140) := by kernel_rfl
theorem ln159 {I : Nat → Option Obj} {ty : TypeId} {p : Option Addr} {n c : Nat} {h : H} : abi2 Try.prog I .len #[159] ty [.slice p n c] h = some (.int .i64 n, h) := by unfold abi2 abi; simp [alen, un159]
theorem lnd159 {I : Nat → Option Obj} {ty : TypeId} {p : Option Addr} {n c : Nat} {h : H} : abi Try.prog I .len #[159] ty [.slice p n c] h = some (.int .i64 n, h) := by unfold abi; simp [alen, un159]
theorem ix159 {id off n c : Nat} {k : IntKind} {i : Int} : aindex Try.prog 159 (.slice (some ⟨id, off, none⟩) n c) (.int k i) = if 0 ≤ i ∧ i < n then some (.pointer (some ⟨id, off + i.toNat, none⟩)) else none := by simp only [aindex, un159, sz140, Option.map_some, Nat.mul_one]
theorem tg160 : tagg Try.prog 160 = some false := by kernel_rfl
theorem ld160 {I : Nat → Option Obj} {id off : Nat} {h : H} : aload Try.prog I 160 (.pointer (some ⟨id, off, none⟩)) h = ld1 (rdl I h id off 1) := by unfold aload ld1; simp only [tg160]; rcases rdl I h id off 1 with _ | _ | _ <;> rfl
theorem st160 {id off : Nat} {h : H} {f : Fn} {a b : Array Value} : astore Try.prog 160 (.pointer (some ⟨id, off, none⟩)) (.func f a b) h = wrl h id off [(.func f a b)] := by unfold astore; simp only [sz160]; rfl
theorem az160 {h : H} : allocV (tzero Try.prog 160) 160 h = some (nptr h, h ++ [.cells ([Value.nilFunc]) 160]) := by
  have e : tzero Try.prog 160 = some (Value.nilFunc) := by kernel_rfl
  rw [e]; exact allocV_eq (by kernel_rfl)
theorem aza160 {rid : Nat} : allocA (tzero Try.prog 160) 160 rid = some (.pointer (some ⟨rid, 0, none⟩), .cells ([Value.nilFunc]) 160) := by
  have e : tzero Try.prog 160 = some (Value.nilFunc) := by kernel_rfl
  rw [e]; exact allocA_eq (by kernel_rfl)
theorem tg161 : tagg Try.prog 161 = some false := by kernel_rfl
theorem ld161 {I : Nat → Option Obj} {id off : Nat} {h : H} : aload Try.prog I 161 (.pointer (some ⟨id, off, none⟩)) h = ld1 (rdl I h id off 1) := by unfold aload ld1; simp only [tg161]; rcases rdl I h id off 1 with _ | _ | _ <;> rfl
theorem st161 {id off : Nat} {h : H} {f : Fn} {a b : Array Value} : astore Try.prog 161 (.pointer (some ⟨id, off, none⟩)) (.func f a b) h = wrl h id off [(.func f a b)] := by unfold astore; simp only [sz161]; rfl
theorem az161 {h : H} : allocV (tzero Try.prog 161) 161 h = some (nptr h, h ++ [.cells ([Value.nilFunc]) 161]) := by
  have e : tzero Try.prog 161 = some (Value.nilFunc) := by kernel_rfl
  rw [e]; exact allocV_eq (by kernel_rfl)
theorem aza161 {rid : Nat} : allocA (tzero Try.prog 161) 161 rid = some (.pointer (some ⟨rid, 0, none⟩), .cells ([Value.nilFunc]) 161) := by
  have e : tzero Try.prog 161 = some (Value.nilFunc) := by kernel_rfl
  rw [e]; exact allocA_eq (by kernel_rfl)
theorem tg165 : tagg Try.prog 165 = some false := by kernel_rfl
theorem ld165 {I : Nat → Option Obj} {id off : Nat} {h : H} : aload Try.prog I 165 (.pointer (some ⟨id, off, none⟩)) h = ld1 (rdl I h id off 1) := by unfold aload ld1; simp only [tg165]; rcases rdl I h id off 1 with _ | _ | _ <;> rfl
theorem st165 {id off : Nat} {h : H} {f : Fn} {a b : Array Value} : astore Try.prog 165 (.pointer (some ⟨id, off, none⟩)) (.func f a b) h = wrl h id off [(.func f a b)] := by unfold astore; simp only [sz165]; rfl
theorem az165 {h : H} : allocV (tzero Try.prog 165) 165 h = some (nptr h, h ++ [.cells ([Value.nilFunc]) 165]) := by
  have e : tzero Try.prog 165 = some (Value.nilFunc) := by kernel_rfl
  rw [e]; exact allocV_eq (by kernel_rfl)
theorem aza165 {rid : Nat} : allocA (tzero Try.prog 165) 165 rid = some (.pointer (some ⟨rid, 0, none⟩), .cells ([Value.nilFunc]) 165) := by
  have e : tzero Try.prog 165 = some (Value.nilFunc) := by kernel_rfl
  rw [e]; exact allocA_eq (by kernel_rfl)
set_option linter.defProp false
def ty2 := And.intro (And.intro (@ld2) (@st2)) (And.intro (@az2) (@aza2))
def ty3 := And.intro (And.intro (@ld3) (@st3)) (And.intro (@az3) (@aza3))
def ty4 := And.intro (And.intro (@ld4) (@st4)) (And.intro (@az4) (@aza4))
def ty5 := And.intro (And.intro (@ld5) (@st5)) (And.intro (@az5) (@aza5))
def ty22 := And.intro (And.intro (@ld22) (And.intro (@st22) (@az22))) (And.intro (And.intro (@aza22) (@ln22)) (And.intro (@lnd22) (@ix22)))
def ty23 := And.intro (And.intro (@ld23) (@st23)) (And.intro (@az23) (@aza23))
def ty24 := And.intro (And.intro (@ld24) (@st24)) (And.intro (@az24) (@aza24))
def ty25 := And.intro (And.intro (@ld25) (And.intro (@az25) (@aza25))) (And.intro (And.intro (@fa25_0) (@fv25_0)) (And.intro (@fa25_1) (@fv25_1)))
def ty26 := And.intro (And.intro (@ld26) (And.intro (@az26) (@aza26))) (And.intro (And.intro (@fa26_0) (@fv26_0)) (And.intro (@fa26_1) (@fv26_1)))
def ty27 := And.intro (And.intro (@ld27) (@st27)) (And.intro (@az27) (@aza27))
def ty29 := And.intro (And.intro (@ld29) (@st29)) (And.intro (@az29) (@aza29))
def ty30 := And.intro (And.intro (@ld30) (@st30)) (And.intro (@az30) (@aza30))
def ty32 := And.intro (And.intro (@ld32) (@st32)) (And.intro (@az32) (@aza32))
def ty34 := And.intro (And.intro (@ld34) (@st34)) (And.intro (@az34) (@aza34))
def ty35 := And.intro (And.intro (@ld35) (@st35)) (And.intro (@az35) (@aza35))
def ty36 := And.intro (And.intro (@ld36) (@st36)) (And.intro (@az36) (@aza36))
def ty37 := And.intro (And.intro (And.intro (@ld37) (@az37)) (And.intro (@aza37) (@fa37_0))) (And.intro (And.intro (@fv37_0) (@fa37_1)) (And.intro (@fv37_1) (And.intro (@fa37_2) (@fv37_2))))
def ty38 := And.intro (And.intro (And.intro (@ld38) (@az38)) (And.intro (@aza38) (@fa38_0))) (And.intro (And.intro (@fv38_0) (@fa38_1)) (And.intro (@fv38_1) (And.intro (@fa38_2) (@fv38_2))))
def ty39 := And.intro (And.intro (@ld39) (@st39)) (And.intro (@az39) (@aza39))
def ty40 := And.intro (And.intro (@ld40) (@st40)) (And.intro (@az40) (@aza40))
def ty41 := And.intro (And.intro (@ld41) (@st41)) (And.intro (@az41) (@aza41))
def ty42 := And.intro (And.intro (@ld42) (And.intro (@az42) (@aza42))) (And.intro (And.intro (@fa42_0) (@fv42_0)) (And.intro (@fa42_1) (@fv42_1)))
def ty43 := And.intro (And.intro (@ld43) (And.intro (@az43) (@aza43))) (And.intro (And.intro (@fa43_0) (@fv43_0)) (And.intro (@fa43_1) (@fv43_1)))
def ty44 := And.intro (And.intro (@ld44) (And.intro (@az44) (@aza44))) (And.intro (And.intro (@fa44_0) (@fv44_0)) (And.intro (@fa44_1) (@fv44_1)))
def ty45 := And.intro (And.intro (@ld45) (And.intro (@az45) (@aza45))) (And.intro (And.intro (@fa45_0) (@fv45_0)) (And.intro (@fa45_1) (@fv45_1)))
def ty46 := And.intro (And.intro (@ld46) (@st46)) (And.intro (@az46) (@aza46))
def ty47 := And.intro (And.intro (@ld47) (@st47)) (And.intro (@az47) (@aza47))
def ty50 := And.intro (And.intro (@ld50) (@az50)) (And.intro (@aza50) (@ix50))
def ty51 := And.intro (And.intro (@ld51) (@st51)) (And.intro (@az51) (@aza51))
def ty53 := And.intro (And.intro (@ld53) (And.intro (@st53) (@az53))) (And.intro (And.intro (@aza53) (@ln53)) (And.intro (@lnd53) (@ix53)))
def ty61 := And.intro (And.intro (@ld61) (@az61)) (And.intro (@aza61) (@ix61))
def ty64 := And.intro (And.intro (@ld64) (And.intro (@st64) (@az64))) (And.intro (And.intro (@aza64) (@ln64)) (And.intro (@lnd64) (@ix64)))
def ty74 := And.intro (And.intro (@ld74) (And.intro (@st74) (@az74))) (And.intro (And.intro (@aza74) (@ln74)) (And.intro (@lnd74) (@ix74)))
def ty77 := And.intro (And.intro (@ld77) (And.intro (@st77) (@az77))) (And.intro (And.intro (@aza77) (@ln77)) (And.intro (@lnd77) (@ix77)))
def ty79 := And.intro (And.intro (@ld79) (And.intro (@st79) (@az79))) (And.intro (And.intro (@aza79) (@ln79)) (And.intro (@lnd79) (@ix79)))
def ty86 := And.intro (And.intro (@ld86) (And.intro (@st86) (@az86))) (And.intro (And.intro (@aza86) (@ln86)) (And.intro (@lnd86) (@ix86)))
def ty89 := And.intro (And.intro (@ld89) (And.intro (@az89) (@aza89))) (And.intro (And.intro (@fa89_0) (@fv89_0)) (And.intro (@fa89_1) (@fv89_1)))
def ty91 := And.intro (And.intro (@ld91) (@az91)) (And.intro (@aza91) (@ix91))
def ty96 := And.intro (And.intro (@ld96) (@st96)) (And.intro (@az96) (@aza96))
def ty100 := And.intro (And.intro (@ld100) (@az100)) (And.intro (@aza100) (And.intro (@fa100_0) (@fv100_0)))
def ty102 := And.intro (And.intro (@ld102) (@st102)) (And.intro (@az102) (@aza102))
def ty111 := And.intro (And.intro (@ld111) (@st111)) (And.intro (@az111) (@aza111))
def ty123 := And.intro (And.intro (@ld123) (@az123)) (And.intro (@aza123) (@ix123))
def ty126 := And.intro (And.intro (@ld126) (@st126)) (And.intro (@az126) (@aza126))
def ty127 := And.intro (And.intro (@ld127) (And.intro (@st127) (@az127))) (And.intro (And.intro (@aza127) (@ln127)) (And.intro (@lnd127) (@ix127)))
def ty130 := And.intro (And.intro (@ld130) (And.intro (@az130) (@aza130))) (And.intro (And.intro (@fa130_0) (@fv130_0)) (And.intro (@fa130_1) (@fv130_1)))
def ty132 := And.intro (And.intro (@ld132) (@st132)) (And.intro (@az132) (@aza132))
def ty136 := And.intro (And.intro (@ld136) (And.intro (@st136) (@az136))) (And.intro (And.intro (@aza136) (@ln136)) (And.intro (@lnd136) (@ix136)))
def ty138 := And.intro (And.intro (@ld138) (@st138)) (And.intro (@az138) (@aza138))
def ty139 := And.intro (And.intro (@ld139) (And.intro (@st139) (@az139))) (And.intro (And.intro (@aza139) (@ln139)) (And.intro (@lnd139) (@ix139)))
def ty140 := And.intro (And.intro (@ld140) (And.intro (@st140) (@az140))) (And.intro (And.intro (@aza140) (@ln140)) (And.intro (@lnd140) (@ix140)))
def ty142 := And.intro (And.intro (And.intro (@ld142) (@az142)) (And.intro (@aza142) (@fa142_0))) (And.intro (And.intro (@fv142_0) (@fa142_1)) (And.intro (@fv142_1) (And.intro (@fa142_2) (@fv142_2))))
def ty144 := And.intro (And.intro (@ld144) (@st144)) (And.intro (@az144) (@aza144))
def ty147 := And.intro (And.intro (@ld147) (@st147)) (And.intro (@az147) (@aza147))
def ty149 := And.intro (And.intro (@ld149) (And.intro (@st149) (@az149))) (And.intro (And.intro (@aza149) (@ln149)) (And.intro (@lnd149) (@ix149)))
def ty151 := And.intro (And.intro (@ld151) (And.intro (@az151) (@aza151))) (And.intro (And.intro (@fa151_0) (@fv151_0)) (And.intro (@fa151_1) (@fv151_1)))
def ty153 := And.intro (And.intro (@ld153) (@st153)) (And.intro (@az153) (@aza153))
def ty155 := And.intro (And.intro (@ld155) (@st155)) (And.intro (@az155) (@aza155))
def ty158 := And.intro (And.intro (And.intro (@ld158) (@az158)) (And.intro (@aza158) (@fa158_0))) (And.intro (And.intro (@fv158_0) (@fa158_1)) (And.intro (@fv158_1) (And.intro (@fa158_2) (@fv158_2))))
def ty159 := And.intro (And.intro (@ld159) (And.intro (@st159) (@az159))) (And.intro (And.intro (@aza159) (@ln159)) (And.intro (@lnd159) (@ix159)))
def ty160 := And.intro (And.intro (@ld160) (@st160)) (And.intro (@az160) (@aza160))
def ty161 := And.intro (And.intro (@ld161) (@st161)) (And.intro (@az161) (@aza161))
def ty165 := And.intro (And.intro (@ld165) (@st165)) (And.intro (@az165) (@aza165))
theorem mixT : Try.prog.follows .mixedOrders = true := by kernel_rfl
end Go.Proofs.Ytpgignenhiddkaa
