/-
  A reader of code over states that name their own memory: the types of this program; words for values.
-/
import Derived.Test.YtppkkonhfkegoaaSxY
import Derived.KernelRfl
namespace Go.Proofs.Ytppkkonhfkegoaa
open Go.RowKit

def nthT : List (Option TI) → Nat → Option TI
  | [], _ => none
  | x :: _, 0 => x
  | _ :: l, n + 1 => nthT l n

def nthT2 : List (List (Option TI)) → Nat → List (Option TI)
  | [], _ => []
  | x :: _, 0 => x
  | _ :: l, n + 1 => nthT2 l n

def markOf : List (Nat × Bool) → Nat → Option Bool
  | [], _ => none
  | (g, b) :: l, f => match Nat.beq g f with
    | true => some b
    | false => markOf l f

def tab0 : List (Option TI) := [none,
  some ⟨1, 8, false, [.nilFunc], .other⟩,
  some ⟨1, 8, false, [.int .i64 0], .int .i64⟩,
  some ⟨1, 8, false, [.int .i64 0], .int .i64⟩,
  some ⟨1, 1, false, [.bool false], .bool⟩,
  some ⟨1, 1, false, [.int .u8 0], .int .u8⟩,
  some ⟨1, 1, false, [.int .u8 0], .int .u8⟩,
  some ⟨4, 24, true, [.int .i64 0, .int .i64 0, .bool false, .int .u8 0], .struct [(0, 2), (1, 3), (2, 4), (3, 6)]⟩,
  some ⟨4, 24, true, [.int .i64 0, .int .i64 0, .bool false, .int .u8 0], .struct [(0, 2), (1, 3), (2, 4), (3, 6)]⟩,
  some ⟨1, 16, false, [.string ⟨#[]⟩], .string⟩,
  some ⟨1, 16, false, [.string ⟨#[]⟩], .string⟩,
  some ⟨1, 16, false, [.string ⟨#[]⟩], .string⟩,
  some ⟨1, 8, false, [.int .u64 0], .int .u64⟩,
  some ⟨2, 24, true, [.string ⟨#[]⟩, .int .u64 0], .struct [(0, 9), (1, 12)]⟩,
  some ⟨2, 24, true, [.string ⟨#[]⟩, .int .u64 0], .struct [(0, 9), (1, 12)]⟩,
  some ⟨1, 8, false, [.pointer none], .ptr 90⟩]
def tab1 : List (Option TI) := [some ⟨1, 8, false, [.pointer none], .ptr 93⟩,
  some ⟨1, 8, false, [.pointer none], .ptr 102⟩,
  some ⟨1, 8, true, [.pointer none], .struct [(0, 17)]⟩,
  some ⟨1, 8, true, [.pointer none], .struct [(0, 17)]⟩,
  some ⟨1, 16, false, [.nilIface], .other⟩,
  some ⟨1, 4, false, [.int .i32 0], .int .i32⟩,
  some ⟨1, 24, false, [.slice none 0 0], .slice 43⟩,
  some ⟨1, 8, false, [.int .i64 0], .int .i64⟩,
  none,
  some ⟨1, 8, false, [.nilFunc], .other⟩,
  some ⟨1, 8, false, [.nilFunc], .other⟩,
  some ⟨1, 24, false, [.slice none 0 0], .slice 3⟩,
  some ⟨1, 8, false, [.nilFunc], .other⟩,
  some ⟨1, 8, false, [.nilFunc], .other⟩,
  some ⟨1, 8, false, [.nilFunc], .other⟩,
  some ⟨1, 8, false, [.nilFunc], .other⟩]
def tab2 : List (Option TI) := [some ⟨1, 24, false, [.slice none 0 0], .slice 9⟩,
  none,
  some ⟨1, 8, false, [.nilFunc], .other⟩,
  some ⟨1, 8, false, [.nilFunc], .other⟩,
  some ⟨1, 8, false, [.nilFunc], .other⟩,
  none,
  some ⟨1, 8, false, [.nilFunc], .other⟩,
  some ⟨1, 8, false, [.nilFunc], .other⟩,
  some ⟨1, 8, false, [.nilFunc], .other⟩,
  some ⟨1, 8, false, [.nilFunc], .other⟩,
  some ⟨6, 80, true, [.string ⟨#[]⟩, .string ⟨#[]⟩, .string ⟨#[]⟩, .string ⟨#[]⟩, .int .i64 0, .int .i64 0], .struct [(0, 9), (1, 9), (2, 9), (3, 9), (4, 3), (5, 3)]⟩,
  some ⟨6, 80, true, [.string ⟨#[]⟩, .string ⟨#[]⟩, .string ⟨#[]⟩, .string ⟨#[]⟩, .int .i64 0, .int .i64 0], .struct [(0, 9), (1, 9), (2, 9), (3, 9), (4, 3), (5, 3)]⟩,
  some ⟨1, 8, false, [.nilFunc], .other⟩,
  some ⟨1, 8, false, [.nilFunc], .other⟩,
  some ⟨1, 8, false, [.nilFunc], .other⟩,
  some ⟨1, 8, false, [.nilFunc], .other⟩]
def tab3 : List (Option TI) := [some ⟨1, 8, false, [.nilFunc], .other⟩,
  some ⟨1, 8, false, [.nilFunc], .other⟩,
  some ⟨1, 8, false, [.nilFunc], .other⟩,
  some ⟨1, 8, false, [.nilFunc], .other⟩,
  some ⟨1, 8, false, [.nilFunc], .other⟩,
  some ⟨1, 8, false, [.nilFunc], .other⟩,
  some ⟨1, 8, false, [.nilFunc], .other⟩,
  some ⟨1, 8, false, [.nilFunc], .other⟩,
  some ⟨1, 8, false, [.nilFunc], .other⟩,
  some ⟨1, 8, false, [.nilFunc], .other⟩,
  some ⟨1, 8, false, [.nilFunc], .other⟩,
  some ⟨1, 8, false, [.nilFunc], .other⟩,
  some ⟨1, 8, false, [.nilFunc], .other⟩,
  some ⟨1, 8, false, [.nilFunc], .other⟩,
  some ⟨1, 8, false, [.nilFunc], .other⟩,
  some ⟨1, 8, false, [.int .u64 0], .int .u64⟩]
def tab4 : List (Option TI) := [some ⟨1, 8, false, [.nilFunc], .other⟩,
  some ⟨1, 8, false, [.int .u64 0], .int .u64⟩,
  some ⟨1, 8, false, [.nilFunc], .other⟩,
  some ⟨1, 8, false, [.nilFunc], .other⟩,
  some ⟨1, 8, false, [.nilFunc], .other⟩,
  some ⟨1, 8, false, [.int .i64 0], .int .i64⟩,
  none,
  some ⟨1, 8, false, [.nilFunc], .other⟩,
  some ⟨1, 8, false, [.nilFunc], .other⟩,
  some ⟨1, 8, false, [.nilFunc], .other⟩,
  none,
  some ⟨1, 8, false, [.nilFunc], .other⟩,
  some ⟨1, 8, false, [.nilFunc], .other⟩,
  some ⟨1, 4, false, [.int .u32 0], .int .u32⟩,
  some ⟨1, 8, false, [.nilFunc], .other⟩,
  some ⟨1, 8, false, [.int .u64 0], .int .u64⟩]
def tab5 : List (Option TI) := [some ⟨1, 8, false, [.nilFunc], .other⟩,
  some ⟨1, 8, false, [.nilFunc], .other⟩,
  some ⟨1, 8, false, [.nilFunc], .other⟩,
  some ⟨1, 8, false, [.pointer none], .ptr 3⟩,
  some ⟨1, 8, false, [.nilFunc], .other⟩,
  some ⟨1, 8, false, [.pointer none], .ptr 79⟩,
  none,
  some ⟨1, 8, false, [.nilFunc], .other⟩,
  some ⟨1, 8, false, [.nilFunc], .other⟩,
  some ⟨4, 40, true, [.pointer none, .pointer none, .pointer none, .string ⟨#[]⟩], .struct [(0, 17), (1, 17), (2, 17), (3, 9)]⟩,
  some ⟨4, 40, true, [.pointer none, .pointer none, .pointer none, .string ⟨#[]⟩], .struct [(0, 17), (1, 17), (2, 17), (3, 9)]⟩,
  some ⟨0, 0, true, [], .array 0 16⟩,
  some ⟨0, 0, true, [], .struct [(0, 91)]⟩,
  some ⟨0, 0, true, [], .struct [(0, 91)]⟩,
  some ⟨1, 8, false, [.nilFunc], .other⟩,
  some ⟨1, 1, false, [.int .u8 0], .int .u8⟩]
def tab6 : List (Option TI) := [some ⟨1, 1, false, [.int .u8 0], .int .u8⟩,
  some ⟨1, 8, false, [.nilFunc], .other⟩,
  some ⟨1, 8, false, [.pointer none], .ptr 5⟩,
  some ⟨1, 4, false, [.int .i32 0], .int .i32⟩,
  some ⟨1, 4, false, [.int .i32 0], .int .i32⟩,
  some ⟨11, 48, true, [.int .u64 0, .int .u64 0, .int .u32 0, .int .u8 0, .int .u8 0, .int .u8 0, .int .u8 0, .nilFunc, .pointer none, .int .i32 0, .int .i32 0], .struct [(0, 12), (1, 12), (2, 77), (3, 95), (4, 5), (5, 5), (6, 96), (7, 97), (8, 98), (9, 99), (10, 100)]⟩,
  some ⟨11, 48, true, [.int .u64 0, .int .u64 0, .int .u32 0, .int .u8 0, .int .u8 0, .int .u8 0, .int .u8 0, .nilFunc, .pointer none, .int .i32 0, .int .i32 0], .struct [(0, 12), (1, 12), (2, 77), (3, 95), (4, 5), (5, 5), (6, 96), (7, 97), (8, 98), (9, 99), (10, 100)]⟩,
  none]
def tabs : List (List (Option TI)) := [tab0, tab1, tab2, tab3, tab4, tab5, tab6]
def marks : List (Nat × Bool) := [(40, false), (57, false), (58, false)]
def tab : Tab := ⟨fun t => nthT (nthT2 tabs (t / 16)) (t % 16), markOf marks⟩

def ntab : Nat := 104


def TT : Tab := tabN ntab tab
theorem tabOk : TabOk Try.prog tab ntab := by unfold TabOk; kernel_rfl
theorem tok : TOk Try.prog TT := TOk.of tabOk
theorem mixed : Try.prog.follows .mixedOrders = true := by kernel_rfl

theorem sx {f : FuncId} {fn : Func} (hf : Try.prog.funcs[f]? = some fn) (hn : (fn.name == "runtime.NumGoroutine") = false) {args : List V} {res : V} (h : Body Try.prog TT fn args res) : DCalls Try.prog f args res :=
  dcalls_of tok mixed hf hn h

theorem msx {f : FuncId} {fn : Func} (hf : Try.prog.funcs[f]? = some fn) (hn : (fn.name == "runtime.NumGoroutine") = false) {args : List V} {m : List Bk} {res : V} {m' : List Bk} (h16 : (decide (args.length ≤ fn.ntmps) && decide (m.length ≤ 16)) = true)
    (h : BodyM (fun vs => vs.flatMap V.bn) Try.prog TT fn args m res m') : MCalls Try.prog f args m res m' :=
  mcalls_of tok mixed hf hn h16 h

/-- More functions that are called with their memory. -/
def TM (fs : List (Nat × Bool)) : Tab := ⟨TT.get, fun f => match markOf fs f with
  | some b => some b
  | none => TT.fm f⟩
theorem tokM (fs : List (Nat × Bool)) : TOk Try.prog (TM fs) := ⟨tok.get⟩

theorem sxm (fs : List (Nat × Bool)) {f : FuncId} {fn : Func} (hf : Try.prog.funcs[f]? = some fn) (hn : (fn.name == "runtime.NumGoroutine") = false) {args : List V} {res : V} (h : Body Try.prog (TM fs) fn args res) : DCalls Try.prog f args res :=
  dcalls_of (tokM fs) mixed hf hn h

theorem msxm (fs : List (Nat × Bool)) {f : FuncId} {fn : Func} (hf : Try.prog.funcs[f]? = some fn) (hn : (fn.name == "runtime.NumGoroutine") = false) {args : List V} {m : List Bk} {res : V} {m' : List Bk} (h16 : (decide (args.length ≤ fn.ntmps) && decide (m.length ≤ 16)) = true)
    (h : BodyM (fun vs => vs.flatMap V.bn) Try.prog (TM fs) fn args m res m') : MCalls Try.prog f args m res m' :=
  mcalls_of (tokM fs) mixed hf hn h16 h

/-- .. whose rows are handed back as rows. -/
theorem msxr {f : FuncId} {fn : Func} (hf : Try.prog.funcs[f]? = some fn) (hn : (fn.name == "runtime.NumGoroutine") = false) {args : List V} {m : List Bk} {res : V} {m' : List Bk} (h16 : (decide (args.length ≤ fn.ntmps) && decide (m.length ≤ 16)) = true)
    (h : BodyM (fun vs => vs.flatMap V.nm3) Try.prog TT fn args m res m') : MCalls Try.prog f args m res m' :=
  mcalls_of tok mixed hf hn h16 h

abbrev int (n : Int) : V := .cv (.int .i64 n)
abbrev boo (b : Bool) : V := .cv (.bool b)
abbrev str (s : ByteArray) : V := .cv (.string s)

end Go.Proofs.Ytppkkonhfkegoaa
