/-
  A reader of code over states that name their own memory: the types of this program; words for values.
-/
import Derived.Test.YtejjemeaponbaaaSxO
import Derived.KernelRfl
namespace Go.Proofs.Ytejjemeaponbaaa
open Go.RowKit

def tab : Tab := fun t => match t with
  | 1 => some ⟨1, 8, false, [.nilFunc], .other⟩
  | 2 => some ⟨1, 8, false, [.int .i64 0], .int .i64⟩
  | 3 => some ⟨1, 8, false, [.int .i64 0], .int .i64⟩
  | 4 => some ⟨1, 1, false, [.bool false], .bool⟩
  | 5 => some ⟨1, 1, false, [.int .u8 0], .int .u8⟩
  | 6 => some ⟨1, 1, false, [.int .u8 0], .int .u8⟩
  | 7 => some ⟨4, 24, true, [.int .i64 0, .int .i64 0, .bool false, .int .u8 0], .struct [(0, 2), (1, 3), (2, 4), (3, 6)]⟩
  | 8 => some ⟨4, 24, true, [.int .i64 0, .int .i64 0, .bool false, .int .u8 0], .struct [(0, 2), (1, 3), (2, 4), (3, 6)]⟩
  | 9 => some ⟨1, 16, false, [.string ⟨#[]⟩], .string⟩
  | 10 => some ⟨1, 16, false, [.string ⟨#[]⟩], .string⟩
  | 11 => some ⟨1, 16, false, [.string ⟨#[]⟩], .string⟩
  | 12 => some ⟨1, 8, false, [.int .u64 0], .int .u64⟩
  | 13 => some ⟨2, 24, true, [.string ⟨#[]⟩, .int .u64 0], .struct [(0, 9), (1, 12)]⟩
  | 14 => some ⟨2, 24, true, [.string ⟨#[]⟩, .int .u64 0], .struct [(0, 9), (1, 12)]⟩
  | 15 => some ⟨1, 8, false, [.pointer none], .ptr 71⟩
  | 16 => some ⟨1, 8, false, [.pointer none], .ptr 74⟩
  | 17 => some ⟨1, 8, false, [.pointer none], .ptr 84⟩
  | 18 => some ⟨1, 8, true, [.pointer none], .struct [(0, 17)]⟩
  | 19 => some ⟨1, 8, true, [.pointer none], .struct [(0, 17)]⟩
  | 20 => some ⟨1, 16, false, [.nilIface], .other⟩
  | 21 => some ⟨1, 4, false, [.int .i32 0], .int .i32⟩
  | 22 => some ⟨4, 40, true, [.string ⟨#[]⟩, .int .i64 0, .int .i64 0, .int .i64 0], .struct [(0, 9), (1, 3), (2, 3), (3, 3)]⟩
  | 23 => some ⟨4, 40, true, [.string ⟨#[]⟩, .int .i64 0, .int .i64 0, .int .i64 0], .struct [(0, 9), (1, 3), (2, 3), (3, 3)]⟩
  | 24 => some ⟨1, 24, false, [.slice none 0 0], .slice 34⟩
  | 25 => some ⟨1, 8, false, [.int .i64 0], .int .i64⟩
  | 26 => some ⟨1, 8, false, [.nilFunc], .other⟩
  | 27 => some ⟨1, 8, false, [.int .i64 0], .int .i64⟩
  | 28 => some ⟨8, 88, true, [.int .i64 0, .string ⟨#[]⟩, .int .i64 0, .int .i64 0, .int .i64 0, .slice none 0 0, .int .i64 0, .int .i64 0], .struct [(0, 27), (1, 23), (5, 24), (6, 3), (7, 3)]⟩
  | 29 => some ⟨8, 88, true, [.int .i64 0, .string ⟨#[]⟩, .int .i64 0, .int .i64 0, .int .i64 0, .slice none 0 0, .int .i64 0, .int .i64 0], .struct [(0, 27), (1, 23), (5, 24), (6, 3), (7, 3)]⟩
  | 31 => some ⟨1, 8, false, [.nilFunc], .other⟩
  | 32 => some ⟨1, 8, false, [.nilFunc], .other⟩
  | 33 => some ⟨2, 16, true, [.int .i64 0, .int .i64 0], .struct [(0, 3), (1, 3)]⟩
  | 34 => some ⟨2, 16, true, [.int .i64 0, .int .i64 0], .struct [(0, 3), (1, 3)]⟩
  | 35 => some ⟨1, 8, false, [.nilFunc], .other⟩
  | 36 => some ⟨1, 8, false, [.nilFunc], .other⟩
  | 37 => some ⟨1, 8, false, [.nilFunc], .other⟩
  | 38 => some ⟨1, 8, false, [.nilFunc], .other⟩
  | 39 => some ⟨1, 8, false, [.nilFunc], .other⟩
  | 40 => some ⟨1, 8, false, [.int .i64 0], .int .i64⟩
  | 41 => some ⟨1, 8, false, [.nilFunc], .other⟩
  | 42 => some ⟨1, 8, false, [.nilFunc], .other⟩
  | 44 => some ⟨1, 8, false, [.nilFunc], .other⟩
  | 45 => some ⟨1, 8, false, [.nilFunc], .other⟩
  | 46 => some ⟨1, 24, false, [.slice none 0 0], .slice 47⟩
  | 47 => some ⟨1, 2, false, [.int .u16 0], .int .u16⟩
  | 48 => some ⟨1, 8, false, [.nilFunc], .other⟩
  | 49 => some ⟨1, 8, false, [.nilFunc], .other⟩
  | 51 => some ⟨1, 8, false, [.nilFunc], .other⟩
  | 52 => some ⟨1, 8, false, [.nilFunc], .other⟩
  | 53 => some ⟨1, 8, false, [.nilFunc], .other⟩
  | 54 => some ⟨1, 8, false, [.nilFunc], .other⟩
  | 55 => some ⟨1, 8, false, [.nilFunc], .other⟩
  | 56 => some ⟨2, 16, true, [.int .i64 0, .nilFunc], .struct [(0, 27), (1, 55)]⟩
  | 57 => some ⟨2, 16, true, [.int .i64 0, .nilFunc], .struct [(0, 27), (1, 55)]⟩
  | 58 => some ⟨1, 8, false, [.nilFunc], .other⟩
  | 59 => some ⟨1, 8, false, [.nilFunc], .other⟩
  | 60 => some ⟨1, 8, false, [.nilFunc], .other⟩
  | 61 => some ⟨1, 8, false, [.pointer none], .ptr 23⟩
  | 62 => some ⟨1, 8, false, [.nilFunc], .other⟩
  | 63 => some ⟨1, 8, false, [.nilFunc], .other⟩
  | 64 => some ⟨1, 8, false, [.nilFunc], .other⟩
  | 65 => some ⟨1, 8, false, [.nilFunc], .other⟩
  | 66 => some ⟨1, 8, false, [.nilFunc], .other⟩
  | 67 => some ⟨1, 8, false, [.nilFunc], .other⟩
  | 68 => some ⟨1, 8, false, [.nilFunc], .other⟩
  | 69 => some ⟨1, 8, false, [.nilFunc], .other⟩
  | 70 => some ⟨4, 40, true, [.pointer none, .pointer none, .pointer none, .string ⟨#[]⟩], .struct [(0, 17), (1, 17), (2, 17), (3, 9)]⟩
  | 71 => some ⟨4, 40, true, [.pointer none, .pointer none, .pointer none, .string ⟨#[]⟩], .struct [(0, 17), (1, 17), (2, 17), (3, 9)]⟩
  | 72 => some ⟨0, 0, true, [], .array 0 16⟩
  | 73 => some ⟨0, 0, true, [], .struct [(0, 72)]⟩
  | 74 => some ⟨0, 0, true, [], .struct [(0, 72)]⟩
  | 75 => some ⟨1, 8, false, [.nilFunc], .other⟩
  | 76 => some ⟨1, 4, false, [.int .u32 0], .int .u32⟩
  | 77 => some ⟨1, 1, false, [.int .u8 0], .int .u8⟩
  | 78 => some ⟨1, 1, false, [.int .u8 0], .int .u8⟩
  | 79 => some ⟨1, 8, false, [.nilFunc], .other⟩
  | 80 => some ⟨1, 8, false, [.pointer none], .ptr 5⟩
  | 81 => some ⟨1, 4, false, [.int .i32 0], .int .i32⟩
  | 82 => some ⟨1, 4, false, [.int .i32 0], .int .i32⟩
  | 83 => some ⟨11, 48, true, [.int .u64 0, .int .u64 0, .int .u32 0, .int .u8 0, .int .u8 0, .int .u8 0, .int .u8 0, .nilFunc, .pointer none, .int .i32 0, .int .i32 0], .struct [(0, 12), (1, 12), (2, 76), (3, 77), (4, 5), (5, 5), (6, 78), (7, 79), (8, 80), (9, 81), (10, 82)]⟩
  | 84 => some ⟨11, 48, true, [.int .u64 0, .int .u64 0, .int .u32 0, .int .u8 0, .int .u8 0, .int .u8 0, .int .u8 0, .nilFunc, .pointer none, .int .i32 0, .int .i32 0], .struct [(0, 12), (1, 12), (2, 76), (3, 77), (4, 5), (5, 5), (6, 78), (7, 79), (8, 80), (9, 81), (10, 82)]⟩
  | _ => none

def ntab : Nat := 86


def TT : Tab := tabN ntab tab
theorem tabOk : TabOk Try.prog tab ntab := by unfold TabOk; kernel_rfl
theorem tok : TOk Try.prog TT := TOk.of tabOk
theorem mixed : Try.prog.follows .mixedOrders = true := by kernel_rfl

theorem sx {f : FuncId} {fn : Func} (hf : Try.prog.funcs[f]? = some fn) (hn : (fn.name == "runtime.NumGoroutine") = false) {args : List V} {res : V} (h : Body Try.prog TT fn args res) : DCalls Try.prog f args res :=
  dcalls_of tok mixed hf hn h

abbrev int (n : Int) : V := .cv (.int .i64 n)
abbrev boo (b : Bool) : V := .cv (.bool b)
abbrev str (s : ByteArray) : V := .cv (.string s)

end Go.Proofs.Ytejjemeaponbaaa
