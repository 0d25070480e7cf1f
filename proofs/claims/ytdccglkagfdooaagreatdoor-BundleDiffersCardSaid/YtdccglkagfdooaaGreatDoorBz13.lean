/- Texts joined by pack.py: XSxT XSxU XLx1 XLx0 -/
import Derived.Test.YtdccglkagfdooaaGreatDoorBz12
import Derived.KernelRfl
import Derived.IntWalk
import Derived.Lib.ItoaNum
set_option maxRecDepth 100000
namespace Go.Proofs.YtdccglkagfdooaaGreatDoor
open Go.RowKit
def nthT:List (Option TI)→Nat→Option TI
 |[],_=>none
 |x::_,0=>x
 |_::l,n+1=>nthT l n
def nthT2:List (List (Option TI))→Nat→List (Option TI)
 |[],_=>[]
 |x::_,0=>x
 |_::l,n+1=>nthT2 l n
def markOf:List (Nat×Bool)→Nat→Option Bool
 |[],_=>none
 |(g,b)::l,f=>match Nat.beq g f with
  |true=>some b
  |false=>markOf l f
def tab0:List (Option TI):=[none,
 some ⟨1,8,false,[.nilFunc],.other⟩,
 some ⟨1,8,false,[.int .i64 0],.int .i64⟩,
 some ⟨1,8,false,[.int .i64 0],.int .i64⟩,
 some ⟨1,1,false,[.bool false],.bool⟩,
 some ⟨1,1,false,[.int .u8 0],.int .u8⟩,
 some ⟨1,1,false,[.int .u8 0],.int .u8⟩,
 some ⟨4,24,true,[.int .i64 0,.int .i64 0,.bool false,.int .u8 0],.struct [(0,2),(1,3),(2,4),(3,6)]⟩,
 some ⟨4,24,true,[.int .i64 0,.int .i64 0,.bool false,.int .u8 0],.struct [(0,2),(1,3),(2,4),(3,6)]⟩,
 some ⟨1,16,false,[.string ⟨#[]⟩],.string⟩,
 some ⟨1,16,false,[.string ⟨#[]⟩],.string⟩,
 some ⟨1,16,false,[.string ⟨#[]⟩],.string⟩,
 some ⟨1,8,false,[.int .u64 0],.int .u64⟩,
 some ⟨2,24,true,[.string ⟨#[]⟩,.int .u64 0],.struct [(0,9),(1,12)]⟩,
 some ⟨2,24,true,[.string ⟨#[]⟩,.int .u64 0],.struct [(0,9),(1,12)]⟩,
 some ⟨1,8,false,[.pointer none],.ptr 283⟩]
def tab1:List (Option TI):=[some ⟨1,8,false,[.pointer none],.ptr 286⟩,
 some ⟨1,8,false,[.pointer none],.ptr 293⟩,
 some ⟨1,8,true,[.pointer none],.struct [(0,17)]⟩,
 some ⟨1,8,true,[.pointer none],.struct [(0,17)]⟩,
 some ⟨1,16,false,[.nilIface],.other⟩,
 some ⟨1,4,false,[.int .i32 0],.int .i32⟩,
 some ⟨1,24,false,[.slice none 0 0],.slice 9⟩,
 some ⟨5,72,true,[.string ⟨#[]⟩,.int .i64 0,.int .i64 0,.slice none 0 0,.string ⟨#[]⟩],.struct [(0,9),(1,3),(2,3),(3,22),(4,9)]⟩,
 some ⟨5,72,true,[.string ⟨#[]⟩,.int .i64 0,.int .i64 0,.slice none 0 0,.string ⟨#[]⟩],.struct [(0,9),(1,3),(2,3),(3,22),(4,9)]⟩,
 some ⟨1,8,false,[.nilFunc],.other⟩,
 some ⟨1,8,false,[.nilFunc],.other⟩,
 some ⟨1,8,false,[.nilFunc],.other⟩,
 some ⟨1,8,false,[.nilFunc],.other⟩,
 some ⟨1,8,false,[.int .i64 0],.int .i64⟩,
 none,
 some ⟨1,8,false,[.nilFunc],.other⟩]
def tab2:List (Option TI):=[some ⟨1,8,false,[.nilFunc],.other⟩,
 none,
 some ⟨1,8,false,[.nilFunc],.other⟩,
 some ⟨1,24,false,[.slice none 0 0],.slice 91⟩,
 some ⟨1,24,false,[.slice none 0 0],.slice 115⟩,
 some ⟨2,48,true,[.slice none 0 0,.slice none 0 0],.struct [(0,35),(1,36)]⟩,
 some ⟨2,48,true,[.slice none 0 0,.slice none 0 0],.struct [(0,35),(1,36)]⟩,
 none,
 some ⟨1,8,false,[.nilFunc],.other⟩,
 some ⟨1,8,false,[.nilFunc],.other⟩,
 some ⟨1,8,false,[.nilFunc],.other⟩,
 some ⟨1,8,false,[.nilFunc],.other⟩,
 some ⟨1,8,false,[.nilFunc],.other⟩,
 some ⟨1,8,false,[.nilFunc],.other⟩,
 some ⟨1,8,false,[.nilFunc],.other⟩,
 none]
def tab3:List (Option TI):=[some ⟨1,8,false,[.nilFunc],.other⟩,
 some ⟨1,8,false,[.pointer none],.ptr 3⟩,
 some ⟨1,24,false,[.slice none 0 0],.slice 49⟩,
 none,
 some ⟨1,8,false,[.nilFunc],.other⟩,
 some ⟨1,8,false,[.nilFunc],.other⟩,
 some ⟨1,8,false,[.pointer none],.ptr 63⟩,
 none,
 some ⟨1,8,false,[.nilFunc],.other⟩,
 some ⟨1,8,false,[.nilFunc],.other⟩,
 some ⟨1,24,false,[.slice none 0 0],.slice 153⟩,
 some ⟨1,24,false,[.slice none 0 0],.slice 87⟩,
 some ⟨2,48,true,[.slice none 0 0,.slice none 0 0],.struct [(0,58),(1,59)]⟩,
 some ⟨2,48,true,[.slice none 0 0,.slice none 0 0],.struct [(0,58),(1,59)]⟩,
 some ⟨7,120,true,[.string ⟨#[]⟩,.int .i64 0,.int .i64 0,.slice none 0 0,.string ⟨#[]⟩,.slice none 0 0,.slice none 0 0],.struct [(0,24),(5,61)]⟩,
 some ⟨7,120,true,[.string ⟨#[]⟩,.int .i64 0,.int .i64 0,.slice none 0 0,.string ⟨#[]⟩,.slice none 0 0,.slice none 0 0],.struct [(0,24),(5,61)]⟩]
def tab4:List (Option TI):=[some ⟨1,8,false,[.nilFunc],.other⟩,
 some ⟨1,8,false,[.int .u64 0],.int .u64⟩,
 some ⟨1,8,false,[.nilFunc],.other⟩,
 some ⟨1,24,false,[.slice none 0 0],.slice 5⟩,
 some ⟨1,8,false,[.int .u64 0],.int .u64⟩,
 some ⟨1,8,false,[.pointer none],.ptr 71⟩,
 some ⟨2,32,true,[.pointer none,.slice none 0 0],.struct [(0,69),(1,67)]⟩,
 some ⟨2,32,true,[.pointer none,.slice none 0 0],.struct [(0,69),(1,67)]⟩,
 some ⟨1,8,false,[.nilFunc],.other⟩,
 some ⟨1,16,false,[.nilIface],.other⟩,
 some ⟨1,16,false,[.nilIface],.other⟩,
 none,
 some ⟨1,8,false,[.nilFunc],.other⟩,
 some ⟨1,8,false,[.nilFunc],.other⟩,
 some ⟨1,8,false,[.nilFunc],.other⟩,
 some ⟨1,8,false,[.nilFunc],.other⟩]
def tab5:List (Option TI):=[some ⟨1,8,false,[.nilFunc],.other⟩,
 some ⟨1,8,false,[.nilFunc],.other⟩,
 some ⟨1,24,false,[.slice none 0 0],.slice 81⟩,
 some ⟨1,8,false,[.pointer none],.ptr 94⟩,
 none,
 some ⟨1,8,false,[.nilFunc],.other⟩,
 some ⟨3,48,true,[.string ⟨#[]⟩,.slice none 0 0,.int .i64 0],.struct [(0,9),(1,22),(2,3)]⟩,
 some ⟨3,48,true,[.string ⟨#[]⟩,.slice none 0 0,.int .i64 0],.struct [(0,9),(1,22),(2,3)]⟩,
 some ⟨1,8,false,[.nilFunc],.other⟩,
 some ⟨1,8,false,[.nilFunc],.other⟩,
 some ⟨5,48,true,[.string ⟨#[]⟩,.int .i64 0,.int .i64 0,.int .i64 0,.int .i64 0],.struct [(0,9),(1,3),(2,3),(3,3),(4,3)]⟩,
 some ⟨5,48,true,[.string ⟨#[]⟩,.int .i64 0,.int .i64 0,.int .i64 0,.int .i64 0],.struct [(0,9),(1,3),(2,3),(3,3),(4,3)]⟩,
 some ⟨1,24,false,[.slice none 0 0],.slice 3⟩,
 some ⟨5,104,true,[.slice none 0 0,.slice none 0 0,.slice none 0 0,.int .i64 0,.slice none 0 0],.struct [(0,61),(2,92),(3,3),(4,36)]⟩,
 some ⟨5,104,true,[.slice none 0 0,.slice none 0 0,.slice none 0 0,.int .i64 0,.slice none 0 0],.struct [(0,61),(2,92),(3,3),(4,36)]⟩,
 some ⟨1,8,false,[.nilFunc],.other⟩]
def tab6:List (Option TI):=[some ⟨1,8,false,[.nilFunc],.other⟩,
 some ⟨1,8,false,[.nilFunc],.other⟩,
 some ⟨1,8,false,[.pointer none],.ptr 5⟩,
 some ⟨1,8,false,[.nilFunc],.other⟩,
 some ⟨1,8,false,[.nilFunc],.other⟩,
 some ⟨1,8,false,[.nilFunc],.other⟩,
 some ⟨1,8,false,[.nilFunc],.other⟩,
 none,
 some ⟨1,8,false,[.nilFunc],.other⟩,
 none,
 some ⟨1,8,false,[.nilFunc],.other⟩,
 some ⟨1,8,false,[.nilFunc],.other⟩,
 some ⟨1,8,false,[.nilFunc],.other⟩,
 some ⟨1,8,false,[.nilFunc],.other⟩,
 none,
 some ⟨1,8,false,[.nilFunc],.other⟩]
def tab7:List (Option TI):=[some ⟨1,8,false,[.nilFunc],.other⟩,
 some ⟨1,8,false,[.int .i64 0],.int .i64⟩,
 some ⟨4,56,true,[.int .i64 0,.int .i64 0,.string ⟨#[]⟩,.slice none 0 0],.struct [(0,113),(1,3),(2,9),(3,22)]⟩,
 some ⟨4,56,true,[.int .i64 0,.int .i64 0,.string ⟨#[]⟩,.slice none 0 0],.struct [(0,113),(1,3),(2,9),(3,22)]⟩,
 none,
 some ⟨1,8,false,[.nilFunc],.other⟩,
 none,
 some ⟨1,8,false,[.nilFunc],.other⟩,
 none,
 some ⟨1,8,false,[.nilFunc],.other⟩,
 some ⟨1,8,false,[.nilFunc],.other⟩,
 some ⟨1,8,false,[.nilFunc],.other⟩,
 none,
 some ⟨1,8,false,[.nilFunc],.other⟩,
 some ⟨1,8,false,[.nilFunc],.other⟩,
 some ⟨1,8,false,[.int .i64 0],.int .i64⟩]
def tab8:List (Option TI):=[none,
 some ⟨1,8,false,[.nilFunc],.other⟩,
 some ⟨1,8,false,[.pointer none],.ptr 178⟩,
 some ⟨1,8,false,[.nilFunc],.other⟩,
 some ⟨1,8,false,[.nilFunc],.other⟩,
 some ⟨1,8,false,[.nilFunc],.other⟩,
 none,
 some ⟨1,8,false,[.nilFunc],.other⟩,
 some ⟨1,8,false,[.nilFunc],.other⟩,
 some ⟨1,8,false,[.nilFunc],.other⟩,
 some ⟨1,8,false,[.map none],.map⟩,
 some ⟨1,24,false,[.slice none 0 0],.slice 183⟩,
 none,
 some ⟨1,8,false,[.nilFunc],.other⟩,
 some ⟨1,8,false,[.pointer none],.ptr 144⟩,
 some ⟨5,88,true,[.slice none 0 0,.int .i64 0,.int .i64 0,.slice none 0 0,.slice none 0 0],.struct [(0,139),(1,3),(2,3),(3,61)]⟩]
def tab9:List (Option TI):=[some ⟨5,88,true,[.slice none 0 0,.int .i64 0,.int .i64 0,.slice none 0 0,.slice none 0 0],.struct [(0,139),(1,3),(2,3),(3,61)]⟩,
 some ⟨1,8,true,[.int .i64 0],.struct [(0,3)]⟩,
 some ⟨1,8,true,[.int .i64 0],.struct [(0,3)]⟩,
 none,
 some ⟨1,8,false,[.nilFunc],.other⟩,
 some ⟨1,8,false,[.nilFunc],.other⟩,
 some ⟨1,8,false,[.int .i64 0],.int .i64⟩,
 some ⟨1,8,false,[.nilFunc],.other⟩,
 some ⟨5,80,true,[.int .i64 0,.string ⟨#[]⟩,.int .i64 0,.slice none 0 0,.slice none 0 0],.struct [(0,150),(1,9),(2,3),(3,22),(4,92)]⟩,
 some ⟨5,80,true,[.int .i64 0,.string ⟨#[]⟩,.int .i64 0,.slice none 0 0,.slice none 0 0],.struct [(0,150),(1,9),(2,3),(3,22),(4,92)]⟩,
 some ⟨1,8,false,[.nilFunc],.other⟩,
 some ⟨1,8,false,[.nilFunc],.other⟩,
 none,
 some ⟨1,8,false,[.nilFunc],.other⟩,
 some ⟨1,24,false,[.slice none 0 0],.slice 29⟩,
 some ⟨1,8,false,[.pointer none],.ptr 161⟩]
def tab10:List (Option TI):=[some ⟨6,112,true,[.slice none 0 0,.slice none 0 0,.map none,.int .i64 0,.slice none 0 0,.slice none 0 0],.struct [(0,61),(2,138),(3,3),(4,92),(5,158)]⟩,
 some ⟨6,112,true,[.slice none 0 0,.slice none 0 0,.map none,.int .i64 0,.slice none 0 0,.slice none 0 0],.struct [(0,61),(2,138),(3,3),(4,92),(5,158)]⟩,
 some ⟨1,8,false,[.nilFunc],.other⟩,
 some ⟨1,8,false,[.nilFunc],.other⟩,
 some ⟨24,24,true,[.int .u8 0,.int .u8 0,.int .u8 0,.int .u8 0,.int .u8 0,.int .u8 0,.int .u8 0,.int .u8 0,.int .u8 0,.int .u8 0,.int .u8 0,.int .u8 0,.int .u8 0,.int .u8 0,.int .u8 0,.int .u8 0,.int .u8 0,.int .u8 0,.int .u8 0,.int .u8 0,.int .u8 0,.int .u8 0,.int .u8 0,.int .u8 0],.array 24 5⟩,
 some ⟨1,8,false,[.nilFunc],.other⟩,
 some ⟨1,8,false,[.nilFunc],.other⟩,
 none,
 some ⟨1,8,false,[.nilFunc],.other⟩,
 some ⟨1,4,false,[.int .u32 0],.int .u32⟩,
 none,
 some ⟨1,8,false,[.nilFunc],.other⟩,
 none,
 some ⟨1,8,false,[.nilFunc],.other⟩,
 none,
 some ⟨1,8,false,[.nilFunc],.other⟩]
def tab11:List (Option TI):=[some ⟨1,8,false,[.nilFunc],.other⟩,
 some ⟨3,48,true,[.string ⟨#[]⟩,.string ⟨#[]⟩,.nilIface],.struct [(0,9),(1,9),(2,74)]⟩,
 some ⟨3,48,true,[.string ⟨#[]⟩,.string ⟨#[]⟩,.nilIface],.struct [(0,9),(1,9),(2,74)]⟩,
 some ⟨1,8,false,[.nilFunc],.other⟩,
 some ⟨1,8,false,[.nilFunc],.other⟩,
 some ⟨1,8,false,[.int .i64 0],.int .i64⟩,
 some ⟨4,40,true,[.int .i64 0,.string ⟨#[]⟩,.int .i64 0,.int .i64 0],.struct [(0,181),(1,9),(2,3),(3,3)]⟩,
 some ⟨4,40,true,[.int .i64 0,.string ⟨#[]⟩,.int .i64 0,.int .i64 0],.struct [(0,181),(1,9),(2,3),(3,3)]⟩,
 none,
 some ⟨1,8,false,[.nilFunc],.other⟩,
 some ⟨1,8,false,[.nilFunc],.other⟩,
 some ⟨1,8,false,[.nilFunc],.other⟩,
 some ⟨1,8,false,[.nilFunc],.other⟩,
 some ⟨1,8,false,[.nilFunc],.other⟩,
 some ⟨1,8,false,[.nilFunc],.other⟩,
 some ⟨1,8,false,[.nilFunc],.other⟩]
def tab12:List (Option TI):=[some ⟨1,8,false,[.nilFunc],.other⟩,
 some ⟨1,8,false,[.nilFunc],.other⟩,
 some ⟨1,8,false,[.nilFunc],.other⟩,
 some ⟨1,8,false,[.nilFunc],.other⟩,
 some ⟨1,8,false,[.nilFunc],.other⟩,
 some ⟨1,8,false,[.nilFunc],.other⟩,
 some ⟨1,8,false,[.nilFunc],.other⟩,
 some ⟨1,8,false,[.nilFunc],.other⟩,
 some ⟨1,8,false,[.nilFunc],.other⟩,
 some ⟨1,8,false,[.nilFunc],.other⟩,
 some ⟨6,40,true,[.string ⟨#[]⟩,.bool false,.bool false,.bool false,.int .i64 0,.int .i64 0],.struct [(0,9),(1,4),(2,4),(3,4),(4,3),(5,3)]⟩,
 some ⟨6,40,true,[.string ⟨#[]⟩,.bool false,.bool false,.bool false,.int .i64 0,.int .i64 0],.struct [(0,9),(1,4),(2,4),(3,4),(4,3),(5,3)]⟩,
 some ⟨126,840,true,[.string ⟨#[]⟩,.bool false,.bool false,.bool false,.int .i64 0,.int .i64 0,.string ⟨#[]⟩,.bool false,.bool false,.bool false,.int .i64 0,.int .i64 0,.string ⟨#[]⟩,.bool false,.bool false,.bool false,.int .i64 0,.int .i64 0,.string ⟨#[]⟩,.bool false,.bool false,.bool false,.int .i64 0,.int .i64 0,.string ⟨#[]⟩,.bool false,.bool false,.bool false,.int .i64 0,.int .i64 0,.string ⟨#[]⟩,.bool false,.bool false,.bool false,.int .i64 0,.int .i64 0,.string ⟨#[]⟩,.bool false,.bool false,.bool false,.int .i64 0,.int .i64 0,.string ⟨#[]⟩,.bool false,.bool false,.bool false,.int .i64 0,.int .i64 0,.string ⟨#[]⟩,.bool false,.bool false,.bool false,.int .i64 0,.int .i64 0,.string ⟨#[]⟩,.bool false,.bool false,.bool false,.int .i64 0,.int .i64 0,.string ⟨#[]⟩,.bool false,.bool false,.bool false,.int .i64 0,.int .i64 0,.string ⟨#[]⟩,.bool false,.bool false,.bool false,.int .i64 0,.int .i64 0,.string ⟨#[]⟩,.bool false,.bool false,.bool false,.int .i64 0,.int .i64 0,.string ⟨#[]⟩,.bool false,.bool false,.bool false,.int .i64 0,.int .i64 0,.string ⟨#[]⟩,.bool false,.bool false,.bool false,.int .i64 0,.int .i64 0,.string ⟨#[]⟩,.bool false,.bool false,.bool false,.int .i64 0,.int .i64 0,.string ⟨#[]⟩,.bool false,.bool false,.bool false,.int .i64 0,.int .i64 0,.string ⟨#[]⟩,.bool false,.bool false,.bool false,.int .i64 0,.int .i64 0,.string ⟨#[]⟩,.bool false,.bool false,.bool false,.int .i64 0,.int .i64 0,.string ⟨#[]⟩,.bool false,.bool false,.bool false,.int .i64 0,.int .i64 0,.string ⟨#[]⟩,.bool false,.bool false,.bool false,.int .i64 0,.int .i64 0],.array 21 203⟩,
 some ⟨1,24,false,[.slice none 0 0],.slice 4⟩,
 some ⟨1,8,false,[.nilFunc],.other⟩,
 some ⟨1,8,false,[.nilFunc],.other⟩]
def tab13:List (Option TI):=[some ⟨1,8,false,[.nilFunc],.other⟩,
 some ⟨20,160,true,[.int .u64 0,.int .u64 0,.int .u64 0,.int .u64 0,.int .u64 0,.int .u64 0,.int .u64 0,.int .u64 0,.int .u64 0,.int .u64 0,.int .u64 0,.int .u64 0,.int .u64 0,.int .u64 0,.int .u64 0,.int .u64 0,.int .u64 0,.int .u64 0,.int .u64 0,.int .u64 0],.array 20 65⟩,
 some ⟨65,65,true,[.int .u8 0,.int .u8 0,.int .u8 0,.int .u8 0,.int .u8 0,.int .u8 0,.int .u8 0,.int .u8 0,.int .u8 0,.int .u8 0,.int .u8 0,.int .u8 0,.int .u8 0,.int .u8 0,.int .u8 0,.int .u8 0,.int .u8 0,.int .u8 0,.int .u8 0,.int .u8 0,.int .u8 0,.int .u8 0,.int .u8 0,.int .u8 0,.int .u8 0,.int .u8 0,.int .u8 0,.int .u8 0,.int .u8 0,.int .u8 0,.int .u8 0,.int .u8 0,.int .u8 0,.int .u8 0,.int .u8 0,.int .u8 0,.int .u8 0,.int .u8 0,.int .u8 0,.int .u8 0,.int .u8 0,.int .u8 0,.int .u8 0,.int .u8 0,.int .u8 0,.int .u8 0,.int .u8 0,.int .u8 0,.int .u8 0,.int .u8 0,.int .u8 0,.int .u8 0,.int .u8 0,.int .u8 0,.int .u8 0,.int .u8 0,.int .u8 0,.int .u8 0,.int .u8 0,.int .u8 0,.int .u8 0,.int .u8 0,.int .u8 0,.int .u8 0,.int .u8 0],.array 65 5⟩,
 some ⟨1,8,false,[.nilFunc],.other⟩,
 some ⟨1,8,false,[.nilFunc],.other⟩,
 some ⟨1,8,false,[.pointer none],.ptr 215⟩,
 some ⟨1,16,true,[.string ⟨#[]⟩],.struct [(0,9)]⟩,
 some ⟨1,16,true,[.string ⟨#[]⟩],.struct [(0,9)]⟩,
 some ⟨256,256,true,(List.replicate 256 (.int .u8 0)),.array 256 5⟩,
 some ⟨2,2,true,[.int .u8 0,.int .u8 0],.struct [(0,5),(1,5)]⟩,
 some ⟨2,2,true,[.int .u8 0,.int .u8 0],.struct [(0,5),(1,5)]⟩,
 some ⟨32,32,true,[.int .u8 0,.int .u8 0,.int .u8 0,.int .u8 0,.int .u8 0,.int .u8 0,.int .u8 0,.int .u8 0,.int .u8 0,.int .u8 0,.int .u8 0,.int .u8 0,.int .u8 0,.int .u8 0,.int .u8 0,.int .u8 0,.int .u8 0,.int .u8 0,.int .u8 0,.int .u8 0,.int .u8 0,.int .u8 0,.int .u8 0,.int .u8 0,.int .u8 0,.int .u8 0,.int .u8 0,.int .u8 0,.int .u8 0,.int .u8 0,.int .u8 0,.int .u8 0],.array 16 218⟩,
 some ⟨1,8,false,[.nilFunc],.other⟩,
 some ⟨1,8,false,[.int .i64 0],.int .i64⟩,
 some ⟨1,8,false,[.nilFunc],.other⟩,
 some ⟨1,8,false,[.nilFunc],.other⟩]
def tab14:List (Option TI):=[none,
 some ⟨1,8,false,[.nilFunc],.other⟩,
 none,
 some ⟨1,8,false,[.nilFunc],.other⟩,
 some ⟨1,8,false,[.nilFunc],.other⟩,
 some ⟨1,8,false,[.nilFunc],.other⟩,
 some ⟨1,8,false,[.nilFunc],.other⟩,
 some ⟨1,8,false,[.nilFunc],.other⟩,
 some ⟨1,8,false,[.nilFunc],.other⟩,
 some ⟨1,8,false,[.nilFunc],.other⟩,
 some ⟨1,8,false,[.nilFunc],.other⟩,
 some ⟨1,8,false,[.nilFunc],.other⟩,
 some ⟨1,8,false,[.nilFunc],.other⟩,
 some ⟨1,8,false,[.nilFunc],.other⟩,
 some ⟨1,8,false,[.nilFunc],.other⟩,
 some ⟨1,8,false,[.nilFunc],.other⟩]
def tab15:List (Option TI):=[some ⟨1,8,false,[.nilFunc],.other⟩,
 some ⟨1,8,false,[.nilFunc],.other⟩,
 some ⟨1,8,false,[.nilFunc],.other⟩,
 some ⟨1,8,false,[.nilFunc],.other⟩,
 some ⟨1,8,false,[.int .i64 0],.int .i64⟩,
 none,
 some ⟨1,8,false,[.nilFunc],.other⟩,
 some ⟨1,8,false,[.nilFunc],.other⟩,
 some ⟨1,8,false,[.nilFunc],.other⟩,
 some ⟨1,8,false,[.nilFunc],.other⟩,
 some ⟨1,24,false,[.slice none 0 0],.slice 265⟩,
 none,
 some ⟨1,8,false,[.nilFunc],.other⟩,
 some ⟨32,32,true,[.int .u8 0,.int .u8 0,.int .u8 0,.int .u8 0,.int .u8 0,.int .u8 0,.int .u8 0,.int .u8 0,.int .u8 0,.int .u8 0,.int .u8 0,.int .u8 0,.int .u8 0,.int .u8 0,.int .u8 0,.int .u8 0,.int .u8 0,.int .u8 0,.int .u8 0,.int .u8 0,.int .u8 0,.int .u8 0,.int .u8 0,.int .u8 0,.int .u8 0,.int .u8 0,.int .u8 0,.int .u8 0,.int .u8 0,.int .u8 0,.int .u8 0,.int .u8 0],.array 32 5⟩,
 some ⟨64,64,true,[.int .u8 0,.int .u8 0,.int .u8 0,.int .u8 0,.int .u8 0,.int .u8 0,.int .u8 0,.int .u8 0,.int .u8 0,.int .u8 0,.int .u8 0,.int .u8 0,.int .u8 0,.int .u8 0,.int .u8 0,.int .u8 0,.int .u8 0,.int .u8 0,.int .u8 0,.int .u8 0,.int .u8 0,.int .u8 0,.int .u8 0,.int .u8 0,.int .u8 0,.int .u8 0,.int .u8 0,.int .u8 0,.int .u8 0,.int .u8 0,.int .u8 0,.int .u8 0,.int .u8 0,.int .u8 0,.int .u8 0,.int .u8 0,.int .u8 0,.int .u8 0,.int .u8 0,.int .u8 0,.int .u8 0,.int .u8 0,.int .u8 0,.int .u8 0,.int .u8 0,.int .u8 0,.int .u8 0,.int .u8 0,.int .u8 0,.int .u8 0,.int .u8 0,.int .u8 0,.int .u8 0,.int .u8 0,.int .u8 0,.int .u8 0,.int .u8 0,.int .u8 0,.int .u8 0,.int .u8 0,.int .u8 0,.int .u8 0,.int .u8 0,.int .u8 0],.array 64 5⟩,
 some ⟨1,8,false,[.nilFunc],.other⟩]
def tab16:List (Option TI):=[some ⟨1,8,false,[.nilFunc],.other⟩,
 some ⟨1,8,false,[.int .u64 0],.int .u64⟩,
 some ⟨1,8,false,[.nilFunc],.other⟩,
 some ⟨1,8,false,[.nilFunc],.other⟩,
 some ⟨1,8,false,[.nilFunc],.other⟩,
 some ⟨1,8,false,[.nilFunc],.other⟩,
 some ⟨1,8,false,[.nilFunc],.other⟩,
 some ⟨1,8,false,[.int .i64 0],.int .i64⟩,
 some ⟨4,40,true,[.int .i64 0,.int .i64 0,.string ⟨#[]⟩,.int .i64 0],.struct [(0,263),(1,3),(2,9),(3,3)]⟩,
 some ⟨4,40,true,[.int .i64 0,.int .i64 0,.string ⟨#[]⟩,.int .i64 0],.struct [(0,263),(1,3),(2,9),(3,3)]⟩,
 some ⟨1,8,false,[.pointer none],.ptr 257⟩,
 none,
 some ⟨1,8,false,[.nilFunc],.other⟩,
 some ⟨1,8,false,[.nilFunc],.other⟩,
 some ⟨4,24,true,[.int .i64 0,.int .i64 0,.bool false,.bool false],.struct [(0,3),(1,3),(2,4),(3,4)]⟩,
 some ⟨4,24,true,[.int .i64 0,.int .i64 0,.bool false,.bool false],.struct [(0,3),(1,3),(2,4),(3,4)]⟩]
def tab17:List (Option TI):=[none,
 some ⟨1,8,false,[.nilFunc],.other⟩,
 some ⟨1,24,false,[.slice none 0 0],.slice 277⟩,
 some ⟨1,8,false,[.nilFunc],.other⟩,
 some ⟨5,48,true,[.bool false,.int .i64 0,.bool false,.string ⟨#[]⟩,.bool false],.struct [(0,4),(1,3),(2,4),(3,9),(4,4)]⟩,
 some ⟨5,48,true,[.bool false,.int .i64 0,.bool false,.string ⟨#[]⟩,.bool false],.struct [(0,4),(1,3),(2,4),(3,9),(4,4)]⟩,
 some ⟨1,8,false,[.pointer none],.ptr 277⟩,
 some ⟨1,8,false,[.nilFunc],.other⟩,
 some ⟨1,8,false,[.nilFunc],.other⟩,
 some ⟨1,8,false,[.nilFunc],.other⟩,
 some ⟨4,40,true,[.pointer none,.pointer none,.pointer none,.string ⟨#[]⟩],.struct [(0,17),(1,17),(2,17),(3,9)]⟩,
 some ⟨4,40,true,[.pointer none,.pointer none,.pointer none,.string ⟨#[]⟩],.struct [(0,17),(1,17),(2,17),(3,9)]⟩,
 some ⟨0,0,true,[],.array 0 16⟩,
 some ⟨0,0,true,[],.struct [(0,284)]⟩,
 some ⟨0,0,true,[],.struct [(0,284)]⟩,
 some ⟨1,1,false,[.int .u8 0],.int .u8⟩]
def tab18:List (Option TI):=[some ⟨1,1,false,[.int .u8 0],.int .u8⟩,
 some ⟨1,8,false,[.nilFunc],.other⟩,
 some ⟨1,4,false,[.int .i32 0],.int .i32⟩,
 some ⟨1,4,false,[.int .i32 0],.int .i32⟩,
 some ⟨11,48,true,[.int .u64 0,.int .u64 0,.int .u32 0,.int .u8 0,.int .u8 0,.int .u8 0,.int .u8 0,.nilFunc,.pointer none,.int .i32 0,.int .i32 0],.struct [(0,12),(1,12),(2,169),(3,287),(4,5),(5,5),(6,288),(7,289),(8,98),(9,290),(10,291)]⟩,
 some ⟨11,48,true,[.int .u64 0,.int .u64 0,.int .u32 0,.int .u8 0,.int .u8 0,.int .u8 0,.int .u8 0,.nilFunc,.pointer none,.int .i32 0,.int .i32 0],.struct [(0,12),(1,12),(2,169),(3,287),(4,5),(5,5),(6,288),(7,289),(8,98),(9,290),(10,291)]⟩]
def tabsT:List (List (Option TI)):=[tab0,tab1,tab2,tab3,tab4,tab5,tab6,tab7,tab8,tab9,tab10,tab11,tab12,tab13,tab14,tab15,tab16,tab17,tab18]
def marks:List (Nat×Bool):=[]
def tab:Tab:=⟨fun t=>nthT (nthT2 tabsT (t / 16)) (t % 16),markOf marks⟩
def ntab:Nat:=294
def TT:Tab:=tabN ntab tab
theorem tabOk:TabOk Tryz.prog tab ntab:=by unfold TabOk;kernel_rfl
theorem tok:TOk Tryz.prog TT:=TOk.of tabOk
theorem mixed:Tryz.prog.follows .mixedOrders=true:=by kernel_rfl
theorem sx {f:FuncId} {fn:Func} (hf:Tryz.prog.funcs[f]?=some fn) (hn:(fn.name== "runtime.NumGoroutine")=false) {args:List V} {res:V} (h:Body Tryz.prog TT fn args res):DCalls Tryz.prog f args res:=
 dcalls_of tok mixed hf hn h
theorem msx {f:FuncId} {fn:Func} (hf:Tryz.prog.funcs[f]?=some fn) (hn:(fn.name== "runtime.NumGoroutine")=false) {args:List V} {m:List Bk} {res:V} {m':List Bk} (h16:(decide (args.length≤fn.ntmps)&&decide (m.length≤16))=true)
  (h:BodyM (fun vs=>vs.flatMap V.bn) Tryz.prog TT fn args m res m'):MCalls Tryz.prog f args m res m':=
 mcalls_of tok mixed hf hn h16 h
def TM (fs:List (Nat×Bool)):Tab:=⟨TT.get,fun f=>match markOf fs f with
 |some b=>some b
 |none=>TT.fm f⟩
theorem tokM (fs:List (Nat×Bool)):TOk Tryz.prog (TM fs):=⟨tok.get⟩
theorem sxm (fs:List (Nat×Bool)) {f:FuncId} {fn:Func} (hf:Tryz.prog.funcs[f]?=some fn) (hn:(fn.name== "runtime.NumGoroutine")=false) {args:List V} {res:V} (h:Body Tryz.prog (TM fs) fn args res):DCalls Tryz.prog f args res:=
 dcalls_of (tokM fs) mixed hf hn h
theorem msxm (fs:List (Nat×Bool)) {f:FuncId} {fn:Func} (hf:Tryz.prog.funcs[f]?=some fn) (hn:(fn.name== "runtime.NumGoroutine")=false) {args:List V} {m:List Bk} {res:V} {m':List Bk} (h16:(decide (args.length≤fn.ntmps)&&decide (m.length≤16))=true)
  (h:BodyM (fun vs=>vs.flatMap V.bn) Tryz.prog (TM fs) fn args m res m'):MCalls Tryz.prog f args m res m':=
 mcalls_of (tokM fs) mixed hf hn h16 h
theorem msxg (fs:List (Nat×Bool)) {f:FuncId} {fn:Func} (hf:Tryz.prog.funcs[f]?=some fn) (hn:(fn.name== "runtime.NumGoroutine")=false) {args:List V} {m:List Bk} {res:V} {m':List Bk} (h16:(decide (args.length≤fn.ntmps)&&decide (m.length≤16))=true)
  (h:BodyG (fun vs=>vs.flatMap V.bn) Tryz.prog (TM fs) fn args m res m'):MCalls Tryz.prog f args m res m':=
 mcalls_ofG (tokM fs) mixed hf hn h16 h
theorem msxx (fs:List (Nat×Bool)) {f:FuncId} {fn:Func} (hf:Tryz.prog.funcs[f]?=some fn) (hn:(fn.name== "runtime.NumGoroutine")=false) {args:List V} {m:List Bk} {res:V} {m':List Bk} (h16:(decide (args.length≤fn.ntmps)&&decide (m.length≤16))=true) (h0:rows0 (inM fn.ntmps m)=true)
  (h:BodyX (fun vs=>vs.flatMap V.bn) Tryz.prog (TM fs) fn args m res m'):MCallsG true Tryz.prog f args m res m':=
 mcalls_x (tokM fs) mixed hf hn h16 h0 h
abbrev int (n:Int):V:= .cv (.int .i64 n)
abbrev boo (b:Bool):V:= .cv (.bool b)
abbrev str (s:ByteArray):V:= .cv (.string s)
end Go.Proofs.YtdccglkagfdooaaGreatDoor
namespace Go.Proofs.YtdccglkagfdooaaGreatDoor
open Go.RowKit
theorem fin_int {a b:Int} (h:a=b):int a=int b:=by rw[h]
theorem fin_boo {a b:Bool} (h:a=b):boo a=boo b:=by rw[h]
theorem get_map {α:Type} (f:α→List D) {l:List α} {k:Nat} (h:k<l.length):(l.map f)[(k:Int).toNat]?=some (f l[k]):=by
 simp[h]
theorem wrap_in {n:Int} (h: -9223372036854775808≤n∧n≤9223372036854775807):IntKind.i64.wrap n=n:=IntWalk.i64_in _ h
theorem wrap_succ {k:Nat} (h:k<9223372036854775807):IntKind.i64.wrap ((k:Int)+1)=((k+1:Nat):Int):=by
 rw[IntWalk.i64_in _ (by omega)];rfl
theorem and_rfl {α:Type} {a:α} {p:Prop} (h:p):a=a∧p:=⟨rfl,h⟩
theorem and_two {p q:Prop} (h:p) (h':q):p∧q:=⟨h,h'⟩
theorem and_val {a b:Int} {p:Prop} (e:a=b) (h:p):V.cv (.int .i64 a)=V.cv (.int .i64 b)∧p:=⟨by rw[e],h⟩
def V.val1:V→Option Value
 | .cv v=>some v
 | .kb b=>some (.bool b)
 |_=>none
def valsL:List V→Option (List Value)
 |[]=>some []
 |v::l=>match v.val1,valsL l with
  |some u,some us=>some (u::us)
  |_,_=>none
def V.val2:V→Option Value
 | .ag cs=>(valsL cs).map fun us=> .agg us.toArray
 |v=>v.val1
def valsL2:List V→Option (List Value)
 |[]=>some []
 |v::l=>match v.val2,valsL2 l with
  |some u,some us=>some (u::us)
  |_,_=>none
def V.val:V→Option Value
 | .tu vs=>(valsL2 vs).map fun us=> .tuple us.toArray
 |v=>v.val2
section
variable {N:Names} {S:Sets} {w:World}
theorem val1_eq {v:V} {u u':Value} (h:RelV N S w v u) (hv:v.val1=some u'):u=u':=by
 cases h<;>simp[V.val1] at hv<;>exact hv
theorem valsL_eq:∀(cs:List V) (us:List Value),valsL cs=some us→us.length=cs.length∧∀(i:Nat) (v:V),cs[i]?=some v→∃u,us[i]?=some u∧v.val1=some u
 |[],us,h=>by simp[valsL] at h;subst h;simp
 |c::cs,us,h=>by
  simp only[valsL] at h
  split at h
  ·rename_i u us' h1 h2
   cases h
   obtain⟨e1,e2⟩:=valsL_eq cs us' h2
   refine⟨by simp[e1],fun i v hv=>?_⟩
   cases i with
   |zero=>simp at hv;subst hv;exact⟨u,by simp,h1⟩
   |succ i=>simpa using e2 i v (by simpa using hv)
  ·cases h
theorem val2_eq {v:V} {u u':Value} (h:RelV N S w v u) (hv:v.val2=some u'):u=u':=by
 cases v with
 |ag cs=>
  simp only[V.val2,Option.map_eq_some_iff] at hv
  obtain⟨us',h1,rfl⟩:=hv
  obtain⟨e1,e2⟩:=valsL_eq cs us' h1
  cases h with
  |ag _ us hl h=>
   congr 1
   apply Array.ext'
   refine List.ext_getElem? fun i=>?_
   cases hi:cs[i]? with
   |none=>
    have h1:cs.length≤i:=List.getElem?_eq_none_iff.1 hi
    rw[List.getElem?_eq_none (by simp;omega),List.getElem?_eq_none (by simp;omega)]
   |some v=>
    obtain⟨u,h3,h4⟩:=e2 i v hi
    have:=val1_eq (h i v hi) h4
    have hlt:i<us.size:=by have:=lt_of_get hi;omega
    rw[get_of_lt hlt,this]
    simpa using h3.symm
 |_=>exact val1_eq h hv
theorem of_val1 {v:V} {u:Value} (hv:v.val1=some u):RelV N S w v u:=by
 cases v<;>simp[V.val1] at hv<;>subst hv
 ·exact .cv _
 ·exact .kb _
theorem of_val2 {v:V} {u:Value} (hv:v.val2=some u):RelV N S w v u:=by
 cases v with
 |ag cs=>
  simp only[V.val2,Option.map_eq_some_iff] at hv
  obtain⟨us',h1,rfl⟩:=hv
  obtain⟨e1,e2⟩:=valsL_eq cs us' h1
  refine .ag _ _ (by simp[e1]) fun i v hi=>?_
  obtain⟨u,h3,h4⟩:=e2 i v hi
  rw[getD_of_get (us:=us'.toArray) (by simpa using h3)]
  exact of_val1 h4
 |_=>exact of_val1 hv
theorem valsL2_eq:∀(cs:List V) (us:List Value),valsL2 cs=some us→us.length=cs.length∧∀(i:Nat) (v:V),cs[i]?=some v→∃u,us[i]?=some u∧v.val2=some u
 |[],us,h=>by simp[valsL2] at h;subst h;simp
 |c::cs,us,h=>by
  simp only[valsL2] at h
  split at h
  ·rename_i u us' h1 h2
   cases h
   obtain⟨e1,e2⟩:=valsL2_eq cs us' h2
   refine⟨by simp[e1],fun i v hv=>?_⟩
   cases i with
   |zero=>simp at hv;subst hv;exact⟨u,by simp,h1⟩
   |succ i=>simpa using e2 i v (by simpa using hv)
  ·cases h
theorem of_val {v:V} {u:Value} (hv:v.val=some u):RelV N S w v u:=by
 cases v with
 |tu cs=>
  simp only[V.val,Option.map_eq_some_iff] at hv
  obtain⟨us',h1,rfl⟩:=hv
  obtain⟨e1,e2⟩:=valsL2_eq cs us' h1
  refine .tu _ _ (by simp[e1]) fun i v hi=>?_
  obtain⟨u,h3,h4⟩:=e2 i v hi
  rw[getD_of_get (us:=us'.toArray) (by simpa using h3)]
  exact of_val2 h4
 |_=>exact of_val2 hv
end
theorem dcalls_val {f:FuncId} {fn:Func} {args:List V} {res:V} {us:List Value} {v:Value} (hf:Tryz.prog.funcs[f]?=some fn) (hn:(fn.name== "runtime.NumGoroutine")=false) (hb:fn.body.isNone=false) (ha:valsL2 args=some us) (hr:res.val=some v)
  (h:∀w,ginv w→Calls Tryz.prog f us.toArray w fun e w'=>e= .returned v∧Below w.heap.size w w'):DCalls Tryz.prog f args res:=by
 refine⟨⟨fn,hf,hn,hb⟩,fun w vs hg hvs=>?_⟩
 obtain⟨e1,e2⟩:=valsL2_eq args us ha
 have:vs=us:=by
  refine List.ext_getElem? fun i=>?_
  cases hi:args[i]? with
  |none=>
   have h1:args.length≤i:=List.getElem?_eq_none_iff.1 hi
   rw[List.getElem?_eq_none (by rw[←hvs.1];exact h1),List.getElem?_eq_none (by omega)]
  |some v=>
   obtain⟨u,h3,h4⟩:=e2 i v hi
   have h5:=val2_eq (hvs.2 i v hi) h4
   have hlt:i<vs.length:=by rw[←hvs.1];exact lt_of_get hi
   rw[h3,List.getElem?_eq_getElem hlt,←h5,List.getD_eq_getElem?_getD,List.getElem?_eq_getElem hlt]
   rfl
 subst this
 exact(h w hg).mono fun e w' ⟨he,hb⟩=>⟨v,he,of_val hr,hb⟩
end Go.Proofs.YtdccglkagfdooaaGreatDoor
namespace Go.Proofs.YtdccglkagfdooaaGreatDoor
open Go.RowKit
theorem known {c:Bool} (b:Bool) {K:Bool→Prop} (hc:c=b) (h:K b):∀b',c=b'→K b':=fun b' e=>by subst e;rw[hc];exact h
def sEq (a b:ByteArray):Bool:=a.toList==b.toList
def kws:List ByteArray:=[⟨#[102,117,110,99]⟩,⟨#[108,101,116]⟩,⟨#[105,102]⟩,⟨#[101,108,115,101]⟩,⟨#[119,104,105,108,101]⟩,⟨#[114,101,116,117,114,110]⟩,⟨#[97,110,100]⟩,⟨#[111,114]⟩,⟨#[110,111,116]⟩,⟨#[110,117,108,108]⟩,⟨#[116,114,117,101]⟩,⟨#[102,97,108,115,101]⟩]
def kwB (s:ByteArray):Bool:=kws.any fun k=>sEq s k
theorem x_keyword (s:ByteArray):DCalls Tryz.prog 153 [str s] (boo (kwB s)):=by
 refine sx Tryz.func153 (by kernel_rfl) ?_
 iterate 12 ((conv=>whnf);rintro(_|_) h;rotate_left;((conv=>whnf);exact fin_boo (by simp_all [kwB,kws,sEq])))
 conv=>whnf
 exact fin_boo (by simp_all [kwB,kws,sEq])
end Go.Proofs.YtdccglkagfdooaaGreatDoor
namespace Go.Proofs.YtdccglkagfdooaaGreatDoor
open Go.RowKit
abbrev Bs:=List UInt8
def mk (l:Bs):ByteArray:=⟨l.toArray⟩
abbrev bstr (l:Bs):V:=str (mk l)
theorem mk_of (s:ByteArray):mk s.data.toList=s:=rfl
theorem mk_size (l:Bs):(mk l).size=l.length:=by simp[mk,ByteArray.size]
theorem mk_get (l:Bs) (i:Nat):(mk l)[i]?=l[i]?:=by
 by_cases h:i<l.length
 ·rw[getElem?_pos (mk l) i (by rw[mk_size];exact h),List.getElem?_eq_getElem h]
  simp[mk,ByteArray.getElem_eq_getElem_data]
 ·rw[getElem?_neg (mk l) i (by rw[mk_size];exact h),List.getElem?_eq_none (by omega)]
theorem mk_inj {a b:Bs} (h:mk a=mk b):a=b:=by
 have:=congrArg (fun s:ByteArray=>s.data.toList) h
 simpa[mk] using this
theorem ba_ext {a b:ByteArray} (h:a.data.toList=b.data.toList):a=b:=by
 rw[←mk_of a,←mk_of b,h]
theorem mk_ext (l:Bs) (a b:Nat):(mk l).extract a b=mk ((l.take b).drop a):=by
 apply ba_ext
 simp[mk,ByteArray.data_extract,List.extract]
 rw[List.drop_take]
theorem mk_from (l:Bs) (a:Nat):(mk l).extract a l.length=mk (l.drop a):=by rw[mk_ext,List.take_length]
theorem mk_to (l:Bs) (b:Nat):(mk l).extract 0 b=mk (l.take b):=by rw[mk_ext,List.drop_zero]
theorem sEq_mk (a b:Bs):sEq (mk a) (mk b)=(a==b):=by
 have e:∀l:Bs,(mk l).toList=l:=by
  intro l
  rw[ByteArray.toList_eq]
  simp[mk]
 unfold sEq
 rw[e,e]
def isBl (c:UInt8):Bool:=c==32||c==9||c==10
def isHd (c:UInt8):Bool:=(decide (97≤c)&&decide (c≤122))||c==95
def isDg (c:UInt8):Bool:=decide (48≤c)&&decide (c≤57)
def syms:Bs:=[40,41,123,125,91,93,44,59,58,61,33,60,62,43,45,42,47,37]
def isSy (c:UInt8):Bool:=syms.contains c
def cls (c:UInt8):Int:=if isBl c then 1 else if isHd c then 2 else if isDg c then 3 else if c==34 then 4 else if c==64 then 5 else if isSy c then 6 else 0
def runT:Bs→Nat
 |[]=>0
 |c::l=>if isHd c||isDg c then runT l+1 else 0
def runL:Bs→Nat
 |[]=>0
 |c::l=>if isHd c then runT l+1 else 0
def digL:Bs→Nat
 |[]=>0
 |c::l=>if isDg c then digL l+1 else 0
def skp:Bool→Bs→Nat
 |_,[]=>0
 |false,c::l=>if isBl c then skp false l+1 else if c==47&&l.head? ==some 47 then skp true l+1 else 0
 |true,c::l=>if c==10 then skp false l+1 else skp true l+1
abbrev skip (l:Bs):Nat:=skp false l
def txt:Bs→Nat→Bs→Bs×Nat×Int
 |[],_,_=>([],0,1)
 |c::l,i,out=>if c<32||c>126 then([],i,1) else if c==34 then(out,i+1,0) else
  if c==92 then(match l with
   |[]=>([],i,1)
   |d::l'=>if d==34||d==92 then(if out.length=200 then([],0,3) else txt l' (i+2) (out++[d])) else([],i,1))
  else if out.length=200 then([],0,3) else txt l (i+1) (out++[c])
def dval:Bs→Nat→Nat
 |[],n=>n
 |c::l,n=>dval l (10*n+(c.toNat - 48))
def pnum (l:Bs):Int×Int:=if l.length>1∧l.head?=some 48 then(0,1) else if dval l 0>1000000000000 then(0,2) else(dval l 0,0)
structure Tok where
 kind:Int
 text:Bs
 val:Int
 at_:Int
def strD (b:Bs):List D:=[.cv (.string (mk b))]
abbrev strsV (l:List Bs):V:= .sl true 1 (l.map strD)
def tokD (t:Tok):List D:=[.cv (.int .i64 t.kind),.cv (.string (mk t.text)),.cv (.int .i64 t.val),.cv (.int .i64 t.at_)]
abbrev toks (l:List Tok):V:= .sl true 4 (l.map tokD)
abbrev Tok.V (t:Tok):V:= .ag [int t.kind,bstr t.text,int t.val,int t.at_]
def noTok:Tok:=⟨0,[],0,0⟩
def kwL (l:Bs):Bool:=kwB (mk l)
def symB (l:Bs):Bool:=l==[61,61]||l==[33,61]||l==[60,61]||l==[62,61]||(l.length==1&&l !=[33]&&isSy (l.headD 0))
def tok1 (l:Bs):Tok×Nat×Int:=
 match l with
 |[]=>(noTok,0,1)
 |c::r=>
  if isHd c then
   (if runL l>24 then(noTok,0,3) else if kwL (l.take (runL l)) then(⟨2,l.take (runL l),0,0⟩,runL l,0) else(⟨1,l.take (runL l),0,0⟩,runL l,0))
  else if isDg c then
   (if(pnum (l.take (digL l))).2=0 then(⟨3,[],(pnum (l.take (digL l))).1,0⟩,digL l,0) else(noTok,0,(pnum (l.take (digL l))).2))
  else if c==34 then
   (if(txt r 1 []).2.2=0 then(⟨4,(txt r 1 []).1,0,0⟩,(txt r 1 []).2.1,0) else(noTok,(txt r 1 []).2.1,(txt r 1 []).2.2))
  else if c==64 then
   (if runL r=0 then(noTok,0,1) else if runL r>24 then(noTok,0,3) else(⟨6,r.take (runL r),0,0⟩,runL r+1,0))
  else if 2≤l.length∧symB (l.take 2) then(⟨5,l.take 2,0,0⟩,2,0)
  else if symB (l.take 1) then(⟨5,l.take 1,0,0⟩,1,0)
  else(noTok,0,1)
def toksF:Nat→Bs→Nat→List Tok→List Tok×Nat×Int
 |0,_,_,out=>(out,0,0)
 |f+1,l,at_,out=>
  if l=[] then(out,0,0) else
  if out.length=1000 then([],at_,3) else
  if(tok1 l).2.2=0 then
   toksF f (l.drop ((tok1 l).2.1+skip (l.drop (tok1 l).2.1))) (at_+(tok1 l).2.1+skip (l.drop (tok1 l).2.1)) (out++[{(tok1 l).1 with at_:=at_}])
  else([],at_+(tok1 l).2.1,(tok1 l).2.2)
def tokens (l:Bs):List Tok×Nat×Int:=if l.length>4000 then([],0,3) else toksF l.length (l.drop (skip l)) (skip l) []
def wholeB (l:Bs):Bool:= !l.isEmpty&&decide (runL l=l.length)&&decide (l.length≤24)
def contB (l:Bs):Bool:=decide (l.length≤200)&&l.all fun c=> !(decide (c<32)||decide (c>126))
def esc:Bs→Bs
 |[]=>[]
 |c::l=>if c==34||c==92 then 92::c::esc l else c::esc l
def validB (n:Int):Bool:=decide (-1000000000000≤n)&&decide (n≤1000000000000)
def textT (t:Tok):Bs×Int:=
 if t.kind=3∧t.text=[]∧0≤t.val∧validB t.val then(Lib.itoa t.val,0)
 else if t.val≠0 then([],1)
 else if(t.kind=1∧wholeB t.text∧¬kwL t.text)∨(t.kind=2∧kwL t.text)∨(t.kind=5∧symB t.text) then(t.text,0)
 else if t.kind=6∧wholeB t.text then(64::t.text,0)
 else if t.kind=4∧contB t.text then(34::(esc t.text++[34]),0)
 else([],1)
end Go.Proofs.YtdccglkagfdooaaGreatDoor
