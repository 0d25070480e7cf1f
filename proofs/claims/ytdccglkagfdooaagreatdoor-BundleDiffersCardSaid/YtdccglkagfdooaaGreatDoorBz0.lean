/- Texts joined by pack.py: XWords XSxG0 -/
import Derived.Test.YtdccglkagfdooaaGreatDoorRows
import Derived.WalkKit
import Derived.WalkSpells
import Derived.WalkLawsBesides
import Derived.Lib.Hide
import Derived.Lib.LaidTab
import Derived.Lib.ItoaNum
namespace Go.Proofs.YtdccglkagfdooaaGreatDoor
open Go.RowKit
structure Rd (w:World) (B size:Nat) (A:Option Addr) (n:Nat) (xs:List Value):Prop where
 len:xs.length=n*size
 here:0<n→∃b o,A=some ⟨b,o,none⟩∧b<B∧∀j u,xs[j]?=some u→w.cell? ⟨b,o+j,none⟩=some u
theorem Rd.nil {w:World} {B size:Nat} {A:Option Addr}:Rd w B size A 0 []:=⟨by simp,fun h=>absurd h (by omega)⟩
theorem Rd.below {w w':World} {B size n:Nat} {A:Option Addr} {xs:List Value} (h:Rd w B size A n xs) (hb:Below B w w'):Rd w' B size A n xs:=
 ⟨h.len,fun hn=>by
  obtain⟨b,o,e,hlt,hc⟩:=h.here hn
  exact⟨b,o,e,hlt,fun j u hu=>(hb.cell (p:=⟨b,o+j,none⟩) hlt).trans (hc j u hu)⟩⟩
theorem Rd.more {w:World} {B B' size n:Nat} {A:Option Addr} {xs:List Value} (h:Rd w B size A n xs) (hB:B≤B'):Rd w B' size A n xs:=
 ⟨h.len,fun hn=>by
  obtain⟨b,o,e,hlt,hc⟩:=h.here hn
  exact⟨b,o,e,by omega,hc⟩⟩
theorem Rd.one {w:World} {B n k:Nat} {A:Option Addr} {xs:List Value} (h:Rd w B 1 A n xs) (hk:k<n):
  ∃b o u,A=some ⟨b,o,none⟩∧b<B∧xs[k]?=some u∧w.cell? ⟨b,o+k,none⟩=some u:=by
 obtain⟨b,o,e,hlt,hc⟩:=h.here (by omega)
 have hl:k<xs.length:=by have:=h.len;omega
 exact⟨b,o,xs[k],e,hlt,List.getElem?_eq_getElem hl,hc k _ (List.getElem?_eq_getElem hl)⟩
theorem Rd.fresh (w:World) (e:TypeId) (cs:Array Value) (B n:Nat) (hn:cs.size=n) (hB:w.heap.size<B):Rd (w.alloc (.cells cs e)) B 1 (some ⟨w.heap.size,0,none⟩) n cs.toList:=
 ⟨by simpa using hn,fun _=>⟨w.heap.size,0,rfl,hB,fun j u hu=>by
  rw[cell_of_row (w.alloc (.cells cs e)) w.heap.size (0+j) cs e (0,0) (heap_alloc_new w _),Nat.zero_add]
  simpa using hu⟩⟩
theorem own_parts {w:World} {base size n:Nat} {e:TypeId} {v:Value} {xs:List Value} (h:w.ownsRow base e size v n xs):∃A c,v= .slice A n c:=by
 rcases h.2 with⟨rfl,rfl⟩|⟨g,cap,cur,rfl,_⟩
 ·exact⟨none,0,rfl⟩
 ·exact⟨_,_,rfl⟩
end Go.Proofs.YtdccglkagfdooaaGreatDoor
namespace Go.Proofs.YtdccglkagfdooaaGreatDoor
open Go.RowKit
def gcells:Nat→Option (List Value)
 |3=>some [.string ⟨#[]⟩,.bool false,.bool false,.bool false,.int .i64 0,.int .i64 0,
  .string ⟨#[110,117,108,108]⟩,.bool false,.bool false,.bool false,.int .i64 0,.int .i64 1,
  .string ⟨#[98,111,111,108]⟩,.bool true,.bool false,.bool false,.int .i64 0,.int .i64 1,
  .string ⟨#[105,110,116]⟩,.bool true,.bool false,.bool false,.int .i64 0,.int .i64 1,
  .string ⟨#[115,116,114]⟩,.bool false,.bool true,.bool false,.int .i64 0,.int .i64 1,
  .string ⟨#[108,111,97,100]⟩,.bool true,.bool false,.bool false,.int .i64 0,.int .i64 1,
  .string ⟨#[115,116,111,114,101]⟩,.bool true,.bool false,.bool false,.int .i64 1,.int .i64 0,
  .string ⟨#[112,111,112]⟩,.bool false,.bool false,.bool false,.int .i64 1,.int .i64 0,
  .string ⟨#[117,110,97,114,121]⟩,.bool false,.bool true,.bool false,.int .i64 1,.int .i64 1,
  .string ⟨#[98,105,110,97,114,121]⟩,.bool false,.bool true,.bool false,.int .i64 2,.int .i64 1,
  .string ⟨#[105,110,100,101,120]⟩,.bool false,.bool false,.bool false,.int .i64 2,.int .i64 1,
  .string ⟨#[108,105,115,116]⟩,.bool true,.bool false,.bool false,.int .i64 (-1),.int .i64 1,
  .string ⟨#[109,97,112]⟩,.bool true,.bool false,.bool true,.int .i64 (-1),.int .i64 1,
  .string ⟨#[106,117,109,112]⟩,.bool true,.bool false,.bool false,.int .i64 0,.int .i64 0,
  .string ⟨#[102,97,108,115,101]⟩,.bool true,.bool false,.bool false,.int .i64 1,.int .i64 0,
  .string ⟨#[116,101,115,116]⟩,.bool false,.bool false,.bool false,.int .i64 1,.int .i64 1,
  .string ⟨#[100,117,112]⟩,.bool false,.bool false,.bool false,.int .i64 1,.int .i64 2,
  .string ⟨#[99,97,108,108]⟩,.bool true,.bool false,.bool false,.int .i64 (-1),.int .i64 1,
  .string ⟨#[98,117,105,108,116]⟩,.bool true,.bool true,.bool false,.int .i64 (-1),.int .i64 1,
  .string ⟨#[104,111,115,116]⟩,.bool true,.bool true,.bool false,.int .i64 (-1),.int .i64 1,
  .string ⟨#[114,101,116,117,114,110]⟩,.bool false,.bool false,.bool false,.int .i64 1,.int .i64 0]
 |8=>some [.int .u8 0,.int .u8 1,.int .u8 56,.int .u8 2,.int .u8 57,.int .u8 49,.int .u8 28,.int .u8 3,.int .u8 61,.int .u8 58,.int .u8 42,.int .u8 50,.int .u8 38,.int .u8 29,.int .u8 17,.int .u8 4,.int .u8 62,.int .u8 47,.int .u8 59,.int .u8 36,.int .u8 45,.int .u8 43,.int .u8 51,.int .u8 22,.int .u8 53,.int .u8 39,.int .u8 33,.int .u8 30,.int .u8 24,.int .u8 18,.int .u8 12,.int .u8 5,.int .u8 63,.int .u8 55,.int .u8 48,.int .u8 27,.int .u8 60,.int .u8 41,.int .u8 37,.int .u8 16,.int .u8 46,.int .u8 35,.int .u8 44,.int .u8 21,.int .u8 52,.int .u8 32,.int .u8 23,.int .u8 11,.int .u8 54,.int .u8 26,.int .u8 40,.int .u8 15,.int .u8 34,.int .u8 20,.int .u8 31,.int .u8 10,.int .u8 25,.int .u8 14,.int .u8 19,.int .u8 9,.int .u8 13,.int .u8 8,.int .u8 7,.int .u8 6]
 |_=>none
def glob:Nat→Prop:=fun g=>g=2∨g=4∨(gcells g).isSome=true
def ginv (w:World):Prop:=
 (∃ev,w.cell? ⟨2,0,none⟩=some ev∧(ev= .nilIface∨∃te pe,ev= .iface te pe))∧Lib.TabIs Tryz.prog w "internal/strconv.uint64pow10" .u64 Lib.pow10Tab∧
 ∀g cs,gcells g=some cs→g<w.heap.size∧∀i v,cs[i]?=some v→w.cell? ⟨g,i,none⟩=some v
theorem g3_named:Program.globalNamed Tryz.prog "internal/strconv.uint64pow10" =some 4:=by kernel_rfl
theorem ginv_cells {w:World} (h:ginv w) {g:Nat} {cs:List Value} (hg:gcells g=some cs):g<w.heap.size∧∀i v,cs[i]?=some v→w.cell? ⟨g,i,none⟩=some v:=h.2.2 g cs hg
theorem ginv_low {keep:Nat→Prop} {w w':World} (h:ginv w) (hk:∀g,glob g→keep g) (hl:∀k,keep k→w'.heap[k]?=w.heap[k]?):ginv w':=by
 obtain⟨⟨ev,h1,h2⟩,h3,h4⟩:=h
 have e2:=hl _ (hk 2 (.inl rfl))
 have e3:=hl _ (hk 4 (.inr (.inl rfl)))
 refine⟨⟨ev,?_,h2⟩,?_,fun g cs hg=>?_⟩
 ·rw[←h1];unfold World.cell?;simp only[e2]
 ·unfold Lib.TabIs World.var? at h3⊢
  rw[g3_named] at h3⊢
  simp only[Option.bind_some,e3] at h3⊢
  exact h3
 ·have e4:=hl g (hk g (.inr (.inr (by rw[hg];rfl))))
  obtain⟨h5,h6⟩:=h4 g cs hg
  refine⟨?_,fun i v hv=>?_⟩
  ·rcases Nat.lt_or_ge g w'.heap.size with h|h
   ·exact h
   ·rw[Array.getElem?_eq_none h,Array.getElem?_eq_getElem h5] at e4;cases e4
  ·rw[←h6 i v hv];unfold World.cell?;simp only[e4]
theorem ginv_lt {w:World} (h:ginv w) {g:Nat} (hg:glob g):g<w.heap.size:=by
 obtain⟨⟨ev,h1,h2⟩,h3,h4⟩:=h
 rcases hg with rfl|rfl|hg
 ·unfold World.cell? at h1
  rcases Nat.lt_or_ge 2 w.heap.size with h|h
  ·exact h
  ·simp[Array.getElem?_eq_none h] at h1
 ·unfold Lib.TabIs World.var? at h3
  rw[g3_named] at h3
  rcases Nat.lt_or_ge 4 w.heap.size with h|h
  ·exact h
  ·simp[Array.getElem?_eq_none h] at h3
 ·obtain⟨cs,hc⟩:=Option.isSome_iff_exists.1 hg
  exact(h4 g cs hc).1
end Go.Proofs.YtdccglkagfdooaaGreatDoor
