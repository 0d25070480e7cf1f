/- Texts joined by pack.py: XBdK -/
import Derived.Test.YtdccglkagfdooaaGreatDoorBz0
import Derived.Test.YtdccglkagfdooaaGreatDoorRows
import Derived.LaidLaws
import Derived.OpenShut
import Derived.Stop.LaidErr
import Derived.Lib.LaidTab
set_option maxRecDepth 100000
namespace Go.Proofs.YtdccglkagfdooaaGreatDoor
open Go.RowKit Go.ChangeShapes
abbrev laidVars:List (String×DataW Unit):=[("math/bits.deBruijn32tab",Rows.laid_math_bits_deBruijn32tab),("math/bits.deBruijn64tab",Rows.laid_math_bits_deBruijn64tab),("internal/strconv.uint64pow10",Rows.laid_internal_strconv_uint64pow10),("unicode/utf8.acceptRanges",Rows.laid_unicode_utf8_acceptRanges),("strconv.ErrRange",Rows.laid_strconv_ErrRange),("strconv.ErrSyntax",Rows.laid_strconv_ErrSyntax),("faas/code.shapes",Rows.laid_faas_code_shapes),("unicode/utf8.first",Rows.laid_unicode_utf8_first)]
theorem star_err: "*" ++ "errors.errorString" = "*errors.errorString" :=by decide
theorem row_err (u:TypeId) (h:Tryz.prog.typeName? 3 u=some "*errors.errorString"):u=213:=
 typeName_ptr_named (nm:= "errors.errorString") (by rw[star_err];kernel_rfl) (by kernel_rfl) (by decide) u (by rw[star_err];exact h)
theorem g2_named:Program.globalNamed Tryz.prog "strconv.ErrRange" =some 2:=by kernel_rfl
theorem pow10Tab_data:(Rows.laid_internal_strconv_uint64pow10:DataW Unit)=Lib.tabData .u64 Lib.pow10Tab:=by
 unfold Rows.laid_internal_strconv_uint64pow10 Lib.tabData Lib.pow10Tab
 simp[List.range,List.range.loop]
def tab64:List Int:=[0,1,56,2,57,49,28,3,61,58,42,50,38,29,17,4,62,47,59,36,45,43,51,22,53,39,33,30,24,18,12,5,63,55,48,27,60,41,37,16,46,35,44,21,52,32,23,11,54,26,40,15,34,20,31,10,25,14,19,9,13,8,7,6]
theorem g1_named:Program.globalNamed Tryz.prog "math/bits.deBruijn64tab" =some 8:=by kernel_rfl
theorem tab64_data:(Rows.laid_math_bits_deBruijn64tab:DataW Unit)=Lib.tabData .u8 tab64:=rfl
theorem tab64_cells:gcells 8=some (tab64.map (.int .u8)):=rfl
theorem g0_named:Program.globalNamed Tryz.prog "faas/code.shapes" =some 3:=by kernel_rfl
structure Sh where
 s:List UInt8
 a:Bool
 b:Bool
 c:Bool
 x:Int
 y:Int
def Sh.d (r:Sh):DataW Unit:= .agg [.lit (.string r.s),.lit (.bool r.a),.lit (.bool r.b),.lit (.bool r.c),.lit (.int .i64 r.x),.lit (.int .i64 r.y)]
def Sh.cells (r:Sh):List Value:=[.string ⟨⟨r.s⟩⟩,.bool r.a,.bool r.b,.bool r.c,.int .i64 r.x,.int .i64 r.y]
def shL:List Sh:=[
 ⟨[],false,false,false,0,0⟩,
 ⟨[110,117,108,108],false,false,false,0,1⟩,
 ⟨[98,111,111,108],true,false,false,0,1⟩,
 ⟨[105,110,116],true,false,false,0,1⟩,
 ⟨[115,116,114],false,true,false,0,1⟩,
 ⟨[108,111,97,100],true,false,false,0,1⟩,
 ⟨[115,116,111,114,101],true,false,false,1,0⟩,
 ⟨[112,111,112],false,false,false,1,0⟩,
 ⟨[117,110,97,114,121],false,true,false,1,1⟩,
 ⟨[98,105,110,97,114,121],false,true,false,2,1⟩,
 ⟨[105,110,100,101,120],false,false,false,2,1⟩,
 ⟨[108,105,115,116],true,false,false,(-1),1⟩,
 ⟨[109,97,112],true,false,true,(-1),1⟩,
 ⟨[106,117,109,112],true,false,false,0,0⟩,
 ⟨[102,97,108,115,101],true,false,false,1,0⟩,
 ⟨[116,101,115,116],false,false,false,1,1⟩,
 ⟨[100,117,112],false,false,false,1,2⟩,
 ⟨[99,97,108,108],true,false,false,(-1),1⟩,
 ⟨[98,117,105,108,116],true,true,false,(-1),1⟩,
 ⟨[104,111,115,116],true,true,false,(-1),1⟩,
 ⟨[114,101,116,117,114,110],false,false,false,1,0⟩]
theorem shapes_data:(Rows.laid_faas_code_shapes:DataW Unit)= .agg (shL.map Sh.d):=rfl
theorem shapes_cells:gcells 3=some (shL.map Sh.cells).flatten:=rfl
theorem cells_shape:Tryz.prog.cellsOf 203=6:=by kernel_rfl
theorem cells_s:Tryz.prog.cellsOf 9=1:=by kernel_rfl
theorem cells_b:Tryz.prog.cellsOf 4=1:=by kernel_rfl
theorem cells_i:Tryz.prog.cellsOf 3=1:=by kernel_rfl
section
variable {enc:TypeId×Value→Unit} {w:World} {base:Nat} {sp:Nat→Bool} {held:Bool} {fuel:Nat} {cs:List Value} {p:List MemPlace}
theorem shape_of {r:Sh} (h:DataW.trod enc Tryz.prog w base sp held fuel 203 cs=some (r.d,p)):cs=r.cells:=by
 obtain⟨xs,n,_,hx,hl,hlen,hf⟩:=DataW.trod_struct Tryz.underlying203 h
 rw[cells_shape] at hl
 match cs,hl with
 |[c0,c1,c2,c3,c4,c5],_=>
 match xs,hlen with
 |[y0,y1,y2,y3,y4,y5],_=>
  have g0:DataW.trod enc Tryz.prog w base sp held n 9 (([c0,c1,c2,c3,c4,c5].drop 0).take (Tryz.prog.cellsOf 9))=some y0:=hf 0 _ rfl
  have g1:DataW.trod enc Tryz.prog w base sp held n 4 (([c0,c1,c2,c3,c4,c5].drop 1).take (Tryz.prog.cellsOf 4))=some y1:=hf 1 _ rfl
  have g2:DataW.trod enc Tryz.prog w base sp held n 4 (([c0,c1,c2,c3,c4,c5].drop 2).take (Tryz.prog.cellsOf 4))=some y2:=hf 2 _ rfl
  have g3:DataW.trod enc Tryz.prog w base sp held n 4 (([c0,c1,c2,c3,c4,c5].drop 3).take (Tryz.prog.cellsOf 4))=some y3:=hf 3 _ rfl
  have g4:DataW.trod enc Tryz.prog w base sp held n 3 (([c0,c1,c2,c3,c4,c5].drop 4).take (Tryz.prog.cellsOf 3))=some y4:=hf 4 _ rfl
  have g5:DataW.trod enc Tryz.prog w base sp held n 3 (([c0,c1,c2,c3,c4,c5].drop 5).take (Tryz.prog.cellsOf 3))=some y5:=hf 5 _ rfl
  clear hf h
  rw[cells_s] at g0
  rw[cells_b] at g1 g2 g3
  rw[cells_i] at g4 g5
  obtain⟨s,e0,r0,_⟩:=DataW.trod_string Tryz.underlying9 g0
  obtain⟨b1,e1,r1⟩:=DataW.trod_bool Tryz.underlying4 g1
  obtain⟨b2,e2,r2⟩:=DataW.trod_bool Tryz.underlying4 g2
  obtain⟨b3,e3,r3⟩:=DataW.trod_bool Tryz.underlying4 g3
  obtain⟨i4,e4,r4,_⟩:=DataW.trod_int Tryz.underlying3 g4
  obtain⟨i5,e5,r5,_⟩:=DataW.trod_int Tryz.underlying3 g5
  subst r0 r1 r2 r3 r4 r5
  have hx:=congrArg Prod.fst hx
  obtain⟨s',a',b',c',x',y'⟩:=r
  simp only[Sh.d,List.map_cons,List.map_nil,DataW.agg.injEq,List.cons.injEq,DataW.lit.injEq,Lit.string.injEq,Lit.bool.injEq,Lit.int.injEq,true_and,and_true] at hx
  obtain⟨rfl,rfl,rfl,rfl,rfl,rfl⟩:=hx
  simp at e0 e1 e2 e3 e4 e5
  subst e0 e1 e2 e3 e4 e5
  rfl
theorem chunks:∀(L:List Sh) (cs:List Value),cs.length=6*L.length→(∀i (h:i<L.length),(cs.drop (i*6)).take 6=L[i].cells)→cs=(L.map Sh.cells).flatten
 |[],cs,h,_=>List.eq_nil_of_length_eq_zero h
 |r::L,cs,h,hi=>by
  have h0:cs.take 6=r.cells:=hi 0 (Nat.zero_lt_succ _)
  have h1:=chunks L (cs.drop 6) (by rw[List.length_drop,h,List.length_cons];omega) fun i hl=>by
   have:=hi (i+1) (by simpa using hl)
   rw[List.drop_drop]
   rw[show 6+i*6=(i+1)*6 by omega]
   exact this
  rw[List.map_cons,List.flatten_cons,←h0,←h1,List.take_append_drop]
theorem shapes_of {d:Nat} (_hd:fuel=d) (h:DataW.trod enc Tryz.prog w base sp held fuel 204 cs=some (.agg (shL.map Sh.d),p)):cs=(shL.map Sh.cells).flatten:=by
 obtain⟨xs,n,_,hx,hl,hlen,hf⟩:=DataW.trod_array Tryz.underlying204 h
 rw[show Tryz.prog.cellsOf 204=126 by kernel_rfl] at hl
 rw[cells_shape] at hf
 have hx:shL.map Sh.d=xs.map (·.1):=by
  have:=congrArg Prod.fst hx
  simpa using this
 have h21:shL.length=21:=rfl
 refine chunks shL cs (by rw[hl,h21]) fun i hi=>?_
 have h1:=hf i (by rw[h21] at hi;exact hi)
 have h2:xs[i]?=some xs[i]:=List.getElem?_eq_getElem (by rw[hlen];rw[h21] at hi;exact hi)
 rw[h2] at h1
 have h3:xs[i].1=shL[i].d:=by
  have:=congrArg (fun l=>l[i]?) hx
  simp only[List.getElem?_map,h2,List.getElem?_eq_getElem hi,Option.map_some,Option.some.injEq] at this
  exact this.symm
 exact shape_of (r:=shL[i]) (p:=xs[i].2) (h1.trans (by rw[←h3]))
end
theorem ginv_of_laid {W:World} (h:laidMet Tryz.prog laidVars W):ginv W:=by
 have h2:=h.tail
 have h3:=h2.tail
 have h4:=h3.tail.tail
 have h6:=h4.tail.tail
 obtain⟨a,s,hv,hc,_⟩:=laid_sentinel h4 g2_named (ti:=74) (by kernel_rfl) Tryz.underlying74 row_err Tryz.underlying213 Tryz.underlying215 rfl rfl Tryz.underlying9 (by kernel_rfl) (by kernel_rfl)
 refine⟨⟨_,by simpa using World.var?_cell g2_named hv 0,.inr ⟨_,_,rfl⟩⟩,?_⟩
 rw[pow10Tab_data] at h3
 rw[tab64_data] at h2
 refine⟨Lib.tabIs_of_head (t:=209) (e:=65) (n:=20) g3_named (by kernel_rfl) (by kernel_rfl) (by kernel_rfl) (by kernel_rfl) (by kernel_rfl) h3,?_⟩
 have ht:Lib.TabIs Tryz.prog W "math/bits.deBruijn64tab" .u8 tab64:=Lib.tabIs_of_head (t:=254) (e:=5) (n:=64) g1_named (by kernel_rfl) (by kernel_rfl) (by kernel_rfl) (by kernel_rfl) (by kernel_rfl) h2
 have hcell:∀i v,(tab64.map (Value.int .u8))[i]?=some v→W.cell? ⟨8,i,none⟩=some v:=fun i v hv=>by
  have hi:=(List.getElem?_eq_some_iff.1 hv).1
  rw[List.length_map] at hi
  rw[ht.cell g1_named i hi,←hv,List.getElem?_map,List.getElem?_eq_getElem hi,List.getD_eq_getElem?_getD,List.getElem?_eq_getElem hi]
  rfl
 obtain⟨ps,⟨g',t',cs,fuel,p,q,hg',ht',hvar,hd,_,_⟩,_⟩:=h6
 obtain rfl:=Option.some.inj (g0_named.symm.trans hg')
 obtain rfl:=Option.some.inj ((show(Tryz.prog.globals[3]?).map (·.type)=some 204 by kernel_rfl).symm.trans ht')
 rw[shapes_data] at hd
 have hcs:=shapes_of rfl hd
 have hcell2:∀i v,(shL.map Sh.cells).flatten[i]?=some v→W.cell? ⟨3,i,none⟩=some v:=fun i v hv=>by
  rw[World.var?_cell g0_named hvar i,←hv,←hcs]
  simp
 intro g cs' hg
 have hg0:g=3∨g=8:=by
  unfold gcells at hg
  split at hg
  ·exact .inl rfl
  ·exact .inr rfl
  ·cases hg
 have hlt:∀(g:Nat) (v:Value),W.cell? ⟨g,0,none⟩=some v→g<W.heap.size:=fun g v this=>by
  unfold World.cell? at this
  rcases Nat.lt_or_ge g W.heap.size with hlt|hge
  ·exact hlt
  ·rw[Array.getElem?_eq_none hge] at this
   simp at this
 rcases hg0 with rfl|rfl
 ·rw[shapes_cells] at hg
  cases hg
  exact⟨hlt _ _ (hcell2 0 (.string ⟨⟨[]⟩⟩) rfl),hcell2⟩
 ·rw[tab64_cells] at hg
  cases hg
  exact⟨hlt _ _ (hcell 0 (.int .u8 0) rfl),hcell⟩
abbrev rangeS:ByteArray:={data:= #[118,97,108,117,101,32,111,117,116,32,111,102,32,114,97,110,103,101]}
abbrev syntaxS:ByteArray:={data:= #[105,110,118,97,108,105,100,32,115,121,110,116,97,120]}
noncomputable def low0:Nat:=(World.holding Tryz.prog default ⟨#[],#[],[]⟩).heap.size
def cellsD:Nat→DataW Unit→List Value
 |_,.lit (.int k z)=>[.int k z]
 |_,.lit (.bool b)=>[.bool b]
 |_,.lit (.string s)=>[.string ⟨⟨s⟩⟩]
 |n+1,.agg xs=>xs.flatMap (cellsD n)
 |_,_=>[]
def lay (cs:Array Value):Obj→Obj
 | .cells _ t frozen=> .cells cs t frozen
 |o=>o
def layD (d:DataW Unit):Obj→Obj:=lay (cellsD 3 d).toArray
noncomputable def laidWorld (os:Os):World:=
 let w0:=World.holding Tryz.prog os ⟨#[.cells #[.string rangeS] 215,.cells #[.string syntaxS] 215],#[],[]⟩
 {w0 with heap:=(((((((w0.heap.modify 1 (lay #[.iface 213 (.pointer (some ⟨low0+1,0,none⟩))])).modify 2 (lay #[.iface 213 (.pointer (some ⟨low0,0,none⟩))])).modify 4 (layD Rows.laid_internal_strconv_uint64pow10)).modify 7 (layD Rows.laid_math_bits_deBruijn32tab)).modify 8 (layD Rows.laid_math_bits_deBruijn64tab)).modify 3 (layD Rows.laid_faas_code_shapes)).modify 6 (layD Rows.laid_unicode_utf8_acceptRanges)).modify 5 (layD Rows.laid_unicode_utf8_first)}
theorem laidWorld_met (os:Os) (args:Array Value):laidMet Tryz.prog laidVars ((laidWorld os).forCall (fun _ _=>0) ⟨#[],args,[]⟩).memory:=
 laidMet_of_run' 8 (by kernel_rfl) (by kernel_rfl)
end Go.Proofs.YtdccglkagfdooaaGreatDoor
