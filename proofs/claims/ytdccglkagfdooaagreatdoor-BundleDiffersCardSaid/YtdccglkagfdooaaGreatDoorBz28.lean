/- Texts joined by pack.py: XStS XSxIs XStG XLx18 XLx19 XLx21 XLx22 XLx24 XSyDb XSy3 XLx27 XSyWA XSyWB -/
import Derived.Shelf.Strings.Builder1
import Derived.Shelf.Strings.Builder2
import Derived.Shelf.Strings.OnBuilder
import Derived.Shelf.Small.Utf8
import Derived.Shelf.Small.Bits
import Derived.Shelf.Small.Strs
import Derived.Shelf.Strings.BuilderF
import Derived.Shelf.Utf8.RuneCount
import Derived.Shelf.Strconv.Atoi
import Derived.Shelf.Strconv.Itoa0
import Derived.Shelf.Strconv.Itoa1
import Derived.Shelf.LaysM
import Derived.Shelf.Strconv.Itoa2
import Derived.Shelf.Strconv.Itoa3
import Derived.Shelf.Strconv.AtoiErrFast
import Derived.Shelf.Strconv.ParseIntEmpty
import Derived.Shelf.Strconv.AtoiFail
import Derived.Shelf.Strconv.Clone
import Derived.Shelf.Strconv.SyntaxError
import Derived.Shelf.LaysC
import Derived.Shelf.Strconv.ToError
import Derived.Shelf.Strconv.Lower
import Derived.Shelf.Strconv.ParseUint10
import Derived.Shelf.Strconv.ParseUint10Empty
import Derived.Shelf.Strconv.ParseUint10Any
import Derived.Shelf.Strconv.ParseInt10
import Derived.Shelf.Strconv.AtoiLong
import Derived.Shelf.Strconv.AtoiInnerAll
import Derived.Shelf.Strconv.RangeError
import Derived.Shelf.Strconv.ToErrorRange
import Derived.Shelf.Strconv.AtoiAll
import Derived.Shelf.Strings.Search1
import Derived.Shelf.Strings.Search2
import Derived.Shelf.Strings.Search3
import Derived.Shelf.Strings.Count
import Derived.Shelf.Strings.Shaped
import Derived.Shelf.Sort.Plain
import Derived.Shelf.Strings.Prefix
import Derived.Shelf.Strings.Split
import Derived.Shelf.Strings.Runes
import Derived.Shelf.Strings.RuneCount
import Derived.Shelf.Bits.Mul64
import Derived.Shelf.Strings.Repeat
import Derived.Ground.Names2Prog
import Derived.Shelf.Slices.CompactS
import Derived.Shelf.Slices.Cells
import Derived.Shelf.Slices.In.SortNone
import Derived.Test.YtdccglkagfdooaaGreatDoorChecked
import Derived.Test.YtdccglkagfdooaaGreatDoorBz14
import Derived.Test.YtdccglkagfdooaaGreatDoorBz12
import Derived.Test.YtdccglkagfdooaaGreatDoorBz25
import Derived.Test.YtdccglkagfdooaaGreatDoorBz24
import Derived.Test.YtdccglkagfdooaaGreatDoorBz26
import Derived.Tactics
import Derived.Tactics2
import Derived.Defers
import Derived.Laws.Pointers
import Derived.Laws.LoneSync
import Derived.RegionTactic
import Derived.RegionCalls
import Derived.ChangeAlike
import Derived.LoopN
import Derived.Test.YtdccglkagfdooaaGreatDoorBz16
set_option maxHeartbeats 8000000
set_option maxRecDepth 100000
namespace Go.Proofs
open Go.Shelf
def Tryz.lays190_ren:Go.Shelf.Ren:=⟨fun|190=>125|125=>168|258=>167|128=>199|129=>142|302=>190|303=>191|304=>192|305=>193|306=>194|307=>195|308=>196|309=>197|310=>198|333=>208|329=>209|330=>210|334=>211|335=>212|336=>213|344=>217|n=>n,fun|31=>22|9=>9|3=>3|46=>68|0=>0|51=>169|53=>65|4=>4|183=>245|182=>244|131=>103|5=>5|218=>257|222=>49|228=>266|229=>267|n=>n,fun|n=>n⟩
theorem Tryz.lays190:Go.Proofs.Lays.n190 Tryz.prog Tryz.lays190_ren:={
 mixed:=by kernel_rfl
 f125:=Tryz.func168.trans (congrArg some (by kernel_rfl))
 f128:=Tryz.func199.trans (congrArg some (by kernel_rfl))
 f129:=Tryz.func142.trans (congrArg some (by kernel_rfl))
 f190:=Tryz.func125.trans (congrArg some (by kernel_rfl))
 f258:=Tryz.func167.trans (congrArg some (by kernel_rfl))
 f302:=Tryz.func190.trans (congrArg some (by kernel_rfl))
 f303:=Tryz.func191.trans (congrArg some (by kernel_rfl))
 f304:=Tryz.func192.trans (congrArg some (by kernel_rfl))
 f305:=Tryz.func193.trans (congrArg some (by kernel_rfl))
 f306:=Tryz.func194.trans (congrArg some (by kernel_rfl))
 f307:=Tryz.func195.trans (congrArg some (by kernel_rfl))
 f308:=Tryz.func196.trans (congrArg some (by kernel_rfl))
 f309:=Tryz.func197.trans (congrArg some (by kernel_rfl))
 f310:=Tryz.func198.trans (congrArg some (by kernel_rfl))
 f329:=Tryz.func209.trans (congrArg some (by kernel_rfl))
 f330:=Tryz.func210.trans (congrArg some (by kernel_rfl))
 f333:=Tryz.func208.trans (congrArg some (by kernel_rfl))
 f334:=Tryz.func211.trans (congrArg some (by kernel_rfl))
 f335:=Tryz.func212.trans (congrArg some (by kernel_rfl))
 f336:=Tryz.func213.trans (congrArg some (by kernel_rfl))
 f344:=Tryz.func217.trans (congrArg some (by kernel_rfl))
 t0:=Tryz.underlying0
 a0:=Tryz.isAgg0
 z0:=Tryz.sizeOf0
 v0:=Tryz.zeroValue0
 t3:=Tryz.underlying3
 a3:=Tryz.isAgg3
 z3:=Tryz.sizeOf3
 v3:=Tryz.zeroValue3
 t4:=Tryz.underlying4
 a4:=Tryz.isAgg4
 z4:=Tryz.sizeOf4
 v4:=Tryz.zeroValue4
 t5:=Tryz.underlying5
 a5:=Tryz.isAgg5
 z5:=Tryz.sizeOf5
 v5:=Tryz.zeroValue5
 t9:=Tryz.underlying9
 a9:=Tryz.isAgg9
 z9:=Tryz.sizeOf9
 v9:=Tryz.zeroValue9
 t31:=Tryz.underlying22
 a31:=Tryz.isAgg22
 z31:=Tryz.sizeOf22
 v31:=Tryz.zeroValue22
 t46:=Tryz.underlying68
 a46:=Tryz.isAgg68
 z46:=Tryz.sizeOf68
 v46:=Tryz.zeroValue68
 t51:=Tryz.underlying169
 a51:=Tryz.isAgg169
 z51:=Tryz.sizeOf169
 v51:=Tryz.zeroValue169
 t53:=Tryz.underlying65
 a53:=Tryz.isAgg65
 z53:=Tryz.sizeOf65
 v53:=Tryz.zeroValue65
 t131:=Tryz.underlying103
 a131:=Tryz.isAgg103
 z131:=Tryz.sizeOf103
 v131:=Tryz.zeroValue103
 t182:=Tryz.underlying244
 a182:=Tryz.isAgg244
 z182:=Tryz.sizeOf244
 v182:=Tryz.zeroValue244
 t183:=Tryz.underlying245
 a183:=Tryz.isAgg245
 z183:=Tryz.sizeOf245
 v183:=Tryz.zeroValue245
 t218:=Tryz.underlying257
 a218:=Tryz.isAgg257
 z218:=Tryz.sizeOf257
 v218:=Tryz.zeroValue257
 t222:=Tryz.underlying49
 a222:=Tryz.isAgg49
 z222:=Tryz.sizeOf49
 v222:=Tryz.zeroValue49
 t228:=Tryz.underlying266
 a228:=Tryz.isAgg266
 z228:=Tryz.sizeOf266
 v228:=Tryz.zeroValue266
 t229:=Tryz.underlying267
 a229:=Tryz.isAgg267
 z229:=Tryz.sizeOf267
 v229:=Tryz.zeroValue267}
open Go.Sort Go.RowKit in
theorem Tryz.slices_Sort_string (blk off cap:Nat) (ss:List (List UInt8)) (w:World) (hH:Holds encStr w blk off ss.toArray) (hblk:blk<w.heap.size) (hsz:ss.length<4611686018427387904):
  Calls Tryz.prog 125 #[.slice (some ⟨blk,off,none⟩) ss.length cap] w fun e w'=>
   e= .returned (.tuple #[])∧∃n os,w'=grow (putRow encStr (Sort.ahead w n) blk off (ss.mergeSort fun x y=>decide (x≤y)).toArray) os:=Any.slices_Sort_string Tryz.lays190 blk off cap ss w hH hblk hsz
open Go.RowKit Go.Sort in
theorem Tryz.slices_Sort_string_none (p:Option Addr) (cap:Nat) (w:World):
  Calls Tryz.prog 125 #[.slice p 0 cap] w fun e w'=>e= .returned (.tuple #[])∧w'=w:=Any.slices_Sort_string_none Tryz.lays190 p cap w
end Go.Proofs
namespace Go.Proofs.YtdccglkagfdooaaGreatDoor
open Go.RowKit Go.Shelf Go.Proofs
structure PutS (w:World) (g:Nat) (zs:List (List UInt8)) (w':World):Prop where
 os:w'.os=w.os
 tape:w'.tape=w.tape
 output:w'.output=w.output
 size:w.heap.size≤w'.heap.size
 other:∀k,k<w.heap.size→k≠g→w'.heap[k]?=w.heap[k]?
 row:∀cu E,w.heap[g]?=some (.cells cu E (0,0))→∃cu',w'.heap[g]?=some (.cells cu' E (0,0))∧cu'.size=cu.size∧∀i (h:i<zs.length),i<cu.size→cu'[i]?=some (encStr zs[i])
theorem putS_row {w:World} {g n:Nat} {os:Array Obj} {zs:List (List UInt8)}:PutS w g zs (Sort.grow (Sort.putRow encStr (Sort.ahead w n) g 0 zs.toArray) os):=by
 refine⟨rfl,rfl,rfl,by unfold Sort.grow Sort.putRow Sort.mapBlock Sort.ahead;simp,fun k hk hne=>?_,fun cu E h=>?_⟩
 ·unfold Sort.grow Sort.putRow Sort.mapBlock Sort.ahead
  simp only
  rw[Array.getElem?_append_left (by simpa using hk),Array.getElem?_modify,if_neg (Ne.symm hne)]
 ·have hlt:=(Array.getElem?_eq_some_iff.1 h).1
  refine⟨Sort.putCells encStr 0 zs.toArray cu,?_,by simp[Sort.putCells],fun i hi hc=>?_⟩
  ·unfold Sort.grow Sort.putRow Sort.mapBlock Sort.ahead
   simp only
   rw[Array.getElem?_append_left (by simpa using hlt),Array.getElem?_modify,if_pos rfl,h]
   rfl
  ·unfold Sort.putCells
   rw[Array.getElem?_mapIdx]
   simp[hc,hi]
section
variable {P:Program} {T:Tab}
theorem map_str_get {zs:List (List UInt8)} {i j:Nat} {d:D} (h:(((zs.map fun z=>[D.cv (encStr z)])[i]?).bind fun x=>x[j]?)=some d):j=0∧∃h:i<zs.length,d= .cv (encStr zs[i]):=by
 rw[List.getElem?_map] at h
 cases hi:zs[i]? with
 |none=>rw[hi] at h;cases h
 |some z=>
  rw[hi] at h
  obtain⟨hlt,rfl⟩:=List.getElem?_eq_some_iff.1 hi
  cases j with
  |zero=>simp at h;exact⟨rfl,hlt,h.symm⟩
  |succ j=>simp at h
theorem ot_inplaceS {o:Oper} {E:Operand→V} {m:List (Option Bk)} {c:Call} {f:FuncId} {n k Er:Nat} {zs zs':List (List UInt8)} {res:V} (Ok:Option Addr→Nat→Value→Prop) (ho:o.op= .call c) (hc:calleeV E c=some (f,[],[])) (hargs:zA T E c.args.toList c.argTypes.toList=[.ow n k])
  (hm:m[n]?=some (some (.row k Er 1 true (zs.map fun z=>[D.cv (encStr z)])))) (hlen:zs'.length=zs.length) (hF:∃fn,P.funcs[f]?=some fn∧(fn.name== "runtime.NumGoroutine")=false∧fn.body.isNone=false)
  (hcall0:zs=[]→∀(w:World) (A:Option Addr) (cap:Nat),Calls P f #[.slice A 0 cap] w fun e w'=>∃r,e= .returned r∧Ok A cap r∧w'=w)
  (hcall:∀(w:World) (g cap:Nat),Sort.Holds encStr w g 0 zs.toArray→g<w.heap.size→zs.length≤cap→Calls P f #[.slice (some ⟨g,0,none⟩) zs.length cap] w fun e w'=>∃r,e= .returned r∧Ok (some ⟨g,0,none⟩) cap r∧PutS w g zs' w')
  (hres:∀(N:Names) (S:Sets) (w':World) (A:Option Addr) (cap:Nat) (r:Value),Ok A cap r→N n=some (k,.slice A zs.length cap)→RelV N S w' res r):
  OpTr P o E m res (m.set n (some (.row k Er 1 true (zs'.map fun z=>[D.cv (encStr z)])))):=by
 intro B w0 N S t a w hs hx
 obtain⟨us,hus,hgo⟩:=run_call (T:=T) ho hc hx hF
 rw[hargs] at hus
 obtain⟨v,vs,rfl,hv,hvs⟩:=relL_uncons hus
 obtain rfl:vs=[]:=by have:=hvs.1;simpa using this.symm
 obtain⟨v0,us,b1,b2,b3,b4,b5,b6⟩:=hs.blk n _ hm
 have hv:v=v0:=by
  cases hv with
  |ow _ _ _ _ hn=>
   obtain⟨k',u,g1,_,g3⟩:=hn
   rw[b1] at g1;cases g1
   have g4:=g3 rfl
   obtain⟨A,c,h⟩:=own_parts b2
   rw[h] at g4⊢
   exact g4
 subst hv
 rw[List.length_map] at b2
 refine hgo _ ?_
 rcases b2.2 with⟨rfl,hl0⟩|⟨g,cap,cu,rfl,_,hg,hle,hmax,hcs,htk⟩
 ·have hz:zs=[]:=List.eq_nil_of_length_eq_zero hl0
  have hz':zs'=[]:=List.eq_nil_of_length_eq_zero (by omega)
  refine(hcall0 hz w none 0).mono ?_
  rintro e w' ⟨r,rfl,hok,rfl⟩
  refine⟨r,rfl,N,S,?_,hres N S _ none 0 r hok (by rw[b1,hz];rfl)⟩
  subst hz hz'
  have e:m.set n (some (.row k Er 1 true (List.map (fun z=>[D.cv (encStr z)]) ([]:List (List UInt8)))))=m:=by
   have hlt:=lt_of_get hm
   refine List.ext_getElem? fun i=>?_
   rw[List.getElem?_set]
   split
   ·rename_i e;subst e;first|rw[if_pos hlt,hm]|rw[hm]
   ·rfl
  rw[e];exact hs
 ·have hgl:g<w.heap.size:=(Array.getElem?_eq_some_iff.1 hg).1
  have hcell:∀i (hi:i<zs.length),cu[i]?=some (encStr zs[i]):=fun i hi=>by
   obtain⟨u,hu,hr⟩:=b5 i 0 (.cv (encStr zs[i])) (by simp[hi])
   rw[Nat.mul_one,Nat.add_zero,←htk,List.getElem?_take] at hu
   split at hu
   ·rw[Array.getElem?_toList] at hu
    rw[hu]
    cases hr;rfl
   ·cases hu
  have hH:Sort.Holds encStr w g 0 zs.toArray:=by
   intro j hj
   have hj:j<zs.length:=by simpa using hj
   constructor
   ·unfold World.cell?
    rw[hg]
    simp only[Option.isSome_none,Bool.false_eq_true,if_false,Nat.zero_add]
    rw[hcell j hj]
    simp[hj]
   ·unfold World.frozen?
    rw[hg]
    simp
  refine(hcall w g cap hH hgl hle).mono ?_
  rintro e w' ⟨r,rfl,hok,hput⟩
  obtain⟨cu',q1,q2,q3⟩:=hput.row cu Er hg
  obtain⟨N',g1,g2,g3⟩:=hs.set (w':=w') (d:=n) (k:=k) (v:= .slice (some ⟨g,0,none⟩) zs.length cap) (b:= .row k Er 1 true (zs'.map fun z=>[D.cv (encStr z)])) (lt_of_get hm) (fun k0 v0 h=>by rw[b1] at h;cases h;exact .inl ⟨rfl,rfl⟩)
   ⟨hput.os.trans hs.low.os,hput.tape.trans hs.low.tape,hput.output.trans hs.low.output,Nat.le_trans hs.low.size hput.size,fun j hj=>by
    rw[hput.other j (hs.base j hj) (fun e=>(hs.own n _ _ g b1 rfl).1 (by rw[←e];exact hj))]
    exact hs.low.block j hj⟩ hput.size (fun j h1 h2=>hput.other j h1 fun e=>h2 _ _ b1 (by rw[e];rfl))
   (fun j hj=>by simp[At,at1] at hj;subst hj;exact⟨Nat.lt_of_lt_of_le hgl hput.size,.inr ⟨_,_,b1,rfl⟩⟩)
   (fun N' g1 _ _=>⟨_,zs'.map encStr,g1,⟨by simp,.inr ⟨g,cap,cu',by simp[hlen],Nat.zero_le _,q1,by simp[hlen];exact hle,hmax,by rw[q2];exact hcs,by
     apply List.ext_getElem?
     intro i
     rw[List.getElem?_take]
     have hcu:zs.length≤cu.size:=by rw[hcs];omega
     split
     ·rename_i hi
      simp only[List.length_map,Nat.mul_one] at hi
      rw[Array.getElem?_toList,q3 i hi (by omega),List.getElem?_map]
      simp[hi]
     ·rename_i hi
      simp only[List.length_map,Nat.mul_one] at hi
      rw[List.getElem?_eq_none (by simp;omega)]⟩⟩,by simp,by decide,fun i j d hd=>by
     obtain⟨rfl,hi,rfl⟩:=map_str_get hd
     exact⟨encStr zs'[i],by simp[hi],.cv _ rfl⟩,fun _ j hj=>b6 rfl j hj⟩)
  exact⟨r,rfl,N',S,g3,hres N' S w' _ _ r hok g1⟩
end
end Go.Proofs.YtdccglkagfdooaaGreatDoor
namespace Go.Proofs.YtdccglkagfdooaaGreatDoor
open Go.RowKit Go.Shelf
section
variable {T:Tab}
theorem ot_sortS {o:Oper} {E:Operand→V} {m:List (Option Bk)} {c:Call} {n k Er:Nat} {zs:List Bs} (ho:o.op= .call c) (hc:calleeV E c=some (125,[],[])) (hargs:zA T E c.args.toList c.argTypes.toList=[.ow n k])
  (hm:m[n]?=some (some (.row k Er 1 true (zs.map strD)))) (hsz:zs.length<4611686018427387904):
  OpTr Tryz.prog o E m .un (m.set n (some (.row k Er 1 true ((zs.mergeSort fun x y=>decide (x≤y)).map strD)))):=
 ot_inplaceS (T:=T) (fun _ _ _=>True) ho hc hargs hm (List.length_mergeSort _) ⟨_,Tryz.func125,by kernel_rfl,by kernel_rfl⟩
  (fun hz w A cap=>(Tryz.slices_Sort_string_none A cap w).mono fun e w' ⟨h1,h2⟩=>⟨_,h1,trivial,h2⟩)
  (fun w g cap hH hg hcap=>(Tryz.slices_Sort_string g 0 cap zs w hH hg hsz).mono fun e w' ⟨h1,q,os,h2⟩=>⟨_,h1,trivial,by rw[h2];exact putS_row⟩)
  (fun N S w' A cap r _ _=> .un _)
theorem ot_compactS {o:Oper} {E:Operand→V} {m:List (Option Bk)} {c:Call} {n k Er:Nat} {zs:List Bs} (ho:o.op= .call c) (hc:calleeV E c=some (126,[],[])) (hargs:zA T E c.args.toList c.argTypes.toList=[.ow n k])
  (hm:m[n]?=some (some (.row k Er 1 true (zs.map strD)))) (hsz:zs.length≤9223372036854775807):
  OpTr Tryz.prog o E m (.vw n k 1 0 (Lib.compact zs).length) (m.set n (some (.row k Er 1 true ((Lib.compact zs++List.replicate (zs.length - (Lib.compact zs).length) []).map strD)))):=
 ot_inplaceS (T:=T) (fun A cap r=>r= .slice A (Lib.compact zs).length cap) ho hc hargs hm (by have:=Lib.compact_length_le zs;simp;omega) ⟨_,Tryz.func126,by kernel_rfl,by kernel_rfl⟩
  (fun hz w A cap=>(Tryz.slices_Compact_string_empty A cap w).mono fun e w' ⟨h1,h2⟩=>⟨_,h1,by subst hz;rfl,h2⟩)
  (fun w g cap hH hg hcap=>(Tryz.slices_Compact_string g 0 cap zs w hH hsz hcap).mono fun e w' ⟨h1,q,h2⟩=>⟨_,h1,rfl,by
   rw[h2]
   have:=putS_row (w:=w) (g:=g) (n:=q) (os:= #[]) (zs:=Lib.compact zs++List.replicate (zs.length - (Lib.compact zs).length) [])
   rwa [Sort.grow_empty] at this⟩)
  (fun N S w' A cap r hr hN=>by
   subst hr
   refine .vw _ _ _ _ _ _ rfl ⟨k,_,hN,Nat.le_refl _,fun _=>⟨A,zs.length,cap,A,rfl,Nat.zero_le _,Lib.compact_length_le zs,by simp,fun _=>?_⟩⟩
   cases A with
   |none=>rfl
   |some a=>cases a;simp[Addr.add])
end
def txtF (K:Int):List Nd→List Bs
 |[]=>[]
 |n::l=>if n.kind=K then n.text::txtF K l else txtF K l
def txtS (K:Int) (l:List Nd):List Bs:=Lib.compact ((txtF K l).mergeSort fun x y=>decide (x≤y))
theorem txtF_cons (K:Int) (n:Nd) (l:List Nd):txtF K (n::l)=if n.kind=K then n.text::txtF K l else txtF K l:=rfl
theorem txtF_len (K:Int):∀l:List Nd,(txtF K l).length≤l.length
 |[]=>Nat.le_refl _
 |n::l=>by
  have:=txtF_len K l
  rw[txtF_cons]
  split
  ·simp;exact this
  ·simp;omega
theorem x_texts (p:Pg) (hp:PgS p) (K:Int):DCalls Tryz.prog 89 [p.V,int K,int 0,int p.nodes.length] (strsV (txtS K p.nodes)):=by
 have hN:=hp.ns
 have hnl:(p.nodes.map ndD).length=p.nodes.length:=List.length_map _
 refine sxm [(125,false),(126,false)] Tryz.func89 (by kernel_rfl) ?_
 conv=>whnf
 refine⟨Int.le_refl _,Int.natCast_nonneg _,by rw[hnl];exact Int.le_refl _,?_⟩
 conv=>whnf
 rw[show(List.drop (Int.toNat 0) (List.take ((p.nodes.length:Nat):Int).toNat (List.map ndD p.nodes)))=p.nodes.map ndD by rw[Int.toNat_natCast,←hnl,List.take_length];rfl,hnl]
 refine⟨[(9,30,9,1)],Nat×List Bs,fun⟨k,_⟩=>[(9,.ow 30 0),(18,int k)],fun⟨_,l⟩=>[(30,some (.row 0 9 1 true (l.map strD)))],fun⟨k,l⟩=>k≤p.nodes.length∧l.length≤k∧l++txtF K (p.nodes.drop k)=txtF K p.nodes,fun x=>p.nodes.length - x.1,(0,[]),⟨Nat.zero_le _,Nat.le_refl _,rfl⟩,?_,?_⟩
 ·refine⟨rfl,?_,?_⟩<;>repeat' (first|exact trivial|exact rfl|refine and_rfl ?_|refine and_two ?_ ?_)
 rintro⟨k,l⟩ ⟨b0,b1,b2⟩
 conv=>whnf
 rintro(_|_) h1
 ·have h1:p.nodes.length≤k:=by simp at h1;omega
  rw[List.drop_eq_nil_of_le h1] at b2
  have b2:l=txtF K p.nodes:=by rw[←b2];simp[txtF]
  subst b2
  conv=>whnf
  refine at_tr (ot_sortS (T:=TT) rfl rfl rfl rfl (by omega)) ?_
  conv=>whnf
  refine at_tr (ot_compactS (T:=TT) rfl rfl rfl rfl (by rw[List.length_mergeSort];omega)) ?_
  conv=>whnf
  rw[List.map_append,List.take_left' (List.length_map _),List.drop_zero]
  rfl
 have h1:k<p.nodes.length:=by simp at h1;omega
 rw[List.drop_eq_getElem_cons h1,txtF_cons] at b2
 conv=>whnf
 refine⟨by omega,_,get_map ndD h1,?_⟩
 conv=>whnf
 rintro(_|_) h2
 ·have h2:p.nodes[k].kind≠K:=by simpa using h2
  rw[if_neg h2] at b2
  conv=>whnf
  refine⟨(k+1,l),⟨h1,by omega,b2⟩,by dsimp only;omega,?_⟩
  refine⟨rfl,?_,?_⟩<;>repeat' (first|exact trivial|exact rfl|refine and_rfl ?_|refine and_val (wrap_succ (by omega)) ?_|refine and_two ?_ ?_)
 ·have h2:p.nodes[k].kind=K:=by simpa using h2
  rw[if_pos h2] at b2
  conv=>whnf
  refine⟨by rw[List.length_map];show(l.length+1)*16≤_;omega,?_⟩
  conv=>whnf
  refine⟨(k+1,l++[p.nodes[k].text]),⟨h1,by simp;omega,by rw[←b2];simp⟩,by dsimp only;omega,?_⟩
  refine⟨rfl,?_,?_⟩<;>repeat' (first|exact trivial|exact rfl|(rw[List.map_append];exact rfl)|refine and_rfl ?_|refine and_val (wrap_succ (by omega)) ?_|refine and_two ?_ ?_)
def opsS (e:Int) (p:Pg):List Bs:=if e≠0 then [] else txtS 12 p.nodes
theorem x_sops (p:Pg) (hp:PgS p) (a e:Int) (hC:DCalls Tryz.prog 60 [p.V] (.tu [int a,int e])):DCalls Tryz.prog 61 [p.V] (strsV (opsS e p)):=by
 have hnl:(p.nodes.map ndD).length=p.nodes.length:=List.length_map _
 refine sx Tryz.func61 (by kernel_rfl) ?_
 conv=>whnf
 refine⟨_,hC,?_⟩
 conv=>whnf
 rintro(_|_) h1
 ·have h1:e=0:=by simpa using h1
  rw[show opsS e p=txtS 12 p.nodes by unfold opsS;rw[if_neg (by simp[h1])]]
  conv=>whnf
  rw[hnl]
  refine⟨_,x_texts p hp 12,?_⟩
  (conv=>whnf)<;>rfl
 ·have h1:e≠0:=by simpa using h1
  rw[show opsS e p=[] by unfold opsS;rw[if_pos h1]]
  (conv=>whnf)<;>rfl
end Go.Proofs.YtdccglkagfdooaaGreatDoor
namespace Go.Proofs.YtdccglkagfdooaaGreatDoor
open Go.RowKit
section
variable {P:Program} {o:Oper} {E:Operand→V} {m:List (Option Bk)}
end
end Go.Proofs.YtdccglkagfdooaaGreatDoor
namespace Go.Proofs.YtdccglkagfdooaaGreatDoor
open Go.RowKit
end Go.Proofs.YtdccglkagfdooaaGreatDoor
namespace Go.Proofs.YtdccglkagfdooaaGreatDoor
open Go.RowKit
end Go.Proofs.YtdccglkagfdooaaGreatDoor
namespace Go.Proofs.YtdccglkagfdooaaGreatDoor
open Go.RowKit
theorem te_int (l:Bs) (v a:Int):textT ⟨3,l,v,a⟩=if l.isEmpty=true∧0≤v∧validB v=true then(Lib.itoa v,0) else([],1):=by
 unfold textT;cases l<;>simp
theorem te_name (l:Bs) (v a:Int):textT ⟨1,l,v,a⟩=if v≠0 then([],1) else if wholeB l=true∧kwL l=false then(l,0) else([],1):=by
 unfold textT;simp
theorem te_word (l:Bs) (v a:Int):textT ⟨2,l,v,a⟩=if v≠0 then([],1) else if kwL l=true then(l,0) else([],1):=by
 unfold textT;simp
theorem te_str (l:Bs) (v a:Int):textT ⟨4,l,v,a⟩=if v≠0 then([],1) else if contB l=true then(34::(esc l++[34]),0) else([],1):=by
 unfold textT;simp
theorem te_sym (l:Bs) (v a:Int):textT ⟨5,l,v,a⟩=if v≠0 then([],1) else if symB l=true then(l,0) else([],1):=by
 unfold textT;simp
theorem te_host (l:Bs) (v a:Int):textT ⟨6,l,v,a⟩=if v≠0 then([],1) else if wholeB l=true then(64::l,0) else([],1):=by
 unfold textT;simp
theorem te_no (K:Int) (l:Bs) (v a:Int) (h:K≠1∧K≠2∧K≠3∧K≠4∧K≠5∧K≠6):textT ⟨K,l,v,a⟩=([],1):=by
 unfold textT;simp[h.1,h.2.1,h.2.2.1,h.2.2.2.1,h.2.2.2.2.1,h.2.2.2.2.2]
end Go.Proofs.YtdccglkagfdooaaGreatDoor
namespace Go.Proofs.YtdccglkagfdooaaGreatDoor
open Go.RowKit
end Go.Proofs.YtdccglkagfdooaaGreatDoor
namespace Go.Proofs.YtdccglkagfdooaaGreatDoor
open Go.RowKit
def all2 {α:Type} (p:α→α→Bool):List α→List α→Bool
 |[],[]=>true
 |a::l,b::r=>p a b&&all2 p l r
 |_,_=>false
theorem all2_len {α:Type} {p:α→α→Bool}:∀{l r:List α},l.length≠r.length→all2 p l r=false
 |[],[],h=>absurd rfl h
 |[],_::_,_=>rfl
 |_::_,[],_=>rfl
 |a::l,b::r,h=>by
  unfold all2
  rw[all2_len (by simpa using h),Bool.and_false]
theorem all2_drop {α:Type} {p:α→α→Bool} {l r:List α} {k:Nat} (h1:k<l.length) (h2:k<r.length):all2 p (l.drop k) (r.drop k)=(p l[k] r[k]&&all2 p (l.drop (k+1)) (r.drop (k+1))):=by
 rw[List.drop_eq_getElem_cons h1,List.drop_eq_getElem_cons h2];rfl
def strB (a b:Bs):Bool:=a==b
theorem x_equalS (a b:List Bs) (ha:a.length≤8796093022207):DCalls Tryz.prog 17 [.sl true 1 (a.map strD),.sl true 1 (b.map strD)] (boo (all2 strB a b)):=by
 have hla:(a.map strD).length=a.length:=List.length_map _
 have hlb:(b.map strD).length=b.length:=List.length_map _
 refine sx Tryz.func17 (by kernel_rfl) ?_
 conv=>whnf
 rintro(_|_) h0
 rotate_left
 ·have h0:a.length≠b.length:=by rw[hla,hlb] at h0;simp at h0;omega
  rw[all2_len h0]
  (conv=>whnf)<;>rfl
 have h0:a.length=b.length:=by rw[hla,hlb] at h0;simp at h0;omega
 conv=>whnf
 refine⟨[],Nat,fun k=>[(13,int k)],fun _=>[],fun k=>k≤a.length∧all2 strB (a.drop k) (b.drop k)=all2 strB a b,fun k=>a.length - k,0,⟨Nat.zero_le _,rfl⟩,?_,?_⟩
 ·refine⟨rfl,?_,?_⟩<;>repeat' (first|exact trivial|exact rfl|refine and_rfl ?_|refine and_two ?_ ?_)
 rintro k ⟨hk1,hk⟩
 conv=>whnf
 rintro(_|_) h1
 ·have h1:a.length≤k:=by rw[←hla];simpa using h1
  rw[List.drop_eq_nil_of_le h1,List.drop_eq_nil_of_le (by omega),show all2 strB [] []=true from rfl] at hk
  rw[←hk]
  (conv=>whnf)<;>rfl
 have h1:k<a.length:=by rw[←hla];simpa using h1
 have h2:k<b.length:=by omega
 rw[all2_drop h1 h2] at hk
 conv=>whnf
 refine⟨none,by kernel_rfl,?_⟩
 conv=>whnf
 refine⟨by omega,_,get_map strD h1,?_⟩
 conv=>whnf
 refine⟨by omega,_,get_map strD h2,?_⟩
 conv=>whnf
 rw[show((mk a[k]).toList==(mk b[k]).toList)=strB a[k] b[k] from sEq_mk _ _]
 rintro(_|_) h3
 ·have h3:strB a[k] b[k]=true:=by simpa using h3
  rw[h3,Bool.true_and] at hk
  conv=>whnf
  refine⟨k+1,⟨h1,hk⟩,by dsimp only;omega,?_⟩
  refine⟨rfl,?_,?_⟩<;>repeat' (first|exact trivial|exact rfl|refine and_rfl ?_|refine and_val (wrap_succ (by omega)) ?_|refine and_two ?_ ?_)
 ·have h3:strB a[k] b[k]=false:=by simpa using h3
  rw[h3,Bool.false_and] at hk
  rw[←hk]
  (conv=>whnf)<;>rfl
end Go.Proofs.YtdccglkagfdooaaGreatDoor
namespace Go.Proofs.YtdccglkagfdooaaGreatDoor
open Go.RowKit
end Go.Proofs.YtdccglkagfdooaaGreatDoor
namespace Go.Proofs.YtdccglkagfdooaaGreatDoor
open Go.RowKit
def okB (l:Bs):Bool:=l.all fun c=> !(decide (c<32)||decide (c>126))
theorem contB_okB (l:Bs):contB l=(decide (l.length≤200)&&okB l):=rfl
end Go.Proofs.YtdccglkagfdooaaGreatDoor
namespace Go.Proofs.YtdccglkagfdooaaGreatDoor
open Go.RowKit
theorem closed_nil (A:Option Addr) (cap:Nat) (w:World):Calls Tryz.prog 225 #[.slice A 0 cap] w fun e w'=>e= .returned (.slice A 0 cap)∧w'=w:=by
 go_enter Tryz.func225,Tryz.ntmps225
 go_wp2
 refine wp_loop_rounds 1 ?_
 rw[rounds_succ]
 go_wp2
 go_ret
 exact⟨rfl,rfl⟩
theorem x_closed:DCalls Tryz.prog 225 [.sl true 5 []] (.sl true 5 []):=by
 refine⟨⟨_,Tryz.func225,by kernel_rfl,by kernel_rfl⟩,fun w vs hi hvs=>?_⟩
 obtain⟨v0,rfl⟩:∃v0,vs=[v0]:=by
  have:=hvs.1
  match vs,this with
  |[a],_=>exact⟨a,rfl⟩
 have r0:=hvs.2 0 _ rfl
 simp only[List.getD_eq_getElem?_getD,List.getElem?_cons_zero,Option.getD_some] at r0
 cases r0
 rename_i hr
 cases hr with
 |nil _ A cap=>
  refine(closed_nil A cap w).mono ?_
  rintro e w' ⟨rfl,rfl⟩
  exact⟨_,rfl,.sl _ _ _ _ (.nil _ _ _),Below.refl _ _⟩
 |sl _ _ b o' cap u hS hx hcap hc hd=>
  refine(closed_nil (some ⟨b,o',none⟩) cap w).mono ?_
  rintro e w' ⟨rfl,rfl⟩
  exact⟨_,rfl,.sl _ _ _ _ (.nil _ _ _),Below.refl _ _⟩
theorem x_vtext (l:Bs) (hl:l.length≤281474976710656):DCalls Tryz.prog 227 [bstr l] (boo (okB l)):=by
 refine sx Tryz.func227 (by kernel_rfl) ?_
 conv=>whnf
 refine⟨[],Nat,fun k=>[(6,int k)],fun _=>[],fun k=>k≤l.length∧okB (l.drop k)=okB l,fun k=>l.length - k,0,⟨Nat.zero_le _,rfl⟩,?_,?_⟩
 ·refine⟨rfl,?_,?_⟩<;>repeat' (first|exact trivial|exact rfl|refine and_rfl ?_|refine and_two ?_ ?_)
 rintro k ⟨hk1,hk⟩
 conv=>whnf
 rintro(_|_) h2
 ·have h2:l.length≤k:=by simp[mk_size] at h2;omega
  rw[List.drop_eq_nil_of_le h2] at hk
  rw[←hk]
  (conv=>whnf)<;>rfl
 have h2:k<l.length:=by simp[mk_size] at h2;omega
 have hw:IntKind.i64.wrap (((k:Nat):Int)+1)=((k+1:Nat):Int):=wrap_succ (by omega)
 rw[drop_cons h2] at hk
 conv=>whnf
 refine⟨by omega,_,mk_at h2,?_⟩
 conv=>whnf
 rintro(_|_) h3
 rotate_left
 ·rw[show okB l=false by rw[←hk];unfold okB;rw[List.all_cons,rangeB];simp at*;omega]
  (conv=>whnf)<;>rfl
 conv=>whnf
 refine⟨by omega,_,mk_at h2,?_⟩
 conv=>whnf
 rintro(_|_) h4
 rotate_left
 ·rw[show okB l=false by rw[←hk];unfold okB;rw[List.all_cons,rangeB];simp at*;omega]
  (conv=>whnf)<;>rfl
 have hr:(!(decide (l[k]<32)||decide (l[k]>126)))=true:=by rw[rangeB];simp at*;omega
 have hk:okB (l.drop (k+1))=okB l:=by rw[←hk];unfold okB;rw[List.all_cons,hr];rfl
 conv=>whnf
 refine⟨k+1,⟨h2,hk⟩,by dsimp only;omega,?_⟩
 refine⟨rfl,?_,?_⟩<;>repeat' (first|exact trivial|exact rfl|refine and_rfl ?_|refine and_val hw ?_|refine and_two ?_ ?_)
def qlen (l:Bs):Int:=IntKind.i64.wrap (IntKind.i64.wrap (IntKind.i64.wrap ((l.length:Nat)+2:Int)+(l.count 34:Nat))+(l.count 92:Nat))
theorem x_vquoted (l:Bs):DCalls Tryz.prog 223 [bstr l] (int (qlen l)):=by
 refine sx Tryz.func223 (by kernel_rfl) ?_
 conv=>whnf
 refine⟨_,x_count (mk l) 34,?_⟩
 conv=>whnf
 refine⟨_,x_count (mk l) 92,?_⟩
 conv=>whnf
 rw[mk_size]
 rfl
theorem qlen_eq (l:Bs) (hl:l.length≤281474976710656):qlen l=((l.length+2+l.count 34+l.count 92:Nat):Int):=by
 have hc:=List.count_le_length (a:=34) (l:=l)
 have hd:=List.count_le_length (a:=92) (l:=l)
 unfold qlen
 rw[IntWalk.i64_in ((l.length:Nat)+2:Int) (by omega),IntWalk.i64_in (_+((l.count 34:Nat):Int)) (by omega),IntWalk.i64_in _ (by omega)]
 omega
def strC (l:Bs):List D:=[.cv (.int .i64 4),.cv (.int .i64 0),.cv (.string (mk l)),.cv (.int .i64 0)]
abbrev strCV (l:Bs):V:= .ag [int 4,int 0,bstr l,int 0]
theorem x_vplain (l:Bs) (hl:l.length≤281474976710656):DCalls Tryz.prog 222 [strCV l] (boo (okB l)):=by
 refine sx Tryz.func222 (by kernel_rfl) ?_
 iterate 3 ((conv=>whnf);refine known false rfl ?_)
 iterate 3 ((conv=>whnf);refine known true rfl ?_)
 conv=>whnf
 refine⟨_,x_vtext l hl,?_⟩
 (conv=>whnf)<;>rfl
theorem x_vsize (l:Bs):DCalls Tryz.prog 224 [strCV l] (int (qlen l)):=by
 refine sx Tryz.func224 (by kernel_rfl) ?_
 iterate 3 ((conv=>whnf);refine known false rfl ?_)
 conv=>whnf
 refine known true rfl ?_
 conv=>whnf
 refine⟨_,x_vquoted l,?_⟩
 (conv=>whnf)<;>rfl
abbrev lookV (l:Bs):V:=if okB l=true then .tu [int 1,.ag [int 1,int (qlen l),boo false,boo (decide (l.length>200))],boo true] else .tu [int 0,.ag [int 0,int 0,boo false,boo false],boo false]
theorem x_vlook (f:Bool) (l:Bs) (hl:l.length≤281474976710656):DCalls Tryz.prog 220 [.sl f 4 [strC l]] (lookV l):=by
 refine sx Tryz.func220 (by kernel_rfl) ?_
 conv=>whnf
 refine⟨[],Unit,fun _=>[(13,int 0),(6,.cv (.slice none 0 0))],fun _=>[(3,some (.box [int 0,int 0,boo false,boo false])),(5,some (.box [int 0,int 0,boo false,boo false]))],fun _=>True,fun _=>0,(),trivial,?_,?_⟩
 ·refine⟨rfl,?_,?_⟩<;>repeat' (first|exact trivial|exact rfl|refine and_rfl ?_|refine and_two ?_ ?_)
 rintro _ _
 conv=>whnf
 refine known true rfl ?_
 conv=>whnf
 refine⟨by omega,_,rfl,?_⟩
 conv=>whnf
 refine⟨_,x_vplain l hl,?_⟩
 conv=>whnf
 rintro(_|_) h1
 rotate_left
 ·have h1:okB l=false:=by simpa using h1
  unfold lookV
  rw[h1,if_neg (by simp)]
  conv=>whnf
  refine⟨none,by kernel_rfl,?_⟩
  (conv=>whnf)<;>rfl
 have h1:okB l=true:=by simpa using h1
 unfold lookV
 rw[if_pos h1]
 repeat((conv=>whnf);first|refine known true rfl ?_|refine known false rfl ?_|refine⟨_,x_vsize l,?_⟩|refine⟨none,by kernel_rfl,?_⟩)
 conv=>whnf
 refine⟨_,x_closed,?_⟩
 conv=>whnf
 refine known true rfl ?_
 conv=>whnf
 refine⟨none,by kernel_rfl,?_⟩
 conv=>whnf
 have hq:=qlen_eq l hl
 have hc:=List.count_le_length (a:=34) (l:=l)
 have hd:=List.count_le_length (a:=92) (l:=l)
 rw[show IntKind.i64.wrap (0+qlen l)=qlen l by rw[Int.zero_add,IntWalk.i64_in _ (by omega)],mk_size]
 have e:decide (((l.length:Nat):Int)>200)=decide (l.length>200):=by rw[Bool.eq_iff_iff];simp;omega
 rw[e]
 rfl
def strE (l:Bs):Int:=if okB l then if l.length≤200 then 0 else 3 else 1
theorem strE0 (l:Bs):(strE l=0)↔contB l=true:=by
 rw[contB_okB];unfold strE
 cases okB l<;>simp
theorem x_vcheck (l:Bs) (hl:l.length≤281474976710656):DCalls Tryz.prog 218 [.sl true 4 [strC l]] (int (strE l)):=by
 have hL:=x_vlook true l hl
 have hq:=qlen_eq l hl
 have hc:=List.count_le_length (a:=34) (l:=l)
 have hd:=List.count_le_length (a:=92) (l:=l)
 unfold lookV at hL
 refine sx Tryz.func218 (by kernel_rfl) ?_
 cases h:okB l with
 |false=>
  rw[h,if_neg (by simp)] at hL
  conv=>whnf
  refine⟨_,hL,?_⟩
  conv=>whnf
  refine known true rfl ?_
  conv=>whnf
  rw[show strE l=1 by unfold strE;rw[h];rfl]
 |true=>
  rw[h,if_pos rfl] at hL
  conv=>whnf
  refine⟨_,hL,?_⟩
  conv=>whnf
  refine known false rfl ?_
  conv=>whnf
  refine known false rfl ?_
  conv=>whnf
  refine known false rfl ?_
  by_cases h2:l.length≤200
  ·rw[show strE l=0 by unfold strE;rw[h,if_pos rfl,if_pos h2]]
   conv=>whnf
   refine known false (by simp;omega) ?_
   conv=>whnf
   refine known false rfl ?_
   conv=>whnf
   refine known false rfl ?_
   conv=>whnf
   refine known false (by simp;omega) ?_
   (conv=>whnf)<;>rfl
  ·rw[show strE l=3 by unfold strE;rw[h,if_pos rfl,if_neg h2]]
   conv=>whnf
   refine known true (by simp;omega) ?_
   (conv=>whnf)<;>rfl
abbrev strEV (l:Bs):V:=if strE l=0 then .tu [.un,int 0] else .tu [.sl true 4 [],int (strE l)]
theorem x_vchecked (l:Bs) (hl:l.length≤281474976710656):DCalls Tryz.prog 214 [.sl true 4 [strC l]] (strEV l):=by
 refine sx Tryz.func214 (by kernel_rfl) ?_
 conv=>whnf
 refine⟨_,x_vcheck l hl,?_⟩
 conv=>whnf
 rintro(_|_) h
 ·have h:strE l=0:=by simpa using h
  unfold strEV
  rw[if_pos h]
  conv=>whnf
 ·have h:strE l≠0:=by simpa using h
  unfold strEV
  rw[if_neg h]
  (conv=>whnf)<;>rfl
theorem x_vstr (l:Bs) (hl:l.length≤281474976710656):DCalls Tryz.prog 200 [bstr l] (strEV l):=by
 have hL:=x_vchecked l hl
 refine sx Tryz.func200 (by kernel_rfl) ?_
 unfold strEV at*
 by_cases h:strE l=0
 ·rw[if_pos h] at*
  conv=>whnf
  refine⟨_,hL,?_⟩
  (conv=>whnf)<;>rfl
 ·rw[if_neg h] at*
  conv=>whnf
  refine⟨_,hL,?_⟩
  (conv=>whnf)<;>rfl
theorem x_stext (l:Bs) (hl:l.length≤281474976710656):DCalls Tryz.prog 203 [bstr l] (boo (contB l)):=by
 have hL:=x_vstr l hl
 refine sx Tryz.func203 (by kernel_rfl) ?_
 unfold strEV at hL
 by_cases h:strE l=0
 ·rw[if_pos h] at hL
  conv=>whnf
  refine⟨_,hL,?_⟩
  rw[(strE0 l).mp h]
  (conv=>whnf)<;>rfl
 ·rw[if_neg h] at hL
  conv=>whnf
  refine⟨_,hL,?_⟩
  conv=>whnf
  rw[show(strE l==0)=contB l by rw[Bool.eq_iff_iff,←strE0];simp]
end Go.Proofs.YtdccglkagfdooaaGreatDoor
namespace Go.Proofs.YtdccglkagfdooaaGreatDoor
open Go.RowKit
theorem whole_len {l:Bs} (h:l.length<1∨24<l.length):wholeB l=false:=by
 unfold wholeB
 rcases h with h|h
 ·have:l=[]:=List.eq_nil_of_length_eq_zero (by omega)
  subst this;rfl
 ·rw[show decide (l.length≤24)=false by simp;omega];simp
theorem whole_run {l:Bs} (h:1≤l.length) (h2:l.length≤24):wholeB l=decide (runL l=l.length):=by
 unfold wholeB
 cases l with
 |nil=>simp at h
 |cons c r=>simp only[List.isEmpty_cons,Bool.not_false,Bool.true_and];rw[decide_eq_true h2,Bool.and_true]
theorem x_srun (l:Bs) (hl:l.length≤281474976710656):DCalls Tryz.prog 185 [bstr l] (boo (wholeB l)):=by
 refine sx Tryz.func185 (by kernel_rfl) ?_
 conv=>whnf
 rintro(_|_) h1
 rotate_left
 ·have h1:l.length<1:=by simp[mk_size] at h1;omega
  rw[whole_len (.inl h1)]
  (conv=>whnf)<;>rfl
 have h1:1≤l.length:=by simp[mk_size] at h1;omega
 conv=>whnf
 rintro(_|_) h2
 rotate_left
 ·have h2:24<l.length:=by simp[mk_size] at h2;omega
  rw[whole_len (.inr h2)]
  (conv=>whnf)<;>rfl
 have h2:l.length≤24:=by simp[mk_size] at h2;omega
 rw[whole_run h1 h2]
 conv=>whnf
 refine⟨[],Nat,fun k=>[(15,int k)],fun _=>[],fun k=>k≤l.length∧k+(if k=0 then runL l else runT (l.drop k))=runL l,fun k=>l.length - k,0,⟨Nat.zero_le _,by simp⟩,?_,?_⟩
 ·refine⟨rfl,?_,?_⟩<;>repeat' (first|exact trivial|exact rfl|refine and_rfl ?_|refine and_two ?_ ?_)
 rintro k ⟨hk1,hk⟩
 conv=>whnf
 rintro(_|_) h3
 ·have h3:l.length≤k:=by simp[mk_size] at h3;omega
  rw[if_neg (by omega),List.drop_eq_nil_of_le h3] at hk
  rw[show decide (runL l=l.length)=true by simp[runT] at hk⊢;omega]
  (conv=>whnf)<;>rfl
 have h3:k<l.length:=by simp[mk_size] at h3;omega
 have hw:IntKind.i64.wrap (((k:Nat):Int)+1)=((k+1:Nat):Int):=wrap_succ (by omega)
 have next:(if k=0 then runL l else runT (l.drop k))=runT (l.drop (k+1))+1→(k+1)+(if k+1=0 then runL l else runT (l.drop (k+1)))=runL l:=by
  intro h;rw[if_neg (by omega)];omega
 have hd0:k=0→runL l=if isHd l[k] then runT (l.drop (k+1))+1 else 0:=by
  intro e;subst e
  cases l with
  |nil=>simp at h3
  |cons c l=>rfl
 have hdk:runT (l.drop k)=if isHd l[k]||isDg l[k] then runT (l.drop (k+1))+1 else 0:=by rw[drop_cons h3];rfl
 rw[isHd_int] at hd0 hdk
 rw[isDg_int] at hdk
 conv=>whnf
 refine⟨by omega,_,mk_at h3,?_⟩
 have go:((((97:Int)≤(l[k].toNat:Int)∧(l[k].toNat:Int)≤122)∨(l[k].toNat:Int)=95)∨(0<k∧(48:Int)≤(l[k].toNat:Int)∧(l[k].toNat:Int)≤57))→k+1≤l.length∧k+1+(if k+1=0 then runL l else runT (l.drop (k+1)))=runL l:=by
  intro h
  refine⟨h3,next ?_⟩
  split
  ·rw[hd0 (by assumption),if_pos (by simp;omega)]
  ·rw[hdk,if_pos (by simp;omega)]
 have no:¬((((97:Int)≤(l[k].toNat:Int)∧(l[k].toNat:Int)≤122)∨(l[k].toNat:Int)=95)∨(0<k∧(48:Int)≤(l[k].toNat:Int)∧(l[k].toNat:Int)≤57))→false=decide (runL l=l.length):=by
  intro h
  symm
  rw[decide_eq_false_iff_not]
  split at hk
  ·have:=hd0 (by assumption);rw[if_neg (by simp;omega)] at this;omega
  ·rw[hdk,if_neg (by simp;omega)] at hk;omega
 clear hk hd0 hdk next
 repeat' ((conv=>whnf);rintro(_|_) _)
 all_goals simp only[decide_eq_true_eq,decide_eq_false_iff_not,bne_iff_ne,bne_eq_false_iff_eq,beq_iff_eq,beq_eq_false_iff_ne,ne_eq] at*
 all_goals first
  |((conv=>whnf);exact fin_boo (no (by omega)))
  | ((conv=>whnf);refine⟨k+1,go (by omega),by(try dsimp only);omega,?_⟩
     refine⟨rfl,?_,?_⟩<;>repeat' (first|exact trivial|exact rfl|refine and_rfl ?_|refine and_val hw ?_|refine and_two ?_ ?_))
theorem x_sname (l:Bs) (hl:l.length≤281474976710656):DCalls Tryz.prog 161 [bstr l] (boo (nameB l)):=by
 refine sx Tryz.func161 (by kernel_rfl) ?_
 conv=>whnf
 refine⟨_,x_srun l hl,?_⟩
 unfold nameB
 cases h:wholeB l with
 |false=>
  conv=>whnf
  refine known false rfl ?_
  (conv=>whnf)<;>rfl
 |true=>
  conv=>whnf
  refine known true rfl ?_
  conv=>whnf
  refine⟨_,x_keywordL l,?_⟩
  (conv=>whnf)<;>rfl
theorem litE (a:Bs) (d:Array UInt8):((mk a).toList==(⟨d⟩:ByteArray).toList)=(a==d.toList):=sEq_mk a d.toList
theorem snE {a b:Bs} (h:a≠b):((mk a).toList==(mk b).toList)=false:=by rw[show((mk a).toList==(mk b).toList)=(a==b) from sEq_mk a b];simpa using h
theorem x_sbinary (l:Bs):DCalls Tryz.prog 216 [bstr l] (int (binL l)):=by
 by_cases h0:l=[111,114]
 ·subst h0
  refine sx Tryz.func216 (by kernel_rfl) ?_
  repeat((conv=>whnf);first|refine known true ((litE _ _).trans rfl) ?_|refine known false ((litE _ _).trans rfl) ?_)
  try((conv=>whnf)<;>rfl)
 by_cases h1:l=[97,110,100]
 ·subst h1
  refine sx Tryz.func216 (by kernel_rfl) ?_
  repeat((conv=>whnf);first|refine known true ((litE _ _).trans rfl) ?_|refine known false ((litE _ _).trans rfl) ?_)
  try((conv=>whnf)<;>rfl)
 by_cases h2:l=[61,61]
 ·subst h2
  refine sx Tryz.func216 (by kernel_rfl) ?_
  repeat((conv=>whnf);first|refine known true ((litE _ _).trans rfl) ?_|refine known false ((litE _ _).trans rfl) ?_)
  try((conv=>whnf)<;>rfl)
 by_cases h3:l=[33,61]
 ·subst h3
  refine sx Tryz.func216 (by kernel_rfl) ?_
  repeat((conv=>whnf);first|refine known true ((litE _ _).trans rfl) ?_|refine known false ((litE _ _).trans rfl) ?_)
  try((conv=>whnf)<;>rfl)
 by_cases h4:l=[60]
 ·subst h4
  refine sx Tryz.func216 (by kernel_rfl) ?_
  repeat((conv=>whnf);first|refine known true ((litE _ _).trans rfl) ?_|refine known false ((litE _ _).trans rfl) ?_)
  try((conv=>whnf)<;>rfl)
 by_cases h5:l=[60,61]
 ·subst h5
  refine sx Tryz.func216 (by kernel_rfl) ?_
  repeat((conv=>whnf);first|refine known true ((litE _ _).trans rfl) ?_|refine known false ((litE _ _).trans rfl) ?_)
  try((conv=>whnf)<;>rfl)
 by_cases h6:l=[62]
 ·subst h6
  refine sx Tryz.func216 (by kernel_rfl) ?_
  repeat((conv=>whnf);first|refine known true ((litE _ _).trans rfl) ?_|refine known false ((litE _ _).trans rfl) ?_)
  try((conv=>whnf)<;>rfl)
 by_cases h7:l=[62,61]
 ·subst h7
  refine sx Tryz.func216 (by kernel_rfl) ?_
  repeat((conv=>whnf);first|refine known true ((litE _ _).trans rfl) ?_|refine known false ((litE _ _).trans rfl) ?_)
  try((conv=>whnf)<;>rfl)
 by_cases h8:l=[43]
 ·subst h8
  refine sx Tryz.func216 (by kernel_rfl) ?_
  repeat((conv=>whnf);first|refine known true ((litE _ _).trans rfl) ?_|refine known false ((litE _ _).trans rfl) ?_)
  try((conv=>whnf)<;>rfl)
 by_cases h9:l=[45]
 ·subst h9
  refine sx Tryz.func216 (by kernel_rfl) ?_
  repeat((conv=>whnf);first|refine known true ((litE _ _).trans rfl) ?_|refine known false ((litE _ _).trans rfl) ?_)
  try((conv=>whnf)<;>rfl)
 by_cases h10:l=[42]
 ·subst h10
  refine sx Tryz.func216 (by kernel_rfl) ?_
  repeat((conv=>whnf);first|refine known true ((litE _ _).trans rfl) ?_|refine known false ((litE _ _).trans rfl) ?_)
  try((conv=>whnf)<;>rfl)
 by_cases h11:l=[47]
 ·subst h11
  refine sx Tryz.func216 (by kernel_rfl) ?_
  repeat((conv=>whnf);first|refine known true ((litE _ _).trans rfl) ?_|refine known false ((litE _ _).trans rfl) ?_)
  try((conv=>whnf)<;>rfl)
 by_cases h12:l=[37]
 ·subst h12
  refine sx Tryz.func216 (by kernel_rfl) ?_
  repeat((conv=>whnf);first|refine known true ((litE _ _).trans rfl) ?_|refine known false ((litE _ _).trans rfl) ?_)
  try((conv=>whnf)<;>rfl)
 rw[show binL l=0 by simp[binL,wOr,wAnd,opCmp,opAdd,opMul,h0,h1,h2,h3,h4,h5,h6,h7,h8,h9,h10,h11,h12]]
 refine sx Tryz.func216 (by kernel_rfl) ?_
 repeat((conv=>whnf);first|refine known false (snE h0) ?_|refine known false (snE h1) ?_|refine known false (snE h2) ?_|refine known false (snE h3) ?_|refine known false (snE h4) ?_|refine known false (snE h5) ?_|refine known false (snE h6) ?_|refine known false (snE h7) ?_|refine known false (snE h8) ?_|refine known false (snE h9) ?_|refine known false (snE h10) ?_|refine known false (snE h11) ?_|refine known false (snE h12) ?_)
 try((conv=>whnf)<;>rfl)
theorem x_soperator (l:Bs):DCalls Tryz.prog 205 [bstr l] (boo (decide (0<binL l))):=by
 refine sx Tryz.func205 (by kernel_rfl) ?_
 conv=>whnf
 refine⟨_,x_sbinary l,?_⟩
 (conv=>whnf)<;>rfl
theorem x_sstatement (n:Int):DCalls Tryz.prog 206 [int n] (boo (stmtK n)):=by
 refine sx Tryz.func206 (by kernel_rfl) ?_
 unfold stmtK
 conv=>whnf
 rintro(_|_) h
 ·(conv=>whnf);exact fin_boo (by simp at*;omega)
 ·(conv=>whnf);exact fin_boo (by simp at*;omega)
theorem x_sexpression (n:Int):DCalls Tryz.prog 207 [int n] (boo (exprK n)):=by
 refine sx Tryz.func207 (by kernel_rfl) ?_
 unfold exprK
 conv=>whnf
 rintro(_|_) h
 ·(conv=>whnf);exact fin_boo (by simp at*;omega)
 ·(conv=>whnf);exact fin_boo (by simp at*;omega)
end Go.Proofs.YtdccglkagfdooaaGreatDoor
