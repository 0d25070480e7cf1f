/- Texts joined by pack.py: XSyWI XSyXK XSyXL XSyXM XSyYA XSyYB XSyPJ XLx24b XSyYC XSyYD XSxR XSyN2 -/
import Derived.Test.YtglndfgmlminpaaGreatDoorSx30
import Derived.Test.YtglndfgmlminpaaGreatDoorSx35
import Derived.Test.YtglndfgmlminpaaGreatDoorSx26
import Derived.Test.YtglndfgmlminpaaGreatDoorSx23
import Derived.Test.YtglndfgmlminpaaGreatDoorSx25
import Derived.Test.YtglndfgmlminpaaGreatDoorSx20
import Derived.Test.YtglndfgmlminpaaGreatDoorSx15
import Derived.ChangeArms
import Derived.SizedLaws
import Derived.DataReads
import Derived.WideShapes
set_option maxHeartbeats 1000000
set_option maxRecDepth 100000
namespace Go.Proofs.YtglndfgmlminpaaGreatDoor
open Go.RowKit
theorem parP_few {e:Int} {r:List Tok} {ps:List Bs} {r1:List Tok} (h:parP e r= .ok (ps,r1)):ps.length≤r.length:=by
 unfold parP at h
 split at h
 ·cases h;simp
 ·have:=parF_grow _ h;simp at this;omega
theorem funcP_few {e:Int} {f:Nat} {r:List Tok} {ns:List Nd} {x:Fc} {r1:List Tok} {ns1:List Nd} (h:funcP e f r ns= .ok (x,r1,ns1)):x.params.length≤r.length∧r1.length<r.length:=by
 unfold funcP at h
 split at h
 ·cases h
 rename_i h1
 split at h
 ·cases h
 rename_i h2
 split at h
 ·cases h
 rename_i h3
 split at h
 ·cases h
 rename_i h4
 split at h
 ·cases h
 rename_i h5
 cases h
 have:=(mustT_eats h1).lt
 have:=(mustK_eats h2).lt
 have:=(mustT_eats h3).lt
 have:=(parP_eats h4).lt
 have:=(blockP_eats f h5).lt
 have:=parP_few h4
 exact⟨by dsimp only;omega,by omega⟩
theorem progF_few {e:Int} {f B:Nat}:∀(g:Nat) {fs:List Fc} {r:List Tok} {ns:List Nd} {p:Pg},progF e f g fs r ns= .ok p→r.length≤B→(∀x∈fs,x.params.length≤B)→
  p.nodes.length≤ns.length+r.length∧p.funcs.length≤fs.length+r.length∧∀x∈p.funcs,x.params.length≤B
 |0,fs,r,ns,p,h,_,hB=>by cases h;exact⟨by simp,by simp,hB⟩
 |g+1,fs,r,ns,p,h,hr,hB=>by
  simp only[progF] at h
  split at h
  ·cases h;exact⟨by simp,by simp,hB⟩
  split at h
  ·cases h
  rename_i x r1 ns1 h1
  have h2:=funcP_few h1
  have h3:=funcP_grow h1
  obtain⟨a,b,c⟩:=progF_few (B:=B) (r:=r1) g h (by omega) (by
   intro y hy
   rcases List.mem_append.1 hy with hy|hy
   ·exact hB y hy
   ·rw[List.mem_singleton.1 hy];omega)
  rw[List.length_append,List.length_singleton] at b
  exact⟨by omega,by omega,c⟩
theorem binL_len {s:Bs} (h:0<binL s):s.length≤3:=by
 unfold binL at h
 split at h
 ·rename_i h1;subst h1;decide
 split at h
 ·rename_i h1;subst h1;decide
 split at h
 ·rename_i h1;exact(show∀s∈opCmp,s.length≤3 by decide) _ (List.contains_iff_mem.1 h1)
 split at h
 ·rename_i h1;exact(show∀s∈opAdd,s.length≤3 by decide) _ (List.contains_iff_mem.1 h1)
 split at h
 ·rename_i h1;exact(show∀s∈opMul,s.length≤3 by decide) _ (List.contains_iff_mem.1 h1)
 cases h
theorem contB_l2 {s:Bs} (h:contB s=true):s.length≤200:=by
 unfold contB at h
 simp only[Bool.and_eq_true,decide_eq_true_eq] at h
 exact h.1
theorem nameB_len {s:Bs} (h:nameB s=true):s.length≤200:=by
 unfold nameB at h
 simp only[Bool.and_eq_true] at h
 have:=(whole_elim h.1).2.2
 omega
theorem ascB_all:∀(l:List Bs),ascB l=true→∀b∈l,contB b=true
 |[],_,b,h=>by cases h
 |[a],h,b,hb=>by rw[List.mem_singleton.1 hb];exact h
 |a::c::l,h,b,hb=>by
  simp only[ascB,Bool.and_eq_true] at h
  rcases List.mem_cons.1 hb with rfl|hb
  ·exact h.1.1
  ·exact ascB_all (c::l) h.2 b hb
theorem fields_len {a:Lab} {nk:Nat} (h:fieldsB a nk=true):a.text.length≤200∧a.keys.length≤nk∧∀b∈a.keys,b.length≤200:=by
 unfold fieldsB at h
 split at h
 ·cases h
 rename_i h0
 simp only[not_or,not_and,ne_eq,Classical.not_not] at h0
 by_cases h7:a.kind=7
 ·rw[if_neg (by omega),if_neg (by omega),if_neg (by omega),if_neg (by omega),if_neg (by omega),if_pos h7] at h
  simp only[Bool.and_eq_true,decide_eq_true_eq] at h
  exact⟨by rw[h.1.1];simp,by omega,fun b hb=>contB_l2 (ascB_all _ h.2 b hb)⟩
 ·have hk:=h0.1 h7
  refine⟨?_,by rw[hk];simp,by rw[hk];simp⟩
  split at h
  ·simp only[Bool.and_eq_true,decide_eq_true_eq] at h;rw[h.1];simp
  split at h
  ·simp only[Bool.and_eq_true,decide_eq_true_eq] at h;rw[h.1.1];simp
  split at h
  ·exact contB_l2 h
  split at h
  ·exact nameB_len h
  split at h
  ·have:=(whole_elim h).2.2;omega
  split at h
  ·simp only[Bool.or_eq_true,decide_eq_true_eq] at h
   rcases h with h|h<;>rw[h]<;>decide
  split at h
  ·have:=binL_len (of_decide_eq_true h);omega
  ·rw[of_decide_eq_true h];simp
theorem flats_mem:∀(ts:List Tr) (b:Nat) {n:Nd},n∈Tr.flats b ts→∃T∈ts,∃c,n∈T.flat c
 |[],b,n,h=>by cases h
 |T::ts,b,n,h=>by
  simp only[Tr.flats] at h
  rcases List.mem_append.1 h with h|h
  ·exact⟨T,by simp,b,h⟩
  ·obtain⟨X,hX,c,hc⟩:=flats_mem ts _ h
   exact⟨X,by simp[hX],c,hc⟩
theorem sizes_len:∀(ts:List Tr),ts.length≤Tr.sizes ts
 |[]=>Nat.le_refl _
 |T::ts=>by
  have:=sizes_len ts
  have:=T.size_pos
  simp only[Tr.sizes,List.length_cons]
  omega
theorem flatN_len:∀(m:Nat) (T:Tr) (b:Nat),T.size≤m→T.wf=true→∀n∈T.flat b,n.kids.length≤T.size∧n.keys.length≤T.size∧n.text.length≤200∧∀x∈n.keys,x.length≤200
 |0,T,b,h,_,_,_=>by have:=T.size_pos;omega
 |m+1,T,b,h,hw,n,hn=>by
  obtain⟨a,ts⟩:=T
  obtain⟨hf,hc,hws⟩:=wf_parts hw
  simp only[Tr.size] at h
  simp only[Tr.flat] at hn
  have hsl:=sizes_len ts
  rcases List.mem_append.1 hn with hn|hn
  ·obtain⟨X,hX,c,hc⟩:=flats_mem ts _ hn
   have hms:=Tr.mem_size hX
   obtain⟨g1,g2,g3,g4⟩:=flatN_len m X c (by omega) (kid_wf hX hws) n hc
   simp only[Tr.size]
   exact⟨by omega,by omega,g3,g4⟩
  ·rw[List.mem_singleton.1 hn]
   obtain⟨g1,g2,g3⟩:=fields_len hf
   simp only[Tr.size]
   exact⟨by rw[Tr.roots_length];omega,by omega,g1,g3⟩
theorem prog_ok {s:Bs} {p:Pg} (h:progP s.length (tokens s).1= .ok p):PgOk p:=by
 obtain⟨Fs,hF,e⟩:=parse_trees h
 have ht:=tokens_few s
 obtain⟨g1,g2,g3⟩:=progF_few (B:=1000) _ h (by omega) (fun x hx=>by cases hx)
 simp only[List.length_nil,Nat.zero_add] at g1 g2
 refine⟨⟨by omega,fun n hn=>?_⟩,by omega,fun f hf=>⟨?_,?_,?_⟩⟩
 ·have hns:p.nodes=Tr.flats 0 (Fs.map (·.body)):=by rw[e];rfl
  have hlen:Tr.sizes (Fs.map (·.body))≤1000:=by
   have:=congrArg List.length hns
   rw[Tr.flats_length] at this
   omega
  rw[hns] at hn
  obtain⟨T,hT,c,hc⟩:=flats_mem _ _ hn
  have hms:=Tr.mem_size hT
  obtain⟨F,hFm,rfl⟩:=List.mem_map.1 hT
  obtain⟨k1,k2,k3,k4⟩:=flatN_len _ F.body c (Nat.le_refl _) (hF F hFm).wf n hc
  exact⟨by omega,by omega,fun b hb=>by have:=k4 b hb;omega,by omega⟩
 all_goals
  have hfs:p.funcs=fcs 0 Fs:=by rw[e];rfl
  have hq:∀(Fs:List FnT) (b:Nat),(∀F∈Fs,FnTOk F)→∀f∈fcs b Fs,nameB f.name=true∧∀s∈f.params,nameB s=true:=by
   intro Fs
   induction Fs with
   |nil=>intro b _ f hf;cases hf
   |cons F Fs ih=>
    intro b hF f hf
    simp only[fcs] at hf
    rcases List.mem_cons.1 hf with rfl|hf
    ·exact⟨(hF F (by simp)).name,(hF F (by simp)).params⟩
    ·exact ih _ (fun X hX=>hF X (by simp[hX])) f hf
 ·have:=nameB_len (hq Fs 0 hF f (hfs▸hf)).1;omega
 ·have:=g3 f hf;omega
 ·intro b hb
  have:=nameB_len ((hq Fs 0 hF f (hfs▸hf)).2 b hb);omega
theorem x_sparseP (s:Bs) (hs:s.length≤281474976710656):DCalls Tryz.prog 9 [bstr s] (parV (parseP s)):=x_sparse s hs fun p h=>x_check p (prog_ok h)
end Go.Proofs.YtglndfgmlminpaaGreatDoor
namespace Go.Proofs.YtglndfgmlminpaaGreatDoor
open Go.RowKit Go.Shelf
section
variable {P:Program} {ρ:Ren}
variable {o:Oper} {E:Operand→V} {m:List (Option Bk)} {x:Operand}
end
end Go.Proofs.YtglndfgmlminpaaGreatDoor
namespace Go.Proofs.YtglndfgmlminpaaGreatDoor
open Go.RowKit Go.Shelf
def ppM:List (Nat×Bool):=prM++[(3000000+70,true)]
theorem pdx {f:FuncId} {fn:Func} (hf:Tryz.prog.funcs[f]?=some fn) (hn:(fn.name== "runtime.NumGoroutine")=false) {args:List V} {res:V} (h:Body Tryz.prog (TM ppM) fn args res):DCalls Tryz.prog f args res:=
 dcalls_of (tokM ppM) mixed hf hn h
theorem l169:Lays.n169 Tryz.prog Tryz.lays156_ren:={Tryz.lays156 with}
abbrev prV (x:Bs×Int):V:= .tu [bstr x.1,int x.2]
end Go.Proofs.YtglndfgmlminpaaGreatDoor
namespace Go.Proofs.YtglndfgmlminpaaGreatDoor
open Go.RowKit Go.Shelf
abbrev W (Fs:List FnT) (k:Nat):Bs:=txP (progPc (Fs.take k))
end Go.Proofs.YtglndfgmlminpaaGreatDoor
namespace Go.Proofs.YtglndfgmlminpaaGreatDoor
open Go.RowKit
end Go.Proofs.YtglndfgmlminpaaGreatDoor
namespace Go.Proofs.YtglndfgmlminpaaGreatDoor
open Go.RowKit
def fdM:List (Nat×Bool):=[(49,false),(48,false)]
def findN (x:Bs):List Fc→Nat→Int
 |[],_=> -1
 |s::l,i=>if s.name==x then i else findN x l (i+1)
theorem findN_cons (x:Bs) (s:Fc) (l:List Fc) (i:Nat):findN x (s::l) i=if s.name==x then(i:Int) else findN x l (i+1):=rfl
theorem x_fnd1 (f:Fc) (x:Bs):MCalls Tryz.prog 49 [.ag [bstr f.name,.sl false 1 (f.params.map strD),int f.body],.bx 0 0] [.box [bstr x]] (boo (sEq (mk f.name) (mk x))) [.box [bstr x]]:=by
 refine msx Tryz.func49 (by kernel_rfl) (by kernel_rfl) ?_
 exact⟨rfl,rfl,rfl⟩
theorem x_indexFc (l:List Fc) (x:Bs) (hl:l.length≤8796093022207):
  MCalls Tryz.prog 48 [.sl false 3 (l.map fcD),.fn 49 0 [.bx 0 0]] [.box [bstr x]] (int (findN x l 0)) [.box [bstr x]]:=by
 refine msxm fdM Tryz.func48 (by kernel_rfl) (by kernel_rfl) ?_
 conv=>whnf
 refine⟨[],Nat,fun k=>[(8,int k)],fun _=>[],fun k=>k≤l.length∧findN x (l.drop k) k=findN x l 0,fun k=>l.length - k,0,⟨by simp,rfl⟩,?_,?_⟩
 ·refine⟨rfl,?_,?_⟩<;>repeat' (first|exact trivial|exact rfl|refine and_rfl ?_|refine and_two ?_ ?_)
 rintro k ⟨hk,hf⟩
 conv=>whnf
 rintro(_|_) h1
 ·have h1:l.length≤k:=by simp at h1;omega
  rw[List.drop_eq_nil_of_le h1] at hf
  exact⟨rfl,rfl,by rw[←hf];rfl⟩
 have h1:k<l.length:=by simp at h1;omega
 rw[List.drop_eq_getElem_cons h1,findN_cons] at hf
 conv=>whnf
 refine⟨by omega,_,get_map fcD h1,?_⟩
 conv=>whnf
 refine mcall (T:=TM fdM) (φ:=[]) (x_fnd1 l[k] x) ?_
 conv=>whnf
 rintro(_|_) h2
 ·rw[sEq_mk] at h2
  rw[h2,if_neg (by simp)] at hf
  conv=>whnf
  refine⟨k+1,⟨h1,hf⟩,by dsimp only;omega,?_⟩
  refine⟨rfl,?_,?_⟩<;>repeat' (first|exact trivial|exact rfl|refine and_rfl ?_|refine and_val (wrap_succ (by omega)) ?_|refine and_two ?_ ?_)
 ·rw[sEq_mk] at h2
  rw[h2,if_pos rfl] at hf
  exact⟨rfl,rfl,by rw[←hf];rfl⟩
theorem x_sfind (p:Pg) (x:Bs) (hl:p.funcs.length≤8796093022207):DCalls Tryz.prog 20 [p.V,bstr x] (int (findN x p.funcs 0)):=by
 refine sxm fdM Tryz.func20 (by kernel_rfl) ?_
 conv=>whnf
 refine mcall (T:=TM fdM) (φ:=[]) (x_indexFc p.funcs x hl) ?_
 rfl
end Go.Proofs.YtglndfgmlminpaaGreatDoor
namespace Go.Proofs.YtglndfgmlminpaaGreatDoor
def exS1:Bs:=[102,117,110,99,32,109,97,105,110,40,101,41,32,123,32,114,101,116,117,114,110,32,101,43,49,42,50,59,32,125]
def exS2:Bs:=[102,117,110,99,32,109,97,105,110,40,101,41,32,123,32,114,101,116,117,114,110,32,49,32,60,32,50,32,60,32,51,59,32,125]
def exS3:Bs:=[102,117,110,99,32,109,97,105,110,40,101,41,32,123,32,114,101,116,117,114,110,32,40,101,43,49,41,42,50,59,32,125]
def exS4:Bs:=[102,117,110,99,32,109,97,105,110,40,101,41,32,123,32,114,101,116,117,114,110,32,123,34,98,34,58,32,49,44,32,34,97,34,58,32,50,125,59,32,125]
def exT1:Bs:=[102,117,110,99,32,109,97,105,110,40,101,41,32,123,10,9,114,101,116,117,114,110,32,101,32,43,32,49,32,42,32,50,59,10,125,10]
def exT3:Bs:=[102,117,110,99,32,109,97,105,110,40,101,41,32,123,10,9,114,101,116,117,114,110,32,40,101,32,43,32,49,41,32,42,32,50,59,10,125,10]
theorem ex_parse2:parseP exS2=(⟨[],[]⟩,28,1):=by kernel_rfl
theorem ex_parse4:parseP exS4=(⟨[],[]⟩,31,1):=by kernel_rfl
theorem itoa_d (n:Nat) (h:n<10):Lib.itoa (n:Int)=[UInt8.ofNat (48+n)]:=by
 rw[Lib.itoa_nonneg,decDigits_lt h]
end Go.Proofs.YtglndfgmlminpaaGreatDoor
namespace Go.Proofs.YtglndfgmlminpaaGreatDoor
open Go.RowKit
end Go.Proofs.YtglndfgmlminpaaGreatDoor
namespace Go.Proofs.YtglndfgmlminpaaGreatDoor
open Go.RowKit
theorem pnlit {a:Bs} {d:Array UInt8} {b:Bool} (h:(a==d.toList)=b):(!((mk a).toList==(⟨d⟩:ByteArray).toList))= !b:=by rw[litE,h]
theorem pg_nil:PgOk ⟨[],[]⟩:=⟨⟨by simp,by simp⟩,by simp,by simp⟩
theorem parse_PgOk (s:Bs):PgOk (parseP s).1:=by
 unfold parseP
 split
 ·exact pg_nil
 split
 ·exact pg_nil
 ·rename_i p hp
  split
  ·exact pg_nil
  ·exact prog_ok hp
def exP1:Pg:=⟨[⟨5,[101],0,[],[]⟩,⟨3,[],1,[],[]⟩,⟨3,[],2,[],[]⟩,⟨9,[42],0,[],[1,2]⟩,⟨9,[43],0,[],[0,3]⟩,⟨17,[],0,[],[4]⟩,⟨19,[],0,[],[5]⟩],[⟨[109,97,105,110],[[101]],6⟩]⟩
def exP3:Pg:=⟨[⟨5,[101],0,[],[]⟩,⟨3,[],1,[],[]⟩,⟨9,[43],0,[],[0,1]⟩,⟨3,[],2,[],[]⟩,⟨9,[42],0,[],[2,3]⟩,⟨17,[],0,[],[4]⟩,⟨19,[],0,[],[5]⟩],[⟨[109,97,105,110],[[101]],6⟩]⟩
theorem ex_same13:sameP exP1 exP3=false:=by kernel_rfl
theorem ex_same11:sameP exP1 exP1=true:=by kernel_rfl
theorem ex_ok:PgOk exP1:=by
 have:=parse_PgOk exS1
 rw[show parseP exS1=(exP1,0,0) by kernel_rfl] at this
 exact this
theorem ex_ok3':PgOk exP3:=by
 have:=parse_PgOk exS3
 rw[show parseP exS3=(exP3,0,0) by kernel_rfl] at this
 exact this
theorem ex_big:PgBig exP1:=⟨by decide,by decide,by decide,by decide,by decide⟩
abbrev AwakeS:Prop:=DCalls Tryz.prog 12 [] (boo true)
end Go.Proofs.YtglndfgmlminpaaGreatDoor
namespace Go.Proofs.YtglndfgmlminpaaGreatDoor
open Go.RowKit
end Go.Proofs.YtglndfgmlminpaaGreatDoor
namespace Go.Proofs.YtglndfgmlminpaaGreatDoor
open Go.RowKit
def szOf (T:Tab) (e:Nat):Nat:=match T e with|some i=>i.size|none=>0
def byOf (T:Tab) (e:Nat):Nat:=match T e with|some i=>i.bytes|none=>0
def DOkL (p:Nat→List D→Prop):List (Nat×Nat)→List D→Prop
 |[],ds=>ds=[]
 |f::fs,ds=>∃a b,ds=a++b∧p f.2 a∧DOkL p fs b
def DOk (T:Tab):Nat→Nat→List D→Prop
 |0,_,_=>False
 |n+1,ty,ds=>match T ty with
  |none=>False
  |some i=>match i.kd with
   | .int k=>∃z,ds=[.cv (.int k z)]∧(Lit.int k z).wf=true
   | .bool=>∃b,ds=[.cv (.bool b)]
   | .string=>∃s:ByteArray,ds=[.cv (.string s)]∧s.size≤reachBytes
   | .slice e=>∃xs,ds=[.sl (szOf T e) xs]∧xs.length*byOf T e≤reachBytes∧xs.length≤maxLen∧∀x∈xs,DOk T n e x
   | .struct fs=>DOkL (DOk T n) fs ds
   |_=>False
def contig (T:Tab):Nat→List (Nat×Nat)→Option Nat
 |o,[]=>some o
 |o,(off,ty)::fs=>if off=o then(match T ty with|some i=>contig T (o+i.size) fs|none=>none) else none
def okT (T:Tab):Nat→Nat→Bool
 |0,_=>false
 |n+1,ty=>match T ty with
  |none=>false
  |some i=>match i.kd with
   | .int _| .bool| .string=>i.size==1
   | .slice e=>i.size==1&&(szOf T e !=0&&okT T n e)
   | .struct fs=>contig T 0 fs==some i.size&&fs.all fun f=>okT T n f.2
   |_=>false
section
variable {P:Program} {T:Tab} {H:Type} {enc:TypeId×Value→H} {w:World} {spare:Nat→Bool} {held:Bool}
theorem TOk.cells (hT:TOk P T) {ty:Nat} {i:TI} (h:T ty=some i):P.cellsOf ty=i.size∧P.bytesOf ty=i.bytes:=by
 obtain⟨j,h1,h2,h3,_⟩:=hT.get ty i h
 simp[Program.cellsOf,Program.bytesOf,h1,h2,h3]
theorem TOk.szOf (hT:TOk P T) {ty:Nat} (h:szOf T ty≠0):P.cellsOf ty=szOf T ty∧P.bytesOf ty=byOf T ty:=by
 unfold Go.Proofs.YtglndfgmlminpaaGreatDoor.szOf at h⊢
 unfold byOf
 cases hi:T ty with
 |none=>rw[hi] at h;exact absurd rfl h
 |some i=>exact hT.cells hi
theorem get_of_cells? {a:Addr} {n:Nat} {cs:List Value} (h:w.cells? 0 a n=some cs):cs.length=n∧∀j u,cs[j]?=some u→w.cell? (a.add j)=some u:=by
 unfold World.cells? at h
 rw[if_pos (Nat.zero_le _)] at h
 have hl:=mapM_some_length h
 simp at hl
 refine⟨hl,fun j u hu=>?_⟩
 have hj:j<n:=by have:=lt_of_get hu;omega
 have:=mapM_some_get h j j (by simp[hj])
 rw[this,hu]
theorem weights_sl {e:TypeId} {d:DataW H}:∀{l:List (DataW H)},d∈l→∀n∈d.weights P e,n∈DataW.weightsAll P e l
 |x::l,hd,n,hn=>by
  simp only[DataW.weightsAll,List.mem_append]
  rcases List.mem_cons.1 hd with rfl|hd
  ·exact .inl hn
  ·exact .inr (weights_sl hd n hn)
theorem cells_one {v:Value} (h:v.oneCell'=true):v.cells= #[v]:=by
 cases v<;>simp_all [Value.oneCell',Value.cells]
theorem trod_read (hT:TOk P T):∀(n ty fuel:Nat) (cs:List Value) (x:DataW H×List MemPlace),okT T n ty=true→DataW.trod enc P w 0 spare held fuel ty cs=some x→(∀q∈x.1.weights P ty,q≤reachBytes)→
  ∃ds,DOk T n ty ds∧ds.length=cs.length∧∀(i:Nat) (d:D),ds[i]?=some d→∃u:Value,cs[i]?=some u∧RelD (fun b=>b<w.heap.size) w d u:=by
 intro n
 induction n with
 |zero=>intro ty fuel cs x h;cases h
 |succ n ih=>
  intro ty fuel cs x hok h hw
  simp only[okT] at hok
  cases hi:T ty with
  |none=>rw[hi] at hok;cases hok
  |some i=>
  rw[hi] at hok
  obtain⟨size,bytes,agg,zero,kd⟩:=i
  have one:∀{d:D} {u:Value},RelD (fun b=>b<w.heap.size) w d u→∀(i:Nat) (d':D),[d][i]?=some d'→∃u':Value,[u][i]?=some u'∧RelD (fun b=>b<w.heap.size) w d' u':=by
   intro d u hr i d' hd
   cases i with
   |zero=>simp at hd;subst hd;exact⟨u,rfl,hr⟩
   |succ i=>simp at hd
  cases kd with
  |int k=>
   obtain⟨z,rfl,_,hz⟩:=DataW.trod_int (hT.kd_int hi rfl) h
   exact⟨[.cv (.int k z)],by simp only[DOk,hi];exact⟨z,rfl,hz⟩,rfl,one (.cv _ rfl)⟩
  |bool=>
   obtain⟨b,rfl,_⟩:=DataW.trod_bool (hT.kd_bool hi rfl) h
   exact⟨[.cv (.bool b)],by simp only[DOk,hi];exact⟨b,rfl⟩,rfl,one (.cv _ rfl)⟩
  |string=>
   obtain⟨s,rfl,rfl,_⟩:=DataW.trod_string (hT.kd_string hi rfl) h
   have:=hw s.data.toList.length (by simp[DataW.weights])
   exact⟨[.cv (.string s)],by simp only[DOk,hi];exact⟨s,rfl,by simpa using this⟩,rfl,one (.cv _ rfl)⟩
  |slice e=>
   simp only[Bool.and_eq_true,bne_iff_ne,ne_eq] at hok
   obtain⟨_,hsz,hoke⟩:=hok
   obtain⟨hc,hb⟩:=hT.szOf hsz
   have hu:=hT.kd_slice hi rfl
   rcases DataW.trod_slice hu h with⟨rfl,rfl⟩|⟨a,len,cap,elems,rest,m,rfl,rfl,rfl,_,hlc,hcm,hlen,hel,_,_⟩
   ·exact⟨[.sl (szOf T e) []],by simp only[DOk,hi];exact⟨[],rfl,by simp,by simp,by simp⟩,rfl,one (.nil _ _ _)⟩
   ·rw[hc] at hel
    have helem:∀i,i<len→∃(ds:List D) (us:List Value),w.cells? 0 (a.add (i*szOf T e)) (szOf T e)=some us∧DOk T n e ds∧ds.length=us.length∧∀(j:Nat) (d:D),ds[j]?=some d→∃u:Value,us[j]?=some u∧RelD (fun b=>b<w.heap.size) w d u:=by
     intro i hlt
     have h1:=hel i hlt
     have hi':i<elems.length:=by omega
     rw[List.getElem?_eq_getElem hi',Option.bind_eq_some_iff] at h1
     obtain⟨us,h2,h3⟩:=h1
     obtain⟨ds,h4,h5,h6⟩:=ih e m us _ hoke h3 fun q hq=>hw q (by
      simp only[DataW.weights,hu,List.mem_cons,List.mem_append]
      exact .inr (.inl (weights_sl (List.mem_map.2 ⟨_,List.getElem_mem hi',rfl⟩) q hq)))
     exact⟨ds,us,h2,h4,h5,h6⟩
    let dsF:Nat→List D:=fun i=>if hlt:i<len then Classical.choose (helem i hlt) else []
    have hF:∀i,i<len→∃us:List Value,w.cells? 0 (a.add (i*szOf T e)) (szOf T e)=some us∧DOk T n e (dsF i)∧(dsF i).length=us.length∧∀(j:Nat) (d:D),(dsF i)[j]?=some d→∃u:Value,us[j]?=some u∧RelD (fun b=>b<w.heap.size) w d u:=by
     intro i hlt
     have:=Classical.choose_spec (helem i hlt)
     simp only[dsF,hlt,dif_pos]
     exact this
    refine⟨[.sl (szOf T e) ((List.range len).map dsF)],?_,rfl,one ?_⟩
    ·simp only[DOk,hi]
     refine⟨_,rfl,?_,by simp;omega,fun x hx=>?_⟩
     ·have:=hw ((elems.length+rest.length)*P.bytesOf e) (by simp[DataW.weights,hu])
      rw[hb] at this
      simp only[List.length_map,List.length_range]
      refine Nat.le_trans (Nat.mul_le_mul_right _ ?_) this
      omega
     ·obtain⟨i,hi',rfl⟩:=List.mem_map.1 hx
      exact(hF i (by simpa using hi')).choose_spec.2.1
    ·by_cases h0:len=0
     ·subst h0;exact .nil _ _ _
     have hcell:∀(i j:Nat) (d:D),i<len→(dsF i)[j]?=some d→∃u:Value,w.cell? ((a.add (i*szOf T e)).add j)=some u∧RelD (fun b=>b<w.heap.size) w d u:=by
      intro i j d hlt hd
      obtain⟨us,h1,h2,h3,h4⟩:=hF i hlt
      obtain⟨u,h5,h6⟩:=h4 j d hd
      exact⟨u,(get_of_cells? h1).2 j u h5,h6⟩
     have hlenF:∀i,i<len→(dsF i).length=szOf T e:=fun i hlt=>by
      obtain⟨us,h1,h2,h3,h4⟩:=hF i hlt
      rw[h3,(get_of_cells? h1).1]
     obtain⟨b,o,spot⟩:=a
     obtain⟨u0,h1,_⟩:=hcell 0 0 _ (by omega) (List.getElem?_eq_getElem (by rw[hlenF 0 (by omega)];omega))
     have hspot:spot=none:=by
      have:=World.cell?_spot h1
      unfold Addr.add at this
      split at this<;>split at this<;>simp_all
     subst hspot
     have hlt:=World.block_lt_of_cell? w _ h1
     simp only[add_mk] at hlt hcell
     have hl:((List.range len).map dsF).length=len:=by simp
     have hget:∀(i j:Nat) (d:D),(((List.range len).map dsF)[i]?.bind fun x=>x[j]?)=some d→i<len∧(dsF i)[j]?=some d:=by
      intro i j d hd
      rcases Nat.lt_or_ge i len with h'|h'
      ·simp[h'] at hd;exact⟨h',hd⟩
      ·simp[h'] at hd
     suffices hs:RelD (fun b=>b<w.heap.size) w (.sl (szOf T e) ((List.range len).map dsF)) (.slice (some ⟨b,o,none⟩) ((List.range len).map dsF).length cap) by rw[hl] at hs;exact hs
     refine RelD.sl (S:=fun b=>b<w.heap.size) _ _ b o cap (fun i j=>(w.cell? ⟨b,o+i*szOf T e+j,none⟩).getD undef) hlt (fun x hx=>?_) (by rw[hl];exact hlc) (fun i j d hd=>?_) (fun i j d hd=>?_)
     ·obtain⟨i,hi',rfl⟩:=List.mem_map.1 hx
      exact hlenF i (by simpa using hi')
     ·obtain⟨h2,h3⟩:=hget i j d hd
      obtain⟨u,h4,_⟩:=hcell i j d h2 h3
      rw[h4];rfl
     ·obtain⟨h2,h3⟩:=hget i j d hd
      obtain⟨u,h4,h5⟩:=hcell i j d h2 h3
      rw[h4];exact h5
  |struct fs=>
   simp only[Bool.and_eq_true,beq_iff_eq,List.all_eq_true] at hok
   obtain⟨hcon,hall⟩:=hok
   obtain⟨gs,hu,hgs⟩:=hT.kd_struct hi rfl
   obtain⟨xs,m,rfl,rfl,hl,hxl,hf⟩:=DataW.trod_struct hu h
   rw[(hT.cells hi).1] at hl
   replace hl:cs.length=size:=hl
   have key:∀(l:List (Nat×Nat)) (k o:Nat),fs.drop k=l→contig T o l=some size→∃ds,DOkL (DOk T n) l ds∧o+ds.length=size∧∀(i:Nat) (d:D),ds[i]?=some d→∃u:Value,cs[o+i]?=some u∧RelD (fun b=>b<w.heap.size) w d u:=by
    intro l
    induction l with
    |nil=>
     intro k o _ hc
     simp only[contig,Option.some.injEq] at hc
     exact⟨[],rfl,by simp[hc],by simp⟩
    |cons f l ihl=>
     intro k o hk hc
     obtain⟨off,fty⟩:=f
     simp only[contig] at hc
     split at hc
     rotate_left
     ·cases hc
     rename_i hoff
     subst hoff
     cases hft:T fty with
     |none=>rw[hft] at hc;cases hc
     |some fi=>
     rw[hft] at hc
     have hkf:fs[k]?=some (off,fty):=by
      have:=congrArg (fun l=>l[0]?) hk
      simpa using this
     have hg:∃g,gs[k]?=some g∧g.offset=off∧g.type=fty:=by
      rw[←hgs,List.getElem?_map,Option.map_eq_some_iff] at hkf
      obtain⟨g,hg,e⟩:=hkf
      simp only[Prod.mk.injEq] at e
      exact⟨g,by simpa using hg,e.1,e.2⟩
     obtain⟨g,hg,rfl,rfl⟩:=hg
     have h1:=hf k g hg
     have hlt:k<xs.length:=by
      have:k<gs.size:=(Array.getElem?_eq_some_iff.1 hg).1
      omega
     rw[List.getElem?_eq_getElem hlt,(hT.cells hft).1] at h1
     obtain⟨da,h2,h3,h4⟩:=ih g.type m _ _ (hall _ (List.mem_of_getElem? hkf)) h1 fun q hq=>hw q (by
      simp only[DataW.weights,hu]
      refine DataW.weights_mem_each (j:=k) (t:=g.type) (d:=xs[k].1) ?_ ?_ q hq
      ·rw[List.getElem?_map];simp[hg]
      ·simp[hlt])
     obtain⟨db,h5,h6,h7⟩:=ihl (k+1) (g.offset+fi.size) (by
      have:=congrArg (List.drop 1) hk
      simpa[List.drop_drop,Nat.add_comm] using this) hc
     have hla:da.length=fi.size:=by
      rw[h3,List.length_take,List.length_drop];omega
     refine⟨da++db,⟨da,db,rfl,h2,h5⟩,by simp;omega,fun i d hd=>?_⟩
     rw[List.getElem?_append] at hd
     split at hd
     ·rename_i hlt'
      obtain⟨u,h8,h9⟩:=h4 i d hd
      rw[List.getElem?_take,if_pos (by omega),List.getElem?_drop] at h8
      exact⟨u,h8,h9⟩
     ·rename_i hge
      obtain⟨u,h8,h9⟩:=h7 _ d hd
      refine⟨u,?_,h9⟩
      rw[←h8];congr 1;omega
   obtain⟨ds,h1,h2,h3⟩:=key fs 0 0 rfl hcon
   exact⟨ds,by simp only[DOk,hi];exact h1,by omega,fun i d hd=>by simpa using h3 i d hd⟩
  |_=>cases hok
def dV:List D→V
 |[d]=>d.v true
 |_=> .un
def vOf (T:Tab) (ty:Nat) (ds:List D):V:=
 match T ty with
 |some i=>if i.agg then .ag (ds.map (D.v true)) else dV ds
 |none=> .un
open Go.WideShapes in
theorem read_arg (hT:TOk P T) {n ty:Nat} (hok:okT T n ty=true) {r:Reach} {b0:Nat} {v:Value} {d:DataW H} {ps:List MemPlace} (hval:Value.okWide P w r b0 ty v)
  (h:DataW.Trod enc P w 0 spare held ty v d ps) (hw:∀q∈d.weights P ty,q≤reachBytes):∃ds,DOk T n ty ds∧RelV (fun _=>none) (fun _ b=>b<w.heap.size) w (vOf T ty ds) v:=by
 obtain⟨fuel,h⟩:=h
 obtain⟨ds,h1,h2,h3⟩:=trod_read hT n ty fuel _ _ hok h hw
 refine⟨ds,h1,?_⟩
 cases n with
 |zero=>cases hok
 |succ n=>
 simp only[okT] at hok
 unfold vOf
 cases hi:T ty with
 |none=>rw[hi] at hok;cases hok
 |some i=>
 rw[hi] at hok
 have hagg:=(hT.ok hi).1
 have one:i.agg=false→v.cells= #[v]→RelV (fun _=>none) (fun _ b=>b<w.heap.size) w (if i.agg then .ag (ds.map (D.v true)) else dV ds) v:=by
  intro e1 e2
  rw[e2] at h2 h3
  rw[e1]
  match ds,h2,h3 with
  |[d],_,h3=>
   obtain⟨u,hu,hr⟩:=h3 0 d rfl
   simp at hu;subst hu
   exact .ofD (S:=fun _ b=>b<w.heap.size) hr
  |[],_,_=>exact .un _
  |_::_::_,_,_=>exact .un _
 have many:∀us:Array Value,i.agg=true→v= .agg us→RelV (fun _=>none) (fun _ b=>b<w.heap.size) w (if i.agg then .ag (ds.map (D.v true)) else dV ds) v:=by
  rintro us e1 rfl
  rw[e1]
  simp only[Value.cells,Array.length_toList] at h2 h3
  refine .ag _ us (by simpa using h2) fun j c hc=>?_
  rw[List.getElem?_map,Option.map_eq_some_iff] at hc
  obtain⟨d,hd,rfl⟩:=hc
  obtain⟨u,hu,hr⟩:=h3 j d hd
  rw[getD_of_get hu]
  exact .ofD (S:=fun _ b=>b<w.heap.size) hr
 obtain⟨size,bytes,agg,zero,kd⟩:=i
 cases kd with
 |int k=>obtain⟨z,rfl⟩:=okWide_int (hT.kd_int hi rfl) hval;exact one hagg rfl
 |bool=>obtain⟨z,rfl⟩:=okWide_bool (hT.kd_bool hi rfl) hval;exact one hagg rfl
 |string=>obtain⟨z,rfl⟩:=okWide_string (hT.kd_string hi rfl) hval;exact one hagg rfl
 |slice e=>obtain⟨a,l,c,rfl⟩:=okWide_slice (hT.kd_slice hi rfl) hval;exact one hagg rfl
 |struct fs=>
  obtain⟨gs,hu,_⟩:=hT.kd_struct hi rfl
  obtain⟨us,rfl,_⟩:=okWide_struct hu hval
  exact many us hagg rfl
 |_=>cases hok
theorem weights_cons {t:TypeId} {ts:List TypeId} {d:DataW H} {ds:List (DataW H)} (h:∀q∈DataW.weightsEach P (t::ts) (d::ds),q≤reachBytes):
  (∀q∈d.weights P t,q≤reachBytes)∧∀q∈DataW.weightsEach P ts ds,q≤reachBytes:=by
 simp only[DataW.weightsEach,List.mem_append] at h
 exact⟨fun q hq=>h q (.inl hq),fun q hq=>h q (.inr hq)⟩
theorem relL_nil {N:Names} {S:Sets}:RelL N S w [] []:=⟨rfl,by simp⟩
theorem relL_cons {N:Names} {S:Sets} {v:V} {u:Value} {vs:List V} {us:List Value} (h:RelV N S w v u) (hl:RelL N S w vs us):RelL N S w (v::vs) (u::us):=by
 refine⟨by simp[hl.1],fun i x hx=>?_⟩
 cases i with
 |zero=>simp at hx;subst hx;simpa using h
 |succ i=>simpa using hl.2 i x (by simpa using hx)
end
end Go.Proofs.YtglndfgmlminpaaGreatDoor
namespace Go.Proofs.YtglndfgmlminpaaGreatDoor
open Go.RowKit
theorem size_bs {x:ByteArray} (hx:x.size≤reachBytes):x.data.toList.length≤140737488355328:=by
 have h1:x.size=x.data.toList.length:=by rw[ByteArray.size,Array.length_toList]
 have h2:=reachBytes_lt
 rw[←h1]
 generalize x.size=n at hx
 generalize reachBytes=m at h2 hx
 omega
theorem read_bsC {ds:List D} (h:DOk TT 6 9 ds):∃l:Bs,vOf TT 9 ds=bstr l∧l.length≤140737488355328:=by
 obtain⟨x,rfl,hx⟩:=h
 exact⟨x.data.toList,rfl,size_bs hx⟩
end Go.Proofs.YtglndfgmlminpaaGreatDoor
