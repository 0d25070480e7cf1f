/- Texts joined by pack.py: XSyA XHxB XStS XSxIs XStG XLx11 -/
import Derived.Test.YtjmabkpcahmnpaaGreatDoorRz21
import Derived.Test.YtjmabkpcahmnpaaGreatDoorRz31
import Derived.Test.YtjmabkpcahmnpaaGreatDoorRz32
import Derived.Test.YtjmabkpcahmnpaaGreatDoorRz30
import Derived.Test.YtjmabkpcahmnpaaGreatDoorRz22
import Derived.Shelf.Strings.Builder1
import Derived.Shelf.Strings.Builder2
import Derived.Shelf.Strings.OnBuilder
import Derived.Shelf.Small.Utf8
import Derived.Shelf.Small.Bits
import Derived.Shelf.Small.Strs
import Derived.Shelf.Strings.BuilderF
import Derived.Shelf.Utf8.RuneCount
import Derived.Shelf.Strconv.Atoi
import Derived.Shelf.Strconv.Itoa0
import Derived.Shelf.Strconv.Itoa1
import Derived.Shelf.LaysM
import Derived.Shelf.Strconv.Itoa2
import Derived.Shelf.Strconv.Itoa3
import Derived.Shelf.Strconv.AtoiErrFast
import Derived.Shelf.Strconv.ParseIntEmpty
import Derived.Shelf.Strconv.AtoiFail
import Derived.Shelf.Strconv.Clone
import Derived.Shelf.Strconv.SyntaxError
import Derived.Shelf.LaysC
import Derived.Shelf.Strconv.ToError
import Derived.Shelf.Strconv.Lower
import Derived.Shelf.Strconv.ParseUint10
import Derived.Shelf.Strconv.ParseUint10Empty
import Derived.Shelf.Strconv.ParseUint10Any
import Derived.Shelf.Strconv.ParseInt10
import Derived.Shelf.Strconv.AtoiLong
import Derived.Shelf.Strconv.AtoiInnerAll
import Derived.Shelf.Strconv.RangeError
import Derived.Shelf.Strconv.ToErrorRange
import Derived.Shelf.Strconv.AtoiAll
import Derived.Shelf.Strings.Search1
import Derived.Shelf.Strings.Search2
import Derived.Shelf.Strings.Search3
import Derived.Shelf.Strings.Count
import Derived.Shelf.Strings.Shaped
import Derived.Shelf.Sort.Plain
import Derived.Shelf.Strings.Prefix
import Derived.Shelf.Strings.Split
import Derived.Shelf.Strings.Runes
import Derived.Shelf.Strings.RuneCount
import Derived.Shelf.Bits.Mul64
import Derived.Shelf.Strings.Repeat
import Derived.Ground.Names2Prog
import Derived.Shelf.Slices.Clone
import Derived.Shelf.Slices.CompactS
import Derived.Shelf.Slices.Cells
import Derived.Shelf.Slices.In.SortNone
import Derived.Ground.SlgnProg
import Derived.Shelf.SlicesE.Clone
import Derived.Test.YtjmabkpcahmnpaaGreatDoorChecked
import Derived.Test.YtjmabkpcahmnpaaGreatDoorRz29
import Derived.Test.YtjmabkpcahmnpaaGreatDoorRz12
set_option maxHeartbeats 8000000
set_option maxRecDepth 100000
namespace Go.Proofs.YtjmabkpcahmnpaaGreatDoor
open Go.RowKit
def parM:List (Nat×Bool):=[(192,false),(166,false),(127,false),(167,false),(168,false),
 (128,false),(244,false),(247,false),(245,false),(248,false),
 (242,false),(238,false),(235,false),(206,false),(230,false),(226,false),
 (220,false),(207,false),(195,false),(196,false),(193,false),(194,false),
 (169,false),(130,false),(96,false),(129,false)]
theorem mesx {f:FuncId} {fn:Func} (hf:Tryz.prog.funcs[f]?=some fn) (hn:(fn.name== "runtime.NumGoroutine")=false) {args:List V} {m:List Bk} {out:Except Value (V×List Bk)} (h16:(decide (args.length≤fn.ntmps)&&decide (m.length≤16))=true)
  (h:BodyE (fun vs=>vs.flatMap V.bn) Tryz.prog (TM parM) fn args m out):MEnds Tryz.prog f args m out:=
 mends_of (tokM parM) mixed hf hn h16 h
theorem mpsx {f:FuncId} {fn:Func} (hf:Tryz.prog.funcs[f]?=some fn) (hn:(fn.name== "runtime.NumGoroutine")=false) {args:List V} {m:List Bk} {p:Value} (h16:(decide (args.length≤fn.ntmps)&&decide (m.length≤16))=true)
  (h:BodyE (fun vs=>vs.flatMap V.bn) Tryz.prog (TM parM) fn args m (.error p)):MPans Tryz.prog f args m p:=
 mends_of (out:= .error p) (tokM parM) mixed hf hn h16 h
theorem mcx {f:FuncId} {fn:Func} (hf:Tryz.prog.funcs[f]?=some fn) (hn:(fn.name== "runtime.NumGoroutine")=false) {args:List V} {m:List Bk} {res:V} {m':List Bk} (h16:(decide (args.length≤fn.ntmps)&&decide (m.length≤16))=true)
  (h:BodyM (fun vs=>vs.flatMap V.bn) Tryz.prog (TM parM) fn args m res m'):MCalls Tryz.prog f args m res m':=
 mcalls_of (tokM parM) mixed hf hn h16 h
abbrev pBox (l:List Tok) (k:Nat) (e:Int) (n1 n2:Nat):Bk:= .box [.sl false 4 (l.map tokD),int (k:Nat),int e,.ow n1 0,.ow n2 0]
abbrev nRow (ns:List Nd):Bk:= .row 0 189 5 false (ns.map ndD)
abbrev fRow (fs:List Fc):Bk:= .row 0 110 3 false (fs.map fcD)
abbrev pM (l:List Tok) (k:Nat) (e:Int) (ns:List Nd) (fs:List Fc):List Bk:=[pBox l k e 1 2,nRow ns,fRow fs]
abbrev tsV (ts:List Bs):V:= .sl false 1 (ts.map strD)
abbrev faultV (o:Int):Value:= .iface 173 (.agg #[.int .i64 o])
def outP (l:List Tok) (e:Int) (fs:List Fc):PRes Int→Except Value (V×List Bk)
 | .ok (i,r1,ns1)=> .ok (int i,pM l (l.length - r1.length) e ns1 fs)
 | .error o=> .error (faultV o)
def nextB (k:Int) (ts:List Bs):List Tok→Bool
 |[]=>false
 |t::_=>decide (t.kind=k)&&(ts.isEmpty||ts.contains t.text)
section
variable {l:List Tok} {k:Nat} {e:Int} {ns:List Nd} {fs:List Fc}
theorem nextB_eq (K:Int) (ts:List Bs) (h:k<l.length):nextB K ts (l.drop k)=(decide (l[k].kind=K)&&(ts.isEmpty||ts.contains l[k].text)):=by
 rw[List.drop_eq_getElem_cons h];rfl
theorem nextB_end (K:Int) (ts:List Bs) (h:l.length≤k):nextB K ts (l.drop k)=false:=by
 rw[List.drop_eq_nil_of_le h];rfl
theorem x_next (K:Int) (ts:List Bs) (_hk:k≤l.length) (_hl:l.length≤1000000) (ht:ts.length≤100):MCalls Tryz.prog 192 [.bx 0 0,int K,tsV ts] (pM l k e ns fs) (boo (nextB K ts (l.drop k))) (pM l k e ns fs):=by
 have hll:(l.map tokD).length=l.length:=List.length_map _
 refine mcx Tryz.func192 (by kernel_rfl) (by kernel_rfl) ?_
 conv=>whnf
 refine⟨none,by kernel_rfl,?_⟩
 rcases Nat.lt_or_ge k l.length with h|h
 rotate_left
 ·rw[nextB_end K ts h]
  conv=>whnf
  refine known false (by simp;omega) ?_
  repeat((conv=>whnf);first|refine known true rfl ?_|refine known false rfl ?_)
  conv=>whnf
  exact⟨rfl,rfl,rfl⟩
 rw[nextB_eq K ts h]
 conv=>whnf
 refine known true (by simp;omega) ?_
 conv=>whnf
 refine⟨by omega,_,get_map tokD h,?_⟩
 conv=>whnf
 rintro(_|_) h1
 ·rw[show decide (l[k].kind=K)=false from by simpa using h1,Bool.false_and]
  repeat((conv=>whnf);first|refine known true rfl ?_|refine known false rfl ?_)
  conv=>whnf
  exact⟨rfl,rfl,rfl⟩
 rw[show decide (l[k].kind=K)=true from by simpa using h1,Bool.true_and]
 cases ts with
 |nil=>
  repeat((conv=>whnf);first|refine known true rfl ?_|refine known false rfl ?_)
  conv=>whnf
  exact⟨rfl,rfl,rfl⟩
 |cons t0 ts=>
  conv=>whnf
  refine known false (by simp;omega) ?_
  conv=>whnf
  refine⟨by omega,_,get_map tokD h,?_⟩
  conv=>whnf
  refine⟨_,x_containsS (t0::ts) l[k].text (by omega),?_⟩
  rw[show((t0::ts).isEmpty||(t0::ts).contains l[k].text)=(t0::ts).contains l[k].text from rfl]
  generalize (t0::ts).contains l[k].text=b
  repeat((conv=>whnf);first|refine known true rfl ?_|refine known false rfl ?_)
  conv=>whnf
  exact⟨rfl,rfl,rfl⟩
theorem nextB_yes {K:Int} {ts:List Bs} (h:nextB K ts (l.drop k)=true):k<l.length:=by
 rcases Nat.lt_or_ge k l.length with h1|h1
 ·exact h1
 ·rw[nextB_end K ts h1] at h;cases h
theorem offT_at (h:k<l.length):offT e (l.drop k)=l[k].at_:=by rw[List.drop_eq_getElem_cons h];rfl
theorem offT_end (h:l.length≤k):offT e (l.drop k)=e:=by rw[List.drop_eq_nil_of_le h];rfl
def lineP:Nat→Nat→Plan→Plan
 |0,_,p=>p
 |n+1,i,p=> .one i (lineP n (i+1) p)
theorem x_fail (_hl:l.length≤1000000):MPans Tryz.prog 167 [.bx 0 0] (pM l k e ns fs) (faultV (offT e (l.drop k))):=by
 have hll:(l.map tokD).length=l.length:=List.length_map _
 refine mpsx Tryz.func167 (by kernel_rfl) (by kernel_rfl) ?_
 conv=>whnf
 refine⟨none,by kernel_rfl,?_⟩
 rcases Nat.lt_or_ge k l.length with h|h
 ·rw[offT_at h]
  conv=>whnf
  refine known true (by simp;omega) ?_
  conv=>whnf
  refine⟨some (lineP 13 0 (.alt 13 .done .stop)),by kernel_rfl,?_⟩
  conv=>whnf
  refine⟨by omega,_,get_map tokD h,?_⟩
  conv=>whnf
  refine⟨.inr ?_,trivial⟩
  exact pan_op rfl
 ·rw[offT_end h]
  conv=>whnf
  refine known false (by simp;omega) ?_
  conv=>whnf
  refine .inr ?_
  exact pan_op rfl
theorem x_takeY {K:Int} {ts:List Bs} (hl:l.length≤1000000) (ht:ts.length≤100) (h:nextB K ts (l.drop k)=true) (hk:k<l.length):
  MCalls Tryz.prog 166 [.bx 0 0,int K,tsV ts] (pM l k e ns fs) (.tu [l[k].V,boo true]) (pM l (k+1) e ns fs):=by
 have hw:IntKind.i64.wrap (((k:Nat):Int)+1)=((k+1:Nat):Int):=wrap_succ (by omega)
 have hw2:IntKind.i64.wrap (((k+1:Nat):Int) - 1)=(k:Int):=by rw[wrap_in (by omega)];omega
 refine mcx Tryz.func166 (by kernel_rfl) (by kernel_rfl) ?_
 conv=>whnf
 refine mcall (T:=TM parM) (φ:=[]) (gf:=false) (x_next K ts (Nat.le_of_lt hk) hl ht) ?_
 rw[h]
 conv=>whnf
 refine known false rfl ?_
 conv=>whnf
 rw[hw]
 conv=>whnf
 refine⟨none,by kernel_rfl,?_⟩
 conv=>whnf
 rw[hw2]
 conv=>whnf
 refine⟨by omega,_,get_map tokD hk,?_⟩
 conv=>whnf
 exact⟨rfl,rfl,rfl⟩
theorem x_takeN {K:Int} {ts:List Bs} (hl:l.length≤1000000) (ht:ts.length≤100) (h:nextB K ts (l.drop k)=false) (hk:k≤l.length):
  MCalls Tryz.prog 166 [.bx 0 0,int K,tsV ts] (pM l k e ns fs) (.tu [noTok.V,boo false]) (pM l k e ns fs):=by
 refine mcx Tryz.func166 (by kernel_rfl) (by kernel_rfl) ?_
 conv=>whnf
 refine mcall (T:=TM parM) (φ:=[]) (gf:=false) (x_next K ts hk hl ht) ?_
 rw[h]
 conv=>whnf
 refine known true rfl ?_
 conv=>whnf
 exact⟨rfl,rfl,rfl⟩
theorem x_mustY {K:Int} {ts:List Bs} (hl:l.length≤1000000) (ht:ts.length≤100) (h:nextB K ts (l.drop k)=true) (hk:k<l.length):
  MCalls Tryz.prog 127 [.bx 0 0,int K,tsV ts] (pM l k e ns fs) l[k].V (pM l (k+1) e ns fs):=by
 refine mcx Tryz.func127 (by kernel_rfl) (by kernel_rfl) ?_
 conv=>whnf
 refine mcall (T:=TM parM) (φ:=[]) (gf:=false) (x_takeY hl ht h hk) ?_
 conv=>whnf
 refine known false rfl ?_
 conv=>whnf
 exact⟨rfl,rfl,rfl⟩
theorem x_mustN {K:Int} {ts:List Bs} (hl:l.length≤1000000) (ht:ts.length≤100) (h:nextB K ts (l.drop k)=false) (hk:k≤l.length):
  MPans Tryz.prog 127 [.bx 0 0,int K,tsV ts] (pM l k e ns fs) (faultV (offT e (l.drop k))):=by
 refine mpsx Tryz.func127 (by kernel_rfl) (by kernel_rfl) ?_
 conv=>whnf
 refine .inl ?_
 conv=>whnf
 refine mcall (T:=TM parM) (φ:=[]) (gf:=false) (x_takeN hl ht h hk) ?_
 conv=>whnf
 refine known true rfl ?_
 conv=>whnf
 refine .inr ?_
 exact mpan (T:=TM parM) (x_fail hl) rfl
abbrev ndV (n:Nd):V:= .ag [int n.kind,bstr n.text,int n.val,.sl false 1 (n.keys.map strD),.sl false 1 (n.kids.map intD)]
theorem x_add (n:Nd) (hn:ns.length≤1000000):
  MCalls Tryz.prog 168 [.bx 0 0,ndV n] (pM l k e ns fs) (int (ns.length:Nat)) (pM l k e (ns++[n]) fs):=by
 have e1:pM l k e (ns++[n]) fs=[pBox l k e 1 2,.row 0 189 5 false (ns.map ndD++[ndD n]),fRow fs]:=by simp only[pM,nRow,List.map_append,List.map_cons,List.map_nil]
 have e2:int (ns.length:Nat)=int (IntKind.i64.wrap ((((ns.map ndD++[ndD n]).length:Nat):Int) - 1)):=by
  rw[List.length_append,List.length_map,wrap_in (by simp;omega)];simp
 refine mcx Tryz.func168 (by kernel_rfl) (by kernel_rfl) ?_
 conv=>whnf
 refine⟨none,by kernel_rfl,?_⟩
 conv=>whnf
 refine⟨by rw[List.length_map];show(ns.length+1)*80≤_;omega,?_⟩
 conv=>whnf
 exact⟨rfl,by rw[e1];rfl,by rw[e2];rfl⟩
end
end Go.Proofs.YtjmabkpcahmnpaaGreatDoor
namespace Go.Proofs.YtjmabkpcahmnpaaGreatDoor
open Go.RowKit
theorem hexF_short:∀(f u:Nat),u<16 ^ (f+1)→∀acc g,f≤g→(hexF g u acc).length≤f+1+acc.length
 |0,u,h,acc,g,hg=>by
  cases g with
  |zero=>simp[hexF];omega
  |succ g=>simp only[hexF];rw[if_pos (by simpa using h)];simp;omega
 |f+1,u,h,acc,g,hg=>by
  cases g with
  |zero=>omega
  |succ g=>
   simp only[hexF]
   split
   ·simp;omega
   ·have:=hexF_short f (u / 16) (by rw[Nat.pow_succ] at h;omega) (digH (u % 16)::acc) g (by omega)
    simp at this;omega
def zerB (d:Nat):Bs:=List.replicate d 48
theorem rep_zs:∀d:Nat,Lib.repeatL [48] d=zerB d
 |0=>rfl
 |d+1=>by rw[Lib.repeatL,rep_zs d];simp[zerB,List.replicate_succ]
theorem x_zeros (d:Nat) (hd:d≤1000000):DCalls Tryz.prog 53 [bstr [48],int d] (bstr (zerB d)):=by
 refine⟨⟨_,Tryz.func53,by kernel_rfl,by kernel_rfl⟩,fun w vs hi hvs=>?_⟩
 obtain⟨v0,v1,rfl⟩:∃v0 v1,vs=[v0,v1]:=by
  have:=hvs.1
  match vs,this with
  |[a,b],_=>exact⟨a,b,rfl⟩
 have r0:=hvs.2 0 _ rfl
 have r1:=hvs.2 1 _ rfl
 simp only[List.getD_eq_getElem?_getD,List.getElem?_cons_zero,List.getElem?_cons_succ,Option.getD_some] at r0 r1
 cases r1
 cases r0
 have h:=Tryz.strings_Repeat (mk [48]) d w (by omega) (by rw[mk_size];show 1*d≤_;omega)
 rw[show(mk [48]).data.toList=[48] from rfl,rep_zs] at h
 refine h.mono ?_
 rintro e w' ⟨rfl,hb⟩
 exact⟨_,rfl,.cv _,hb⟩
theorem x_sjoinH (sep:Bs) (xs:List Bs) (hn:xs.length≤140737488355328) (hl:(Lib.join xs sep).length≤140737488355328):DCalls Tryz.prog 51 [strsV xs,bstr sep] (bstr (Lib.join xs sep)):=by
 refine⟨⟨_,Tryz.func51,by kernel_rfl,by kernel_rfl⟩,fun w vs hi hvs=>?_⟩
 obtain⟨v0,v1,rfl⟩:∃v0 v1,vs=[v0,v1]:=by
  have:=hvs.1
  match vs,this with
  |[a,b],_=>exact⟨a,b,rfl⟩
 have r0:=hvs.2 0 _ rfl
 have r1:=hvs.2 1 _ rfl
 simp only[List.getD_eq_getElem?_getD,List.getElem?_cons_zero,List.getElem?_cons_succ,Option.getD_some] at r0 r1
 cases r1
 cases r0
 rename_i hr
 generalize hxs:xs.map strD=ys at hr
 cases hr with
 |nil _ A cap=>
  have:xs=[]:=by simpa using hxs
  subst this
  refine(Any.strings_Join_none Tryz.lays156 Tryz.Builder_Extra_156 A cap (mk sep) w).mono ?_
  rintro e w' ⟨rfl,rfl⟩
  exact⟨_,rfl,.cv _,Below.refl _ _⟩
 |sl _ _ b o' cap u hS hx hcap hc hd=>
  subst hxs
  rw[List.length_map] at hcap⊢
  have hmm:(xs.map mk).map (·.data.toList)=xs:=by rw[List.map_map];exact List.map_id' xs
  have h:=Tryz.strings_Join b o' cap (xs.map mk) (mk sep) w (fun j x hj=>by
   rw[List.getElem?_map,Option.map_eq_some_iff] at hj
   obtain⟨y,hy,rfl⟩:=hj
   have h0:(((xs.map strD)[j]?).bind fun x=>x[0]?)=some (.cv (.string (mk y))):=by rw[List.getElem?_map,hy];rfl
   have h3:=hc j 0 _ h0
   have h4:=hd j 0 _ h0
   generalize u j 0=z at h3 h4
   cases h4
   rw[show o'+j=o'+j*1+0 by omega];exact h3) hS (by rw[List.length_map];exact hn) (by rw[List.length_map];exact hcap) (by rw[hmm,show(mk sep).data.toList=sep from rfl];exact hl)
  rw[hmm,show(mk sep).data.toList=sep from rfl,List.length_map] at h
  refine h.mono ?_
  rintro e w' ⟨rfl,hb⟩
  exact⟨_,rfl,.cv _,hb⟩
def hexP (u:Nat):Bs:=zerB (16 - (hexB u).length)++hexB u
theorem HexSt.short (u:Nat) (hu:u<18446744073709551616):(hexB u).length≤16:=by
 have:=hexF_short 15 u (by rw[show(16:Nat) ^ (15+1)=18446744073709551616 by decide+kernel];exact hu) [] 16 (by decide)
 simpa[hexB] using this
theorem x_hex (u:Nat) (hu:u<18446744073709551616):DCalls Tryz.prog 34 [.cv (.int .u64 u)] (bstr (hexP u)):=by
 have h:=HexSt.short u hu
 refine sx Tryz.func34 (by kernel_rfl) ?_
 conv=>whnf
 refine⟨_,x_fmtU u hu,?_⟩
 conv=>whnf
 rw[show IntKind.i64.wrap (16 - (((mk (hexB u)).size:Nat):Int))=((16 - (hexB u).length:Nat):Int) by rw[mk_size,wrap_in (by omega)];omega]
 refine⟨_,x_zeros _ (by omega),?_⟩
 conv=>whnf
 refine⟨by rw[mk_size,mk_size];simp[zerB];omega,?_⟩
 (conv=>whnf)<;>rfl
abbrev teH (p:Bs×Int):V:= .tu [bstr p.1,int p.2]
theorem b0W {n:Nat}:IntKind.u8.wrap (n:Int)=(((UInt8.ofNat n).toNat:Nat):Int):=by
 rw[IntKind.wrap_u8,UInt8.toNat_ofNat'];omega
theorem shr_nat (a n:Nat):(a:Int).fdiv (2 ^ n)=((a / 2 ^ n:Nat):Int):=by
 rw[Int.fdiv_eq_ediv_of_nonneg _ (by exact Int.le_of_lt (Int.pow_pos (by decide)))]
 simp
section
variable {P:Program} {o:Oper} {E:Operand→V} {m:List (Option Bk)} {x y:Operand}
theorem ot_appendX {n k:Nat} {f:Bool} {xs:List (List D)} {s:ByteArray} {c:Call} {ty tu e:TypeId} (l:List UInt8) (ho:o.op= .call c) (hc:c.callee= .builtin .append) (hargs:c.args.toList=[x,y]) (htys:c.argTypes.toList=[ty,tu])
  (hx:E x= .ow n k) (hy:E y= .cv (.string s)) (hm:m[n]?=some (some (.row k e 1 f xs))) (hxs:xs=l.map byteD)
  (ht:P.underlying ty=some (.slice e)) (hu:P.underlying tu=some .string) (hi:(P.info? e).map (fun i=>(i.size,i.bytes,i.zero))=some (1,1,some (.int .u8 0))) (hb:l.length+s.size≤140737488355328):
  OpTr P o E m (.ow n (k+1)) (m.set n (some (.row (k+1) e 1 f ((l++s.data.toList).map byteD)))):=by
 subst hxs
 exact ot_appendS ho hc hargs htys hx hy hm ht hu hi hb
end
def packB:List Bs→Bs→Bs×Int
 |[],acc=>(acc,0)
 |f::l,acc=>if f.length>4000 then([],3) else packB l (acc++[UInt8.ofNat (f.length / 256),UInt8.ofNat f.length]++f)
def packP (l:List Bs):Bs×Int:=if l.length>64 then([],3) else packB l [UInt8.ofNat l.length]
theorem hiW {b:Bs}:IntKind.u8.wrap ((((mk b).size:Nat):Int).fdiv (2 ^ (min (Int.toNat 8) IntKind.i64.bits)))=(((UInt8.ofNat (b.length / 256)).toNat:Nat):Int):=by
 rw[mk_size,show((b.length:Nat):Int).fdiv (2 ^ (min (Int.toNat 8) IntKind.i64.bits))=((b.length / 256:Nat):Int) from shr_nat b.length 8,IntKind.wrap_u8,UInt8.toNat_ofNat'];omega
theorem loW {b:Bs}:IntKind.u8.wrap (((mk b).size:Nat):Int)=(((UInt8.ofNat b.length).toNat:Nat):Int):=by rw[mk_size];exact b0W
theorem x_pack (l:List Bs) (hl:l.length≤8796093022207):DCalls Tryz.prog 49 [strsV l] (teH (packP l)):=by
 refine sxm [(1000009,false)] Tryz.func49 (by kernel_rfl) ?_
 conv=>whnf
 rintro(_|_) h0
 rotate_left
 ·rw[show packP l=([],3) by unfold packP;rw[if_pos (by simp at h0;omega)]]
  (conv=>whnf)<;>rfl
 have h0:l.length≤64:=by simp at h0;omega
 generalize hR:packP l=R
 have hR:packB l [UInt8.ofNat l.length]=R:=by rw[←hR];unfold packP;rw[if_neg (by omega)]
 have hw0:IntKind.u8.wrap (((l.map strD).length:Nat):Int)=(((UInt8.ofNat l.length).toNat:Nat):Int):=by rw[List.length_map];exact b0W
 conv=>whnf
 rw[hw0]
 refine⟨[],Nat×Bs,fun⟨k,acc⟩=>[(16,int k),(4,.ow 13 0),(13,.un)],fun⟨k,acc⟩=>[(13,some (.row 0 5 1 true (acc.map byteD)))],fun⟨k,acc⟩=>k≤l.length∧acc.length≤1+4002*k∧packB (l.drop k) acc=R,fun x=>l.length - x.1,(0,[UInt8.ofNat l.length]),⟨by omega,by simp,hR⟩,?_,?_⟩
 ·refine⟨rfl,?_,?_⟩<;>repeat' (first|exact trivial|exact rfl|refine and_rfl ?_|refine and_two ?_ ?_)
 rintro⟨k,acc⟩ ⟨hk1,hk2,hk⟩
 conv=>whnf
 rintro(_|_) h2
 ·have h2:l.length≤k:=by simp at h2;omega
  rw[List.drop_eq_nil_of_le h2] at hk
  subst hk
  conv=>whnf
  refine⟨_,_,ot_string (l:=acc) (e:=5) rfl rfl rfl (by kernel_rfl) (by kernel_rfl) (by kernel_rfl),?_⟩
  (conv=>whnf)<;>rfl
 have h2:k<l.length:=by simp at h2;omega
 rw[List.drop_eq_getElem_cons h2] at hk
 unfold packB at hk
 have hg:=get_map strD h2
 generalize l[k]=b at*
 conv=>whnf
 refine⟨by omega,_,hg,?_⟩
 conv=>whnf
 rintro(_|_) h3
 rotate_left
 ·have h3:b.length>4000:=by simp[mk_size] at h3;omega
  rw[if_pos h3] at hk
  subst hk
  (conv=>whnf)<;>rfl
 have h3:b.length≤4000:=by simp[mk_size] at h3;omega
 rw[if_neg (by omega)] at hk
 conv=>whnf
 refine⟨by omega,?_⟩
 conv=>whnf
 rw[hiW,loW]
 refine⟨by simp;omega,?_⟩
 conv=>whnf
 refine⟨_,_,ot_appendX (acc++[UInt8.ofNat (b.length / 256),UInt8.ofNat b.length]) (s:=mk b) rfl rfl rfl rfl rfl rfl rfl (by rw[List.map_append];rfl) (by kernel_rfl) (by kernel_rfl) (by kernel_rfl) (by rw[mk_size];simp;omega),?_⟩
 conv=>whnf
 refine⟨(k+1,acc++[UInt8.ofNat (b.length / 256),UInt8.ofNat b.length]++b),⟨h2,by simp;omega,hk⟩,by dsimp only;omega,?_⟩
 refine⟨rfl,?_,?_⟩<;>repeat' (first|exact trivial|exact rfl|refine and_rfl ?_|refine and_val (wrap_succ (by omega)) ?_|refine and_two ?_ ?_)
def encL (m:Mf):List Bs:=[m.nm,Lib.itoa m.me,Lib.itoa m.st,Lib.join m.ops [44],m.src]
def encP (ck:Int) (m:Mf):Bs×Int:=if ck≠0 then([],ck) else packP (encL m)
def digP (ck:Int) (m:Mf):Bs×Int:=if(encP ck m).2≠0 then([],(encP ck m).2) else(hexP (sumB (encP ck m).1).toNat,0)
theorem x_encode (m:Mf) (ck:Int) (hC:DCalls Tryz.prog 21 [m.V] (int ck)) (hme: -9223372036854775808≤m.me∧m.me≤9223372036854775807) (hst: -9223372036854775808≤m.st∧m.st≤9223372036854775807)
  (ho:m.ops.length≤140737488355328) (hj:(Lib.join m.ops [44]).length≤140737488355328):DCalls Tryz.prog 33 [m.V] (teH (encP ck m)):=by
 have hp:=x_pack (encL m) (show(5:Nat)≤8796093022207 by decide)
 have he:encP ck m=if ck≠0 then([],ck) else packP (encL m):=rfl
 obtain⟨nm,me,st,ops,src⟩:=m
 dsimp only at hme hst ho hj
 refine sx Tryz.func33 (by kernel_rfl) ?_
 conv=>whnf
 refine⟨_,hC,?_⟩
 conv=>whnf
 rintro(_|_) h1
 rotate_left
 ·have h1:ck≠0:=by simpa using h1
  rw[he,if_pos h1]
  (conv=>whnf)<;>rfl
 have h1:ck=0:=by simpa using h1
 rw[he,if_neg (by simp[h1])]
 conv=>whnf
 refine⟨none,by kernel_rfl,?_⟩
 conv=>whnf
 refine⟨_,x_format me hme.1 hme.2,?_⟩
 conv=>whnf
 refine⟨_,x_format st hst.1 hst.2,?_⟩
 conv=>whnf
 refine⟨_,x_sjoinH [44] ops ho hj,?_⟩
 conv=>whnf
 refine⟨_,hp,?_⟩
 (conv=>whnf)<;>rfl
theorem x_digest (m:Mf) (ck:Int) (hE:DCalls Tryz.prog 33 [m.V] (teH (encP ck m))) (hl:(encP ck m).1.length≤281474976710656):DCalls Tryz.prog 23 [m.V] (teH (digP ck m)):=by
 have hd:digP ck m=if(encP ck m).2≠0 then([],(encP ck m).2) else(hexP (sumB (encP ck m).1).toNat,0):=rfl
 generalize encP ck m=r at hE hl hd
 obtain⟨s,e⟩:=r
 dsimp only at hl hd
 have hs:=x_hsum s hl
 have hb:=sumB_in s
 have hx:=x_hex (sumB s).toNat (by omega)
 rw[show(((sumB s).toNat:Nat):Int)=sumB s by omega] at hx
 refine sx Tryz.func23 (by kernel_rfl) ?_
 conv=>whnf
 refine⟨_,hE,?_⟩
 conv=>whnf
 rintro(_|_) h1
 rotate_left
 ·have h1:e≠0:=by simpa using h1
  rw[hd,if_pos h1]
  (conv=>whnf)<;>rfl
 have h1:e=0:=by simpa using h1
 rw[hd,if_neg (by simp[h1])]
 conv=>whnf
 refine⟨_,hs,?_⟩
 conv=>whnf
 refine⟨_,hx,?_⟩
 (conv=>whnf)<;>rfl
end Go.Proofs.YtjmabkpcahmnpaaGreatDoor
namespace Go.Proofs
open Go.Shelf
def Tryz.lays190_ren:Go.Shelf.Ren:=⟨fun|190=>41|125=>61|258=>60|128=>91|129=>92|302=>82|303=>83|304=>84|305=>85|306=>86|307=>87|308=>88|309=>89|310=>90|333=>119|329=>120|330=>121|334=>122|335=>123|336=>124|344=>157|n=>n,fun|31=>22|9=>9|3=>3|46=>123|0=>0|51=>162|53=>84|4=>4|183=>156|182=>155|131=>125|5=>5|218=>200|222=>204|228=>241|229=>242|n=>n,fun|n=>n⟩
theorem Tryz.lays190:Go.Proofs.Lays.n190 Tryz.prog Tryz.lays190_ren:={
 mixed:=by kernel_rfl
 f125:=Tryz.func61.trans (congrArg some (by kernel_rfl))
 f128:=Tryz.func91.trans (congrArg some (by kernel_rfl))
 f129:=Tryz.func92.trans (congrArg some (by kernel_rfl))
 f190:=Tryz.func41.trans (congrArg some (by kernel_rfl))
 f258:=Tryz.func60.trans (congrArg some (by kernel_rfl))
 f302:=Tryz.func82.trans (congrArg some (by kernel_rfl))
 f303:=Tryz.func83.trans (congrArg some (by kernel_rfl))
 f304:=Tryz.func84.trans (congrArg some (by kernel_rfl))
 f305:=Tryz.func85.trans (congrArg some (by kernel_rfl))
 f306:=Tryz.func86.trans (congrArg some (by kernel_rfl))
 f307:=Tryz.func87.trans (congrArg some (by kernel_rfl))
 f308:=Tryz.func88.trans (congrArg some (by kernel_rfl))
 f309:=Tryz.func89.trans (congrArg some (by kernel_rfl))
 f310:=Tryz.func90.trans (congrArg some (by kernel_rfl))
 f329:=Tryz.func120.trans (congrArg some (by kernel_rfl))
 f330:=Tryz.func121.trans (congrArg some (by kernel_rfl))
 f333:=Tryz.func119.trans (congrArg some (by kernel_rfl))
 f334:=Tryz.func122.trans (congrArg some (by kernel_rfl))
 f335:=Tryz.func123.trans (congrArg some (by kernel_rfl))
 f336:=Tryz.func124.trans (congrArg some (by kernel_rfl))
 f344:=Tryz.func157.trans (congrArg some (by kernel_rfl))
 t0:=Tryz.underlying0
 a0:=Tryz.isAgg0
 z0:=Tryz.sizeOf0
 v0:=Tryz.zeroValue0
 t3:=Tryz.underlying3
 a3:=Tryz.isAgg3
 z3:=Tryz.sizeOf3
 v3:=Tryz.zeroValue3
 t4:=Tryz.underlying4
 a4:=Tryz.isAgg4
 z4:=Tryz.sizeOf4
 v4:=Tryz.zeroValue4
 t5:=Tryz.underlying5
 a5:=Tryz.isAgg5
 z5:=Tryz.sizeOf5
 v5:=Tryz.zeroValue5
 t9:=Tryz.underlying9
 a9:=Tryz.isAgg9
 z9:=Tryz.sizeOf9
 v9:=Tryz.zeroValue9
 t31:=Tryz.underlying22
 a31:=Tryz.isAgg22
 z31:=Tryz.sizeOf22
 v31:=Tryz.zeroValue22
 t46:=Tryz.underlying123
 a46:=Tryz.isAgg123
 z46:=Tryz.sizeOf123
 v46:=Tryz.zeroValue123
 t51:=Tryz.underlying162
 a51:=Tryz.isAgg162
 z51:=Tryz.sizeOf162
 v51:=Tryz.zeroValue162
 t53:=Tryz.underlying84
 a53:=Tryz.isAgg84
 z53:=Tryz.sizeOf84
 v53:=Tryz.zeroValue84
 t131:=Tryz.underlying125
 a131:=Tryz.isAgg125
 z131:=Tryz.sizeOf125
 v131:=Tryz.zeroValue125
 t182:=Tryz.underlying155
 a182:=Tryz.isAgg155
 z182:=Tryz.sizeOf155
 v182:=Tryz.zeroValue155
 t183:=Tryz.underlying156
 a183:=Tryz.isAgg156
 z183:=Tryz.sizeOf156
 v183:=Tryz.zeroValue156
 t218:=Tryz.underlying200
 a218:=Tryz.isAgg200
 z218:=Tryz.sizeOf200
 v218:=Tryz.zeroValue200
 t222:=Tryz.underlying204
 a222:=Tryz.isAgg204
 z222:=Tryz.sizeOf204
 v222:=Tryz.zeroValue204
 t228:=Tryz.underlying241
 a228:=Tryz.isAgg241
 z228:=Tryz.sizeOf241
 v228:=Tryz.zeroValue241
 t229:=Tryz.underlying242
 a229:=Tryz.isAgg242
 z229:=Tryz.sizeOf242
 v229:=Tryz.zeroValue242}
open Go.Sort Go.RowKit in
theorem Tryz.slices_Sort_string (blk off cap:Nat) (ss:List (List UInt8)) (w:World) (hH:Holds encStr w blk off ss.toArray) (hblk:blk<w.heap.size) (hsz:ss.length<4611686018427387904):
  Calls Tryz.prog 41 #[.slice (some ⟨blk,off,none⟩) ss.length cap] w fun e w'=>
   e= .returned (.tuple #[])∧∃n os,w'=grow (putRow encStr (Sort.ahead w n) blk off (ss.mergeSort fun x y=>decide (x≤y)).toArray) os:=Any.slices_Sort_string Tryz.lays190 blk off cap ss w hH hblk hsz
open Go.RowKit Go.Lib Go.Sort in
open Go.RowKit Go.Lib Go.Sort in
open Go.RowKit Go.Sort in
theorem Tryz.slices_Sort_string_none (p:Option Addr) (cap:Nat) (w:World):
  Calls Tryz.prog 41 #[.slice p 0 cap] w fun e w'=>e= .returned (.tuple #[])∧w'=w:=Any.slices_Sort_string_none Tryz.lays190 p cap w
end Go.Proofs
namespace Go.Proofs.YtjmabkpcahmnpaaGreatDoor
open Go.RowKit Go.Shelf Go.Proofs
structure PutS (w:World) (g:Nat) (zs:List (List UInt8)) (w':World):Prop where
 os:w'.os=w.os
 tape:w'.tape=w.tape
 output:w'.output=w.output
 size:w.heap.size≤w'.heap.size
 other:∀k,k<w.heap.size→k≠g→w'.heap[k]?=w.heap[k]?
 row:∀cu E,w.heap[g]?=some (.cells cu E (0,0))→∃cu',w'.heap[g]?=some (.cells cu' E (0,0))∧cu'.size=cu.size∧∀i (h:i<zs.length),i<cu.size→cu'[i]?=some (encStr zs[i])
theorem putS_row {w:World} {g n:Nat} {os:Array Obj} {zs:List (List UInt8)}:PutS w g zs (Sort.grow (Sort.putRow encStr (Sort.ahead w n) g 0 zs.toArray) os):=by
 refine⟨rfl,rfl,rfl,by unfold Sort.grow Sort.putRow Sort.mapBlock Sort.ahead;simp,fun k hk hne=>?_,fun cu E h=>?_⟩
 ·unfold Sort.grow Sort.putRow Sort.mapBlock Sort.ahead
  simp only
  rw[Array.getElem?_append_left (by simpa using hk),Array.getElem?_modify,if_neg (Ne.symm hne)]
 ·have hlt:=(Array.getElem?_eq_some_iff.1 h).1
  refine⟨Sort.putCells encStr 0 zs.toArray cu,?_,by simp[Sort.putCells],fun i hi hc=>?_⟩
  ·unfold Sort.grow Sort.putRow Sort.mapBlock Sort.ahead
   simp only
   rw[Array.getElem?_append_left (by simpa using hlt),Array.getElem?_modify,if_pos rfl,h]
   rfl
  ·unfold Sort.putCells
   rw[Array.getElem?_mapIdx]
   simp[hc,hi]
section
variable {P:Program} {T:Tab}
theorem map_str_get {zs:List (List UInt8)} {i j:Nat} {d:D} (h:(((zs.map fun z=>[D.cv (encStr z)])[i]?).bind fun x=>x[j]?)=some d):j=0∧∃h:i<zs.length,d= .cv (encStr zs[i]):=by
 rw[List.getElem?_map] at h
 cases hi:zs[i]? with
 |none=>rw[hi] at h;cases h
 |some z=>
  rw[hi] at h
  obtain⟨hlt,rfl⟩:=List.getElem?_eq_some_iff.1 hi
  cases j with
  |zero=>simp at h;exact⟨rfl,hlt,h.symm⟩
  |succ j=>simp at h
theorem ot_inplaceS {o:Oper} {E:Operand→V} {m:List (Option Bk)} {c:Call} {f:FuncId} {n k Er:Nat} {zs zs':List (List UInt8)} {res:V} (Ok:Option Addr→Nat→Value→Prop) (ho:o.op= .call c) (hc:calleeV E c=some (f,[],[])) (hargs:zA T E c.args.toList c.argTypes.toList=[.ow n k])
  (hm:m[n]?=some (some (.row k Er 1 true (zs.map fun z=>[D.cv (encStr z)])))) (hlen:zs'.length=zs.length) (hF:∃fn,P.funcs[f]?=some fn∧(fn.name== "runtime.NumGoroutine")=false∧fn.body.isNone=false)
  (hcall0:zs=[]→∀(w:World) (A:Option Addr) (cap:Nat),Calls P f #[.slice A 0 cap] w fun e w'=>∃r,e= .returned r∧Ok A cap r∧w'=w)
  (hcall:∀(w:World) (g cap:Nat),Sort.Holds encStr w g 0 zs.toArray→g<w.heap.size→zs.length≤cap→Calls P f #[.slice (some ⟨g,0,none⟩) zs.length cap] w fun e w'=>∃r,e= .returned r∧Ok (some ⟨g,0,none⟩) cap r∧PutS w g zs' w')
  (hres:∀(N:Names) (S:Sets) (w':World) (A:Option Addr) (cap:Nat) (r:Value),Ok A cap r→N n=some (k,.slice A zs.length cap)→RelV N S w' res r):
  OpTr P o E m res (m.set n (some (.row k Er 1 true (zs'.map fun z=>[D.cv (encStr z)])))):=by
 intro B w0 N S t a w hs hx
 obtain⟨us,hus,hgo⟩:=run_call (T:=T) ho hc hx hF
 rw[hargs] at hus
 obtain⟨v,vs,rfl,hv,hvs⟩:=relL_uncons hus
 obtain rfl:vs=[]:=by have:=hvs.1;simpa using this.symm
 obtain⟨v0,us,b1,b2,b3,b4,b5,b6⟩:=hs.blk n _ hm
 have hv:v=v0:=by
  cases hv with
  |ow _ _ _ _ hn=>
   obtain⟨k',u,g1,_,g3⟩:=hn
   rw[b1] at g1;cases g1
   have g4:=g3 rfl
   obtain⟨A,c,h⟩:=own_parts b2
   rw[h] at g4⊢
   exact g4
 subst hv
 rw[List.length_map] at b2
 refine hgo _ ?_
 rcases b2.2 with⟨rfl,hl0⟩|⟨g,cap,cu,rfl,_,hg,hle,hmax,hcs,htk⟩
 ·have hz:zs=[]:=List.eq_nil_of_length_eq_zero hl0
  have hz':zs'=[]:=List.eq_nil_of_length_eq_zero (by omega)
  refine(hcall0 hz w none 0).mono ?_
  rintro e w' ⟨r,rfl,hok,rfl⟩
  refine⟨r,rfl,N,S,?_,hres N S _ none 0 r hok (by rw[b1,hz];rfl)⟩
  subst hz hz'
  have e:m.set n (some (.row k Er 1 true (List.map (fun z=>[D.cv (encStr z)]) ([]:List (List UInt8)))))=m:=by
   have hlt:=lt_of_get hm
   refine List.ext_getElem? fun i=>?_
   rw[List.getElem?_set]
   split
   ·rename_i e;subst e;first|rw[if_pos hlt,hm]|rw[hm]
   ·rfl
  rw[e];exact hs
 ·have hgl:g<w.heap.size:=(Array.getElem?_eq_some_iff.1 hg).1
  have hcell:∀i (hi:i<zs.length),cu[i]?=some (encStr zs[i]):=fun i hi=>by
   obtain⟨u,hu,hr⟩:=b5 i 0 (.cv (encStr zs[i])) (by simp[hi])
   rw[Nat.mul_one,Nat.add_zero,←htk,List.getElem?_take] at hu
   split at hu
   ·rw[Array.getElem?_toList] at hu
    rw[hu]
    cases hr;rfl
   ·cases hu
  have hH:Sort.Holds encStr w g 0 zs.toArray:=by
   intro j hj
   have hj:j<zs.length:=by simpa using hj
   constructor
   ·unfold World.cell?
    rw[hg]
    simp only[Option.isSome_none,Bool.false_eq_true,if_false,Nat.zero_add]
    rw[hcell j hj]
    simp[hj]
   ·unfold World.frozen?
    rw[hg]
    simp
  refine(hcall w g cap hH hgl hle).mono ?_
  rintro e w' ⟨r,rfl,hok,hput⟩
  obtain⟨cu',q1,q2,q3⟩:=hput.row cu Er hg
  obtain⟨N',g1,g2,g3⟩:=hs.set (w':=w') (d:=n) (k:=k) (v:= .slice (some ⟨g,0,none⟩) zs.length cap) (b:= .row k Er 1 true (zs'.map fun z=>[D.cv (encStr z)])) (lt_of_get hm) (fun k0 v0 h=>by rw[b1] at h;cases h;exact .inl ⟨rfl,rfl⟩)
   ⟨hput.os.trans hs.low.os,hput.tape.trans hs.low.tape,hput.output.trans hs.low.output,Nat.le_trans hs.low.size hput.size,fun j hj=>by
    rw[hput.other j (hs.base j hj) (fun e=>(hs.own n _ _ g b1 rfl).1 (by rw[←e];exact hj))]
    exact hs.low.block j hj⟩ hput.size (fun j h1 h2=>hput.other j h1 fun e=>h2 _ _ b1 (by rw[e];rfl))
   (fun j hj=>by simp[At,at1] at hj;subst hj;exact⟨Nat.lt_of_lt_of_le hgl hput.size,.inr ⟨_,_,b1,rfl⟩⟩)
   (fun N' g1 _ _=>⟨_,zs'.map encStr,g1,⟨by simp,.inr ⟨g,cap,cu',by simp[hlen],Nat.zero_le _,q1,by simp[hlen];exact hle,hmax,by rw[q2];exact hcs,by
     apply List.ext_getElem?
     intro i
     rw[List.getElem?_take]
     have hcu:zs.length≤cu.size:=by rw[hcs];omega
     split
     ·rename_i hi
      simp only[List.length_map,Nat.mul_one] at hi
      rw[Array.getElem?_toList,q3 i hi (by omega),List.getElem?_map]
      simp[hi]
     ·rename_i hi
      simp only[List.length_map,Nat.mul_one] at hi
      rw[List.getElem?_eq_none (by simp;omega)]⟩⟩,by simp,by decide,fun i j d hd=>by
     obtain⟨rfl,hi,rfl⟩:=map_str_get hd
     exact⟨encStr zs'[i],by simp[hi],.cv _ rfl⟩,fun _ j hj=>b6 rfl j hj⟩)
  exact⟨r,rfl,N',S,g3,hres N' S w' _ _ r hok g1⟩
end
end Go.Proofs.YtjmabkpcahmnpaaGreatDoor
namespace Go.Proofs.YtjmabkpcahmnpaaGreatDoor
open Go.RowKit Go.Shelf
section
variable {T:Tab}
theorem ot_sortS {o:Oper} {E:Operand→V} {m:List (Option Bk)} {c:Call} {n k Er:Nat} {zs:List Bs} (ho:o.op= .call c) (hc:calleeV E c=some (41,[],[])) (hargs:zA T E c.args.toList c.argTypes.toList=[.ow n k])
  (hm:m[n]?=some (some (.row k Er 1 true (zs.map strD)))) (hsz:zs.length<4611686018427387904):
  OpTr Tryz.prog o E m .un (m.set n (some (.row k Er 1 true ((zs.mergeSort fun x y=>decide (x≤y)).map strD)))):=
 ot_inplaceS (T:=T) (fun _ _ _=>True) ho hc hargs hm (List.length_mergeSort _) ⟨_,Tryz.func41,by kernel_rfl,by kernel_rfl⟩
  (fun hz w A cap=>(Tryz.slices_Sort_string_none A cap w).mono fun e w' ⟨h1,h2⟩=>⟨_,h1,trivial,h2⟩)
  (fun w g cap hH hg hcap=>(Tryz.slices_Sort_string g 0 cap zs w hH hg hsz).mono fun e w' ⟨h1,q,os,h2⟩=>⟨_,h1,trivial,by rw[h2];exact putS_row⟩)
  (fun N S w' A cap r _ _=> .un _)
theorem ot_compactS {o:Oper} {E:Operand→V} {m:List (Option Bk)} {c:Call} {n k Er:Nat} {zs:List Bs} (ho:o.op= .call c) (hc:calleeV E c=some (135,[],[])) (hargs:zA T E c.args.toList c.argTypes.toList=[.ow n k])
  (hm:m[n]?=some (some (.row k Er 1 true (zs.map strD)))) (hsz:zs.length≤9223372036854775807):
  OpTr Tryz.prog o E m (.vw n k 1 0 (Lib.compact zs).length) (m.set n (some (.row k Er 1 true ((Lib.compact zs++List.replicate (zs.length - (Lib.compact zs).length) []).map strD)))):=
 ot_inplaceS (T:=T) (fun A cap r=>r= .slice A (Lib.compact zs).length cap) ho hc hargs hm (by have:=Lib.compact_length_le zs;simp;omega) ⟨_,Tryz.func135,by kernel_rfl,by kernel_rfl⟩
  (fun hz w A cap=>(Tryz.slices_Compact_string_empty A cap w).mono fun e w' ⟨h1,h2⟩=>⟨_,h1,by subst hz;rfl,h2⟩)
  (fun w g cap hH hg hcap=>(Tryz.slices_Compact_string g 0 cap zs w hH hsz hcap).mono fun e w' ⟨h1,q,h2⟩=>⟨_,h1,rfl,by
   rw[h2]
   have:=putS_row (w:=w) (g:=g) (n:=q) (os:= #[]) (zs:=Lib.compact zs++List.replicate (zs.length - (Lib.compact zs).length) [])
   rwa [Sort.grow_empty] at this⟩)
  (fun N S w' A cap r hr hN=>by
   subst hr
   refine .vw _ _ _ _ _ _ rfl ⟨k,_,hN,Nat.le_refl _,fun _=>⟨A,zs.length,cap,A,rfl,Nat.zero_le _,Lib.compact_length_le zs,by simp,fun _=>?_⟩⟩
   cases A with
   |none=>rfl
   |some a=>cases a;simp[Addr.add])
end
def txtF (K:Int):List Nd→List Bs
 |[]=>[]
 |n::l=>if n.kind=K then n.text::txtF K l else txtF K l
def txtS (K:Int) (l:List Nd):List Bs:=Lib.compact ((txtF K l).mergeSort fun x y=>decide (x≤y))
theorem txtF_cons (K:Int) (n:Nd) (l:List Nd):txtF K (n::l)=if n.kind=K then n.text::txtF K l else txtF K l:=rfl
theorem txtF_len (K:Int):∀l:List Nd,(txtF K l).length≤l.length
 |[]=>Nat.le_refl _
 |n::l=>by
  have:=txtF_len K l
  rw[txtF_cons]
  split
  ·simp;exact this
  ·simp;omega
theorem x_texts (p:Pg) (hp:PgS p) (K:Int):DCalls Tryz.prog 98 [p.V,int K,int 0,int p.nodes.length] (strsV (txtS K p.nodes)):=by
 have hN:=hp.ns
 have hnl:(p.nodes.map ndD).length=p.nodes.length:=List.length_map _
 refine sxm [(41,false),(135,false)] Tryz.func98 (by kernel_rfl) ?_
 conv=>whnf
 refine⟨Int.le_refl _,Int.natCast_nonneg _,by rw[hnl];exact Int.le_refl _,?_⟩
 conv=>whnf
 rw[show(List.drop (Int.toNat 0) (List.take ((p.nodes.length:Nat):Int).toNat (List.map ndD p.nodes)))=p.nodes.map ndD by rw[Int.toNat_natCast,←hnl,List.take_length];rfl,hnl]
 refine⟨[(9,30,9,1)],Nat×List Bs,fun⟨k,_⟩=>[(9,.ow 30 0),(18,int k)],fun⟨_,l⟩=>[(30,some (.row 0 9 1 true (l.map strD)))],fun⟨k,l⟩=>k≤p.nodes.length∧l.length≤k∧l++txtF K (p.nodes.drop k)=txtF K p.nodes,fun x=>p.nodes.length - x.1,(0,[]),⟨Nat.zero_le _,Nat.le_refl _,rfl⟩,?_,?_⟩
 ·refine⟨rfl,?_,?_⟩<;>repeat' (first|exact trivial|exact rfl|refine and_rfl ?_|refine and_two ?_ ?_)
 rintro⟨k,l⟩ ⟨b0,b1,b2⟩
 conv=>whnf
 rintro(_|_) h1
 ·have h1:p.nodes.length≤k:=by simp at h1;omega
  rw[List.drop_eq_nil_of_le h1] at b2
  have b2:l=txtF K p.nodes:=by rw[←b2];simp[txtF]
  subst b2
  conv=>whnf
  refine at_tr (ot_sortS (T:=TT) rfl rfl rfl rfl (by omega)) ?_
  conv=>whnf
  refine at_tr (ot_compactS (T:=TT) rfl rfl rfl rfl (by rw[List.length_mergeSort];omega)) ?_
  conv=>whnf
  rw[List.map_append,List.take_left' (List.length_map _),List.drop_zero]
  rfl
 have h1:k<p.nodes.length:=by simp at h1;omega
 rw[List.drop_eq_getElem_cons h1,txtF_cons] at b2
 conv=>whnf
 refine⟨by omega,_,get_map ndD h1,?_⟩
 conv=>whnf
 rintro(_|_) h2
 ·have h2:p.nodes[k].kind≠K:=by simpa using h2
  rw[if_neg h2] at b2
  conv=>whnf
  refine⟨(k+1,l),⟨h1,by omega,b2⟩,by dsimp only;omega,?_⟩
  refine⟨rfl,?_,?_⟩<;>repeat' (first|exact trivial|exact rfl|refine and_rfl ?_|refine and_val (wrap_succ (by omega)) ?_|refine and_two ?_ ?_)
 ·have h2:p.nodes[k].kind=K:=by simpa using h2
  rw[if_pos h2] at b2
  conv=>whnf
  refine⟨by rw[List.length_map];show(l.length+1)*16≤_;omega,?_⟩
  conv=>whnf
  refine⟨(k+1,l++[p.nodes[k].text]),⟨h1,by simp;omega,by rw[←b2];simp⟩,by dsimp only;omega,?_⟩
  refine⟨rfl,?_,?_⟩<;>repeat' (first|exact trivial|exact rfl|(rw[List.map_append];exact rfl)|refine and_rfl ?_|refine and_val (wrap_succ (by omega)) ?_|refine and_two ?_ ?_)
def opsS (e:Int) (p:Pg):List Bs:=if e≠0 then [] else txtS 12 p.nodes
theorem x_sops (p:Pg) (hp:PgS p) (a e:Int) (hC:DCalls Tryz.prog 66 [p.V] (.tu [int a,int e])):DCalls Tryz.prog 67 [p.V] (strsV (opsS e p)):=by
 have hnl:(p.nodes.map ndD).length=p.nodes.length:=List.length_map _
 refine sx Tryz.func67 (by kernel_rfl) ?_
 conv=>whnf
 refine⟨_,hC,?_⟩
 conv=>whnf
 rintro(_|_) h1
 ·have h1:e=0:=by simpa using h1
  rw[show opsS e p=txtS 12 p.nodes by unfold opsS;rw[if_neg (by simp[h1])]]
  conv=>whnf
  rw[hnl]
  refine⟨_,x_texts p hp 12,?_⟩
  (conv=>whnf)<;>rfl
 ·have h1:e≠0:=by simpa using h1
  rw[show opsS e p=[] by unfold opsS;rw[if_pos h1]]
  (conv=>whnf)<;>rfl
end Go.Proofs.YtjmabkpcahmnpaaGreatDoor
namespace Go.Proofs.YtjmabkpcahmnpaaGreatDoor
open Go.RowKit
theorem decDigits_lt {u:Nat} (h:u<10):Lib.decDigits u=[UInt8.ofNat (48+u)]:=by rw[Lib.decDigits,dif_pos h]
theorem decDigits_ge {u:Nat} (h:10≤u):Lib.decDigits u=Lib.decDigits (u / 10)++[UInt8.ofNat (48+u % 10)]:=by rw[Lib.decDigits,dif_neg (by omega)]
theorem decDigits_ne (u:Nat):Lib.decDigits u≠[]:=by
 rcases Nat.lt_or_ge u 10 with h|h
 ·rw[decDigits_lt h];simp
 ·rw[decDigits_ge h];simp
def nd:Bs:=[48,49,50,51,52,53,54,55,56,57]
theorem digL_le:∀l:Bs,digL l≤l.length
 |[]=>Nat.le_refl _
 |c::l=>by
  have:=digL_le l
  simp only[digL,List.length_cons];split<;>omega
theorem digL_all:∀(l:Bs),∀c∈l.take (digL l),isDg c=true
 |[],c,h=>by simp at h
 |d::l,c,h=>by
  simp only[digL] at h
  split at h
  ·rw[List.take_succ_cons] at h
   rcases List.mem_cons.1 h with rfl|h
   ·assumption
   ·exact digL_all l c h
  ·simp at h
theorem digs_take {c:UInt8} {l:Bs} (h:isDg c=true):digs ((c::l).take (digL (c::l))):=by
 refine⟨?_,digL_all _⟩
 simp only[digL,h,if_true,List.take_succ_cons];simp
end Go.Proofs.YtjmabkpcahmnpaaGreatDoor
