/- Texts joined by pack.py: XSyF XSyWC XSyWD XSyWE XSyWF -/
import Derived.Test.YtglndfgmlminpaaGreatDoorSx28
import Derived.Test.YtglndfgmlminpaaGreatDoorSx26
import Derived.Test.YtglndfgmlminpaaGreatDoorSx24
set_option maxHeartbeats 8000000
set_option maxRecDepth 100000
namespace Go.Proofs.YtglndfgmlminpaaGreatDoor
open Go.RowKit
theorem bl_not:∀a b:Bs,(Op.bytesLess a b||(a==b))= !(Op.bytesLess b a)
 |[],[]=>rfl
 |[],b::y=>rfl
 |a::x,[]=>rfl
 |a::x,b::y=>by
  have ih:=bl_not x y
  rcases Nat.lt_trichotomy a.toNat b.toNat with h|h|h
  ·have h1:a<b:=UInt8.lt_iff_toNat_lt.2 h
   have h2:¬b<a:=fun h'=>by have:=UInt8.lt_iff_toNat_lt.1 h';omega
   have h3:¬b=a:=by rintro rfl;omega
   simp[Op.bytesLess,h1,h2,h3]
  ·obtain rfl:a=b:=UInt8.toNat_inj.1 h
   have h2:¬a<a:=fun h'=>by have:=UInt8.lt_iff_toNat_lt.1 h';omega
   simp only[Op.bytesLess,h2,decide_false,Bool.false_or,beq_self_eq_true,Bool.true_and,List.cons_beq_cons]
   exact ih
  ·have h1:¬a<b:=fun h'=>by have:=UInt8.lt_iff_toNat_lt.1 h';omega
   have h2:b<a:=UInt8.lt_iff_toNat_lt.2 h
   have h3:¬a=b:=by rintro rfl;omega
   simp[Op.bytesLess,h1,h2,h3]
theorem mk_toList (l:Bs):(mk l).toList=l:=by
 rw[ByteArray.toList_eq]
 simp[mk]
section
variable {l:List Tok} {k:Nat} {e:Int} {ns:List Nd} {fs:List Fc} {f:Nat} {E:Pars} {ks:List Bs} {js:List Int}
abbrev kM (l:List Tok) (k:Nat) (e:Int) (ns:List Nd) (fs:List Fc) (ks:List Bs) (js:List Int):List Bk:=
 [.box [int 7,bstr [],int 0,.ow 1 0,.ow 2 0],sRow false ks,iRow false js,.box [.bx 4 0],pBox l k e 5 6,nRow ns,fRow fs]
def planK (T:Plan):Plan:= .one 2 (.pull 0 (.alt 1 (.alt 3 T .stop) (.alt 3 (.one 1 T) .stop)))
def planK1:Plan:=planK (.one 4 (.one 5 (.one 6 (.one 7 (.one 8 .done)))))
def planK2:Plan:=planK (.one 4 (.one 5 (.one 6 (.one 7 .done))))
theorem x_kitemY {i:Int} {k1:Nat} {ns1:List Nd} (hk:k<l.length) (h4:l[k].kind=4) (ho:ks=[]∨Op.bytesLess (ks.getLastD []) l[k].text=true) (hcl:isSym sCl (l.drop (k+1))=true) (hk2:k+1<l.length)
  (c:MCalls Tryz.prog 139 [.bx 0 0] (pM l (k+2) e ns fs) (int i) (pM l k1 e ns1 fs)) (hl:l.length≤1000000) (hks:ks.length≤1000000) (hjs:js.length≤1000000):
  MCalls Tryz.prog 269 [.bx 0 0,.bx 3 0] (kM l k e ns fs ks js) (.tu []) (kM l k1 e ns1 fs (ks++[l[k].text]) (js++[i])):=by
 have e1:kM l k1 e ns1 fs (ks++[l[k].text]) (js++[i])=[.box [int 7,bstr [],int 0,.ow 1 0,.ow 2 0],.row 0 9 1 false (ks.map strD++[strD l[k].text]),.row 0 3 1 false (js.map intD++[intD i]),.box [.bx 4 0],pBox l k1 e 5 6,nRow ns1,fRow fs]:=by simp only[kM,iRow,sRow,List.map_append,List.map_cons,List.map_nil]
 have hb4:nextB 4 [] (l.drop k)=true:=by rw[nextB_eq _ _ hk];simp[h4]
 have hb5:nextB 5 [sCl] (l.drop (k+1))=true:=by rw[nextB_one];exact hcl
 have hlk:(ks.map strD).length=ks.length:=List.length_map _
 refine mcx Tryz.func269 (by kernel_rfl) (by kernel_rfl) ?_
 conv=>whnf
 refine⟨none,by kernel_rfl,?_⟩
 rcases List.eq_nil_or_concat ks with rfl|⟨kt,kl,rfl⟩
 repeat((conv=>whnf);first|refine known true rfl ?_|refine known false rfl ?_)
 rotate_left
 rw[List.concat_eq_append] at*
 have hlk:((kt++[kl]).map strD).length=kt.length+1:=by simp
 have hw:IntKind.i64.wrap ((((((kt++[kl]).map strD).length:Nat)):Int) - 1)=((kt.length:Nat):Int):=by rw[hlk,wrap_in (by simp at hks;omega)];omega
 have hget:((kt++[kl]).map strD)[((kt.length:Nat):Int).toNat]?=some (strD kl):=by simp
 conv=>whnf
 refine known true (by rw[hlk];simp) ?_
 conv=>whnf
 refine mcall (T:=TM parM) (φ:=[]) (gf:=false) (x_next 4 [] (Nat.le_of_lt hk) hl (by simp)) ?_
 rw[hb4]
 conv=>whnf
 refine known true rfl ?_
 conv=>whnf
 refine⟨by omega,_,get_map tokD hk,?_⟩
 conv=>whnf
 rw[hw]
 conv=>whnf
 refine⟨by omega,by rw[hlk];simp,?_⟩
 conv=>whnf
 refine⟨_,hget,?_⟩
 have ho:Op.bytesLess kl l[k].text=true:=by
  rcases ho with ho|ho
  ·simp at ho
  ·simpa using ho
 conv=>whnf
 refine known false (by rw[mk_toList,mk_toList,bl_not,ho];rfl) ?_
 all_goals
  conv=>whnf
  refine⟨some planK1,by kernel_rfl,?_⟩
  conv=>whnf
  refine⟨.bx 52 3,fun m2 K2 hK=>hK,?_⟩
  conv=>whnf
  refine⟨?_,?_,trivial⟩
 all_goals
  conv=>whnf
  try refine⟨?_,trivial⟩
  conv=>whnf
  refine mcall (T:=TM parM) (φ:=[]) (gf:=false) (x_mustY (ts:=[]) hl (by simp) hb4 hk) ?_
  conv=>whnf
  refine⟨by rw[List.length_map];show(_+1)*16≤_;simp only[List.length_nil,List.length_append,List.length_cons] at*;omega,?_⟩
  conv=>whnf
  refine mcall (T:=TM parM) (φ:=[]) (gf:=false) (x_mustY (k:=k+1) (ts:=[sCl]) hl (by simp) hb5 hk2) ?_
  conv=>whnf
  refine⟨some planK2,by kernel_rfl,?_⟩
  conv=>whnf
  refine⟨.bx 52 4,fun m2 K2 hK=>hK,?_⟩
  conv=>whnf
  refine⟨?_,?_,trivial⟩
 all_goals
  conv=>whnf
  try refine⟨?_,trivial⟩
  conv=>whnf
  refine mcall (T:=TM parM) (φ:=[]) (gf:=false) c ?_
  conv=>whnf
  refine⟨by rw[List.length_map];show(js.length+1)*8≤_;omega,?_⟩
  conv=>whnf
  exact⟨rfl,by rw[e1];rfl,rfl⟩
end
end Go.Proofs.YtglndfgmlminpaaGreatDoor
namespace Go.Proofs.YtglndfgmlminpaaGreatDoor
open Go.RowKit
def leS (a b:Bs):Bool:=Op.bytesLess (mk a).toList (mk b).toList||((mk a).toList==(mk b).toList)
def keysF:Option Bs→List Bs→Bool
 |_,[]=>true
 |p,s::r=>contB s&& !(match p with|none=>false|some q=>leS s q)&&keysF (some s) r
def keysB (l:List Bs):Bool:=keysF none l
def prv (l:List Bs):Nat→Option Bs
 |0=>none
 |k+1=>l[k]?
theorem i_pred {k:Nat} (h:k<9223372036854775807):IntKind.i64.wrap (((k+1:Nat):Int) - 1)=(k:Int):=by
 rw[IntWalk.i64_in _ (by omega)];omega
theorem keysF_at {l:List Bs} {k:Nat} (h:k<l.length):keysF (prv l k) (l.drop k)=(contB l[k]&& !(match prv l k with|none=>false|some q=>leS l[k] q)&&keysF (prv l (k+1)) (l.drop (k+1))):=by
 rw[List.drop_eq_getElem_cons h,show prv l (k+1)=some l[k] from List.getElem?_eq_getElem h];rfl
theorem x_skeys (l:List Bs) (hn:l.length≤8796093022207) (hl:∀b∈l,b.length≤281474976710656):DCalls Tryz.prog 149 [strsV l] (boo (keysB l)):=by
 refine sx Tryz.func149 (by kernel_rfl) ?_
 conv=>whnf
 refine⟨[],Nat,fun k=>[(7,int k)],fun _=>[],fun k=>k≤l.length∧keysF (prv l k) (l.drop k)=keysB l,fun k=>l.length - k,0,⟨Nat.zero_le _,rfl⟩,?_,?_⟩
 ·refine⟨rfl,?_,?_⟩<;>repeat' (first|exact trivial|exact rfl|refine and_rfl ?_|refine and_two ?_ ?_)
 rintro k ⟨hk1,hk⟩
 conv=>whnf
 rintro(_|_) h2
 ·have h2:l.length≤k:=by simp at h2;omega
  rw[List.drop_eq_nil_of_le h2] at hk
  rw[←hk]
  (conv=>whnf)<;>rfl
 have h2:k<l.length:=by simp at h2;omega
 have hw:IntKind.i64.wrap (((k:Nat):Int)+1)=((k+1:Nat):Int):=wrap_succ (by omega)
 rw[keysF_at h2] at hk
 conv=>whnf
 refine⟨by omega,_,get_map strD h2,?_⟩
 conv=>whnf
 refine⟨_,x_stext l[k] (hl _ (List.getElem_mem h2)),?_⟩
 conv=>whnf
 rintro(_|_) h3
 rotate_left
 ·have h3:contB l[k]=false:=by simpa using h3
  rw[show keysB l=false by rw[←hk,h3];rfl]
  (conv=>whnf)<;>rfl
 have h3:contB l[k]=true:=by simpa using h3
 rw[h3,Bool.true_and] at hk
 cases k with
 |zero=>
  conv=>whnf
  refine known false rfl ?_
  conv=>whnf
  refine⟨1,⟨h2,hk⟩,by dsimp only;omega,?_⟩
  refine⟨rfl,?_,?_⟩<;>repeat' (first|exact trivial|exact rfl|refine and_rfl ?_|refine and_val hw ?_|refine and_two ?_ ?_)
 |succ k=>
  rw[show prv l (k+1)=some l[k] from List.getElem?_eq_getElem (by omega)] at hk
  conv=>whnf
  refine known true (by simp<;>omega) ?_
  conv=>whnf
  refine⟨(by(rw[i_pred (by omega)])<;>omega),_,(by rw[i_pred (by omega)];exact get_map strD (by omega)),?_⟩
  conv=>whnf
  rintro(_|_) h4
  rotate_left
  ·have h4:leS l[k+1] l[k]=true:=h4
   rw[show keysB l=false by rw[←hk];simp[h4]]
   (conv=>whnf)<;>rfl
  have h4:leS l[k+1] l[k]=false:=h4
  simp only[h4,Bool.not_false,Bool.true_and] at hk
  conv=>whnf
  refine⟨k+1+1,⟨h2,hk⟩,by dsimp only;omega,?_⟩
  refine⟨rfl,?_,?_⟩<;>repeat' (first|exact trivial|exact rfl|refine and_rfl ?_|refine and_val hw ?_|refine and_two ?_ ?_)
theorem keysF_asc:∀(l:List Bs) (q:Bs),(keysF (some q) l=match l with|[]=>true|b::r=>Op.bytesLess q b&&ascB (b::r))
 |[],q=>rfl
 |b::r,q=>by
  have ih:=keysF_asc r b
  have e:(!leS b q)=Op.bytesLess q b:=by unfold leS;rw[mk_toList,mk_toList,bl_not];simp
  unfold keysF
  rw[ih,e]
  cases r with
  |nil=>simp[ascB,Bool.and_comm]
  |cons c r=>simp only[ascB];cases contB b<;>cases Op.bytesLess q b<;>simp
theorem keysB_asc (l:List Bs):keysB l=ascB l:=by
 cases l with
 |nil=>rfl
 |cons b r=>
  unfold keysB keysF
  rw[keysF_asc]
  cases r with
  |nil=>simp[ascB]
  |cons c r=>simp only[ascB];cases contB b<;>simp
structure NdOk (n:Nd):Prop where
 text:n.text.length≤281474976710656
 keys:n.keys.length≤8796093022207
 keyl:∀b∈n.keys,b.length≤281474976710656
 kids:n.kids.length≤17592186044415
theorem kinds (n:Int):n=1∨n=2∨n=3∨n=4∨n=5∨n=6∨n=7∨n=8∨n=9∨n=10∨n=11∨n=12∨n=13∨n=14∨n=15∨n=16∨n=17∨n=18∨n=19∨(n<1∨19<n):=by omega
theorem x_scount (n:Nd):DCalls Tryz.prog 111 [n.V] (boo (countB n.kind n.kids.length)):=by
 obtain⟨k,s,v,ks,js⟩:=n
 have hl:(js.map intD).length=js.length:=List.length_map _
 rcases kinds k with h|h|h|h|h|h|h|h|h|h|h|h|h|h|h|h|h|h|h|h
 rotate_right
 ·refine sx Tryz.func111 (by kernel_rfl) ?_
  repeat((conv=>whnf);first|refine known false (by simp;omega) ?_)
  conv=>whnf
  exact fin_boo (by dsimp only;unfold countB;rw[if_neg (by omega),if_neg (by omega),if_neg (by omega),if_neg (by omega)];symm;simp;omega)
 all_goals subst h
 all_goals
  refine sx Tryz.func111 (by kernel_rfl) ?_
  repeat((conv=>whnf);first|refine known true rfl ?_|refine known false rfl ?_)
  try conv=>whnf
 all_goals first
  |(refine fin_boo ?_;dsimp only;rw[hl];generalize js.length=m;rw[Bool.eq_iff_iff];simp[countB];done)
  |(refine fin_boo ?_;dsimp only;rw[hl];generalize js.length=m;rw[Bool.eq_iff_iff];simp[countB];omega)
  |(refine fin_boo ?_;dsimp only;simp[countB];done)
  |skip
 rintro(_|_) h
 all_goals
  conv=>whnf
  dsimp only at h
  rw[hl] at h
  simp at h
  exact fin_boo (by dsimp only;rw[Bool.eq_iff_iff];simp[countB];omega)
theorem x_sfits (n:Nd) (j:Nat) (part:Int):DCalls Tryz.prog 112 [n.V,int j,int part] (boo (fitsB n.kind j part)):=by
 obtain⟨k,s,v,ks,js⟩:=n
 by_cases h19:k=19
 ·subst h19
  refine sx Tryz.func112 (by kernel_rfl) ?_
  conv=>whnf
  refine known true rfl ?_
  conv=>whnf
  refine⟨_,x_sstatement part,?_⟩
  conv=>whnf
  exact fin_boo (by simp[fitsB])
 by_cases h15:k=15∨k=16
 ·cases j with
  |zero=>
   rcases h15 with h|h<;>subst h
   all_goals
    refine sx Tryz.func112 (by kernel_rfl) ?_
    repeat((conv=>whnf);first|refine known true rfl ?_|refine known false rfl ?_)
    conv=>whnf
    refine⟨_,x_sexpression part,?_⟩
    conv=>whnf
    exact fin_boo (by simp[fitsB])
  |succ j=>
   rcases h15 with h|h<;>subst h
   all_goals
    refine sx Tryz.func112 (by kernel_rfl) ?_
    repeat((conv=>whnf);first|refine known true rfl ?_|refine known false rfl ?_)
    try(refine known true (decide_eq_true (by omega)) ?_)
    try conv=>whnf
    exact fin_boo (by rw[Bool.eq_iff_iff];simp[fitsB])
 ·refine sx Tryz.func112 (by kernel_rfl) ?_
  repeat((conv=>whnf);first|refine known false (by simp;omega) ?_)
  conv=>whnf
  refine⟨_,x_sexpression part,?_⟩
  conv=>whnf
  exact fin_boo (by simp[fitsB,h19];intro h;exact absurd h h15)
end Go.Proofs.YtglndfgmlminpaaGreatDoor
namespace Go.Proofs.YtglndfgmlminpaaGreatDoor
open Go.RowKit
theorem lit0 {a:Bs} {d:Array UInt8} {b:Bool} (h:(a==d.toList)=b):((mk a).toList==(⟨d⟩:ByteArray).toList)=b:=(litE a d).trans h
theorem keys_pos {k:Bs} {l:List Bs}:decide (((((k::l).map strD).length:Nat):Int)>0)=true:=by simp
theorem x_sfields7 (s:Bs) (v:Int) (ks:List Bs) (js:List Int) (hn:NdOk ⟨7,s,v,ks,js⟩):DCalls Tryz.prog 110 [Nd.V ⟨7,s,v,ks,js⟩] (boo (fieldsB ⟨7,s,v,ks⟩ js.length)):=by
 have hl:(ks.map strD).length=ks.length:=List.length_map _
 have hj:(js.map intD).length=js.length:=List.length_map _
 by_cases hv:v=0
 rotate_left
 ·refine sx Tryz.func110 (by kernel_rfl) ?_
  repeat((conv=>whnf);first|refine known true rfl ?_|refine known false rfl ?_)
  conv=>whnf
  refine known true (by simpa using hv) ?_
  conv=>whnf
  exact fin_boo (by simp[fieldsB,hv])
 subst hv
 have e:fieldsB ⟨7,s,0,ks⟩ js.length=(decide (s=[])&&decide (ks.length=js.length)&&ascB ks):=by simp[fieldsB]
 rw[e]
 by_cases hs:s=[]
 rotate_left
 ·refine sx Tryz.func110 (by kernel_rfl) ?_
  repeat((conv=>whnf);first|refine known true rfl ?_|refine known false rfl ?_)
  conv=>whnf
  refine known false (lit0 (by simpa using hs)) ?_
  repeat((conv=>whnf);first|refine known true rfl ?_|refine known false rfl ?_)
  try conv=>whnf
  exact fin_boo (by simp[hs])
 subst hs
 have hk:=x_skeys ks hn.keys hn.keyl
 rw[keysB_asc] at hk
 refine sx Tryz.func110 (by kernel_rfl) ?_
 repeat((conv=>whnf);first|refine known true rfl ?_|refine known false rfl ?_)
 conv=>whnf
 refine known true (lit0 rfl) ?_
 conv=>whnf
 rintro(_|_) h
 ·dsimp only at h
  rw[hl,hj] at h
  conv=>whnf
  exact fin_boo (by rw[show decide (ks.length=js.length)=false by simp at h⊢;omega];simp)
 ·dsimp only at h
  rw[hl,hj] at h
  conv=>whnf
  refine⟨_,hk,?_⟩
  conv=>whnf
  exact fin_boo (by rw[show decide (ks.length=js.length)=true by simp at h⊢;omega];simp)
theorem x_sfields2 (s:Bs) (v:Int) (js:List Int):DCalls Tryz.prog 110 [Nd.V ⟨2,s,v,[],js⟩] (boo (fieldsB ⟨2,s,v,[]⟩ js.length)):=by
 have e:fieldsB ⟨2,s,v,[]⟩ js.length=(decide (s=[])&&(decide (v=0)||decide (v=1))):=by simp[fieldsB]
 rw[e]
 refine sx Tryz.func110 (by kernel_rfl) ?_
 by_cases hs:s=[]
 rotate_left
 ·repeat((conv=>whnf);first|refine known true rfl ?_|refine known false rfl ?_)
  conv=>whnf
  refine known false (lit0 (by simpa using hs)) ?_
  repeat((conv=>whnf);first|refine known true rfl ?_|refine known false rfl ?_)
  try conv=>whnf
  exact fin_boo (by simp[hs])
 subst hs
 repeat((conv=>whnf);first|refine known true rfl ?_|refine known false rfl ?_)
 conv=>whnf
 refine known true (lit0 rfl) ?_
 conv=>whnf
 rintro(_|_) h
 all_goals
  conv=>whnf
  exact fin_boo (by simp at h;simp[h,Bool.beq_eq_decide_eq])
theorem x_sfields3 (s:Bs) (v:Int) (js:List Int):DCalls Tryz.prog 110 [Nd.V ⟨3,s,v,[],js⟩] (boo (fieldsB ⟨3,s,v,[]⟩ js.length)):=by
 have e:fieldsB ⟨3,s,v,[]⟩ js.length=(decide (s=[])&&decide (0≤v)&&decide (v≤1000000000000)):=by simp[fieldsB]
 rw[e]
 refine sx Tryz.func110 (by kernel_rfl) ?_
 by_cases hs:s=[]
 rotate_left
 ·repeat((conv=>whnf);first|refine known true rfl ?_|refine known false rfl ?_)
  conv=>whnf
  refine known false (lit0 (by simpa using hs)) ?_
  repeat((conv=>whnf);first|refine known true rfl ?_|refine known false rfl ?_)
  try conv=>whnf
  exact fin_boo (by simp[hs])
 subst hs
 repeat((conv=>whnf);first|refine known true rfl ?_|refine known false rfl ?_)
 conv=>whnf
 refine known true (lit0 rfl) ?_
 conv=>whnf
 rintro(_|_) h
 all_goals
  conv=>whnf
  exact fin_boo (by rw[Bool.eq_iff_iff];simp at h⊢;omega)
theorem x_sfields (n:Nd) (hn:NdOk n):DCalls Tryz.prog 110 [n.V] (boo (fieldsB ⟨n.kind,n.text,n.val,n.keys⟩ n.kids.length)):=by
 obtain⟨k,s,v,ks,js⟩:=n
 by_cases h7:k=7
 ·subst h7;exact x_sfields7 s v ks js hn
 cases ks with
 |cons b ks=>
  refine sx Tryz.func110 (by kernel_rfl) ?_
  conv=>whnf
  refine known true (by simpa using h7) ?_
  conv=>whnf
  refine known true keys_pos ?_
  conv=>whnf
  exact fin_boo (by simp[fieldsB,h7])
 |nil=>
 by_cases h2:k=2
 ·subst h2;exact x_sfields2 s v js
 by_cases h3:k=3
 ·subst h3;exact x_sfields3 s v js
 by_cases hv:v=0
 rotate_left
 ·refine sx Tryz.func110 (by kernel_rfl) ?_
  conv=>whnf
  refine known true (by simpa using h7) ?_
  conv=>whnf
  refine known false rfl ?_
  conv=>whnf
  refine known true (by simpa using h2) ?_
  conv=>whnf
  refine known true (by simpa using h3) ?_
  conv=>whnf
  refine known true (by simpa using hv) ?_
  conv=>whnf
  exact fin_boo (by simp[fieldsB,h7,h2,h3,hv])
 subst hv
 have ht:=hn.text
 dsimp only at ht
 rcases kinds k with h|h|h|h|h|h|h|h|h|h|h|h|h|h|h|h|h|h|h|h
 rotate_right
 ·refine sx Tryz.func110 (by kernel_rfl) ?_
  conv=>whnf
  refine known true (by simpa using h7) ?_
  conv=>whnf
  refine known false rfl ?_
  conv=>whnf
  refine known true (by simpa using h2) ?_
  conv=>whnf
  refine known true (by simpa using h3) ?_
  conv=>whnf
  refine known false rfl ?_
  repeat((conv=>whnf);refine known false (by simp;omega) ?_)
  conv=>whnf
  refine fin_boo ((litE _ _).trans ?_)
  rw[show fieldsB ⟨k,s,0,[]⟩ js.length=decide (s=[]) by unfold fieldsB;rw[if_neg (by simp),if_neg (by simp;omega),if_neg (by simp;omega),if_neg (by simp;omega),if_neg (by simp;omega),if_neg (by simp;omega),if_neg (by simp;omega),if_neg (by simp;omega),if_neg (by simp;omega)]]
  rw[Bool.eq_iff_iff];simp
 all_goals subst h
 all_goals try(exfalso;omega)
 all_goals
  refine sx Tryz.func110 (by kernel_rfl) ?_
  repeat((conv=>whnf);first|refine known true rfl ?_|refine known false rfl ?_|refine⟨_,x_stext s ht,?_⟩|refine⟨_,x_sname s ht,?_⟩|refine⟨_,x_srun s ht,?_⟩|refine⟨_,x_soperator s,?_⟩)
  try conv=>whnf
 all_goals first
  |(refine fin_boo ((litE _ _).trans ?_);rw[Bool.eq_iff_iff];simp[fieldsB];done)
  |(refine fin_boo ?_;simp[fieldsB];done)
  |skip
 rintro(_|_) h
 ·dsimp only at h
  rw[litE] at h
  conv=>whnf
  refine fin_boo ((litE _ _).trans ?_)
  rw[Bool.eq_iff_iff]
  simp at h
  simp[fieldsB,sMi,wNot,h]
  exact decide_eq_true_iff.symm
 ·dsimp only at h
  rw[litE] at h
  conv=>whnf
  refine fin_boo ?_
  simp at h
  simp[fieldsB,sMi,wNot,h]
end Go.Proofs.YtglndfgmlminpaaGreatDoor
namespace Go.Proofs.YtglndfgmlminpaaGreatDoor
open Go.RowKit
structure NsOk (l:List Nd):Prop where
 len:l.length≤8796093022207
 nd:∀n∈l,NdOk n
def natI:Option Nat→Int
 |some a=>(a:Int)
 |none=> -1
theorem take_rev {α:Type} {l:List α} {m:Nat} (h:m<l.length):(l.take (m+1)).reverse=l[m]::(l.take m).reverse:=by
 rw[List.take_add_one,List.getElem?_eq_getElem h];simp
theorem x_first (l:List Nd) (hn:NsOk l):∀(f i:Nat),i<f→i<l.length→DCalls Tryz.prog 68 [.sl true 5 (l.map ndD),int i] (int (natI (firstF l f i)))
 |0,i,h,_=>absurd h (Nat.not_lt_zero _)
 |f+1,i,hif,hi=>by
  have hlen:=hn.len
  have hll:(l.map ndD).length=l.length:=List.length_map _
  have hok:=hn.nd l[i] (List.getElem_mem hi)
  have hkids:=hok.kids
  have hgi:(l.map ndD)[((i:Nat):Int).toNat]?=some (ndD l[i]):=get_map ndD hi
  have hF:firstF l (f+1) i=if nodeOk l[i] then backF l (firstF l f) l[i].kind l[i].kids.reverse i else none:=by
   simp only[firstF,List.getElem?_eq_getElem hi]
  have hfld:=x_sfields l[i] hok
  have hcnt:=x_scount l[i]
  have hnok:nodeOk l[i]=(fieldsB ⟨l[i].kind,l[i].text,l[i].val,l[i].keys⟩ l[i].kids.length&&countB l[i].kind l[i].kids.length):=rfl
  rw[hF]
  refine sx Tryz.func68 (by kernel_rfl) ?_
  conv=>whnf
  refine⟨by omega,_,hgi,?_⟩
  generalize hq:l[i]=q at*
  obtain⟨k,s,v,ks,js⟩:=q
  dsimp only at*
  have hjl:(js.map intD).length=js.length:=List.length_map _
  cases h1:fieldsB ⟨k,s,v,ks⟩ js.length with
  |false=>
   rw[h1] at hfld hnok
   rw[hnok,Bool.false_and,if_neg (by simp)]
   conv=>whnf
   refine⟨_,hfld,?_⟩
   conv=>whnf
   refine known true rfl ?_
   (conv=>whnf)<;>rfl
  |true=>
  rw[h1] at hfld hnok
  rw[hnok,Bool.true_and]
  conv=>whnf
  refine⟨_,hfld,?_⟩
  conv=>whnf
  refine known false rfl ?_
  conv=>whnf
  refine⟨_,hcnt,?_⟩
  conv=>whnf
  rintro(_|_) h2
  rotate_left
  ·have h2:countB k js.length=false:=by simpa using h2
   rw[h2,if_neg (by simp)]
   (conv=>whnf)<;>rfl
  have h2:countB k js.length=true:=by simpa using h2
  rw[h2,if_pos rfl]
  conv=>whnf
  rw[show IntKind.i64.wrap ((((js.map intD).length:Nat):Int) - 1)=((js.length:Nat):Int) - 1 by rw[hjl,wrap_in (by omega)]]
  refine⟨[],Nat×Nat,fun⟨m,at_⟩=>[(6,int at_),(7,int (((m:Nat):Int) - 1))],fun _=>[],fun⟨m,at_⟩=>m≤js.length∧at_≤i∧backF l (firstF l f) k (js.take m).reverse at_=backF l (firstF l f) k js.reverse i,fun⟨m,_⟩=>m,(js.length,i),⟨Nat.le_refl _,Nat.le_refl _,by rw[List.take_length]⟩,?_,?_⟩
  ·refine⟨rfl,?_,?_⟩<;>repeat' (first|exact trivial|exact rfl|refine and_rfl ?_|refine and_two ?_ ?_)
  rintro⟨m,at_⟩ ⟨hm,hat,hk⟩
  cases m with
  |zero=>
   simp only[List.take_zero,List.reverse_nil,backF] at hk
   rw[←hk]
   conv=>whnf
   refine known false rfl ?_
   (conv=>whnf)<;>rfl
  |succ m=>
  have hm':m<js.length:=hm
  rw[take_rev hm'] at hk
  simp only[backF,List.length_reverse,List.length_take,Nat.min_eq_left (Nat.le_of_lt hm')] at hk
  conv=>whnf
  refine known true (decide_eq_true (by omega)) ?_
  conv=>whnf
  refine⟨none,by kernel_rfl,?_⟩
  conv=>whnf
  rintro(_|_) h3
  rotate_left
  ·have h3:at_<1:=by simp at h3;omega
   rw[if_pos (.inl h3)] at hk
   rw[←hk]
   (conv=>whnf)<;>rfl
  have h3:1≤at_:=by simp at h3;omega
  have hwa:IntKind.i64.wrap (((at_:Nat):Int) - 1)=((at_ - 1:Nat):Int):=by rw[wrap_in (by omega)];omega
  have hgj:(js.map intD)[(((m+1:Nat):Int) - 1).toNat]?=some (intD js[m]):=by
   rw[show(((m+1:Nat):Int) - 1).toNat=m by omega];simp[hm']
  have hat':at_ - 1<l.length:=by omega
  have hga:(l.map ndD)[((at_ - 1:Nat):Int).toNat]?=some (ndD l[at_ - 1]):=get_map ndD hat'
  have hfit:DCalls Tryz.prog 112 [Nd.V ⟨k,s,v,ks,js⟩,int (((m+1:Nat):Int) - 1),int l[at_ - 1].kind] (boo (fitsB k m l[at_ - 1].kind)):=by
   rw[show((m+1:Nat):Int) - 1=((m:Nat):Int) by omega]
   exact x_sfits ⟨k,s,v,ks,js⟩ m _
  have ih:=x_first l hn f (at_ - 1) (by omega) hat'
  have hw2:IntKind.i64.wrap ((((m+1:Nat):Int) - 1) - 1)=((m:Nat):Int) - 1:=by rw[wrap_in (by omega)];omega
  rw[List.getElem?_eq_getElem hat'] at hk
  simp only[Option.map_some,Option.getD_some] at hk
  conv=>whnf
  refine⟨by omega,_,hgj,?_⟩
  conv=>whnf
  rintro(_|_) h4
  rotate_left
  ·have h4:js[m]≠(at_:Int) - 1:=by rw[hwa] at h4;simp at h4;omega
   rw[if_pos (.inr (.inl h4))] at hk
   rw[←hk]
   (conv=>whnf)<;>rfl
  have h4:js[m]=(at_:Int) - 1:=by rw[hwa] at h4;simp at h4;omega
  conv=>whnf
  rw[hwa]
  refine⟨by omega,_,hga,?_⟩
  conv=>whnf
  refine⟨_,hfit,?_⟩
  conv=>whnf
  rintro(_|_) h5
  rotate_left
  ·have h5:fitsB k m l[at_ - 1].kind=false:=by simpa using h5
   rw[if_pos (.inr (.inr h5))] at hk
   rw[←hk]
   (conv=>whnf)<;>rfl
  have h5:fitsB k m l[at_ - 1].kind=true:=by simpa using h5
  rw[if_neg (by simp[h5,h4];omega)] at hk
  conv=>whnf
  rw[hwa]
  refine⟨_,ih,?_⟩
  cases h6:firstF l f (at_ - 1) with
  |none=>
   rw[h6] at hk
   rw[←hk]
   conv=>whnf
   refine known true rfl ?_
   (conv=>whnf)<;>rfl
  |some a=>
   rw[h6] at hk
   have ha:a≤at_ - 1:=by
    obtain⟨T,hT⟩:=firstF_spec f _ _ h6
    have:=hT.len
    have:=T.size_pos
    omega
   conv=>whnf
   refine known false (decide_eq_false (by show¬((a:Nat):Int)<0;omega)) ?_
   conv=>whnf
   refine⟨(m,a),⟨by omega,by omega,hk⟩,by(try dsimp only);omega,?_⟩
   refine⟨rfl,?_,?_⟩<;>repeat' (first|exact trivial|exact rfl|refine and_rfl ?_|refine and_val hw2 ?_|refine and_two ?_ ?_)
end Go.Proofs.YtglndfgmlminpaaGreatDoor
namespace Go.Proofs.YtglndfgmlminpaaGreatDoor
open Go.RowKit
def idxG {α:Type} (p:α→Bool):List α→Nat→Int
 |[],_=> -1
 |c::l,k=>if p c then k else idxG p l (k+1)
theorem idxG_any {α:Type} (p:α→Bool):∀(l:List α) (k:Nat),decide (0≤idxG p l k)=l.any p
 |[],_=>rfl
 |c::l,k=>by
  rw[List.any_cons]
  cases h:p c with
  |true=>rw[show idxG p (c::l) k=(k:Int) from if_pos h];simp
  |false=>rw[show idxG p (c::l) k=idxG p l (k+1) from if_neg (by simp[h]),Bool.false_or];exact idxG_any p l (k+1)
theorem x_notname (l:Bs) (hl:l.length≤281474976710656):DCalls Tryz.prog 67 [bstr l] (boo (!nameB l)):=by
 refine sx Tryz.func67 (by kernel_rfl) ?_
 conv=>whnf
 refine⟨_,x_sname l hl,?_⟩
 (conv=>whnf)<;>rfl
theorem x_idxN (l:List Bs) (hl:l.length≤8796093022207) (hb:∀b∈l,b.length≤281474976710656):DCalls Tryz.prog 109 [strsV l,.cv (.func (.func 67) #[] #[])] (int (idxG (fun s=> !nameB s) l 0)):=by
 refine sx Tryz.func109 (by kernel_rfl) ?_
 conv=>whnf
 refine⟨[],Nat,fun k=>[(8,int k)],fun _=>[],fun k=>k≤l.length∧idxG (fun s=> !nameB s) (l.drop k) k=idxG (fun s=> !nameB s) l 0,fun k=>l.length - k,0,⟨by simp,rfl⟩,?_,?_⟩
 ·refine⟨rfl,?_,?_⟩<;>repeat' (first|exact trivial|exact rfl|refine and_rfl ?_|refine and_two ?_ ?_)
 rintro k ⟨hk,hf⟩
 conv=>whnf
 rintro(_|_) h1
 ·simp at h1
  rw[List.drop_eq_nil_of_le (by omega)] at hf
  conv=>whnf
  exact fin_int hf
 have h1:k<l.length:=by simp at h1;omega
 rw[List.drop_eq_getElem_cons h1] at hf
 simp only[idxG] at hf
 conv=>whnf
 refine⟨by omega,_,get_map strD h1,?_⟩
 conv=>whnf
 refine⟨_,x_notname l[k] (hb _ (List.getElem_mem h1)),?_⟩
 conv=>whnf
 rintro(_|_) h2
 ·have h2':¬((!nameB l[k])=true):=by rw[h2];simp
  rw[if_neg h2'] at hf
  conv=>whnf
  refine⟨k+1,⟨h1,hf⟩,by dsimp only;omega,?_⟩
  refine⟨rfl,?_,?_⟩<;>repeat' (first|exact trivial|exact rfl|refine and_rfl ?_|refine and_val (wrap_succ (by omega)) ?_|refine and_two ?_ ?_)
 ·rw[if_pos h2] at hf
  conv=>whnf
  exact fin_int hf
theorem x_anyN (l:List Bs) (hl:l.length≤8796093022207) (hb:∀b∈l,b.length≤281474976710656):DCalls Tryz.prog 66 [strsV l,.cv (.func (.func 67) #[] #[])] (boo (l.any (fun s=> !nameB s))):=by
 refine sx Tryz.func66 (by kernel_rfl) ?_
 conv=>whnf
 refine⟨_,x_idxN l hl hb,?_⟩
 conv=>whnf
 exact fin_boo (idxG_any _ l 0)
structure FcOk (f:Fc):Prop where
 name:f.name.length≤281474976710656
 ps:f.params.length≤8796093022207
 psl:∀b∈f.params,b.length≤281474976710656
structure PgOk (p:Pg):Prop where
 ns:NsOk p.nodes
 fs:p.funcs.length≤8796093022207
 fc:∀f∈p.funcs,FcOk f
theorem any_not:∀(l:List Bs),l.all nameB= !(l.any (fun s=> !nameB s))
 |[]=>rfl
 |c::l=>by rw[List.all_cons,List.any_cons,any_not l];cases nameB c<;>simp
theorem ordF_cons {l:List Nd} {f:Fc} {fs:List Fc} {s:Nat}:ordF l (f::fs) s=if nameB f.name=false∨f.params.all nameB=false then none
  else if f.body<(s:Int)∨(l.length:Int)≤f.body∨(l[f.body.toNat]?.map (·.kind))≠some 19∨firstF l (l.length+1) f.body.toNat≠some s then none
  else ordF l fs (f.body.toNat+1):=rfl
theorem x_ordered (p:Pg) (hp:PgOk p):DCalls Tryz.prog 31 [p.V] (boo (ordB p)):=by
 obtain⟨ns,fs⟩:=p
 have hln:=hp.ns.len
 have hlf:=hp.fs
 dsimp only at hln hlf
 have hnl:(ns.map ndD).length=ns.length:=List.length_map _
 have hfl:(fs.map fcD).length=fs.length:=List.length_map _
 have hF:=fun i h=>x_first ns hp.ns (ns.length+1) i (Nat.lt_succ_of_lt h) h
 have bad:∀{k s:Nat},ordF ns (fs.drop k) s=ordF ns fs 0→ordF ns (fs.drop k) s=none→ordB ⟨ns,fs⟩=false:=by
  intro k s h1 h2
  unfold ordB
  rw[←h1,h2]
  simp
 refine sx Tryz.func31 (by kernel_rfl) ?_
 conv=>whnf
 refine⟨[],Nat×Nat,fun⟨k,s⟩=>[(9,int k),(3,int s)],fun _=>[],fun⟨k,s⟩=>k≤fs.length∧s≤ns.length∧ordF ns (fs.drop k) s=ordF ns fs 0,fun⟨k,_⟩=>fs.length - k,(0,0),⟨Nat.zero_le _,Nat.zero_le _,rfl⟩,?_,?_⟩
 ·refine⟨rfl,?_,?_⟩<;>repeat' (first|exact trivial|exact rfl|refine and_rfl ?_|refine and_two ?_ ?_)
 rintro⟨k,s⟩ ⟨hk1,hs,hk⟩
 conv=>whnf
 rintro(_|_) h1
 ·have h1:fs.length≤k:=by simp at h1;omega
  rw[List.drop_eq_nil_of_le h1] at hk
  conv=>whnf
  refine fin_boo ?_
  unfold ordB
  rw[←hk]
  dsimp only
  rw[hnl,Bool.eq_iff_iff]
  simp[ordF]
  omega
 have h1:k<fs.length:=by simp at h1;omega
 have hb:=bad hk
 have hfo:=hp.fc fs[k] (List.getElem_mem h1)
 have hgf:(fs.map fcD)[((k:Nat):Int).toNat]?=some (fcD fs[k]):=get_map fcD h1
 rw[List.drop_eq_getElem_cons h1,ordF_cons] at hk hb
 conv=>whnf
 refine⟨by omega,_,hgf,?_⟩
 generalize fs[k]=q at*
 obtain⟨nm,ps,bd⟩:=q
 have hb1:=hfo.name
 dsimp only at*
 have hps:=x_anyN ps hfo.ps hfo.psl
 have hnc:=x_sname nm hb1
 rw[any_not] at hk hb
 cases hnm:nameB nm with
 |false=>
  rw[hnm] at hnc
  rw[hb (if_pos (.inl hnm))]
  conv=>whnf
  refine⟨_,hnc,?_⟩
  conv=>whnf
  refine known true rfl ?_
  (conv=>whnf)<;>rfl
 |true=>
 rw[hnm] at hnc
 cases hpa:ps.any (fun s=> !nameB s) with
 |true=>
  rw[hpa] at hps
  rw[hb (if_pos (.inr (by rw[hpa];rfl)))]
  conv=>whnf
  refine⟨_,hnc,?_⟩
  conv=>whnf
  refine known false rfl ?_
  conv=>whnf
  refine⟨_,hps,?_⟩
  conv=>whnf
  refine known true rfl ?_
  (conv=>whnf)<;>rfl
 |false=>
 rw[hpa] at hps
 have hno:¬(nameB nm=false∨(!(ps.any fun s=> !nameB s))=false):=by rw[hpa,hnm];simp
 rw[if_neg hno] at hk hb
 conv=>whnf
 refine⟨_,hnc,?_⟩
 conv=>whnf
 refine known false rfl ?_
 conv=>whnf
 refine⟨_,hps,?_⟩
 conv=>whnf
 refine known false rfl ?_
 conv=>whnf
 rintro(_|_) h2
 rotate_left
 ·have h2:bd<(s:Int):=by simpa using h2
  rw[hb (if_pos (.inl h2))]
  (conv=>whnf)<;>rfl
 have h2:(s:Int)≤bd:=by simpa using h2
 conv=>whnf
 rintro(_|_) h3
 rotate_left
 ·have h3:(ns.length:Int)≤bd:=by simp at h3;omega
  rw[hb (if_pos (.inr (.inl h3)))]
  (conv=>whnf)<;>rfl
 have h3:bd<(ns.length:Int):=by simp at h3;omega
 obtain⟨b,rfl⟩:∃b:Nat,bd=((b:Nat):Int):=⟨bd.toNat,by omega⟩
 have h3:b<ns.length:=by omega
 have hgn:(ns.map ndD)[((b:Nat):Int).toNat]?=some (ndD ns[b]):=get_map ndD h3
 have hFb:=hF b h3
 have hwb:IntKind.i64.wrap (((b:Nat):Int)+1)=((b+1:Nat):Int):=wrap_succ (by omega)
 have hwk:IntKind.i64.wrap (((k:Nat):Int)+1)=((k+1:Nat):Int):=wrap_succ (by omega)
 rw[Int.toNat_natCast,List.getElem?_eq_getElem h3] at hk hb
 simp only[Option.map_some] at hk hb
 conv=>whnf
 refine⟨Int.natCast_nonneg b,_,hgn,?_⟩
 conv=>whnf
 rintro(_|_) h4
 rotate_left
 ·have h4:ns[b].kind≠19:=by simpa using h4
  rw[hb (if_pos (.inr (.inr (.inl (by simpa using h4)))))]
  (conv=>whnf)<;>rfl
 have h4:ns[b].kind=19:=by simpa using h4
 conv=>whnf
 refine⟨_,hFb,?_⟩
 conv=>whnf
 rintro(_|_) h5
 rotate_left
 ·have h5:firstF ns (ns.length+1) b≠some s:=by
   intro e
   rw[e] at h5
   simp[natI] at h5
  rw[hb (if_pos (.inr (.inr (.inr h5))))]
  (conv=>whnf)<;>rfl
 have h5:firstF ns (ns.length+1) b=some s:=by
  cases e:firstF ns (ns.length+1) b with
  |none=>rw[e] at h5;simp[natI] at h5
  |some a=>rw[e] at h5;simp[natI] at h5;rw[show a=s by omega]
 rw[if_neg (by rw[h5,h4];simp;omega)] at hk
 conv=>whnf
 refine⟨(k+1,b+1),⟨by omega,by omega,hk⟩,by(try dsimp only);omega,?_⟩
 refine⟨rfl,?_,?_⟩<;>repeat' (first|exact trivial|exact rfl|refine and_rfl ?_|refine and_val hwk ?_|refine and_val hwb ?_|refine and_two ?_ ?_)
end Go.Proofs.YtglndfgmlminpaaGreatDoor
