/- Texts joined by pack.py: XSyWC XSyWD XSyWE XSyWF XSyWG XSyWH -/
import Derived.Test.YtdccglkagfdooaaGreatDoorBz28
import Derived.Test.YtdccglkagfdooaaGreatDoorBz30
import Derived.Test.YtdccglkagfdooaaGreatDoorBz24
set_option maxHeartbeats 8000000
set_option maxRecDepth 100000
namespace Go.Proofs.YtdccglkagfdooaaGreatDoor
open Go.RowKit
def leS (a b:Bs):Bool:=Op.bytesLess (mk a).toList (mk b).toList||((mk a).toList==(mk b).toList)
def keysF:Option Bs→List Bs→Bool
 |_,[]=>true
 |p,s::r=>contB s&& !(match p with|none=>false|some q=>leS s q)&&keysF (some s) r
def keysB (l:List Bs):Bool:=keysF none l
def prv (l:List Bs):Nat→Option Bs
 |0=>none
 |k+1=>l[k]?
theorem i_pred {k:Nat} (h:k<9223372036854775807):IntKind.i64.wrap (((k+1:Nat):Int) - 1)=(k:Int):=by
 rw[IntWalk.i64_in _ (by omega)];omega
theorem keysF_at {l:List Bs} {k:Nat} (h:k<l.length):keysF (prv l k) (l.drop k)=(contB l[k]&& !(match prv l k with|none=>false|some q=>leS l[k] q)&&keysF (prv l (k+1)) (l.drop (k+1))):=by
 rw[List.drop_eq_getElem_cons h,show prv l (k+1)=some l[k] from List.getElem?_eq_getElem h];rfl
theorem x_skeys (l:List Bs) (hn:l.length≤8796093022207) (hl:∀b∈l,b.length≤281474976710656):DCalls Tryz.prog 204 [strsV l] (boo (keysB l)):=by
 refine sx Tryz.func204 (by kernel_rfl) ?_
 conv=>whnf
 refine⟨[],Nat,fun k=>[(7,int k)],fun _=>[],fun k=>k≤l.length∧keysF (prv l k) (l.drop k)=keysB l,fun k=>l.length - k,0,⟨Nat.zero_le _,rfl⟩,?_,?_⟩
 ·refine⟨rfl,?_,?_⟩<;>repeat' (first|exact trivial|exact rfl|refine and_rfl ?_|refine and_two ?_ ?_)
 rintro k ⟨hk1,hk⟩
 conv=>whnf
 rintro(_|_) h2
 ·have h2:l.length≤k:=by simp at h2;omega
  rw[List.drop_eq_nil_of_le h2] at hk
  rw[←hk]
  (conv=>whnf)<;>rfl
 have h2:k<l.length:=by simp at h2;omega
 have hw:IntKind.i64.wrap (((k:Nat):Int)+1)=((k+1:Nat):Int):=wrap_succ (by omega)
 rw[keysF_at h2] at hk
 conv=>whnf
 refine⟨by omega,_,get_map strD h2,?_⟩
 conv=>whnf
 refine⟨_,x_stext l[k] (hl _ (List.getElem_mem h2)),?_⟩
 conv=>whnf
 rintro(_|_) h3
 rotate_left
 ·have h3:contB l[k]=false:=by simpa using h3
  rw[show keysB l=false by rw[←hk,h3];rfl]
  (conv=>whnf)<;>rfl
 have h3:contB l[k]=true:=by simpa using h3
 rw[h3,Bool.true_and] at hk
 cases k with
 |zero=>
  conv=>whnf
  refine known false rfl ?_
  conv=>whnf
  refine⟨1,⟨h2,hk⟩,by dsimp only;omega,?_⟩
  refine⟨rfl,?_,?_⟩<;>repeat' (first|exact trivial|exact rfl|refine and_rfl ?_|refine and_val hw ?_|refine and_two ?_ ?_)
 |succ k=>
  rw[show prv l (k+1)=some l[k] from List.getElem?_eq_getElem (by omega)] at hk
  conv=>whnf
  refine known true (by simp<;>omega) ?_
  conv=>whnf
  refine⟨(by(rw[i_pred (by omega)])<;>omega),_,(by rw[i_pred (by omega)];exact get_map strD (by omega)),?_⟩
  conv=>whnf
  rintro(_|_) h4
  rotate_left
  ·have h4:leS l[k+1] l[k]=true:=h4
   rw[show keysB l=false by rw[←hk];simp[h4]]
   (conv=>whnf)<;>rfl
  have h4:leS l[k+1] l[k]=false:=h4
  simp only[h4,Bool.not_false,Bool.true_and] at hk
  conv=>whnf
  refine⟨k+1+1,⟨h2,hk⟩,by dsimp only;omega,?_⟩
  refine⟨rfl,?_,?_⟩<;>repeat' (first|exact trivial|exact rfl|refine and_rfl ?_|refine and_val hw ?_|refine and_two ?_ ?_)
theorem keysF_asc:∀(l:List Bs) (q:Bs),(keysF (some q) l=match l with|[]=>true|b::r=>Op.bytesLess q b&&ascB (b::r))
 |[],q=>rfl
 |b::r,q=>by
  have ih:=keysF_asc r b
  have e:(!leS b q)=Op.bytesLess q b:=by unfold leS;rw[mk_toList,mk_toList,bl_not];simp
  unfold keysF
  rw[ih,e]
  cases r with
  |nil=>simp[ascB,Bool.and_comm]
  |cons c r=>simp only[ascB];cases contB b<;>cases Op.bytesLess q b<;>simp
theorem keysB_asc (l:List Bs):keysB l=ascB l:=by
 cases l with
 |nil=>rfl
 |cons b r=>
  unfold keysB keysF
  rw[keysF_asc]
  cases r with
  |nil=>simp[ascB]
  |cons c r=>simp only[ascB];cases contB b<;>simp
structure NdOk (n:Nd):Prop where
 text:n.text.length≤281474976710656
 keys:n.keys.length≤8796093022207
 keyl:∀b∈n.keys,b.length≤281474976710656
 kids:n.kids.length≤17592186044415
theorem kinds (n:Int):n=1∨n=2∨n=3∨n=4∨n=5∨n=6∨n=7∨n=8∨n=9∨n=10∨n=11∨n=12∨n=13∨n=14∨n=15∨n=16∨n=17∨n=18∨n=19∨(n<1∨19<n):=by omega
theorem x_scount (n:Nd):DCalls Tryz.prog 188 [n.V] (boo (countB n.kind n.kids.length)):=by
 obtain⟨k,s,v,ks,js⟩:=n
 have hl:(js.map intD).length=js.length:=List.length_map _
 rcases kinds k with h|h|h|h|h|h|h|h|h|h|h|h|h|h|h|h|h|h|h|h
 rotate_right
 ·refine sx Tryz.func188 (by kernel_rfl) ?_
  repeat((conv=>whnf);first|refine known false (by simp;omega) ?_)
  conv=>whnf
  exact fin_boo (by dsimp only;unfold countB;rw[if_neg (by omega),if_neg (by omega),if_neg (by omega),if_neg (by omega)];symm;simp;omega)
 all_goals subst h
 all_goals
  refine sx Tryz.func188 (by kernel_rfl) ?_
  repeat((conv=>whnf);first|refine known true rfl ?_|refine known false rfl ?_)
  try conv=>whnf
 all_goals first
  |(refine fin_boo ?_;dsimp only;rw[hl];generalize js.length=m;rw[Bool.eq_iff_iff];simp[countB];done)
  |(refine fin_boo ?_;dsimp only;rw[hl];generalize js.length=m;rw[Bool.eq_iff_iff];simp[countB];omega)
  |(refine fin_boo ?_;dsimp only;simp[countB];done)
  |skip
 rintro(_|_) h
 all_goals
  conv=>whnf
  dsimp only at h
  rw[hl] at h
  simp at h
  exact fin_boo (by dsimp only;rw[Bool.eq_iff_iff];simp[countB];omega)
theorem x_sfits (n:Nd) (j:Nat) (part:Int):DCalls Tryz.prog 189 [n.V,int j,int part] (boo (fitsB n.kind j part)):=by
 obtain⟨k,s,v,ks,js⟩:=n
 by_cases h19:k=19
 ·subst h19
  refine sx Tryz.func189 (by kernel_rfl) ?_
  conv=>whnf
  refine known true rfl ?_
  conv=>whnf
  refine⟨_,x_sstatement part,?_⟩
  conv=>whnf
  exact fin_boo (by simp[fitsB])
 by_cases h15:k=15∨k=16
 ·cases j with
  |zero=>
   rcases h15 with h|h<;>subst h
   all_goals
    refine sx Tryz.func189 (by kernel_rfl) ?_
    repeat((conv=>whnf);first|refine known true rfl ?_|refine known false rfl ?_)
    conv=>whnf
    refine⟨_,x_sexpression part,?_⟩
    conv=>whnf
    exact fin_boo (by simp[fitsB])
  |succ j=>
   rcases h15 with h|h<;>subst h
   all_goals
    refine sx Tryz.func189 (by kernel_rfl) ?_
    repeat((conv=>whnf);first|refine known true rfl ?_|refine known false rfl ?_)
    try(refine known true (decide_eq_true (by omega)) ?_)
    try conv=>whnf
    exact fin_boo (by rw[Bool.eq_iff_iff];simp[fitsB])
 ·refine sx Tryz.func189 (by kernel_rfl) ?_
  repeat((conv=>whnf);first|refine known false (by simp;omega) ?_)
  conv=>whnf
  refine⟨_,x_sexpression part,?_⟩
  conv=>whnf
  exact fin_boo (by simp[fitsB,h19];intro h;exact absurd h h15)
end Go.Proofs.YtdccglkagfdooaaGreatDoor
namespace Go.Proofs.YtdccglkagfdooaaGreatDoor
open Go.RowKit
theorem lit0 {a:Bs} {d:Array UInt8} {b:Bool} (h:(a==d.toList)=b):((mk a).toList==(⟨d⟩:ByteArray).toList)=b:=(litE a d).trans h
theorem keys_pos {k:Bs} {l:List Bs}:decide (((((k::l).map strD).length:Nat):Int)>0)=true:=by simp
theorem x_sfields7 (s:Bs) (v:Int) (ks:List Bs) (js:List Int) (hn:NdOk ⟨7,s,v,ks,js⟩):DCalls Tryz.prog 187 [Nd.V ⟨7,s,v,ks,js⟩] (boo (fieldsB ⟨7,s,v,ks⟩ js.length)):=by
 have hl:(ks.map strD).length=ks.length:=List.length_map _
 have hj:(js.map intD).length=js.length:=List.length_map _
 by_cases hv:v=0
 rotate_left
 ·refine sx Tryz.func187 (by kernel_rfl) ?_
  repeat((conv=>whnf);first|refine known true rfl ?_|refine known false rfl ?_)
  conv=>whnf
  refine known true (by simpa using hv) ?_
  conv=>whnf
  exact fin_boo (by simp[fieldsB,hv])
 subst hv
 have e:fieldsB ⟨7,s,0,ks⟩ js.length=(decide (s=[])&&decide (ks.length=js.length)&&ascB ks):=by simp[fieldsB]
 rw[e]
 by_cases hs:s=[]
 rotate_left
 ·refine sx Tryz.func187 (by kernel_rfl) ?_
  repeat((conv=>whnf);first|refine known true rfl ?_|refine known false rfl ?_)
  conv=>whnf
  refine known false (lit0 (by simpa using hs)) ?_
  repeat((conv=>whnf);first|refine known true rfl ?_|refine known false rfl ?_)
  try conv=>whnf
  exact fin_boo (by simp[hs])
 subst hs
 have hk:=x_skeys ks hn.keys hn.keyl
 rw[keysB_asc] at hk
 refine sx Tryz.func187 (by kernel_rfl) ?_
 repeat((conv=>whnf);first|refine known true rfl ?_|refine known false rfl ?_)
 conv=>whnf
 refine known true (lit0 rfl) ?_
 conv=>whnf
 rintro(_|_) h
 ·dsimp only at h
  rw[hl,hj] at h
  conv=>whnf
  exact fin_boo (by rw[show decide (ks.length=js.length)=false by simp at h⊢;omega];simp)
 ·dsimp only at h
  rw[hl,hj] at h
  conv=>whnf
  refine⟨_,hk,?_⟩
  conv=>whnf
  exact fin_boo (by rw[show decide (ks.length=js.length)=true by simp at h⊢;omega];simp)
theorem x_sfields2 (s:Bs) (v:Int) (js:List Int):DCalls Tryz.prog 187 [Nd.V ⟨2,s,v,[],js⟩] (boo (fieldsB ⟨2,s,v,[]⟩ js.length)):=by
 have e:fieldsB ⟨2,s,v,[]⟩ js.length=(decide (s=[])&&(decide (v=0)||decide (v=1))):=by simp[fieldsB]
 rw[e]
 refine sx Tryz.func187 (by kernel_rfl) ?_
 by_cases hs:s=[]
 rotate_left
 ·repeat((conv=>whnf);first|refine known true rfl ?_|refine known false rfl ?_)
  conv=>whnf
  refine known false (lit0 (by simpa using hs)) ?_
  repeat((conv=>whnf);first|refine known true rfl ?_|refine known false rfl ?_)
  try conv=>whnf
  exact fin_boo (by simp[hs])
 subst hs
 repeat((conv=>whnf);first|refine known true rfl ?_|refine known false rfl ?_)
 conv=>whnf
 refine known true (lit0 rfl) ?_
 conv=>whnf
 rintro(_|_) h
 all_goals
  conv=>whnf
  exact fin_boo (by simp at h;simp[h,Bool.beq_eq_decide_eq])
theorem x_sfields3 (s:Bs) (v:Int) (js:List Int):DCalls Tryz.prog 187 [Nd.V ⟨3,s,v,[],js⟩] (boo (fieldsB ⟨3,s,v,[]⟩ js.length)):=by
 have e:fieldsB ⟨3,s,v,[]⟩ js.length=(decide (s=[])&&decide (0≤v)&&decide (v≤1000000000000)):=by simp[fieldsB]
 rw[e]
 refine sx Tryz.func187 (by kernel_rfl) ?_
 by_cases hs:s=[]
 rotate_left
 ·repeat((conv=>whnf);first|refine known true rfl ?_|refine known false rfl ?_)
  conv=>whnf
  refine known false (lit0 (by simpa using hs)) ?_
  repeat((conv=>whnf);first|refine known true rfl ?_|refine known false rfl ?_)
  try conv=>whnf
  exact fin_boo (by simp[hs])
 subst hs
 repeat((conv=>whnf);first|refine known true rfl ?_|refine known false rfl ?_)
 conv=>whnf
 refine known true (lit0 rfl) ?_
 conv=>whnf
 rintro(_|_) h
 all_goals
  conv=>whnf
  exact fin_boo (by rw[Bool.eq_iff_iff];simp at h⊢;omega)
theorem x_sfields (n:Nd) (hn:NdOk n):DCalls Tryz.prog 187 [n.V] (boo (fieldsB ⟨n.kind,n.text,n.val,n.keys⟩ n.kids.length)):=by
 obtain⟨k,s,v,ks,js⟩:=n
 by_cases h7:k=7
 ·subst h7;exact x_sfields7 s v ks js hn
 cases ks with
 |cons b ks=>
  refine sx Tryz.func187 (by kernel_rfl) ?_
  conv=>whnf
  refine known true (by simpa using h7) ?_
  conv=>whnf
  refine known true keys_pos ?_
  conv=>whnf
  exact fin_boo (by simp[fieldsB,h7])
 |nil=>
 by_cases h2:k=2
 ·subst h2;exact x_sfields2 s v js
 by_cases h3:k=3
 ·subst h3;exact x_sfields3 s v js
 by_cases hv:v=0
 rotate_left
 ·refine sx Tryz.func187 (by kernel_rfl) ?_
  conv=>whnf
  refine known true (by simpa using h7) ?_
  conv=>whnf
  refine known false rfl ?_
  conv=>whnf
  refine known true (by simpa using h2) ?_
  conv=>whnf
  refine known true (by simpa using h3) ?_
  conv=>whnf
  refine known true (by simpa using hv) ?_
  conv=>whnf
  exact fin_boo (by simp[fieldsB,h7,h2,h3,hv])
 subst hv
 have ht:=hn.text
 dsimp only at ht
 rcases kinds k with h|h|h|h|h|h|h|h|h|h|h|h|h|h|h|h|h|h|h|h
 rotate_right
 ·refine sx Tryz.func187 (by kernel_rfl) ?_
  conv=>whnf
  refine known true (by simpa using h7) ?_
  conv=>whnf
  refine known false rfl ?_
  conv=>whnf
  refine known true (by simpa using h2) ?_
  conv=>whnf
  refine known true (by simpa using h3) ?_
  conv=>whnf
  refine known false rfl ?_
  repeat((conv=>whnf);refine known false (by simp;omega) ?_)
  conv=>whnf
  refine fin_boo ((litE _ _).trans ?_)
  rw[show fieldsB ⟨k,s,0,[]⟩ js.length=decide (s=[]) by unfold fieldsB;rw[if_neg (by simp),if_neg (by simp;omega),if_neg (by simp;omega),if_neg (by simp;omega),if_neg (by simp;omega),if_neg (by simp;omega),if_neg (by simp;omega),if_neg (by simp;omega),if_neg (by simp;omega)]]
  rw[Bool.eq_iff_iff];simp
 all_goals subst h
 all_goals try(exfalso;omega)
 all_goals
  refine sx Tryz.func187 (by kernel_rfl) ?_
  repeat((conv=>whnf);first|refine known true rfl ?_|refine known false rfl ?_|refine⟨_,x_stext s ht,?_⟩|refine⟨_,x_sname s ht,?_⟩|refine⟨_,x_srun s ht,?_⟩|refine⟨_,x_soperator s,?_⟩)
  try conv=>whnf
 all_goals first
  |(refine fin_boo ((litE _ _).trans ?_);rw[Bool.eq_iff_iff];simp[fieldsB];done)
  |(refine fin_boo ?_;simp[fieldsB];done)
  |skip
 rintro(_|_) h
 ·dsimp only at h
  rw[litE] at h
  conv=>whnf
  refine fin_boo ((litE _ _).trans ?_)
  rw[Bool.eq_iff_iff]
  simp at h
  simp[fieldsB,sMi,wNot,h]
  exact decide_eq_true_iff.symm
 ·dsimp only at h
  rw[litE] at h
  conv=>whnf
  refine fin_boo ?_
  simp at h
  simp[fieldsB,sMi,wNot,h]
end Go.Proofs.YtdccglkagfdooaaGreatDoor
namespace Go.Proofs.YtdccglkagfdooaaGreatDoor
open Go.RowKit
structure NsOk (l:List Nd):Prop where
 len:l.length≤8796093022207
 nd:∀n∈l,NdOk n
def natI:Option Nat→Int
 |some a=>(a:Int)
 |none=> -1
theorem take_rev {α:Type} {l:List α} {m:Nat} (h:m<l.length):(l.take (m+1)).reverse=l[m]::(l.take m).reverse:=by
 rw[List.take_add_one,List.getElem?_eq_getElem h];simp
theorem x_first (l:List Nd) (hn:NsOk l):∀(f i:Nat),i<f→i<l.length→DCalls Tryz.prog 164 [.sl true 5 (l.map ndD),int i] (int (natI (firstF l f i)))
 |0,i,h,_=>absurd h (Nat.not_lt_zero _)
 |f+1,i,hif,hi=>by
  have hlen:=hn.len
  have hll:(l.map ndD).length=l.length:=List.length_map _
  have hok:=hn.nd l[i] (List.getElem_mem hi)
  have hkids:=hok.kids
  have hgi:(l.map ndD)[((i:Nat):Int).toNat]?=some (ndD l[i]):=get_map ndD hi
  have hF:firstF l (f+1) i=if nodeOk l[i] then backF l (firstF l f) l[i].kind l[i].kids.reverse i else none:=by
   simp only[firstF,List.getElem?_eq_getElem hi]
  have hfld:=x_sfields l[i] hok
  have hcnt:=x_scount l[i]
  have hnok:nodeOk l[i]=(fieldsB ⟨l[i].kind,l[i].text,l[i].val,l[i].keys⟩ l[i].kids.length&&countB l[i].kind l[i].kids.length):=rfl
  rw[hF]
  refine sx Tryz.func164 (by kernel_rfl) ?_
  conv=>whnf
  refine⟨by omega,_,hgi,?_⟩
  generalize hq:l[i]=q at*
  obtain⟨k,s,v,ks,js⟩:=q
  dsimp only at*
  have hjl:(js.map intD).length=js.length:=List.length_map _
  cases h1:fieldsB ⟨k,s,v,ks⟩ js.length with
  |false=>
   rw[h1] at hfld hnok
   rw[hnok,Bool.false_and,if_neg (by simp)]
   conv=>whnf
   refine⟨_,hfld,?_⟩
   conv=>whnf
   refine known true rfl ?_
   (conv=>whnf)<;>rfl
  |true=>
  rw[h1] at hfld hnok
  rw[hnok,Bool.true_and]
  conv=>whnf
  refine⟨_,hfld,?_⟩
  conv=>whnf
  refine known false rfl ?_
  conv=>whnf
  refine⟨_,hcnt,?_⟩
  conv=>whnf
  rintro(_|_) h2
  rotate_left
  ·have h2:countB k js.length=false:=by simpa using h2
   rw[h2,if_neg (by simp)]
   (conv=>whnf)<;>rfl
  have h2:countB k js.length=true:=by simpa using h2
  rw[h2,if_pos rfl]
  conv=>whnf
  rw[show IntKind.i64.wrap ((((js.map intD).length:Nat):Int) - 1)=((js.length:Nat):Int) - 1 by rw[hjl,wrap_in (by omega)]]
  refine⟨[],Nat×Nat,fun⟨m,at_⟩=>[(6,int at_),(7,int (((m:Nat):Int) - 1))],fun _=>[],fun⟨m,at_⟩=>m≤js.length∧at_≤i∧backF l (firstF l f) k (js.take m).reverse at_=backF l (firstF l f) k js.reverse i,fun⟨m,_⟩=>m,(js.length,i),⟨Nat.le_refl _,Nat.le_refl _,by rw[List.take_length]⟩,?_,?_⟩
  ·refine⟨rfl,?_,?_⟩<;>repeat' (first|exact trivial|exact rfl|refine and_rfl ?_|refine and_two ?_ ?_)
  rintro⟨m,at_⟩ ⟨hm,hat,hk⟩
  cases m with
  |zero=>
   simp only[List.take_zero,List.reverse_nil,backF] at hk
   rw[←hk]
   conv=>whnf
   refine known false rfl ?_
   (conv=>whnf)<;>rfl
  |succ m=>
  have hm':m<js.length:=hm
  rw[take_rev hm'] at hk
  simp only[backF,List.length_reverse,List.length_take,Nat.min_eq_left (Nat.le_of_lt hm')] at hk
  conv=>whnf
  refine known true (decide_eq_true (by omega)) ?_
  conv=>whnf
  refine⟨none,by kernel_rfl,?_⟩
  conv=>whnf
  rintro(_|_) h3
  rotate_left
  ·have h3:at_<1:=by simp at h3;omega
   rw[if_pos (.inl h3)] at hk
   rw[←hk]
   (conv=>whnf)<;>rfl
  have h3:1≤at_:=by simp at h3;omega
  have hwa:IntKind.i64.wrap (((at_:Nat):Int) - 1)=((at_ - 1:Nat):Int):=by rw[wrap_in (by omega)];omega
  have hgj:(js.map intD)[(((m+1:Nat):Int) - 1).toNat]?=some (intD js[m]):=by
   rw[show(((m+1:Nat):Int) - 1).toNat=m by omega];simp[hm']
  have hat':at_ - 1<l.length:=by omega
  have hga:(l.map ndD)[((at_ - 1:Nat):Int).toNat]?=some (ndD l[at_ - 1]):=get_map ndD hat'
  have hfit:DCalls Tryz.prog 189 [Nd.V ⟨k,s,v,ks,js⟩,int (((m+1:Nat):Int) - 1),int l[at_ - 1].kind] (boo (fitsB k m l[at_ - 1].kind)):=by
   rw[show((m+1:Nat):Int) - 1=((m:Nat):Int) by omega]
   exact x_sfits ⟨k,s,v,ks,js⟩ m _
  have ih:=x_first l hn f (at_ - 1) (by omega) hat'
  have hw2:IntKind.i64.wrap ((((m+1:Nat):Int) - 1) - 1)=((m:Nat):Int) - 1:=by rw[wrap_in (by omega)];omega
  rw[List.getElem?_eq_getElem hat'] at hk
  simp only[Option.map_some,Option.getD_some] at hk
  conv=>whnf
  refine⟨by omega,_,hgj,?_⟩
  conv=>whnf
  rintro(_|_) h4
  rotate_left
  ·have h4:js[m]≠(at_:Int) - 1:=by rw[hwa] at h4;simp at h4;omega
   rw[if_pos (.inr (.inl h4))] at hk
   rw[←hk]
   (conv=>whnf)<;>rfl
  have h4:js[m]=(at_:Int) - 1:=by rw[hwa] at h4;simp at h4;omega
  conv=>whnf
  rw[hwa]
  refine⟨by omega,_,hga,?_⟩
  conv=>whnf
  refine⟨_,hfit,?_⟩
  conv=>whnf
  rintro(_|_) h5
  rotate_left
  ·have h5:fitsB k m l[at_ - 1].kind=false:=by simpa using h5
   rw[if_pos (.inr (.inr h5))] at hk
   rw[←hk]
   (conv=>whnf)<;>rfl
  have h5:fitsB k m l[at_ - 1].kind=true:=by simpa using h5
  rw[if_neg (by simp[h5,h4];omega)] at hk
  conv=>whnf
  rw[hwa]
  refine⟨_,ih,?_⟩
  cases h6:firstF l f (at_ - 1) with
  |none=>
   rw[h6] at hk
   rw[←hk]
   conv=>whnf
   refine known true rfl ?_
   (conv=>whnf)<;>rfl
  |some a=>
   rw[h6] at hk
   have ha:a≤at_ - 1:=by
    obtain⟨T,hT⟩:=firstF_spec f _ _ h6
    have:=hT.len
    have:=T.size_pos
    omega
   conv=>whnf
   refine known false (decide_eq_false (by show¬((a:Nat):Int)<0;omega)) ?_
   conv=>whnf
   refine⟨(m,a),⟨by omega,by omega,hk⟩,by(try dsimp only);omega,?_⟩
   refine⟨rfl,?_,?_⟩<;>repeat' (first|exact trivial|exact rfl|refine and_rfl ?_|refine and_val hw2 ?_|refine and_two ?_ ?_)
end Go.Proofs.YtdccglkagfdooaaGreatDoor
namespace Go.Proofs.YtdccglkagfdooaaGreatDoor
open Go.RowKit
def idxG {α:Type} (p:α→Bool):List α→Nat→Int
 |[],_=> -1
 |c::l,k=>if p c then k else idxG p l (k+1)
theorem idxG_any {α:Type} (p:α→Bool):∀(l:List α) (k:Nat),decide (0≤idxG p l k)=l.any p
 |[],_=>rfl
 |c::l,k=>by
  rw[List.any_cons]
  cases h:p c with
  |true=>rw[show idxG p (c::l) k=(k:Int) from if_pos h];simp
  |false=>rw[show idxG p (c::l) k=idxG p l (k+1) from if_neg (by simp[h]),Bool.false_or];exact idxG_any p l (k+1)
theorem x_notname (l:Bs) (hl:l.length≤281474976710656):DCalls Tryz.prog 163 [bstr l] (boo (!nameB l)):=by
 refine sx Tryz.func163 (by kernel_rfl) ?_
 conv=>whnf
 refine⟨_,x_sname l hl,?_⟩
 (conv=>whnf)<;>rfl
theorem x_idxN (l:List Bs) (hl:l.length≤8796093022207) (hb:∀b∈l,b.length≤281474976710656):DCalls Tryz.prog 186 [strsV l,.cv (.func (.func 163) #[] #[])] (int (idxG (fun s=> !nameB s) l 0)):=by
 refine sx Tryz.func186 (by kernel_rfl) ?_
 conv=>whnf
 refine⟨[],Nat,fun k=>[(8,int k)],fun _=>[],fun k=>k≤l.length∧idxG (fun s=> !nameB s) (l.drop k) k=idxG (fun s=> !nameB s) l 0,fun k=>l.length - k,0,⟨by simp,rfl⟩,?_,?_⟩
 ·refine⟨rfl,?_,?_⟩<;>repeat' (first|exact trivial|exact rfl|refine and_rfl ?_|refine and_two ?_ ?_)
 rintro k ⟨hk,hf⟩
 conv=>whnf
 rintro(_|_) h1
 ·simp at h1
  rw[List.drop_eq_nil_of_le (by omega)] at hf
  conv=>whnf
  exact fin_int hf
 have h1:k<l.length:=by simp at h1;omega
 rw[List.drop_eq_getElem_cons h1] at hf
 simp only[idxG] at hf
 conv=>whnf
 refine⟨by omega,_,get_map strD h1,?_⟩
 conv=>whnf
 refine⟨_,x_notname l[k] (hb _ (List.getElem_mem h1)),?_⟩
 conv=>whnf
 rintro(_|_) h2
 ·have h2':¬((!nameB l[k])=true):=by rw[h2];simp
  rw[if_neg h2'] at hf
  conv=>whnf
  refine⟨k+1,⟨h1,hf⟩,by dsimp only;omega,?_⟩
  refine⟨rfl,?_,?_⟩<;>repeat' (first|exact trivial|exact rfl|refine and_rfl ?_|refine and_val (wrap_succ (by omega)) ?_|refine and_two ?_ ?_)
 ·rw[if_pos h2] at hf
  conv=>whnf
  exact fin_int hf
theorem x_anyN (l:List Bs) (hl:l.length≤8796093022207) (hb:∀b∈l,b.length≤281474976710656):DCalls Tryz.prog 162 [strsV l,.cv (.func (.func 163) #[] #[])] (boo (l.any (fun s=> !nameB s))):=by
 refine sx Tryz.func162 (by kernel_rfl) ?_
 conv=>whnf
 refine⟨_,x_idxN l hl hb,?_⟩
 conv=>whnf
 exact fin_boo (idxG_any _ l 0)
structure FcOk (f:Fc):Prop where
 name:f.name.length≤281474976710656
 ps:f.params.length≤8796093022207
 psl:∀b∈f.params,b.length≤281474976710656
structure PgOk (p:Pg):Prop where
 ns:NsOk p.nodes
 fs:p.funcs.length≤8796093022207
 fc:∀f∈p.funcs,FcOk f
theorem any_not:∀(l:List Bs),l.all nameB= !(l.any (fun s=> !nameB s))
 |[]=>rfl
 |c::l=>by rw[List.all_cons,List.any_cons,any_not l];cases nameB c<;>simp
theorem ordF_cons {l:List Nd} {f:Fc} {fs:List Fc} {s:Nat}:ordF l (f::fs) s=if nameB f.name=false∨f.params.all nameB=false then none
  else if f.body<(s:Int)∨(l.length:Int)≤f.body∨(l[f.body.toNat]?.map (·.kind))≠some 19∨firstF l (l.length+1) f.body.toNat≠some s then none
  else ordF l fs (f.body.toNat+1):=rfl
theorem x_ordered (p:Pg) (hp:PgOk p):DCalls Tryz.prog 121 [p.V] (boo (ordB p)):=by
 obtain⟨ns,fs⟩:=p
 have hln:=hp.ns.len
 have hlf:=hp.fs
 dsimp only at hln hlf
 have hnl:(ns.map ndD).length=ns.length:=List.length_map _
 have hfl:(fs.map fcD).length=fs.length:=List.length_map _
 have hF:=fun i h=>x_first ns hp.ns (ns.length+1) i (Nat.lt_succ_of_lt h) h
 have bad:∀{k s:Nat},ordF ns (fs.drop k) s=ordF ns fs 0→ordF ns (fs.drop k) s=none→ordB ⟨ns,fs⟩=false:=by
  intro k s h1 h2
  unfold ordB
  rw[←h1,h2]
  simp
 refine sx Tryz.func121 (by kernel_rfl) ?_
 conv=>whnf
 refine⟨[],Nat×Nat,fun⟨k,s⟩=>[(9,int k),(3,int s)],fun _=>[],fun⟨k,s⟩=>k≤fs.length∧s≤ns.length∧ordF ns (fs.drop k) s=ordF ns fs 0,fun⟨k,_⟩=>fs.length - k,(0,0),⟨Nat.zero_le _,Nat.zero_le _,rfl⟩,?_,?_⟩
 ·refine⟨rfl,?_,?_⟩<;>repeat' (first|exact trivial|exact rfl|refine and_rfl ?_|refine and_two ?_ ?_)
 rintro⟨k,s⟩ ⟨hk1,hs,hk⟩
 conv=>whnf
 rintro(_|_) h1
 ·have h1:fs.length≤k:=by simp at h1;omega
  rw[List.drop_eq_nil_of_le h1] at hk
  conv=>whnf
  refine fin_boo ?_
  unfold ordB
  rw[←hk]
  dsimp only
  rw[hnl,Bool.eq_iff_iff]
  simp[ordF]
  omega
 have h1:k<fs.length:=by simp at h1;omega
 have hb:=bad hk
 have hfo:=hp.fc fs[k] (List.getElem_mem h1)
 have hgf:(fs.map fcD)[((k:Nat):Int).toNat]?=some (fcD fs[k]):=get_map fcD h1
 rw[List.drop_eq_getElem_cons h1,ordF_cons] at hk hb
 conv=>whnf
 refine⟨by omega,_,hgf,?_⟩
 generalize fs[k]=q at*
 obtain⟨nm,ps,bd⟩:=q
 have hb1:=hfo.name
 dsimp only at*
 have hps:=x_anyN ps hfo.ps hfo.psl
 have hnc:=x_sname nm hb1
 rw[any_not] at hk hb
 cases hnm:nameB nm with
 |false=>
  rw[hnm] at hnc
  rw[hb (if_pos (.inl hnm))]
  conv=>whnf
  refine⟨_,hnc,?_⟩
  conv=>whnf
  refine known true rfl ?_
  (conv=>whnf)<;>rfl
 |true=>
 rw[hnm] at hnc
 cases hpa:ps.any (fun s=> !nameB s) with
 |true=>
  rw[hpa] at hps
  rw[hb (if_pos (.inr (by rw[hpa];rfl)))]
  conv=>whnf
  refine⟨_,hnc,?_⟩
  conv=>whnf
  refine known false rfl ?_
  conv=>whnf
  refine⟨_,hps,?_⟩
  conv=>whnf
  refine known true rfl ?_
  (conv=>whnf)<;>rfl
 |false=>
 rw[hpa] at hps
 have hno:¬(nameB nm=false∨(!(ps.any fun s=> !nameB s))=false):=by rw[hpa,hnm];simp
 rw[if_neg hno] at hk hb
 conv=>whnf
 refine⟨_,hnc,?_⟩
 conv=>whnf
 refine known false rfl ?_
 conv=>whnf
 refine⟨_,hps,?_⟩
 conv=>whnf
 refine known false rfl ?_
 conv=>whnf
 rintro(_|_) h2
 rotate_left
 ·have h2:bd<(s:Int):=by simpa using h2
  rw[hb (if_pos (.inl h2))]
  (conv=>whnf)<;>rfl
 have h2:(s:Int)≤bd:=by simpa using h2
 conv=>whnf
 rintro(_|_) h3
 rotate_left
 ·have h3:(ns.length:Int)≤bd:=by simp at h3;omega
  rw[hb (if_pos (.inr (.inl h3)))]
  (conv=>whnf)<;>rfl
 have h3:bd<(ns.length:Int):=by simp at h3;omega
 obtain⟨b,rfl⟩:∃b:Nat,bd=((b:Nat):Int):=⟨bd.toNat,by omega⟩
 have h3:b<ns.length:=by omega
 have hgn:(ns.map ndD)[((b:Nat):Int).toNat]?=some (ndD ns[b]):=get_map ndD h3
 have hFb:=hF b h3
 have hwb:IntKind.i64.wrap (((b:Nat):Int)+1)=((b+1:Nat):Int):=wrap_succ (by omega)
 have hwk:IntKind.i64.wrap (((k:Nat):Int)+1)=((k+1:Nat):Int):=wrap_succ (by omega)
 rw[Int.toNat_natCast,List.getElem?_eq_getElem h3] at hk hb
 simp only[Option.map_some] at hk hb
 conv=>whnf
 refine⟨Int.natCast_nonneg b,_,hgn,?_⟩
 conv=>whnf
 rintro(_|_) h4
 rotate_left
 ·have h4:ns[b].kind≠19:=by simpa using h4
  rw[hb (if_pos (.inr (.inr (.inl (by simpa using h4)))))]
  (conv=>whnf)<;>rfl
 have h4:ns[b].kind=19:=by simpa using h4
 conv=>whnf
 refine⟨_,hFb,?_⟩
 conv=>whnf
 rintro(_|_) h5
 rotate_left
 ·have h5:firstF ns (ns.length+1) b≠some s:=by
   intro e
   rw[e] at h5
   simp[natI] at h5
  rw[hb (if_pos (.inr (.inr (.inr h5))))]
  (conv=>whnf)<;>rfl
 have h5:firstF ns (ns.length+1) b=some s:=by
  cases e:firstF ns (ns.length+1) b with
  |none=>rw[e] at h5;simp[natI] at h5
  |some a=>rw[e] at h5;simp[natI] at h5;rw[show a=s by omega]
 rw[if_neg (by rw[h5,h4];simp;omega)] at hk
 conv=>whnf
 refine⟨(k+1,b+1),⟨by omega,by omega,hk⟩,by(try dsimp only);omega,?_⟩
 refine⟨rfl,?_,?_⟩<;>repeat' (first|exact trivial|exact rfl|refine and_rfl ?_|refine and_val hwk ?_|refine and_val hwb ?_|refine and_two ?_ ?_)
end Go.Proofs.YtdccglkagfdooaaGreatDoor
namespace Go.Proofs.YtdccglkagfdooaaGreatDoor
open Go.RowKit
theorem roots_seg {l:List Nd}:∀(ts:List Tr) (a:Nat),(∀T∈ts,T.wf=true)→Tr.flats a ts<+:l.drop a→∀k∈Tr.roots a ts,∃T∈ts,∃b i:Nat,k=((i:Nat):Int)∧Seg l T b i
 |[],a,_,_,k,hk=>by simp[Tr.roots] at hk
 |T::ts,a,hw,h,k,hk=>by
  simp only[Tr.flats] at h
  rw[prefix_app,Tr.flat_length] at h
  have hs:=seg_first (hw T (by simp)) h.1
  have hpos:=T.size_pos
  simp only[Tr.roots,List.mem_cons] at hk
  rcases hk with rfl|hk
  ·exact⟨T,by simp,a,a+T.size - 1,by omega,hs⟩
  ·obtain⟨X,hX,b,i,h1,h2⟩:=roots_seg ts (a+T.size) (fun X hX=>hw X (by simp[hX])) h.2 k hk
   exact⟨X,by simp[hX],b,i,h1,h2⟩
theorem x_nesting (l:List Nd) (hn:NsOk l):∀(f:Nat) (T:Tr) (a i:Nat),f≤8796093022208→T.ht≤f→Seg l T a i→DCalls Tryz.prog 166 [.sl true 5 (l.map ndD),int i] (int (nestF l f i:Nat))
 |0,T,a,i,_,h,_=>by cases T;simp[Tr.ht] at h
 |f+1,T,a,i,hf,h,hs=>by
  have hlen:=hn.len
  have hll:(l.map ndD).length=l.length:=List.length_map _
  have hi:i<l.length:=by
   obtain⟨n,h1,_⟩:=hs.kind
   rcases Nat.lt_or_ge i l.length with h'|h'
   ·exact h'
   ·rw[List.getElem?_eq_none h'] at h1;cases h1
  have hres:=nestF_seg (f+1) T a i h hs
  obtain⟨b,ts⟩:=T
  obtain⟨_,_,hws⟩:=wf_parts hs.wf
  have hlen2:=hs.len
  have hseg:=hs.seg
  simp only[Tr.size] at hlen2
  simp only[Tr.flat] at hseg
  rw[prefix_app,Tr.flats_length] at hseg
  have hq:l[i]=⟨b.kind,b.text,b.val,b.keys,Tr.roots a ts⟩:=by
   have:=prefix_get hseg.2 (j:=0) (by simp)
   rw[show a+Tr.sizes ts+0=i by omega,List.getElem?_eq_getElem hi] at this
   exact Option.some.inj this
  have hkid:∀k∈Tr.roots a ts,∃j:Nat,k=((j:Nat):Int)∧j<l.length∧DCalls Tryz.prog 166 [.sl true 5 (l.map ndD),int j] (int (nestF l f j:Nat))∧nestF l f j≤f:=by
   intro k hk
   obtain⟨X,hX,b',j,h1,h2⟩:=roots_seg ts a (fun X hX=>kid_wf hX hws) hseg.1 k hk
   have hht:X.ht≤f:=by have:=Tr.ht_mem hX;simp only[Tr.ht] at h;omega
   refine⟨j,h1,?_,x_nesting l hn f X b' j (by omega) hht h2,by rw[nestF_seg f X b' j hht h2];exact hht⟩
   obtain⟨n,h3,_⟩:=h2.kind
   rcases Nat.lt_or_ge j l.length with h'|h'
   ·exact h'
   ·rw[List.getElem?_eq_none h'] at h3;cases h3
  have hgi:(l.map ndD)[((i:Nat):Int).toNat]?=some (ndD l[i]):=get_map ndD hi
  have hok:=hn.nd l[i] (List.getElem_mem hi)
  have hdef:nestF l (f+1) i=l[i].kids.foldl (fun m k=>max m (nestF l f k.toNat)) 0+1:=by
   simp only[nestF,List.getElem?_eq_getElem hi]
  rw[←show l[i].kids=Tr.roots a ts by rw[hq]] at hkid
  refine sx Tryz.func166 (by kernel_rfl) ?_
  conv=>whnf
  refine⟨by omega,_,hgi,?_⟩
  generalize l[i]=q at*
  obtain⟨k0,s,v,ks,js⟩:=q
  dsimp only at*
  have hjs:=hok.kids
  have hjl:(js.map intD).length=js.length:=List.length_map _
  dsimp only at hjs
  conv=>whnf
  refine⟨[],Nat×Nat,fun⟨m,x⟩=>[(14,int m),(5,int x)],fun _=>[],fun⟨m,x⟩=>m≤js.length∧x≤f∧(js.drop m).foldl (fun m k=>max m (nestF l f k.toNat)) x=js.foldl (fun m k=>max m (nestF l f k.toNat)) 0,fun⟨m,_⟩=>js.length - m,(0,0),⟨Nat.zero_le _,Nat.zero_le _,rfl⟩,?_,?_⟩
  ·refine⟨rfl,?_,?_⟩<;>repeat' (first|exact trivial|exact rfl|refine and_rfl ?_|refine and_two ?_ ?_)
  rintro⟨m,x⟩ ⟨hm,hx,hk⟩
  conv=>whnf
  rintro(_|_) h1
  ·have h1:js.length≤m:=by simp at h1;omega
   rw[List.drop_eq_nil_of_le h1] at hk
   have hk:x=js.foldl (fun m k=>max m (nestF l f k.toNat)) 0:=hk
   rw[hdef,←hk]
   conv=>whnf
   exact fin_int (wrap_succ (by omega))
  have h1:m<js.length:=by simp at h1;omega
  obtain⟨j,hj1,hj2,hj3,hj4⟩:=hkid _ (List.getElem_mem h1)
  have hwm:IntKind.i64.wrap (((m:Nat):Int)+1)=((m+1:Nat):Int):=wrap_succ (by omega)
  rw[List.drop_eq_getElem_cons h1,List.foldl_cons,hj1,Int.toNat_natCast] at hk
  have hgj:(js.map intD)[((m:Nat):Int).toNat]?=some (intD ((j:Nat):Int)):=by rw[←hj1];exact get_map intD h1
  conv=>whnf
  refine⟨by omega,_,hgj,?_⟩
  conv=>whnf
  refine⟨_,hj3,?_⟩
  have hmx:(if((nestF l f j:Nat):Int)>((x:Nat):Int) then((nestF l f j:Nat):Int) else((x:Nat):Int))=((max x (nestF l f j):Nat):Int):=by split<;>omega
  conv=>whnf
  refine⟨(m+1,max x (nestF l f j)),⟨h1,by omega,hk⟩,by(try dsimp only);omega,?_⟩
  refine⟨rfl,?_,?_⟩<;>repeat' (first|exact trivial|exact rfl|refine and_rfl ?_|refine and_val hwm ?_|refine and_val hmx ?_|refine and_two ?_ ?_)
theorem fcs_seg {l:List Nd}:∀(Fs:List FnT) (s:Nat),(∀F∈Fs,FnTOk F)→Tr.flats s (Fs.map (·.body))<+:l.drop s→∀f∈fcs s Fs,∃T:Tr,∃b i:Nat,f.body=((i:Nat):Int)∧Seg l T b i∧T.ht≤l.length
 |[],s,_,_,f,hf=>by simp[fcs] at hf
 |F::Fs,s,hw,h,f,hf=>by
  simp only[List.map_cons,Tr.flats] at h
  rw[prefix_app,Tr.flat_length] at h
  have hwf:=(hw F (by simp)).wf
  have hs:=seg_first hwf h.1
  have hpos:=F.body.size_pos
  simp only[fcs,List.mem_cons] at hf
  rcases hf with rfl|hf
  ·refine⟨F.body,s,s+F.body.size - 1,by dsimp only;omega,hs,?_⟩
   have h1:=Tr.ht_size _ F.body (Nat.le_refl _)
   have h2:=h.1.length_le
   rw[Tr.flat_length,List.length_drop] at h2
   omega
  ·exact fcs_seg Fs (s+F.body.size) (fun X hX=>hw X (by simp[hX])) h.2 f hf
theorem x_deepest (p:Pg) (hp:PgOk p) (ho:ordB p=true):DCalls Tryz.prog 124 [p.V] (int (deepF p:Nat)):=by
 have hln:=hp.ns.len
 have hlf:=hp.fs
 obtain⟨Fs,hF,e⟩:=ord_iff.1 ho
 have hbody:∀f∈p.funcs,∃j:Nat,f.body=((j:Nat):Int)∧DCalls Tryz.prog 166 [.sl true 5 (p.nodes.map ndD),int j] (int (nestF p.nodes (p.nodes.length+1) j:Nat))∧nestF p.nodes (p.nodes.length+1) j≤p.nodes.length:=by
  intro f hf
  have hfs:p.funcs=fcs 0 Fs:=by rw[e];rfl
  have hns:p.nodes=Tr.flats 0 (Fs.map (·.body)):=by rw[e];rfl
  rw[hfs] at hf
  obtain⟨T,b,i,h1,h2,h3⟩:=fcs_seg (l:=p.nodes) Fs 0 hF (by rw[hns];exact List.prefix_refl _) f hf
  refine⟨i,h1,x_nesting p.nodes hp.ns (p.nodes.length+1) T b i (by omega) (by omega) h2,?_⟩
  rw[nestF_seg _ T b i (by omega) h2]
  exact h3
 have hdp:deepF p=p.funcs.foldl (fun m f=>max m (nestF p.nodes (p.nodes.length+1) f.body.toNat)) 0:=rfl
 obtain⟨ns,fs⟩:=p
 dsimp only at*
 refine sx Tryz.func124 (by kernel_rfl) ?_
 conv=>whnf
 refine⟨[],Nat×Nat,fun⟨m,x⟩=>[(9,int m),(3,int x)],fun _=>[],fun⟨m,x⟩=>m≤fs.length∧x≤ns.length∧(fs.drop m).foldl (fun m f=>max m (nestF ns (ns.length+1) f.body.toNat)) x=fs.foldl (fun m f=>max m (nestF ns (ns.length+1) f.body.toNat)) 0,fun⟨m,_⟩=>fs.length - m,(0,0),⟨Nat.zero_le _,Nat.zero_le _,rfl⟩,?_,?_⟩
 ·refine⟨rfl,?_,?_⟩<;>repeat' (first|exact trivial|exact rfl|refine and_rfl ?_|refine and_two ?_ ?_)
 rintro⟨m,x⟩ ⟨hm,hx,hk⟩
 conv=>whnf
 rintro(_|_) h1
 ·have h1:fs.length≤m:=by simp at h1;omega
  rw[List.drop_eq_nil_of_le h1] at hk
  have hk:x=fs.foldl (fun m f=>max m (nestF ns (ns.length+1) f.body.toNat)) 0:=hk
  rw[hdp,←hk]
  (conv=>whnf)<;>rfl
 have h1:m<fs.length:=by simp at h1;omega
 obtain⟨j,hj1,hj3,hj4⟩:=hbody _ (List.getElem_mem h1)
 have hwm:IntKind.i64.wrap (((m:Nat):Int)+1)=((m+1:Nat):Int):=wrap_succ (by omega)
 rw[List.drop_eq_getElem_cons h1,List.foldl_cons,hj1,Int.toNat_natCast] at hk
 have hgf:(fs.map fcD)[((m:Nat):Int).toNat]?=some (fcD fs[m]):=get_map fcD h1
 generalize fs[m]=q at*
 obtain⟨nm,ps,bd⟩:=q
 dsimp only at hj1
 subst hj1
 have hmx:(if((nestF ns (ns.length+1) j:Nat):Int)>((x:Nat):Int) then((nestF ns (ns.length+1) j:Nat):Int) else((x:Nat):Int))=((max x (nestF ns (ns.length+1) j):Nat):Int):=by split<;>omega
 conv=>whnf
 refine⟨by omega,_,hgf,?_⟩
 conv=>whnf
 refine⟨_,hj3,?_⟩
 conv=>whnf
 refine⟨(m+1,max x (nestF ns (ns.length+1) j)),⟨h1,by omega,hk⟩,by(try dsimp only);omega,?_⟩
 refine⟨rfl,?_,?_⟩<;>repeat' (first|exact trivial|exact rfl|refine and_rfl ?_|refine and_val hwm ?_|refine and_val hmx ?_|refine and_two ?_ ?_)
def manyB (f:Fc):Bool:=decide (8<f.params.length)
theorem x_many (f:Fc):DCalls Tryz.prog 123 [f.V] (boo (manyB f)):=by
 obtain⟨nm,ps,bd⟩:=f
 refine sx Tryz.func123 (by kernel_rfl) ?_
 conv=>whnf
 refine fin_boo ?_
 unfold manyB
 dsimp only
 rw[List.length_map,Bool.eq_iff_iff]
 simp
 try omega
theorem x_idxM (l:List Fc) (hl:l.length≤8796093022207):DCalls Tryz.prog 165 [.sl true 3 (l.map fcD),.cv (.func (.func 123) #[] #[])] (int (idxG manyB l 0)):=by
 refine sx Tryz.func165 (by kernel_rfl) ?_
 conv=>whnf
 refine⟨[],Nat,fun k=>[(8,int k)],fun _=>[],fun k=>k≤l.length∧idxG manyB (l.drop k) k=idxG manyB l 0,fun k=>l.length - k,0,⟨by simp,rfl⟩,?_,?_⟩
 ·refine⟨rfl,?_,?_⟩<;>repeat' (first|exact trivial|exact rfl|refine and_rfl ?_|refine and_two ?_ ?_)
 rintro k ⟨hk,hf⟩
 conv=>whnf
 rintro(_|_) h1
 ·simp at h1
  rw[List.drop_eq_nil_of_le (by omega)] at hf
  conv=>whnf
  exact fin_int hf
 have h1:k<l.length:=by simp at h1;omega
 rw[List.drop_eq_getElem_cons h1] at hf
 simp only[idxG] at hf
 conv=>whnf
 refine⟨by omega,_,get_map fcD h1,?_⟩
 conv=>whnf
 refine⟨_,x_many l[k],?_⟩
 conv=>whnf
 rintro(_|_) h2
 ·have h2':¬(manyB l[k]=true):=by rw[h2];simp
  rw[if_neg h2'] at hf
  conv=>whnf
  refine⟨k+1,⟨h1,hf⟩,by dsimp only;omega,?_⟩
  refine⟨rfl,?_,?_⟩<;>repeat' (first|exact trivial|exact rfl|refine and_rfl ?_|refine and_val (wrap_succ (by omega)) ?_|refine and_two ?_ ?_)
 ·rw[if_pos h2] at hf
  conv=>whnf
  exact fin_int hf
theorem x_anyM (l:List Fc) (hl:l.length≤8796093022207):DCalls Tryz.prog 122 [.sl true 3 (l.map fcD),.cv (.func (.func 123) #[] #[])] (boo (l.any manyB)):=by
 refine sx Tryz.func122 (by kernel_rfl) ?_
 conv=>whnf
 refine⟨_,x_idxM l hl,?_⟩
 conv=>whnf
 exact fin_boo (idxG_any _ l 0)
end Go.Proofs.YtdccglkagfdooaaGreatDoor
namespace Go.Proofs.YtdccglkagfdooaaGreatDoor
open Go.RowKit
theorem x_check (p:Pg) (hp:PgOk p):DCalls Tryz.prog 88 [p.V] (int (checkP p)):=by
 have hor:=x_ordered p hp
 have hdp:=x_deepest p hp
 have hmy:=x_anyM p.funcs hp.fs
 have hck:checkP p=if 600<p.nodes.length∨16<p.funcs.length then 3 else if ordB p=false then 1 else if p.funcs.any manyB=true∨32<deepF p then 3 else 0:=rfl
 rw[hck]
 obtain⟨ns,fs⟩:=p
 dsimp only at*
 have hnl:(ns.map ndD).length=ns.length:=List.length_map _
 have hfl:(fs.map fcD).length=fs.length:=List.length_map _
 refine sx Tryz.func88 (by kernel_rfl) ?_
 conv=>whnf
 rintro(_|_) h1
 rotate_left
 ·dsimp only at h1
  have h1:600<ns.length:=by simp at h1;omega
  rw[if_pos (.inl h1)]
  (conv=>whnf)<;>rfl
 dsimp only at h1
 have h1:¬600<ns.length:=by simp at h1;omega
 conv=>whnf
 rintro(_|_) h2
 rotate_left
 ·dsimp only at h2
  have h2:16<fs.length:=by simp at h2;omega
  rw[if_pos (.inr h2)]
  (conv=>whnf)<;>rfl
 dsimp only at h2
 have h2:¬16<fs.length:=by simp at h2;omega
 rw[if_neg (by simp;omega)]
 cases h3:ordB ⟨ns,fs⟩ with
 |false=>
  rw[h3] at hor
  conv=>whnf
  refine⟨_,hor,?_⟩
  conv=>whnf
  refine known true rfl ?_
  (conv=>whnf)<;>rfl
 |true=>
  rw[h3] at hor
  have hdp:=hdp h3
  rw[if_neg (by simp)]
  conv=>whnf
  refine⟨_,hor,?_⟩
  conv=>whnf
  refine known false rfl ?_
  conv=>whnf
  refine⟨_,hmy,?_⟩
  cases h4:fs.any manyB with
  |true=>
   conv=>whnf
   refine known true rfl ?_
   (conv=>whnf)<;>rfl
  |false=>
   conv=>whnf
   refine known false rfl ?_
   conv=>whnf
   refine⟨_,hdp,?_⟩
   conv=>whnf
   rintro(_|_) h5
   ·have h5:¬32<deepF ⟨ns,fs⟩:=by simp at h5;omega
    rw[if_neg (by simp;omega)]
    (conv=>whnf)<;>rfl
   ·have h5:32<deepF ⟨ns,fs⟩:=by simp at h5;omega
    rw[if_pos (.inr h5)]
    (conv=>whnf)<;>rfl
theorem check_ord {p:Pg} (h:checkP p=0):ordB p=true:=by
 unfold checkP at h
 split at h
 ·cases h
 split at h
 ·cases h
 rename_i h1
 simpa using h1
end Go.Proofs.YtdccglkagfdooaaGreatDoor
