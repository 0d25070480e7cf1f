/- Texts joined by pack.py: XSy3 XSyC XSyWB -/
import Derived.Test.YtglndfgmlminpaaGreatDoorSx20
import Derived.Test.YtglndfgmlminpaaGreatDoorSx23
set_option maxHeartbeats 4000000
set_option maxRecDepth 100000
namespace Go.Proofs.YtglndfgmlminpaaGreatDoor
open Go.RowKit
def intD (n:Int):List D:=[.cv (.int .i64 n)]
abbrev intsV (l:List Int):V:= .sl true 1 (l.map intD)
def ndD (n:Nd):List D:=[.cv (.int .i64 n.kind),.cv (.string (mk n.text)),.cv (.int .i64 n.val),.sl 1 (n.keys.map strD),.sl 1 (n.kids.map intD)]
def fcD (f:Fc):List D:=[.cv (.string (mk f.name)),.sl 1 (f.params.map strD),.cv (.int .i64 f.body)]
abbrev Nd.V (n:Nd):V:= .ag [int n.kind,bstr n.text,int n.val,strsV n.keys,intsV n.kids]
abbrev Fc.V (f:Fc):V:= .ag [bstr f.name,strsV f.params,int f.body]
abbrev Pg.V (p:Pg):V:= .ag [.sl true 5 (p.nodes.map ndD),.sl true 3 (p.funcs.map fcD)]
structure PgBig (p:Pg):Prop where
 ns:p.nodes.length≤8796093022207
 fs:p.funcs.length≤8796093022207
 keys:∀n∈p.nodes,n.keys.length≤8796093022207
 kids:∀n∈p.nodes,n.kids.length≤8796093022207
 ps:∀f∈p.funcs,f.params.length≤8796093022207
def all2 {α:Type} (p:α→α→Bool):List α→List α→Bool
 |[],[]=>true
 |a::l,b::r=>p a b&&all2 p l r
 |_,_=>false
theorem all2_len {α:Type} {p:α→α→Bool}:∀{l r:List α},l.length≠r.length→all2 p l r=false
 |[],[],h=>absurd rfl h
 |[],_::_,_=>rfl
 |_::_,[],_=>rfl
 |a::l,b::r,h=>by
  unfold all2
  rw[all2_len (by simpa using h),Bool.and_false]
theorem all2_drop {α:Type} {p:α→α→Bool} {l r:List α} {k:Nat} (h1:k<l.length) (h2:k<r.length):all2 p (l.drop k) (r.drop k)=(p l[k] r[k]&&all2 p (l.drop (k+1)) (r.drop (k+1))):=by
 rw[List.drop_eq_getElem_cons h1,List.drop_eq_getElem_cons h2];rfl
theorem all2_eq {α:Type} {p:α→α→Bool} (hp:∀a b,p a b=true↔a=b):∀{l r:List α},all2 p l r=true↔l=r
 |[],[]=>by simp[all2]
 |[],_::_=>by simp[all2]
 |_::_,[]=>by simp[all2]
 |a::l,b::r=>by
  unfold all2
  rw[Bool.and_eq_true,hp,all2_eq hp]
  simp
def strB (a b:Bs):Bool:=a==b
def intB (a b:Int):Bool:=a==b
theorem strB_eq (a b:Bs):strB a b=true↔a=b:=by unfold strB;simp
theorem intB_eq (a b:Int):intB a b=true↔a=b:=by unfold intB;simp
def ndB (x y:Nd):Bool:=x.kind==y.kind&&x.text==y.text&&x.val==y.val&&all2 strB x.keys y.keys&&all2 intB x.kids y.kids
def fcB (x y:Fc):Bool:=x.name==y.name&&x.body==y.body&&all2 strB x.params y.params
def sameP (a b:Pg):Bool:=all2 ndB a.nodes b.nodes&&all2 fcB a.funcs b.funcs
theorem ndB_eq (x y:Nd):ndB x y=true↔x=y:=by
 obtain⟨a,b,c,d,e⟩:=x
 obtain⟨a',b',c',d',e'⟩:=y
 unfold ndB
 simp[Bool.and_eq_true,all2_eq strB_eq,all2_eq intB_eq,and_assoc]
theorem fcB_eq (x y:Fc):fcB x y=true↔x=y:=by
 obtain⟨a,b,c⟩:=x
 obtain⟨a',b',c'⟩:=y
 unfold fcB
 simp[Bool.and_eq_true,all2_eq strB_eq]
 constructor
 ·rintro⟨⟨h1,h2⟩,h3⟩;exact⟨h1,h3,h2⟩
 ·rintro⟨h1,h2,h3⟩;exact⟨⟨h1,h3⟩,h2⟩
theorem sameP_eq (a b:Pg):sameP a b=true↔a=b:=by
 obtain⟨f,i⟩:=a
 obtain⟨f',i'⟩:=b
 unfold sameP
 rw[Bool.and_eq_true,all2_eq ndB_eq,all2_eq fcB_eq]
 simp
theorem x_equalS (a b:List Bs) (ha:a.length≤8796093022207):DCalls Tryz.prog 47 [.sl true 1 (a.map strD),.sl true 1 (b.map strD)] (boo (all2 strB a b)):=by
 have hla:(a.map strD).length=a.length:=List.length_map _
 have hlb:(b.map strD).length=b.length:=List.length_map _
 refine sx Tryz.func47 (by kernel_rfl) ?_
 conv=>whnf
 rintro(_|_) h0
 rotate_left
 ·have h0:a.length≠b.length:=by rw[hla,hlb] at h0;simp at h0;omega
  rw[all2_len h0]
  (conv=>whnf)<;>rfl
 have h0:a.length=b.length:=by rw[hla,hlb] at h0;simp at h0;omega
 conv=>whnf
 refine⟨[],Nat,fun k=>[(13,int k)],fun _=>[],fun k=>k≤a.length∧all2 strB (a.drop k) (b.drop k)=all2 strB a b,fun k=>a.length - k,0,⟨Nat.zero_le _,rfl⟩,?_,?_⟩
 ·refine⟨rfl,?_,?_⟩<;>repeat' (first|exact trivial|exact rfl|refine and_rfl ?_|refine and_two ?_ ?_)
 rintro k ⟨hk1,hk⟩
 conv=>whnf
 rintro(_|_) h1
 ·have h1:a.length≤k:=by rw[←hla];simpa using h1
  rw[List.drop_eq_nil_of_le h1,List.drop_eq_nil_of_le (by omega),show all2 strB [] []=true from rfl] at hk
  rw[←hk]
  (conv=>whnf)<;>rfl
 have h1:k<a.length:=by rw[←hla];simpa using h1
 have h2:k<b.length:=by omega
 rw[all2_drop h1 h2] at hk
 conv=>whnf
 refine⟨none,by kernel_rfl,?_⟩
 conv=>whnf
 refine⟨by omega,_,get_map strD h1,?_⟩
 conv=>whnf
 refine⟨by omega,_,get_map strD h2,?_⟩
 conv=>whnf
 rw[show((mk a[k]).toList==(mk b[k]).toList)=strB a[k] b[k] from sEq_mk _ _]
 rintro(_|_) h3
 ·have h3:strB a[k] b[k]=true:=by simpa using h3
  rw[h3,Bool.true_and] at hk
  conv=>whnf
  refine⟨k+1,⟨h1,hk⟩,by dsimp only;omega,?_⟩
  refine⟨rfl,?_,?_⟩<;>repeat' (first|exact trivial|exact rfl|refine and_rfl ?_|refine and_val (wrap_succ (by omega)) ?_|refine and_two ?_ ?_)
 ·have h3:strB a[k] b[k]=false:=by simpa using h3
  rw[h3,Bool.false_and] at hk
  rw[←hk]
  (conv=>whnf)<;>rfl
theorem x_equalI (a b:List Int) (ha:a.length≤8796093022207):DCalls Tryz.prog 79 [.sl true 1 (a.map intD),.sl true 1 (b.map intD)] (boo (all2 intB a b)):=by
 have hla:(a.map intD).length=a.length:=List.length_map _
 have hlb:(b.map intD).length=b.length:=List.length_map _
 refine sx Tryz.func79 (by kernel_rfl) ?_
 conv=>whnf
 rintro(_|_) h0
 rotate_left
 ·have h0:a.length≠b.length:=by rw[hla,hlb] at h0;simp at h0;omega
  rw[all2_len h0]
  (conv=>whnf)<;>rfl
 have h0:a.length=b.length:=by rw[hla,hlb] at h0;simp at h0;omega
 conv=>whnf
 refine⟨[],Nat,fun k=>[(13,int k)],fun _=>[],fun k=>k≤a.length∧all2 intB (a.drop k) (b.drop k)=all2 intB a b,fun k=>a.length - k,0,⟨Nat.zero_le _,rfl⟩,?_,?_⟩
 ·refine⟨rfl,?_,?_⟩<;>repeat' (first|exact trivial|exact rfl|refine and_rfl ?_|refine and_two ?_ ?_)
 rintro k ⟨hk1,hk⟩
 conv=>whnf
 rintro(_|_) h1
 ·have h1:a.length≤k:=by rw[←hla];simpa using h1
  rw[List.drop_eq_nil_of_le h1,List.drop_eq_nil_of_le (by omega),show all2 intB [] []=true from rfl] at hk
  rw[←hk]
  (conv=>whnf)<;>rfl
 have h1:k<a.length:=by rw[←hla];simpa using h1
 have h2:k<b.length:=by omega
 rw[all2_drop h1 h2] at hk
 conv=>whnf
 refine⟨none,by kernel_rfl,?_⟩
 conv=>whnf
 refine⟨by omega,_,get_map intD h1,?_⟩
 conv=>whnf
 refine⟨by omega,_,get_map intD h2,?_⟩
 conv=>whnf
 rintro(_|_) h3
 ·have h3:intB a[k] b[k]=true:=by unfold intB;simpa using h3
  rw[h3,Bool.true_and] at hk
  conv=>whnf
  refine⟨k+1,⟨h1,hk⟩,by dsimp only;omega,?_⟩
  refine⟨rfl,?_,?_⟩<;>repeat' (first|exact trivial|exact rfl|refine and_rfl ?_|refine and_val (wrap_succ (by omega)) ?_|refine and_two ?_ ?_)
 ·have h3:intB a[k] b[k]=false:=by unfold intB;simpa using h3
  rw[h3,Bool.false_and] at hk
  rw[←hk]
  (conv=>whnf)<;>rfl
theorem x_node (x y:Nd) (hx:x.keys.length≤8796093022207) (hy:x.kids.length≤8796093022207):DCalls Tryz.prog 44 [x.V,y.V] (boo (ndB x y)):=by
 obtain⟨op,s,a,ks,l⟩:=x
 obtain⟨op',s',a',ks',l'⟩:=y
 refine sx Tryz.func44 (by kernel_rfl) ?_
 conv=>whnf
 rintro(_|_) h1
 ·rw[show ndB ⟨op,s,a,ks,l⟩ ⟨op',s',a',ks',l'⟩=false by unfold ndB;rw[show(op==op')=false from h1];simp]
  (conv=>whnf)<;>rfl
 conv=>whnf
 rintro(_|_) h3
 ·have h3:(s==s')=false:=(sEq_mk s s').symm.trans h3
  rw[show ndB ⟨op,s,a,ks,l⟩ ⟨op',s',a',ks',l'⟩=false by unfold ndB;rw[h3];simp]
  (conv=>whnf)<;>rfl
 have h3:(s==s')=true:=(sEq_mk s s').symm.trans h3
 conv=>whnf
 rintro(_|_) h2
 ·rw[show ndB ⟨op,s,a,ks,l⟩ ⟨op',s',a',ks',l'⟩=false by unfold ndB;rw[show(a==a')=false from h2];simp]
  (conv=>whnf)<;>rfl
 conv=>whnf
 refine⟨_,x_equalS ks ks' hx,?_⟩
 have hq:ndB ⟨op,s,a,ks,l⟩ ⟨op',s',a',ks',l'⟩=(all2 strB ks ks' &&all2 intB l l'):=by unfold ndB;rw[show(op==op')=true from h1,show(a==a')=true from h2,h3];rfl
 rw[hq]
 conv=>whnf
 rintro(_|_) h4
 ·rw[show all2 strB ks ks'=false from h4]
  (conv=>whnf)<;>rfl
 rw[show all2 strB ks ks'=true from h4,Bool.true_and]
 conv=>whnf
 refine⟨_,x_equalI l l' hy,?_⟩
 (conv=>whnf)<;>rfl
theorem x_same1 (x y:Fc) (hx:x.params.length≤8796093022207):DCalls Tryz.prog 46 [x.V,y.V] (boo (fcB x y)):=by
 obtain⟨s,ks,a⟩:=x
 obtain⟨s',ks',a'⟩:=y
 refine sx Tryz.func46 (by kernel_rfl) ?_
 conv=>whnf
 rintro(_|_) h3
 ·have h3:(s==s')=false:=(sEq_mk s s').symm.trans h3
  rw[show fcB ⟨s,ks,a⟩ ⟨s',ks',a'⟩=false by unfold fcB;rw[h3];simp]
  (conv=>whnf)<;>rfl
 have h3:(s==s')=true:=(sEq_mk s s').symm.trans h3
 conv=>whnf
 rintro(_|_) h2
 ·rw[show fcB ⟨s,ks,a⟩ ⟨s',ks',a'⟩=false by unfold fcB;rw[show(a==a')=false from h2];simp]
  (conv=>whnf)<;>rfl
 rw[show fcB ⟨s,ks,a⟩ ⟨s',ks',a'⟩=all2 strB ks ks' by unfold fcB;rw[show(a==a')=true from h2,h3];rfl]
 conv=>whnf
 refine⟨_,x_equalS ks ks' hx,?_⟩
 (conv=>whnf)<;>rfl
theorem x_equalN (a b:List Nd) (ha:a.length≤8796093022207) (hk2:∀x∈a,x.keys.length≤8796093022207) (hk3:∀x∈a,x.kids.length≤8796093022207):DCalls Tryz.prog 43 [.sl true 5 (a.map ndD),.sl true 5 (b.map ndD),.cv (.func (.func 44) #[] #[])] (boo (all2 ndB a b)):=by
 have hla:(a.map ndD).length=a.length:=List.length_map _
 have hlb:(b.map ndD).length=b.length:=List.length_map _
 refine sx Tryz.func43 (by kernel_rfl) ?_
 conv=>whnf
 rintro(_|_) h0
 rotate_left
 ·have h0:a.length≠b.length:=by rw[hla,hlb] at h0;simp at h0;omega
  rw[all2_len h0]
  (conv=>whnf)<;>rfl
 have h0:a.length=b.length:=by rw[hla,hlb] at h0;simp at h0;omega
 conv=>whnf
 refine⟨[],Nat,fun k=>[(17,int k)],fun _=>[],fun k=>k≤a.length∧all2 ndB (a.drop k) (b.drop k)=all2 ndB a b,fun k=>a.length - k,0,⟨Nat.zero_le _,rfl⟩,?_,?_⟩
 ·refine⟨rfl,?_,?_⟩<;>repeat' (first|exact trivial|exact rfl|refine and_rfl ?_|refine and_two ?_ ?_)
 rintro k ⟨hk1,hk⟩
 conv=>whnf
 rintro(_|_) h1
 ·have h1:a.length≤k:=by rw[←hla];simpa using h1
  rw[List.drop_eq_nil_of_le h1,List.drop_eq_nil_of_le (by omega),show all2 ndB [] []=true from rfl] at hk
  rw[←hk]
  (conv=>whnf)<;>rfl
 have h1:k<a.length:=by rw[←hla];simpa using h1
 have h2:k<b.length:=by omega
 rw[all2_drop h1 h2] at hk
 conv=>whnf
 refine⟨by omega,_,get_map ndD h1,?_⟩
 conv=>whnf
 refine⟨by omega,_,get_map ndD h2,?_⟩
 conv=>whnf
 refine⟨_,x_node a[k] b[k] (hk2 _ (List.getElem_mem h1)) (hk3 _ (List.getElem_mem h1)),?_⟩
 conv=>whnf
 rintro(_|_) h3
 ·have h3:ndB a[k] b[k]=true:=by simpa using h3
  rw[h3,Bool.true_and] at hk
  conv=>whnf
  refine⟨k+1,⟨h1,hk⟩,by dsimp only;omega,?_⟩
  refine⟨rfl,?_,?_⟩<;>repeat' (first|exact trivial|exact rfl|refine and_rfl ?_|refine and_val (wrap_succ (by omega)) ?_|refine and_two ?_ ?_)
 ·have h3:ndB a[k] b[k]=false:=by simpa using h3
  rw[h3,Bool.false_and] at hk
  rw[←hk]
  (conv=>whnf)<;>rfl
theorem x_equalFn (a b:List Fc) (ha:a.length≤8796093022207) (hk2:∀x∈a,x.params.length≤8796093022207):DCalls Tryz.prog 45 [.sl true 3 (a.map fcD),.sl true 3 (b.map fcD),.cv (.func (.func 46) #[] #[])] (boo (all2 fcB a b)):=by
 have hla:(a.map fcD).length=a.length:=List.length_map _
 have hlb:(b.map fcD).length=b.length:=List.length_map _
 refine sx Tryz.func45 (by kernel_rfl) ?_
 conv=>whnf
 rintro(_|_) h0
 rotate_left
 ·have h0:a.length≠b.length:=by rw[hla,hlb] at h0;simp at h0;omega
  rw[all2_len h0]
  (conv=>whnf)<;>rfl
 have h0:a.length=b.length:=by rw[hla,hlb] at h0;simp at h0;omega
 conv=>whnf
 refine⟨[],Nat,fun k=>[(17,int k)],fun _=>[],fun k=>k≤a.length∧all2 fcB (a.drop k) (b.drop k)=all2 fcB a b,fun k=>a.length - k,0,⟨Nat.zero_le _,rfl⟩,?_,?_⟩
 ·refine⟨rfl,?_,?_⟩<;>repeat' (first|exact trivial|exact rfl|refine and_rfl ?_|refine and_two ?_ ?_)
 rintro k ⟨hk1,hk⟩
 conv=>whnf
 rintro(_|_) h1
 ·have h1:a.length≤k:=by rw[←hla];simpa using h1
  rw[List.drop_eq_nil_of_le h1,List.drop_eq_nil_of_le (by omega),show all2 fcB [] []=true from rfl] at hk
  rw[←hk]
  (conv=>whnf)<;>rfl
 have h1:k<a.length:=by rw[←hla];simpa using h1
 have h2:k<b.length:=by omega
 rw[all2_drop h1 h2] at hk
 conv=>whnf
 refine⟨by omega,_,get_map fcD h1,?_⟩
 conv=>whnf
 refine⟨by omega,_,get_map fcD h2,?_⟩
 conv=>whnf
 refine⟨_,x_same1 a[k] b[k] (hk2 _ (List.getElem_mem h1)),?_⟩
 conv=>whnf
 rintro(_|_) h3
 ·have h3:fcB a[k] b[k]=true:=by simpa using h3
  rw[h3,Bool.true_and] at hk
  conv=>whnf
  refine⟨k+1,⟨h1,hk⟩,by dsimp only;omega,?_⟩
  refine⟨rfl,?_,?_⟩<;>repeat' (first|exact trivial|exact rfl|refine and_rfl ?_|refine and_val (wrap_succ (by omega)) ?_|refine and_two ?_ ?_)
 ·have h3:fcB a[k] b[k]=false:=by simpa using h3
  rw[h3,Bool.false_and] at hk
  rw[←hk]
  (conv=>whnf)<;>rfl
theorem x_samePg (a b:Pg) (ha:PgBig a):DCalls Tryz.prog 17 [a.V,b.V] (boo (sameP a b)):=by
 refine sx Tryz.func17 (by kernel_rfl) ?_
 conv=>whnf
 refine⟨_,x_equalN a.nodes b.nodes ha.ns ha.keys ha.kids,?_⟩
 conv=>whnf
 rintro(_|_) h1
 ·rw[show sameP a b=false by unfold sameP;rw[show all2 ndB a.nodes b.nodes=false from h1];rfl]
  (conv=>whnf)<;>rfl
 conv=>whnf
 refine⟨_,x_equalFn a.funcs b.funcs ha.fs ha.ps,?_⟩
 rw[show sameP a b=all2 fcB a.funcs b.funcs by unfold sameP;rw[show all2 ndB a.nodes b.nodes=true from h1];rfl]
 (conv=>whnf)<;>rfl
theorem x_rstrings (a b:List Bs) (ha:a.length≤8796093022207):DCalls Tryz.prog 30 [.sl true 1 (a.map strD),.sl true 1 (b.map strD)] (boo (all2 strB a b)):=by
 have hla:(a.map strD).length=a.length:=List.length_map _
 have hlb:(b.map strD).length=b.length:=List.length_map _
 refine sx Tryz.func30 (by kernel_rfl) ?_
 conv=>whnf
 rintro(_|_) h0
 rotate_left
 ·have h0:a.length≠b.length:=by rw[hla,hlb] at h0;simp at h0;omega
  rw[all2_len h0]
  (conv=>whnf)<;>rfl
 have h0:a.length=b.length:=by rw[hla,hlb] at h0;simp at h0;omega
 conv=>whnf
 refine⟨[],Nat,fun k=>[(5,int k)],fun _=>[],fun k=>k≤a.length∧all2 strB (a.drop k) (b.drop k)=all2 strB a b,fun k=>a.length - k,0,⟨Nat.zero_le _,rfl⟩,?_,?_⟩
 ·refine⟨rfl,?_,?_⟩<;>repeat' (first|exact trivial|exact rfl|refine and_rfl ?_|refine and_two ?_ ?_)
 rintro k ⟨hk1,hk⟩
 conv=>whnf
 rintro(_|_) h1
 ·have h1:a.length≤k:=by rw[←hla];simpa using h1
  rw[List.drop_eq_nil_of_le h1,List.drop_eq_nil_of_le (by omega),show all2 strB [] []=true from rfl] at hk
  rw[←hk]
  (conv=>whnf)<;>rfl
 have h1:k<a.length:=by rw[←hla];simpa using h1
 have h2:k<b.length:=by omega
 rw[all2_drop h1 h2] at hk
 conv=>whnf
 refine⟨none,by kernel_rfl,?_⟩
 conv=>whnf
 refine⟨by omega,_,get_map strD h1,?_⟩
 conv=>whnf
 refine⟨by omega,_,get_map strD h2,?_⟩
 conv=>whnf
 rw[show((mk a[k]).toList==(mk b[k]).toList)=strB a[k] b[k] from sEq_mk _ _]
 rintro(_|_) h3
 ·have h3:strB a[k] b[k]=true:=by simpa using h3
  rw[h3,Bool.true_and] at hk
  conv=>whnf
  refine⟨k+1,⟨h1,hk⟩,by dsimp only;omega,?_⟩
  refine⟨rfl,?_,?_⟩<;>repeat' (first|exact trivial|exact rfl|refine and_rfl ?_|refine and_val (wrap_succ (by omega)) ?_|refine and_two ?_ ?_)
 ·have h3:strB a[k] b[k]=false:=by simpa using h3
  rw[h3,Bool.false_and] at hk
  rw[←hk]
  (conv=>whnf)<;>rfl
end Go.Proofs.YtglndfgmlminpaaGreatDoor
namespace Go.Proofs.YtglndfgmlminpaaGreatDoor
open Go.RowKit
def idxS (s:Bs):List Bs→Nat→Int
 |[],_=> -1
 |k::r,i=>if s==k then i else idxS s r (i+1)
theorem idxS_cons (s k:Bs) (r:List Bs) (i:Nat):idxS s (k::r) i=if s==k then(i:Int) else idxS s r (i+1):=rfl
theorem idxS_has (s:Bs):∀(l:List Bs) (i:Nat),decide (idxS s l i≥0)=l.contains s
 |[],i=>rfl
 |k::r,i=>by
  rw[idxS_cons,List.contains_cons]
  by_cases h:(s==k)=true
  ·rw[if_pos h,h];simp
  ·rw[if_neg h,idxS_has s r (i+1)];simp at h;simp[h]
theorem x_indexS (l:List Bs) (s:Bs) (hn:l.length≤8796093022207):DCalls Tryz.prog 200 [strsV l,bstr s] (int (idxS s l 0)):=by
 refine sx Tryz.func200 (by kernel_rfl) ?_
 conv=>whnf
 refine⟨[],Nat,fun k=>[(8,int k)],fun _=>[],fun k=>k≤l.length∧idxS s (l.drop k) k=idxS s l 0,fun k=>l.length - k,0,⟨Nat.zero_le _,rfl⟩,?_,?_⟩
 ·refine⟨rfl,?_,?_⟩<;>repeat' (first|exact trivial|exact rfl|refine and_rfl ?_|refine and_two ?_ ?_)
 rintro k ⟨hk1,hk⟩
 conv=>whnf
 rintro(_|_) h2
 ·have h2:l.length≤k:=by simp at h2;omega
  rw[List.drop_eq_nil_of_le h2] at hk
  rw[←hk]
  (conv=>whnf)<;>rfl
 have h2:k<l.length:=by simp at h2;omega
 have hw:IntKind.i64.wrap (((k:Nat):Int)+1)=((k+1:Nat):Int):=wrap_succ (by omega)
 rw[List.drop_eq_getElem_cons h2,idxS_cons] at hk
 conv=>whnf
 refine⟨by omega,_,get_map strD h2,?_⟩
 conv=>whnf
 rintro(_|_) h3
 ·have h3:(s==l[k])=false:=by rw[←sEq_mk];exact h3
  rw[h3,if_neg (by simp)] at hk
  conv=>whnf
  refine⟨k+1,⟨h2,hk⟩,by dsimp only;omega,?_⟩
  refine⟨rfl,?_,?_⟩<;>repeat' (first|exact trivial|exact rfl|refine and_rfl ?_|refine and_val hw ?_|refine and_two ?_ ?_)
 ·have h3:(s==l[k])=true:=by rw[←sEq_mk];exact h3
  rw[h3,if_pos rfl] at hk
  rw[←hk]
  (conv=>whnf)<;>rfl
theorem x_containsS (l:List Bs) (s:Bs) (hn:l.length≤8796093022207):DCalls Tryz.prog 172 [strsV l,bstr s] (boo (l.contains s)):=by
 rw[←idxS_has s l 0]
 refine sx Tryz.func172 (by kernel_rfl) ?_
 conv=>whnf
 refine⟨_,x_indexS l s hn,?_⟩
 (conv=>whnf)<;>rfl
end Go.Proofs.YtglndfgmlminpaaGreatDoor
namespace Go.Proofs.YtglndfgmlminpaaGreatDoor
open Go.RowKit
theorem whole_len {l:Bs} (h:l.length<1∨24<l.length):wholeB l=false:=by
 unfold wholeB
 rcases h with h|h
 ·have:l=[]:=List.eq_nil_of_length_eq_zero (by omega)
  subst this;rfl
 ·rw[show decide (l.length≤24)=false by simp;omega];simp
theorem whole_run {l:Bs} (h:1≤l.length) (h2:l.length≤24):wholeB l=decide (runL l=l.length):=by
 unfold wholeB
 cases l with
 |nil=>simp at h
 |cons c r=>simp only[List.isEmpty_cons,Bool.not_false,Bool.true_and];rw[decide_eq_true h2,Bool.and_true]
theorem x_srun (l:Bs) (hl:l.length≤281474976710656):DCalls Tryz.prog 108 [bstr l] (boo (wholeB l)):=by
 refine sx Tryz.func108 (by kernel_rfl) ?_
 conv=>whnf
 rintro(_|_) h1
 rotate_left
 ·have h1:l.length<1:=by simp[mk_size] at h1;omega
  rw[whole_len (.inl h1)]
  (conv=>whnf)<;>rfl
 have h1:1≤l.length:=by simp[mk_size] at h1;omega
 conv=>whnf
 rintro(_|_) h2
 rotate_left
 ·have h2:24<l.length:=by simp[mk_size] at h2;omega
  rw[whole_len (.inr h2)]
  (conv=>whnf)<;>rfl
 have h2:l.length≤24:=by simp[mk_size] at h2;omega
 rw[whole_run h1 h2]
 conv=>whnf
 refine⟨[],Nat,fun k=>[(15,int k)],fun _=>[],fun k=>k≤l.length∧k+(if k=0 then runL l else runT (l.drop k))=runL l,fun k=>l.length - k,0,⟨Nat.zero_le _,by simp⟩,?_,?_⟩
 ·refine⟨rfl,?_,?_⟩<;>repeat' (first|exact trivial|exact rfl|refine and_rfl ?_|refine and_two ?_ ?_)
 rintro k ⟨hk1,hk⟩
 conv=>whnf
 rintro(_|_) h3
 ·have h3:l.length≤k:=by simp[mk_size] at h3;omega
  rw[if_neg (by omega),List.drop_eq_nil_of_le h3] at hk
  rw[show decide (runL l=l.length)=true by simp[runT] at hk⊢;omega]
  (conv=>whnf)<;>rfl
 have h3:k<l.length:=by simp[mk_size] at h3;omega
 have hw:IntKind.i64.wrap (((k:Nat):Int)+1)=((k+1:Nat):Int):=wrap_succ (by omega)
 have next:(if k=0 then runL l else runT (l.drop k))=runT (l.drop (k+1))+1→(k+1)+(if k+1=0 then runL l else runT (l.drop (k+1)))=runL l:=by
  intro h;rw[if_neg (by omega)];omega
 have hd0:k=0→runL l=if isHd l[k] then runT (l.drop (k+1))+1 else 0:=by
  intro e;subst e
  cases l with
  |nil=>simp at h3
  |cons c l=>rfl
 have hdk:runT (l.drop k)=if isHd l[k]||isDg l[k] then runT (l.drop (k+1))+1 else 0:=by rw[drop_cons h3];rfl
 rw[isHd_int] at hd0 hdk
 rw[isDg_int] at hdk
 conv=>whnf
 refine⟨by omega,_,mk_at h3,?_⟩
 have go:((((97:Int)≤(l[k].toNat:Int)∧(l[k].toNat:Int)≤122)∨(l[k].toNat:Int)=95)∨(0<k∧(48:Int)≤(l[k].toNat:Int)∧(l[k].toNat:Int)≤57))→k+1≤l.length∧k+1+(if k+1=0 then runL l else runT (l.drop (k+1)))=runL l:=by
  intro h
  refine⟨h3,next ?_⟩
  split
  ·rw[hd0 (by assumption),if_pos (by simp;omega)]
  ·rw[hdk,if_pos (by simp;omega)]
 have no:¬((((97:Int)≤(l[k].toNat:Int)∧(l[k].toNat:Int)≤122)∨(l[k].toNat:Int)=95)∨(0<k∧(48:Int)≤(l[k].toNat:Int)∧(l[k].toNat:Int)≤57))→false=decide (runL l=l.length):=by
  intro h
  symm
  rw[decide_eq_false_iff_not]
  split at hk
  ·have:=hd0 (by assumption);rw[if_neg (by simp;omega)] at this;omega
  ·rw[hdk,if_neg (by simp;omega)] at hk;omega
 clear hk hd0 hdk next
 repeat' ((conv=>whnf);rintro(_|_) _)
 all_goals simp only[decide_eq_true_eq,decide_eq_false_iff_not,bne_iff_ne,bne_eq_false_iff_eq,beq_iff_eq,beq_eq_false_iff_ne,ne_eq] at*
 all_goals first
  |((conv=>whnf);exact fin_boo (no (by omega)))
  | ((conv=>whnf);refine⟨k+1,go (by omega),by(try dsimp only);omega,?_⟩
     refine⟨rfl,?_,?_⟩<;>repeat' (first|exact trivial|exact rfl|refine and_rfl ?_|refine and_val hw ?_|refine and_two ?_ ?_))
theorem x_sname (l:Bs) (hl:l.length≤281474976710656):DCalls Tryz.prog 65 [bstr l] (boo (nameB l)):=by
 refine sx Tryz.func65 (by kernel_rfl) ?_
 conv=>whnf
 refine⟨_,x_srun l hl,?_⟩
 unfold nameB
 cases h:wholeB l with
 |false=>
  conv=>whnf
  refine known false rfl ?_
  (conv=>whnf)<;>rfl
 |true=>
  conv=>whnf
  refine known true rfl ?_
  conv=>whnf
  refine⟨_,x_keywordL l,?_⟩
  (conv=>whnf)<;>rfl
theorem litE (a:Bs) (d:Array UInt8):((mk a).toList==(⟨d⟩:ByteArray).toList)=(a==d.toList):=sEq_mk a d.toList
theorem snE {a b:Bs} (h:a≠b):((mk a).toList==(mk b).toList)=false:=by rw[show((mk a).toList==(mk b).toList)=(a==b) from sEq_mk a b];simpa using h
theorem x_sbinary (l:Bs):DCalls Tryz.prog 178 [bstr l] (int (binL l)):=by
 by_cases h0:l=[111,114]
 ·subst h0
  refine sx Tryz.func178 (by kernel_rfl) ?_
  repeat((conv=>whnf);first|refine known true ((litE _ _).trans rfl) ?_|refine known false ((litE _ _).trans rfl) ?_)
  try((conv=>whnf)<;>rfl)
 by_cases h1:l=[97,110,100]
 ·subst h1
  refine sx Tryz.func178 (by kernel_rfl) ?_
  repeat((conv=>whnf);first|refine known true ((litE _ _).trans rfl) ?_|refine known false ((litE _ _).trans rfl) ?_)
  try((conv=>whnf)<;>rfl)
 by_cases h2:l=[61,61]
 ·subst h2
  refine sx Tryz.func178 (by kernel_rfl) ?_
  repeat((conv=>whnf);first|refine known true ((litE _ _).trans rfl) ?_|refine known false ((litE _ _).trans rfl) ?_)
  try((conv=>whnf)<;>rfl)
 by_cases h3:l=[33,61]
 ·subst h3
  refine sx Tryz.func178 (by kernel_rfl) ?_
  repeat((conv=>whnf);first|refine known true ((litE _ _).trans rfl) ?_|refine known false ((litE _ _).trans rfl) ?_)
  try((conv=>whnf)<;>rfl)
 by_cases h4:l=[60]
 ·subst h4
  refine sx Tryz.func178 (by kernel_rfl) ?_
  repeat((conv=>whnf);first|refine known true ((litE _ _).trans rfl) ?_|refine known false ((litE _ _).trans rfl) ?_)
  try((conv=>whnf)<;>rfl)
 by_cases h5:l=[60,61]
 ·subst h5
  refine sx Tryz.func178 (by kernel_rfl) ?_
  repeat((conv=>whnf);first|refine known true ((litE _ _).trans rfl) ?_|refine known false ((litE _ _).trans rfl) ?_)
  try((conv=>whnf)<;>rfl)
 by_cases h6:l=[62]
 ·subst h6
  refine sx Tryz.func178 (by kernel_rfl) ?_
  repeat((conv=>whnf);first|refine known true ((litE _ _).trans rfl) ?_|refine known false ((litE _ _).trans rfl) ?_)
  try((conv=>whnf)<;>rfl)
 by_cases h7:l=[62,61]
 ·subst h7
  refine sx Tryz.func178 (by kernel_rfl) ?_
  repeat((conv=>whnf);first|refine known true ((litE _ _).trans rfl) ?_|refine known false ((litE _ _).trans rfl) ?_)
  try((conv=>whnf)<;>rfl)
 by_cases h8:l=[43]
 ·subst h8
  refine sx Tryz.func178 (by kernel_rfl) ?_
  repeat((conv=>whnf);first|refine known true ((litE _ _).trans rfl) ?_|refine known false ((litE _ _).trans rfl) ?_)
  try((conv=>whnf)<;>rfl)
 by_cases h9:l=[45]
 ·subst h9
  refine sx Tryz.func178 (by kernel_rfl) ?_
  repeat((conv=>whnf);first|refine known true ((litE _ _).trans rfl) ?_|refine known false ((litE _ _).trans rfl) ?_)
  try((conv=>whnf)<;>rfl)
 by_cases h10:l=[42]
 ·subst h10
  refine sx Tryz.func178 (by kernel_rfl) ?_
  repeat((conv=>whnf);first|refine known true ((litE _ _).trans rfl) ?_|refine known false ((litE _ _).trans rfl) ?_)
  try((conv=>whnf)<;>rfl)
 by_cases h11:l=[47]
 ·subst h11
  refine sx Tryz.func178 (by kernel_rfl) ?_
  repeat((conv=>whnf);first|refine known true ((litE _ _).trans rfl) ?_|refine known false ((litE _ _).trans rfl) ?_)
  try((conv=>whnf)<;>rfl)
 by_cases h12:l=[37]
 ·subst h12
  refine sx Tryz.func178 (by kernel_rfl) ?_
  repeat((conv=>whnf);first|refine known true ((litE _ _).trans rfl) ?_|refine known false ((litE _ _).trans rfl) ?_)
  try((conv=>whnf)<;>rfl)
 rw[show binL l=0 by simp[binL,wOr,wAnd,opCmp,opAdd,opMul,h0,h1,h2,h3,h4,h5,h6,h7,h8,h9,h10,h11,h12]]
 refine sx Tryz.func178 (by kernel_rfl) ?_
 repeat((conv=>whnf);first|refine known false (snE h0) ?_|refine known false (snE h1) ?_|refine known false (snE h2) ?_|refine known false (snE h3) ?_|refine known false (snE h4) ?_|refine known false (snE h5) ?_|refine known false (snE h6) ?_|refine known false (snE h7) ?_|refine known false (snE h8) ?_|refine known false (snE h9) ?_|refine known false (snE h10) ?_|refine known false (snE h11) ?_|refine known false (snE h12) ?_)
 try((conv=>whnf)<;>rfl)
theorem x_soperator (l:Bs):DCalls Tryz.prog 150 [bstr l] (boo (decide (0<binL l))):=by
 refine sx Tryz.func150 (by kernel_rfl) ?_
 conv=>whnf
 refine⟨_,x_sbinary l,?_⟩
 (conv=>whnf)<;>rfl
theorem x_sstatement (n:Int):DCalls Tryz.prog 151 [int n] (boo (stmtK n)):=by
 refine sx Tryz.func151 (by kernel_rfl) ?_
 unfold stmtK
 conv=>whnf
 rintro(_|_) h
 ·(conv=>whnf);exact fin_boo (by simp at*;omega)
 ·(conv=>whnf);exact fin_boo (by simp at*;omega)
theorem x_sexpression (n:Int):DCalls Tryz.prog 152 [int n] (boo (exprK n)):=by
 refine sx Tryz.func152 (by kernel_rfl) ?_
 unfold exprK
 conv=>whnf
 rintro(_|_) h
 ·(conv=>whnf);exact fin_boo (by simp at*;omega)
 ·(conv=>whnf);exact fin_boo (by simp at*;omega)
end Go.Proofs.YtglndfgmlminpaaGreatDoor
