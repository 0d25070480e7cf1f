/- Texts joined by pack.py: XSyWG XSyWH XSyG XSyH XSyI -/
import Derived.Test.YtglndfgmlminpaaGreatDoorSx29
import Derived.Test.YtglndfgmlminpaaGreatDoorSx23
set_option maxHeartbeats 8000000
set_option maxRecDepth 100000
namespace Go.Proofs.YtglndfgmlminpaaGreatDoor
open Go.RowKit
theorem roots_seg {l:List Nd}:∀(ts:List Tr) (a:Nat),(∀T∈ts,T.wf=true)→Tr.flats a ts<+:l.drop a→∀k∈Tr.roots a ts,∃T∈ts,∃b i:Nat,k=((i:Nat):Int)∧Seg l T b i
 |[],a,_,_,k,hk=>by simp[Tr.roots] at hk
 |T::ts,a,hw,h,k,hk=>by
  simp only[Tr.flats] at h
  rw[prefix_app,Tr.flat_length] at h
  have hs:=seg_first (hw T (by simp)) h.1
  have hpos:=T.size_pos
  simp only[Tr.roots,List.mem_cons] at hk
  rcases hk with rfl|hk
  ·exact⟨T,by simp,a,a+T.size - 1,by omega,hs⟩
  ·obtain⟨X,hX,b,i,h1,h2⟩:=roots_seg ts (a+T.size) (fun X hX=>hw X (by simp[hX])) h.2 k hk
   exact⟨X,by simp[hX],b,i,h1,h2⟩
theorem x_nesting (l:List Nd) (hn:NsOk l):∀(f:Nat) (T:Tr) (a i:Nat),f≤8796093022208→T.ht≤f→Seg l T a i→DCalls Tryz.prog 69 [.sl true 5 (l.map ndD),int i] (int (nestF l f i:Nat))
 |0,T,a,i,_,h,_=>by cases T;simp[Tr.ht] at h
 |f+1,T,a,i,hf,h,hs=>by
  have hlen:=hn.len
  have hll:(l.map ndD).length=l.length:=List.length_map _
  have hi:i<l.length:=by
   obtain⟨n,h1,_⟩:=hs.kind
   rcases Nat.lt_or_ge i l.length with h'|h'
   ·exact h'
   ·rw[List.getElem?_eq_none h'] at h1;cases h1
  have hres:=nestF_seg (f+1) T a i h hs
  obtain⟨b,ts⟩:=T
  obtain⟨_,_,hws⟩:=wf_parts hs.wf
  have hlen2:=hs.len
  have hseg:=hs.seg
  simp only[Tr.size] at hlen2
  simp only[Tr.flat] at hseg
  rw[prefix_app,Tr.flats_length] at hseg
  have hq:l[i]=⟨b.kind,b.text,b.val,b.keys,Tr.roots a ts⟩:=by
   have:=prefix_get hseg.2 (j:=0) (by simp)
   rw[show a+Tr.sizes ts+0=i by omega,List.getElem?_eq_getElem hi] at this
   exact Option.some.inj this
  have hkid:∀k∈Tr.roots a ts,∃j:Nat,k=((j:Nat):Int)∧j<l.length∧DCalls Tryz.prog 69 [.sl true 5 (l.map ndD),int j] (int (nestF l f j:Nat))∧nestF l f j≤f:=by
   intro k hk
   obtain⟨X,hX,b',j,h1,h2⟩:=roots_seg ts a (fun X hX=>kid_wf hX hws) hseg.1 k hk
   have hht:X.ht≤f:=by have:=Tr.ht_mem hX;simp only[Tr.ht] at h;omega
   refine⟨j,h1,?_,x_nesting l hn f X b' j (by omega) hht h2,by rw[nestF_seg f X b' j hht h2];exact hht⟩
   obtain⟨n,h3,_⟩:=h2.kind
   rcases Nat.lt_or_ge j l.length with h'|h'
   ·exact h'
   ·rw[List.getElem?_eq_none h'] at h3;cases h3
  have hgi:(l.map ndD)[((i:Nat):Int).toNat]?=some (ndD l[i]):=get_map ndD hi
  have hok:=hn.nd l[i] (List.getElem_mem hi)
  have hdef:nestF l (f+1) i=l[i].kids.foldl (fun m k=>max m (nestF l f k.toNat)) 0+1:=by
   simp only[nestF,List.getElem?_eq_getElem hi]
  rw[←show l[i].kids=Tr.roots a ts by rw[hq]] at hkid
  refine sx Tryz.func69 (by kernel_rfl) ?_
  conv=>whnf
  refine⟨by omega,_,hgi,?_⟩
  generalize l[i]=q at*
  obtain⟨k0,s,v,ks,js⟩:=q
  dsimp only at*
  have hjs:=hok.kids
  have hjl:(js.map intD).length=js.length:=List.length_map _
  dsimp only at hjs
  conv=>whnf
  refine⟨[],Nat×Nat,fun⟨m,x⟩=>[(14,int m),(5,int x)],fun _=>[],fun⟨m,x⟩=>m≤js.length∧x≤f∧(js.drop m).foldl (fun m k=>max m (nestF l f k.toNat)) x=js.foldl (fun m k=>max m (nestF l f k.toNat)) 0,fun⟨m,_⟩=>js.length - m,(0,0),⟨Nat.zero_le _,Nat.zero_le _,rfl⟩,?_,?_⟩
  ·refine⟨rfl,?_,?_⟩<;>repeat' (first|exact trivial|exact rfl|refine and_rfl ?_|refine and_two ?_ ?_)
  rintro⟨m,x⟩ ⟨hm,hx,hk⟩
  conv=>whnf
  rintro(_|_) h1
  ·have h1:js.length≤m:=by simp at h1;omega
   rw[List.drop_eq_nil_of_le h1] at hk
   have hk:x=js.foldl (fun m k=>max m (nestF l f k.toNat)) 0:=hk
   rw[hdef,←hk]
   conv=>whnf
   exact fin_int (wrap_succ (by omega))
  have h1:m<js.length:=by simp at h1;omega
  obtain⟨j,hj1,hj2,hj3,hj4⟩:=hkid _ (List.getElem_mem h1)
  have hwm:IntKind.i64.wrap (((m:Nat):Int)+1)=((m+1:Nat):Int):=wrap_succ (by omega)
  rw[List.drop_eq_getElem_cons h1,List.foldl_cons,hj1,Int.toNat_natCast] at hk
  have hgj:(js.map intD)[((m:Nat):Int).toNat]?=some (intD ((j:Nat):Int)):=by rw[←hj1];exact get_map intD h1
  conv=>whnf
  refine⟨by omega,_,hgj,?_⟩
  conv=>whnf
  refine⟨_,hj3,?_⟩
  have hmx:(if((nestF l f j:Nat):Int)>((x:Nat):Int) then((nestF l f j:Nat):Int) else((x:Nat):Int))=((max x (nestF l f j):Nat):Int):=by split<;>omega
  conv=>whnf
  refine⟨(m+1,max x (nestF l f j)),⟨h1,by omega,hk⟩,by(try dsimp only);omega,?_⟩
  refine⟨rfl,?_,?_⟩<;>repeat' (first|exact trivial|exact rfl|refine and_rfl ?_|refine and_val hwm ?_|refine and_val hmx ?_|refine and_two ?_ ?_)
theorem fcs_seg {l:List Nd}:∀(Fs:List FnT) (s:Nat),(∀F∈Fs,FnTOk F)→Tr.flats s (Fs.map (·.body))<+:l.drop s→∀f∈fcs s Fs,∃T:Tr,∃b i:Nat,f.body=((i:Nat):Int)∧Seg l T b i∧T.ht≤l.length
 |[],s,_,_,f,hf=>by simp[fcs] at hf
 |F::Fs,s,hw,h,f,hf=>by
  simp only[List.map_cons,Tr.flats] at h
  rw[prefix_app,Tr.flat_length] at h
  have hwf:=(hw F (by simp)).wf
  have hs:=seg_first hwf h.1
  have hpos:=F.body.size_pos
  simp only[fcs,List.mem_cons] at hf
  rcases hf with rfl|hf
  ·refine⟨F.body,s,s+F.body.size - 1,by dsimp only;omega,hs,?_⟩
   have h1:=Tr.ht_size _ F.body (Nat.le_refl _)
   have h2:=h.1.length_le
   rw[Tr.flat_length,List.length_drop] at h2
   omega
  ·exact fcs_seg Fs (s+F.body.size) (fun X hX=>hw X (by simp[hX])) h.2 f hf
theorem x_deepest (p:Pg) (hp:PgOk p) (ho:ordB p=true):DCalls Tryz.prog 34 [p.V] (int (deepF p:Nat)):=by
 have hln:=hp.ns.len
 have hlf:=hp.fs
 obtain⟨Fs,hF,e⟩:=ord_iff.1 ho
 have hbody:∀f∈p.funcs,∃j:Nat,f.body=((j:Nat):Int)∧DCalls Tryz.prog 69 [.sl true 5 (p.nodes.map ndD),int j] (int (nestF p.nodes (p.nodes.length+1) j:Nat))∧nestF p.nodes (p.nodes.length+1) j≤p.nodes.length:=by
  intro f hf
  have hfs:p.funcs=fcs 0 Fs:=by rw[e];rfl
  have hns:p.nodes=Tr.flats 0 (Fs.map (·.body)):=by rw[e];rfl
  rw[hfs] at hf
  obtain⟨T,b,i,h1,h2,h3⟩:=fcs_seg (l:=p.nodes) Fs 0 hF (by rw[hns];exact List.prefix_refl _) f hf
  refine⟨i,h1,x_nesting p.nodes hp.ns (p.nodes.length+1) T b i (by omega) (by omega) h2,?_⟩
  rw[nestF_seg _ T b i (by omega) h2]
  exact h3
 have hdp:deepF p=p.funcs.foldl (fun m f=>max m (nestF p.nodes (p.nodes.length+1) f.body.toNat)) 0:=rfl
 obtain⟨ns,fs⟩:=p
 dsimp only at*
 refine sx Tryz.func34 (by kernel_rfl) ?_
 conv=>whnf
 refine⟨[],Nat×Nat,fun⟨m,x⟩=>[(9,int m),(3,int x)],fun _=>[],fun⟨m,x⟩=>m≤fs.length∧x≤ns.length∧(fs.drop m).foldl (fun m f=>max m (nestF ns (ns.length+1) f.body.toNat)) x=fs.foldl (fun m f=>max m (nestF ns (ns.length+1) f.body.toNat)) 0,fun⟨m,_⟩=>fs.length - m,(0,0),⟨Nat.zero_le _,Nat.zero_le _,rfl⟩,?_,?_⟩
 ·refine⟨rfl,?_,?_⟩<;>repeat' (first|exact trivial|exact rfl|refine and_rfl ?_|refine and_two ?_ ?_)
 rintro⟨m,x⟩ ⟨hm,hx,hk⟩
 conv=>whnf
 rintro(_|_) h1
 ·have h1:fs.length≤m:=by simp at h1;omega
  rw[List.drop_eq_nil_of_le h1] at hk
  have hk:x=fs.foldl (fun m f=>max m (nestF ns (ns.length+1) f.body.toNat)) 0:=hk
  rw[hdp,←hk]
  (conv=>whnf)<;>rfl
 have h1:m<fs.length:=by simp at h1;omega
 obtain⟨j,hj1,hj3,hj4⟩:=hbody _ (List.getElem_mem h1)
 have hwm:IntKind.i64.wrap (((m:Nat):Int)+1)=((m+1:Nat):Int):=wrap_succ (by omega)
 rw[List.drop_eq_getElem_cons h1,List.foldl_cons,hj1,Int.toNat_natCast] at hk
 have hgf:(fs.map fcD)[((m:Nat):Int).toNat]?=some (fcD fs[m]):=get_map fcD h1
 generalize fs[m]=q at*
 obtain⟨nm,ps,bd⟩:=q
 dsimp only at hj1
 subst hj1
 have hmx:(if((nestF ns (ns.length+1) j:Nat):Int)>((x:Nat):Int) then((nestF ns (ns.length+1) j:Nat):Int) else((x:Nat):Int))=((max x (nestF ns (ns.length+1) j):Nat):Int):=by split<;>omega
 conv=>whnf
 refine⟨by omega,_,hgf,?_⟩
 conv=>whnf
 refine⟨_,hj3,?_⟩
 conv=>whnf
 refine⟨(m+1,max x (nestF ns (ns.length+1) j)),⟨h1,by omega,hk⟩,by(try dsimp only);omega,?_⟩
 refine⟨rfl,?_,?_⟩<;>repeat' (first|exact trivial|exact rfl|refine and_rfl ?_|refine and_val hwm ?_|refine and_val hmx ?_|refine and_two ?_ ?_)
def manyB (f:Fc):Bool:=decide (8<f.params.length)
theorem x_many (f:Fc):DCalls Tryz.prog 33 [f.V] (boo (manyB f)):=by
 obtain⟨nm,ps,bd⟩:=f
 refine sx Tryz.func33 (by kernel_rfl) ?_
 conv=>whnf
 refine fin_boo ?_
 unfold manyB
 dsimp only
 rw[List.length_map,Bool.eq_iff_iff]
 simp
 try omega
theorem x_idxM (l:List Fc) (hl:l.length≤8796093022207):DCalls Tryz.prog 48 [.sl true 3 (l.map fcD),.cv (.func (.func 33) #[] #[])] (int (idxG manyB l 0)):=by
 refine sx Tryz.func48 (by kernel_rfl) ?_
 conv=>whnf
 refine⟨[],Nat,fun k=>[(8,int k)],fun _=>[],fun k=>k≤l.length∧idxG manyB (l.drop k) k=idxG manyB l 0,fun k=>l.length - k,0,⟨by simp,rfl⟩,?_,?_⟩
 ·refine⟨rfl,?_,?_⟩<;>repeat' (first|exact trivial|exact rfl|refine and_rfl ?_|refine and_two ?_ ?_)
 rintro k ⟨hk,hf⟩
 conv=>whnf
 rintro(_|_) h1
 ·simp at h1
  rw[List.drop_eq_nil_of_le (by omega)] at hf
  conv=>whnf
  exact fin_int hf
 have h1:k<l.length:=by simp at h1;omega
 rw[List.drop_eq_getElem_cons h1] at hf
 simp only[idxG] at hf
 conv=>whnf
 refine⟨by omega,_,get_map fcD h1,?_⟩
 conv=>whnf
 refine⟨_,x_many l[k],?_⟩
 conv=>whnf
 rintro(_|_) h2
 ·have h2':¬(manyB l[k]=true):=by rw[h2];simp
  rw[if_neg h2'] at hf
  conv=>whnf
  refine⟨k+1,⟨h1,hf⟩,by dsimp only;omega,?_⟩
  refine⟨rfl,?_,?_⟩<;>repeat' (first|exact trivial|exact rfl|refine and_rfl ?_|refine and_val (wrap_succ (by omega)) ?_|refine and_two ?_ ?_)
 ·rw[if_pos h2] at hf
  conv=>whnf
  exact fin_int hf
theorem x_anyM (l:List Fc) (hl:l.length≤8796093022207):DCalls Tryz.prog 32 [.sl true 3 (l.map fcD),.cv (.func (.func 33) #[] #[])] (boo (l.any manyB)):=by
 refine sx Tryz.func32 (by kernel_rfl) ?_
 conv=>whnf
 refine⟨_,x_idxM l hl,?_⟩
 conv=>whnf
 exact fin_boo (idxG_any _ l 0)
end Go.Proofs.YtglndfgmlminpaaGreatDoor
namespace Go.Proofs.YtglndfgmlminpaaGreatDoor
open Go.RowKit
theorem x_check (p:Pg) (hp:PgOk p):DCalls Tryz.prog 13 [p.V] (int (checkP p)):=by
 have hor:=x_ordered p hp
 have hdp:=x_deepest p hp
 have hmy:=x_anyM p.funcs hp.fs
 have hck:checkP p=if 600<p.nodes.length∨16<p.funcs.length then 3 else if ordB p=false then 1 else if p.funcs.any manyB=true∨32<deepF p then 3 else 0:=rfl
 rw[hck]
 obtain⟨ns,fs⟩:=p
 dsimp only at*
 have hnl:(ns.map ndD).length=ns.length:=List.length_map _
 have hfl:(fs.map fcD).length=fs.length:=List.length_map _
 refine sx Tryz.func13 (by kernel_rfl) ?_
 conv=>whnf
 rintro(_|_) h1
 rotate_left
 ·dsimp only at h1
  have h1:600<ns.length:=by simp at h1;omega
  rw[if_pos (.inl h1)]
  (conv=>whnf)<;>rfl
 dsimp only at h1
 have h1:¬600<ns.length:=by simp at h1;omega
 conv=>whnf
 rintro(_|_) h2
 rotate_left
 ·dsimp only at h2
  have h2:16<fs.length:=by simp at h2;omega
  rw[if_pos (.inr h2)]
  (conv=>whnf)<;>rfl
 dsimp only at h2
 have h2:¬16<fs.length:=by simp at h2;omega
 rw[if_neg (by simp;omega)]
 cases h3:ordB ⟨ns,fs⟩ with
 |false=>
  rw[h3] at hor
  conv=>whnf
  refine⟨_,hor,?_⟩
  conv=>whnf
  refine known true rfl ?_
  (conv=>whnf)<;>rfl
 |true=>
  rw[h3] at hor
  have hdp:=hdp h3
  rw[if_neg (by simp)]
  conv=>whnf
  refine⟨_,hor,?_⟩
  conv=>whnf
  refine known false rfl ?_
  conv=>whnf
  refine⟨_,hmy,?_⟩
  cases h4:fs.any manyB with
  |true=>
   conv=>whnf
   refine known true rfl ?_
   (conv=>whnf)<;>rfl
  |false=>
   conv=>whnf
   refine known false rfl ?_
   conv=>whnf
   refine⟨_,hdp,?_⟩
   conv=>whnf
   rintro(_|_) h5
   ·have h5:¬32<deepF ⟨ns,fs⟩:=by simp at h5;omega
    rw[if_neg (by simp;omega)]
    (conv=>whnf)<;>rfl
   ·have h5:32<deepF ⟨ns,fs⟩:=by simp at h5;omega
    rw[if_pos (.inr h5)]
    (conv=>whnf)<;>rfl
theorem check_ord {p:Pg} (h:checkP p=0):ordB p=true:=by
 unfold checkP at h
 split at h
 ·cases h
 split at h
 ·cases h
 rename_i h1
 simpa using h1
theorem x_sdepth (p:Pg) (hp:PgOk p):DCalls Tryz.prog 18 [p.V] (int (if checkP p=0 then(deepF p:Nat) else 0)):=by
 have hc:=x_check p hp
 have hdp:=fun h=>x_deepest p hp (check_ord h)
 by_cases h:checkP p=0
 ·have hdp:=hdp h
  rw[if_pos h]
  obtain⟨ns,fs⟩:=p
  refine sx Tryz.func18 (by kernel_rfl) ?_
  conv=>whnf
  refine⟨_,hc,?_⟩
  conv=>whnf
  refine known false (by simpa using h) ?_
  conv=>whnf
  refine⟨_,hdp,?_⟩
  (conv=>whnf)<;>rfl
 ·rw[if_neg h]
  obtain⟨ns,fs⟩:=p
  refine sx Tryz.func18 (by kernel_rfl) ?_
  conv=>whnf
  refine⟨_,hc,?_⟩
  conv=>whnf
  refine known true (by simpa using h) ?_
  (conv=>whnf)<;>rfl
end Go.Proofs.YtglndfgmlminpaaGreatDoor
namespace Go.Proofs.YtglndfgmlminpaaGreatDoor
open Go.RowKit
section
variable {l:List Tok} {k:Nat} {e:Int} {ns:List Nd} {fs:List Fc} {f:Nat} {E:Pars} {ks:List Bs} {js:List Int}
theorem x_kitemN2 (hk:k<l.length) (h4:l[k].kind=4) (ho:ks=[]∨Op.bytesLess (ks.getLastD []) l[k].text=true) (hcl:isSym sCl (l.drop (k+1))=false) (hl:l.length≤1000000) (hks:ks.length≤1000000):
  MPans Tryz.prog 269 [.bx 0 0,.bx 3 0] (kM l k e ns fs ks js) (faultV (offT e (l.drop (k+1)))):=by
 have hb5:nextB 5 [sCl] (l.drop (k+1))=false:=by rw[nextB_one];exact hcl
 have hb4:nextB 4 [] (l.drop k)=true:=by rw[nextB_eq _ _ hk];simp[h4]
 have hlk:(ks.map strD).length=ks.length:=List.length_map _
 refine mpsx Tryz.func269 (by kernel_rfl) (by kernel_rfl) ?_
 conv=>whnf
 refine⟨none,by kernel_rfl,?_⟩
 rcases List.eq_nil_or_concat ks with rfl|⟨kt,kl,rfl⟩
 repeat((conv=>whnf);first|refine known true rfl ?_|refine known false rfl ?_)
 rotate_left
 rw[List.concat_eq_append] at*
 have hlk:((kt++[kl]).map strD).length=kt.length+1:=by simp
 have hw:IntKind.i64.wrap ((((((kt++[kl]).map strD).length:Nat)):Int) - 1)=((kt.length:Nat):Int):=by rw[hlk,wrap_in (by simp at hks;omega)];omega
 have hget:((kt++[kl]).map strD)[((kt.length:Nat):Int).toNat]?=some (strD kl):=by simp
 conv=>whnf
 refine known true (by rw[hlk];simp) ?_
 conv=>whnf
 refine mcall (T:=TM parM) (φ:=[]) (gf:=false) (x_next 4 [] (Nat.le_of_lt hk) hl (by simp)) ?_
 rw[hb4]
 conv=>whnf
 refine known true rfl ?_
 conv=>whnf
 refine⟨by omega,_,get_map tokD hk,?_⟩
 conv=>whnf
 rw[hw]
 conv=>whnf
 refine⟨by omega,by rw[hlk];simp,?_⟩
 conv=>whnf
 refine⟨_,hget,?_⟩
 have ho:Op.bytesLess kl l[k].text=true:=by
  rcases ho with ho|ho
  ·simp at ho
  ·simpa using ho
 conv=>whnf
 refine known false (by rw[mk_toList,mk_toList,bl_not,ho];rfl) ?_
 all_goals
  conv=>whnf
  refine⟨some planK1,by kernel_rfl,?_⟩
  conv=>whnf
  refine⟨.bx 52 3,fun m2 K2 hK=>hK,?_⟩
  conv=>whnf
  refine⟨?_,?_,trivial⟩
 all_goals
  conv=>whnf
  try refine⟨?_,trivial⟩
  conv=>whnf
  refine .inl ?_
  conv=>whnf
  refine mcall (T:=TM parM) (φ:=[]) (gf:=false) (x_mustY (ts:=[]) hl (by simp) hb4 hk) ?_
  conv=>whnf
  refine⟨by rw[List.length_map];show(_+1)*16≤_;simp only[List.length_nil,List.length_append,List.length_cons] at*;omega,?_⟩
  conv=>whnf
  refine .inr ?_
  exact mpan (T:=TM parM) (x_mustN (k:=k+1) (ts:=[sCl]) hl (by simp) hb5 hk) rfl
theorem x_kitemN3 {o:Int} (hk:k<l.length) (h4:l[k].kind=4) (ho:ks=[]∨Op.bytesLess (ks.getLastD []) l[k].text=true) (hcl:isSym sCl (l.drop (k+1))=true) (hk2:k+1<l.length)
  (c:MPans Tryz.prog 139 [.bx 0 0] (pM l (k+2) e ns fs) (faultV o)) (hl:l.length≤1000000) (hks:ks.length≤1000000) (_hjs:js.length≤1000000):
  MPans Tryz.prog 269 [.bx 0 0,.bx 3 0] (kM l k e ns fs ks js) (faultV o):=by
 have hb5:nextB 5 [sCl] (l.drop (k+1))=true:=by rw[nextB_one];exact hcl
 have hb4:nextB 4 [] (l.drop k)=true:=by rw[nextB_eq _ _ hk];simp[h4]
 have hlk:(ks.map strD).length=ks.length:=List.length_map _
 refine mpsx Tryz.func269 (by kernel_rfl) (by kernel_rfl) ?_
 conv=>whnf
 refine⟨none,by kernel_rfl,?_⟩
 rcases List.eq_nil_or_concat ks with rfl|⟨kt,kl,rfl⟩
 repeat((conv=>whnf);first|refine known true rfl ?_|refine known false rfl ?_)
 rotate_left
 rw[List.concat_eq_append] at*
 have hlk:((kt++[kl]).map strD).length=kt.length+1:=by simp
 have hw:IntKind.i64.wrap ((((((kt++[kl]).map strD).length:Nat)):Int) - 1)=((kt.length:Nat):Int):=by rw[hlk,wrap_in (by simp at hks;omega)];omega
 have hget:((kt++[kl]).map strD)[((kt.length:Nat):Int).toNat]?=some (strD kl):=by simp
 conv=>whnf
 refine known true (by rw[hlk];simp) ?_
 conv=>whnf
 refine mcall (T:=TM parM) (φ:=[]) (gf:=false) (x_next 4 [] (Nat.le_of_lt hk) hl (by simp)) ?_
 rw[hb4]
 conv=>whnf
 refine known true rfl ?_
 conv=>whnf
 refine⟨by omega,_,get_map tokD hk,?_⟩
 conv=>whnf
 rw[hw]
 conv=>whnf
 refine⟨by omega,by rw[hlk];simp,?_⟩
 conv=>whnf
 refine⟨_,hget,?_⟩
 have ho:Op.bytesLess kl l[k].text=true:=by
  rcases ho with ho|ho
  ·simp at ho
  ·simpa using ho
 conv=>whnf
 refine known false (by rw[mk_toList,mk_toList,bl_not,ho];rfl) ?_
 all_goals
  conv=>whnf
  refine⟨some planK1,by kernel_rfl,?_⟩
  conv=>whnf
  refine⟨.bx 52 3,fun m2 K2 hK=>hK,?_⟩
  conv=>whnf
  refine⟨?_,?_,trivial⟩
 all_goals
  conv=>whnf
  try refine⟨?_,trivial⟩
  conv=>whnf
  refine .inl ?_
  conv=>whnf
  refine mcall (T:=TM parM) (φ:=[]) (gf:=false) (x_mustY (ts:=[]) hl (by simp) hb4 hk) ?_
  conv=>whnf
  refine⟨by rw[List.length_map];show(_+1)*16≤_;simp only[List.length_nil,List.length_append,List.length_cons] at*;omega,?_⟩
  conv=>whnf
  refine .inl ?_
  conv=>whnf
  refine mcall (T:=TM parM) (φ:=[]) (gf:=false) (x_mustY (k:=k+1) (ts:=[sCl]) hl (by simp) hb5 hk2) ?_
  conv=>whnf
  refine⟨some planK2,by kernel_rfl,?_⟩
  conv=>whnf
  refine⟨.bx 52 4,fun m2 K2 hK=>hK,?_⟩
  conv=>whnf
  refine⟨?_,?_,trivial⟩
 all_goals
  conv=>whnf
  try refine⟨?_,trivial⟩
  conv=>whnf
  refine .inr ?_
  exact mpan (T:=TM parM) c rfl
theorem x_kitemN0 (hk:k≤l.length) (hb4:nextB 4 [] (l.drop k)=false) (hl:l.length≤1000000):
  MPans Tryz.prog 269 [.bx 0 0,.bx 3 0] (kM l k e ns fs ks js) (faultV (offT e (l.drop k))):=by
 have hlk:(ks.map strD).length=ks.length:=List.length_map _
 refine mpsx Tryz.func269 (by kernel_rfl) (by kernel_rfl) ?_
 conv=>whnf
 refine⟨none,by kernel_rfl,?_⟩
 cases ks with
 |nil=>
  repeat((conv=>whnf);first|refine known true rfl ?_|refine known false rfl ?_)
  conv=>whnf
  refine⟨some planK1,by kernel_rfl,?_⟩
  conv=>whnf
  refine⟨.bx 52 3,fun m2 K2 hK=>hK,?_⟩
  conv=>whnf
  refine⟨?_,?_,trivial⟩
  all_goals
   conv=>whnf
   try refine⟨?_,trivial⟩
   conv=>whnf
   refine .inr ?_
   exact mpan (T:=TM parM) (x_mustN (ts:=[]) hl (by simp) hb4 hk) rfl
 |cons kt ks=>
  conv=>whnf
  refine known true (by rw[hlk];simp) ?_
  conv=>whnf
  refine mcall (T:=TM parM) (φ:=[]) (gf:=false) (x_next 4 [] hk hl (by simp)) ?_
  rw[hb4]
  repeat((conv=>whnf);first|refine known true rfl ?_|refine known false rfl ?_)
  conv=>whnf
  refine⟨some planK1,by kernel_rfl,?_⟩
  conv=>whnf
  refine⟨.bx 52 3,fun m2 K2 hK=>hK,?_⟩
  conv=>whnf
  refine⟨?_,?_,trivial⟩
  all_goals
   conv=>whnf
   try refine⟨?_,trivial⟩
   conv=>whnf
   refine .inr ?_
   exact mpan (T:=TM parM) (x_mustN (ts:=[]) hl (by simp) hb4 hk) rfl
theorem x_kitemN1 (hk:k<l.length) (h4:l[k].kind=4) (h0:ks≠[]) (ho:Op.bytesLess (ks.getLastD []) l[k].text=false) (hl:l.length≤1000000) (hks:ks.length≤1000000):
  MPans Tryz.prog 269 [.bx 0 0,.bx 3 0] (kM l k e ns fs ks js) (faultV (offT e (l.drop k))):=by
 have hb4:nextB 4 [] (l.drop k)=true:=by rw[nextB_eq _ _ hk];simp[h4]
 refine mpsx Tryz.func269 (by kernel_rfl) (by kernel_rfl) ?_
 conv=>whnf
 refine⟨none,by kernel_rfl,?_⟩
 rcases List.eq_nil_or_concat ks with rfl|⟨kt,kl,rfl⟩
 ·exact absurd rfl h0
 rw[List.concat_eq_append] at*
 have hlk:((kt++[kl]).map strD).length=kt.length+1:=by simp
 have hw:IntKind.i64.wrap ((((((kt++[kl]).map strD).length:Nat)):Int) - 1)=((kt.length:Nat):Int):=by rw[hlk,wrap_in (by simp at hks;omega)];omega
 have hget:((kt++[kl]).map strD)[((kt.length:Nat):Int).toNat]?=some (strD kl):=by simp
 conv=>whnf
 refine known true (by rw[hlk];simp) ?_
 conv=>whnf
 refine mcall (T:=TM parM) (φ:=[]) (gf:=false) (x_next 4 [] (Nat.le_of_lt hk) hl (by simp)) ?_
 rw[hb4]
 conv=>whnf
 refine known true rfl ?_
 conv=>whnf
 refine⟨by omega,_,get_map tokD hk,?_⟩
 conv=>whnf
 rw[hw]
 conv=>whnf
 refine⟨by omega,by rw[hlk];simp,?_⟩
 conv=>whnf
 refine⟨_,hget,?_⟩
 have ho:Op.bytesLess kl l[k].text=false:=by simpa using ho
 conv=>whnf
 refine known true (by rw[mk_toList,mk_toList,bl_not,ho];rfl) ?_
 conv=>whnf
 refine .inr ?_
 exact mpan (T:=TM parM) (x_fail hl) rfl
end
end Go.Proofs.YtglndfgmlminpaaGreatDoor
namespace Go.Proofs.YtglndfgmlminpaaGreatDoor
open Go.RowKit
section
variable {l:List Tok} {k:Nat} {e:Int} {ns:List Nd} {fs:List Fc} {f:Nat} {E:Pars}
abbrev kB0:Bk:= .box [int 7,bstr [],int 0,.cv (.slice none 0 0),.cv (.slice none 0 0)]
abbrev hM0 (l:List Tok) (k:Nat) (e:Int) (ns:List Nd) (fs:List Fc):List Bk:=[pBox l k e 1 2,nRow ns,fRow fs,kB0,.box [.bx 0 0]]
abbrev hM1 (l:List Tok) (k:Nat) (e:Int) (ns:List Nd) (fs:List Fc) (ks:List Bs) (js:List Int):List Bk:=[pBox l k e 1 2,nRow ns,fRow fs,.box [int 7,bstr [],int 0,.ow 5 0,.ow 6 0],.box [.bx 0 0],sRow true ks,iRow true js]
abbrev itemK:V:= .fn 269 0 [.bx 3 0,.bx 4 0]
theorem x_klist0 (hl:l.length≤1000000) (h:isSym sRC (l.drop k)=true):
  MCalls Tryz.prog 54 [.bx 0 0,bstr sRC,itemK] (hM0 l k e ns fs) (.tu []) (hM0 l (k+1) e ns fs):=by
 have hb:nextB 5 [sRC] (l.drop k)=true:=by rw[nextB_one];exact h
 refine mcx Tryz.func54 (by kernel_rfl) (by kernel_rfl) ?_
 conv=>whnf
 refine mcall (T:=TM parM) (φ:=[]) (gf:=false) (x_takeY hl (by simp) hb (nextB_yes hb)) ?_
 conv=>whnf
 refine known true rfl ?_
 conv=>whnf
 exact⟨rfl,rfl,rfl⟩
def keyL (e:Int) (E:Pars):Nat→List Bs→List Int→List Tok→List Nd→Except Int (List Bs×List Int×List Tok×List Nd)
 |0,_,_,r,_=> .error (offT e r)
 |f+1,ks,l,r,ns=>
  if pKind r=4∧r≠[]∧(ks=[]∨Op.bytesLess (ks.getLastD []) (pText r)=true) then
   (match mustT e 5 sCl r.tail with
   | .error o=> .error o
   | .ok r1=>match E r1 ns with
    | .error o=> .error o
    | .ok (i,r2,ns2)=>
     if isSym sRC r2 then .ok (ks++[pText r],l++[i],r2.tail,ns2)
     else if isSym sCm r2 then keyL e E f (ks++[pText r]) (l++[i]) r2.tail ns2
     else .error (offT e r2))
  else .error (offT e r)
theorem keyF_eq (e:Int) (E:Pars):∀(f:Nat) (ks:List Bs) (l:List Int) (r:List Tok) (ns:List Nd),keyF e E f ks l r ns=match keyL e E f ks l r ns with
  | .error o=> .error o
  | .ok (ks,js,r1,ns1)=>addN ⟨7,[],0,ks,js⟩ r1 ns1
 |0,ks,l,r,ns=>rfl
 |f+1,ks,l,r,ns=>by
  simp only[keyF,keyL]
  split
  ·cases mustT e 5 sCl r.tail with
   |error o=>rfl
   |ok r1=>
    dsimp only
    cases E r1 ns with
    |error o=>rfl
    |ok x=>
     obtain⟨i,r2,ns2⟩:=x
     dsimp only
     split
     ·rfl
     ·split
      ·exact keyF_eq e E f _ _ _ _
      ·rfl
  ·rfl
def outH (l:List Tok) (e:Int) (fs:List Fc):Except Int (List Bs×List Int×List Tok×List Nd)→Except Value (V×List Bk)
 | .ok (ks,js,r1,ns1)=> .ok (.tu [],hM1 l (l.length - r1.length) e ns1 fs ks js)
 | .error o=> .error (faultV o)
theorem outH_ok {ks:List Bs} {js:List Int} {k1:Nat} {ns1:List Nd} (hk:k1≤l.length):outH l e fs (.ok (ks,js,l.drop k1,ns1))= .ok (.tu [],hM1 l k1 e ns1 fs ks js):=by
 simp only[outH,List.length_drop]
 rw[show l.length - (l.length - k1)=k1 by omega]
theorem mustT_drop {K:Int} {s:Bs}:mustT e K s (l.drop k)=if isTk K s (l.drop k) then .ok (l.drop (k+1)) else .error (offT e (l.drop k)):=by
 unfold mustT
 rw[tail_drop]
theorem x_klist1 (hC:PC 139 E l e fs f) (hE:EatsP E) (hG:GrowP E) (_hA:AtP e E) (hl:l.length≤1000000) (hk:k≤l.length) (hf:l.length - k<f) (hn:ns.length+(l.length - k)≤1000000)
  (h:isSym sRC (l.drop k)=false):
  MEnds Tryz.prog 54 [.bx 0 0,bstr sRC,itemK] (hM0 l k e ns fs) (outH l e fs (keyL e E (l.length - k) [] [] (l.drop k) ns)):=by
 have hb:nextB 5 [sRC] (l.drop k)=false:=by rw[nextB_one];exact h
 generalize hR:keyL e E (l.length - k) [] [] (l.drop k) ns=R
 refine mesx Tryz.func54 (by kernel_rfl) (by kernel_rfl) ?_
 conv=>whnf
 refine .inl ?_
 conv=>whnf
 refine mcall (T:=TM parM) (φ:=[]) (gf:=false) (x_takeN hl (by simp) hb hk) ?_
 conv=>whnf
 refine known false rfl ?_
 conv=>whnf
 refine⟨[(1030003,43,9,1),(1030004,44,3,1)],Nat×List Nd×List Bs×List Int,fun _=>[],fun⟨k,ns,ks,js⟩=>[(27,some (pBox l k e 28 29)),(28,some (nRow ns)),(29,some (fRow fs)),(43,some (sRow true ks)),(44,some (iRow true js))],
  fun⟨k2,ns,ks,js⟩=>k≤k2∧k2≤l.length∧ns.length+(l.length - k2)≤1000000∧ks.length+(l.length - k2)≤1000000∧js.length+(l.length - k2)≤1000000∧∃f',l.length - k2≤f'∧keyL e E f' ks js (l.drop k2) ns=R,fun x=>l.length - x.1,(k,ns,[],[]),⟨Nat.le_refl _,hk,hn,by simp;omega,by simp;omega,_,Nat.le_refl _,hR⟩,?_,?_⟩
 ·refine⟨rfl,?_,?_⟩<;>repeat' (first|exact trivial|exact rfl|refine and_rfl ?_|refine and_two ?_ ?_)
 clear hR hn hb h
 rintro⟨k2,ns,ks,js⟩ ⟨b0,b1,b2,b3,b3',f',b4,b5⟩
 rcases Nat.lt_or_ge k2 l.length with hlt|hge
 rotate_left
 ·have hd:l.drop k2=[]:=List.drop_eq_nil_of_le hge
  have hR:R= .error (offT e (l.drop k2)):=by
   rw[←b5,hd]
   cases f' with
   |zero=>rfl
   |succ f'=>unfold keyL;rw[if_neg (by simp)]
  subst hR
  conv=>whnf
  refine .inr ?_
  exact mpan (T:=TM parM) (x_kitemN0 b1 (nextB_end _ _ hge) hl) rfl
 obtain⟨f',rfl⟩:∃g,f'=g+1:=⟨f' - 1,by omega⟩
 unfold keyL at b5
 rw[tail_drop,pText_at hlt,mustT_drop] at b5
 by_cases hc:pKind (l.drop k2)=4∧l.drop k2≠[]∧(ks=[]∨Op.bytesLess (ks.getLastD []) l[k2].text=true)
 rotate_left
 ·rw[if_neg hc] at b5
  subst b5
  conv=>whnf
  refine .inr ?_
  by_cases h4:l[k2].kind=4
  ·have hne:l.drop k2≠[]:=List.ne_nil_of_length_pos (by rw[List.length_drop];omega)
   have hpk:pKind (l.drop k2)=4:=by rw[List.drop_eq_getElem_cons hlt];exact h4
   have ho:¬(ks=[]∨Op.bytesLess (ks.getLastD []) l[k2].text=true):=fun h=>hc ⟨hpk,hne,h⟩
   rw[not_or] at ho
   exact mpan (T:=TM parM) (x_kitemN1 (ks:=ks) (js:=js) hlt h4 ho.1 (by simpa using ho.2) hl (by omega)) rfl
  ·exact mpan (T:=TM parM) (x_kitemN0 b1 (by rw[nextB_eq _ _ hlt];simp[h4]) hl) rfl
 rw[if_pos hc] at b5
 obtain⟨c1,_,c3⟩:=hc
 have h4:l[k2].kind=4:=by rw[List.drop_eq_getElem_cons hlt] at c1;exact c1
 cases hcl:isTk 5 sCl (l.drop (k2+1)) with
 |false=>
  rw[hcl] at b5
  simp only[Bool.false_eq_true,if_false] at b5
  subst b5
  conv=>whnf
  refine .inr ?_
  exact mpan (T:=TM parM) (x_kitemN2 (ks:=ks) (js:=js) hlt h4 c3 hcl hl (by omega)) rfl
 |true=>
  rw[hcl] at b5
  simp only[if_true] at b5
  have hk2:k2+1<l.length:=by
   rcases Nat.lt_or_ge (k2+1) l.length with h1|h1
   ·exact h1
   ·rw[isTk_end _ _ h1] at hcl;cases hcl
  cases h1:E (l.drop (k2+2)) ns with
  |error o=>
   rw[show k2+1+1=k2+2 from rfl,h1] at b5
   subst b5
   conv=>whnf
   refine .inr ?_
   exact mpan (T:=TM parM) (x_kitemN3 (ks:=ks) (js:=js) hlt h4 c3 hcl hk2 (hC.err (by omega) (by omega) (by omega) h1) hl (by omega) (by omega)) rfl
  |ok r=>
   obtain⟨i,r1,ns3⟩:=r
   rw[show k2+1+1=k2+2 from rfl,h1] at b5
   obtain⟨k3,rfl,d1,d2,d3,d4⟩:=hC.ok hE hG (by omega) (by omega) (by omega) h1
   conv=>whnf
   refine .inl ?_
   conv=>whnf
   refine mcallR2 (T:=TM parM) (φ:=[]) (gf:=false) 43 44 (x_kitemY (ks:=ks) (js:=js) hlt h4 c3 hcl hk2 d4 hl (by omega) (by omega)) (flatS _) (flatI _) ?_
   cases hb:nextB 5 [sCm,sRC] (l.drop k3) with
   |false=>
    have hR:R= .error (offT e (l.drop k3)):=by
     rw[nextB_two,Bool.or_eq_false_iff] at hb
     rw[←b5]
     dsimp only
     rw[if_neg (by rw[show isSym sRC (l.drop k3)=false from hb.2];simp),if_neg (by rw[show isSym sCm (l.drop k3)=false from hb.1];simp)]
    subst hR
    conv=>whnf
    refine .inr ?_
    exact mpan (T:=TM parM) (x_mustN hl (by simp) hb d2) rfl
   |true=>
    have hk3:=nextB_yes hb
    conv=>whnf
    refine .inl ?_
    conv=>whnf
    refine mcall (T:=TM parM) (φ:=[]) (gf:=false) (x_mustY hl (by simp) hb hk3) ?_
    have hkd:l[k3].kind=5:=by
     rw[nextB_eq _ _ hk3] at hb
     simp at hb
     exact hb.1
    conv=>whnf
    rintro(_|_) h3
    ·have h3:(l[k3].text==sRC)=false:=(sEq_mk _ _).symm.trans h3
     have h4:isSym sCm (l.drop k3)=true:=by
      have h5:isTk 5 sRC (l.drop k3)=false:=by rw[isTk_drop _ _ hk3,h3,Bool.and_false]
      rw[nextB_two,h5,Bool.or_false] at hb
      exact hb
     dsimp only at b5
     rw[if_neg (by rw[show isSym sRC (l.drop k3)=false by rw[isSym,isTk_drop _ _ hk3,h3,Bool.and_false]];simp),if_pos h4,tail_drop] at b5
     conv=>whnf
     refine⟨(k3+1,ns3,ks++[l[k2].text],js++[i]),⟨by omega,by omega,by omega,by rw[List.length_append];simp;omega,by rw[List.length_append];simp;omega,f',by omega,b5⟩,by dsimp only;omega,?_⟩
     refine⟨rfl,?_,?_⟩<;>repeat' (first|exact trivial|exact rfl|refine and_rfl ?_|refine and_two ?_ ?_)
    ·have h3:(l[k3].text==sRC)=true:=(sEq_mk _ _).symm.trans h3
     dsimp only at b5
     rw[if_pos (show isSym sRC (l.drop k3)=true by rw[isSym,isTk_drop _ _ hk3,h3,hkd];rfl),tail_drop] at b5
     conv=>whnf
     exact⟨_,by rw[←b5,outH_ok (by omega)],rfl,rfl,rfl⟩
theorem keyP_keyL (r:List Tok) (ns:List Nd) (h:isSym sRC r=false):keyP e E r ns=match keyL e E r.length [] [] r ns with
  | .error o=> .error o
  | .ok (ks,js,r1,ns1)=>addN ⟨7,[],0,ks,js⟩ r1 ns1:=by
 unfold keyP
 rw[if_neg (by rw[h];simp),keyF_eq]
theorem keyL_grow (hE:EatsP E) (hG:GrowP E):∀(f:Nat) {ks:List Bs} {js:List Int} {r:List Tok} {ns:List Nd} {ks1:List Bs} {js1:List Int} {r1:List Tok} {ns1:List Nd},keyL e E f ks js r ns= .ok (ks1,js1,r1,ns1)→ns1.length+r1.length≤ns.length+r.length∧r1<:+r
 |0,ks,js,r,ns,ks1,js1,r1,ns1,h=>by cases h
 |f+1,ks,js,r,ns,ks1,js1,r1,ns1,h=>by
  simp only[keyL] at h
  split at h
  rotate_left
  ·cases h
  rename_i hc
  split at h
  ·cases h
  rename_i r2 h2
  have e2:=mustT_eats h2
  split at h
  ·cases h
  rename_i i r3 ns3 h3
  have e3:=hE h3
  have g3:=hG h3
  have l1:r.tail.length≤r.length:=by simp
  have l2:=e2.lt
  have s3:r3<:+r:=e3.suf.trans (e2.suf.trans (List.tail_suffix r))
  have l3:r3.tail.length≤r3.length:=by simp
  split at h
  ·cases h
   exact⟨by omega,(List.tail_suffix _).trans s3⟩
  ·split at h
   ·obtain⟨h5,h6⟩:=keyL_grow hE hG f h
    exact⟨by omega,h6.trans ((List.tail_suffix _).trans s3)⟩
   ·cases h
theorem x_keyed (hC:PC 139 E l e fs f) (hE:EatsP E) (hG:GrowP E) (hA:AtP e E) (hl:l.length≤1000000) (hk:k≤l.length) (hf:l.length - k<f) (hn:ns.length+(l.length - k)≤1000000):
  MEnds Tryz.prog 265 [.bx 0 0] (pM l k e ns fs) (outP l e fs (keyP e E (l.drop k) ns)):=by
 refine mesx Tryz.func265 (by kernel_rfl) (by kernel_rfl) ?_
 cases h:isSym sRC (l.drop k) with
 |true=>
  have hk1:k<l.length:=by
   rcases Nat.lt_or_ge k l.length with h1|h1
   ·exact h1
   ·rw[isSym,isTk_end _ _ h1] at h;cases h
  have hR:keyP e E (l.drop k) ns= .ok ((ns.length:Int),l.drop (k+1),ns++[⟨7,[],0,[],[]⟩]):=by unfold keyP;rw[if_pos h,tail_drop];rfl
  conv=>whnf
  refine .inl ?_
  conv=>whnf
  refine mcall (T:=TM parM) (φ:=[]) (gf:=false) (x_klist0 hl h) ?_
  conv=>whnf
  refine .inl ?_
  conv=>whnf
  refine mcall (T:=TM parM) (φ:=[]) (gf:=false) (x_add (ns:=ns) ⟨7,[],0,[],[]⟩ (show ns.length≤1000000 by omega)) ?_
  conv=>whnf
  exact⟨_,by rw[hR,outP_ok (by omega)],rfl,rfl,rfl⟩
 |false=>
  have c:=x_klist1 hC hE hG hA hl hk hf hn h
  have hR:=keyP_keyL (e:=e) (E:=E) (l.drop k) ns h
  rw[List.length_drop] at hR
  generalize hL:keyL e E (l.length - k) [] [] (l.drop k) ns=R at c hR
  cases R with
  |error o=>
   rw[hR]
   conv=>whnf
   refine .inr ?_
   exact mpan (T:=TM parM) c rfl
  |ok r=>
   obtain⟨ks,js,r1,ns1⟩:=r
   obtain⟨g1,g2⟩:=keyL_grow hE hG _ hL
   rw[List.length_drop] at g1
   rw[hR]
   conv=>whnf
   refine .inl ?_
   conv=>whnf
   refine mcall (T:=TM parM) (φ:=[27,28]) (gf:=false) c ?_
   conv=>whnf
   refine .inl ?_
   conv=>whnf
   refine mcall (T:=TM parM) (φ:=[]) (gf:=false) (x_add (ns:=ns1) ⟨7,[],0,ks,js⟩ (show ns1.length≤1000000 by omega)) ?_
   conv=>whnf
   exact⟨_,rfl,rfl,rfl,rfl⟩
end
end Go.Proofs.YtglndfgmlminpaaGreatDoor
namespace Go.Proofs.YtglndfgmlminpaaGreatDoor
open Go.RowKit
def pVal:List Tok→Int
 |t::_=>t.val
 |[]=>0
def lstN (e:Int) (fin:Bs) (E:Pars) (K:Int) (s:Bs) (r:List Tok) (ns:List Nd):PRes Int:=match listP e fin E r ns with
 | .error o=> .error o
 | .ok (l,r2,ns2)=>addN (ndM K s 0 l) r2 ns2
def primQ (e:Int) (E:Pars) (r:List Tok) (ns:List Nd):PRes Int:=
 if nextB 3 [] r then addN (ndM 3 [] (pVal r) []) r.tail ns
 else if nextB 4 [] r then addN (ndM 4 (pText r) 0 []) r.tail ns
 else if nextB 2 [wNull,wTrue,wFalse] r then
  (if pText r==wNull then addN (ndM 1 [] 0 []) r.tail ns
  else if pText r==wTrue then addN (ndM 2 [] 1 []) r.tail ns
  else addN (ndM 2 [] 0 []) r.tail ns)
 else if nextB 1 [] r then
  (if nextB 5 [sLP] r.tail then lstN e sRP E 11 (pText r) r.tail.tail ns
  else addN (ndM 5 (pText r) 0 []) r.tail ns)
 else if nextB 6 [] r then
  (if nextB 5 [sLP] r.tail then lstN e sRP E 12 (pText r) r.tail.tail ns
  else .error (offT e r.tail))
 else if nextB 5 [sLB,sLC,sLP] r then
  (if pText r==sLB then lstN e sRB E 6 [] r.tail ns
  else if pText r==sLC then keyP e E r.tail ns
  else match E r.tail ns with
   | .error o=> .error o
   | .ok (i,r2,ns2)=>if nextB 5 [sRP] r2 then .ok (i,r2.tail,ns2) else .error (offT e r2))
 else .error (offT e r)
theorem primP_eq (e:Int) (E:Pars) (r:List Tok) (ns:List Nd):primP e E r ns=primQ e E r ns:=by
 cases r with
 |nil=>rfl
 |cons t r1=>
  have n0:∀K,nextB K [] (t::r1)=decide (t.kind=K):=fun K=>by simp[nextB]
  have ns_:∀K (ts:List Bs),ts≠[]→nextB K ts (t::r1)=(decide (t.kind=K)&&ts.contains t.text):=fun K ts h=>by
   cases ts with
   |nil=>exact absurd rfl h
   |cons a ts=>rfl
  have w0:∀K s,isTk K s (t::r1)=(decide (t.kind=K)&&(t.text==s)):=fun K s=>rfl
  simp only[primP,primQ,n0,ns_ 2 [wNull,wTrue,wFalse] (by simp),ns_ 5 [sLB,sLC,sLP] (by simp),isWrd,isSym,w0,List.tail_cons,pText,pVal,lstN,nextB_one]
  by_cases h3:t.kind=3
  ·simp[h3]
  by_cases h4:t.kind=4
  ·simp[h4]
  by_cases h2:t.kind=2
  ·by_cases a1:t.text=wNull
   ·simp[h2,a1]
   by_cases a2:t.text=wTrue
   ·simp[h2,a2,show¬(wTrue=wNull) by decide]
   by_cases a3:t.text=wFalse
   ·simp[h2,a3,show¬(wFalse=wNull) by decide,show¬(wFalse=wTrue) by decide]
   ·simp[h2,a1,a2,a3,offT]
  by_cases h1:t.kind=1
  ·simp[h1]
   try rfl
  by_cases h6:t.kind=6
  ·by_cases hx:isTk 5 sLP r1=true
   ·simp[h6,hx,mustT]
    try rfl
   ·simp[h6,hx,mustT]
  by_cases h5:t.kind=5
  ·by_cases a1:t.text=sLB
   ·simp[h5,a1]
    try rfl
   by_cases a2:t.text=sLC
   ·simp[h5,a2,show¬(sLC=sLB) by decide]
   by_cases a3:t.text=sLP
   ·simp only[h5,a3]
    simp[show¬(sLP=sLB) by decide,show¬(sLP=sLC) by decide]
    cases E r1 ns with
    |error o=>rfl
    |ok x=>
     obtain⟨i,r2,ns2⟩:=x
     by_cases hx:isTk 5 sRP r2=true
     ·simp[hx,mustT]
     ·simp[hx,mustT]
   ·simp[h5,a1,a2,a3,offT]
  ·simp[h1,h2,h3,h4,h5,h6,offT]
end Go.Proofs.YtglndfgmlminpaaGreatDoor
