/- Texts joined by pack.py: XSxC0 XSxC1 XSxMk XSxFl XStF XBuA XSxCf XSxCn XSxIn -/
import Derived.Test.YtjmabkpcahmnpaaGreatDoorRz13
import Derived.Laws.IdiomStrings
import Derived.Laws.BytesArg
import Derived.Laws.Runes
import Derived.Laws.MakeOwn
import Derived.Laws.CopyRow
import Derived.Test.YtjmabkpcahmnpaaGreatDoorRz12
import Derived.Test.YtjmabkpcahmnpaaGreatDoorRz21
import Derived.Test.YtjmabkpcahmnpaaGreatDoorRz15
set_option maxHeartbeats 16000000
set_option maxRecDepth 100000
namespace Go.Proofs.YtjmabkpcahmnpaaGreatDoor
open Go.RowKit
def byteD (b:UInt8):List D:=[.cv (.int .u8 (b.toNat:Nat))]
section
variable {P:Program} {o:Oper} {E:Operand→V} {m:List (Option Bk)} {s d:TypeId} {x:Operand}
theorem ot_rune {k:IntKind} {n:Int} (ho:o.op= .convert s d x) (hx:E x= .cv (.int k n)) (hs:(P.underlying s).isSome=true) (hd:P.underlying d=some .string):OpTr P o E m (.cv (.string (Utf8.encode n))) m:=by
 intro B w0 N S t a w hsat hr
 have h:=hr x (by rw[ho];simp[Op.operands])
 rw[hx] at h
 generalize hu:a.eval x=u at h
 cases h
 refine opOk_val (u:= .string (Utf8.encode n)) (w':=w) ?_ ⟨N,S,hsat,.cv _⟩
 unfold execOp
 simp only[ho]
 refine run_v ?_
 rw[hu]
 exact run_convert_int_string w s d k n hs hd
theorem ot_string {n k et:Nat} {f:Bool} {l:List UInt8} {e:TypeId} (ho:o.op= .convert s d x) (hx:E x= .ow n k) (hm:m[n]?=some (some (.row k et 1 f (l.map byteD))))
  (hs:P.underlying s=some (.slice e)) (he:P.underlying e=some (.int .u8)) (hd:P.underlying d=some .string):OpTr P o E m (.cv (.string ⟨l.toArray⟩)) m:=by
 intro B w0 N S t a w hsat hr
 have h:=hr x (by rw[ho];simp[Op.operands])
 rw[hx] at h
 generalize hu:a.eval x=u at h
 cases h
 rename_i hu1 hn
 obtain⟨k',v,hn,hk,hv⟩:=hn
 obtain⟨rfl,h1,h2,h3⟩:=row_cells hsat hm hn
 obtain rfl:=hv rfl
 refine opOk_val (u:= .string ⟨l.toArray⟩) (w':=w) ?_ ⟨N,S,hsat,.cv _⟩
 unfold execOp
 simp only[ho]
 refine run_v ?_
 rw[hu]
 rcases h3 with⟨rfl,h3⟩|⟨g,cap,us,rfl,h4,h5,h6,h7,h8⟩
 ·have:l=[]:=by simpa using h3
  subst this
  exact run_convert_bytes_nil w s e hs he 0 0 d hd
 ·rw[List.length_map]
  refine run_convert_bytes_back w s d e ⟨g,0,none⟩ cap l hs he hd fun j hj=>?_
  obtain⟨h9,h10⟩:=h8 j 0 (.cv (.int .u8 (l[j].toNat:Nat))) (by simp[hj,byteD])
  rw[add_mk]
  have e1:us.getD (j*1+0) undef= .int .u8 (l[j].toNat:Nat):=by
   generalize us.getD (j*1+0) undef=z at h10
   cases h10;rfl
  rw[show 0+j=j*1+0 by omega]
  unfold World.cell?
  simp only[h4]
  rw[←e1]
  have h9':j<us.size:=by omega
  simp[Array.getD_eq_getD_getElem?,Array.getElem?_eq_getElem h9']
end
end Go.Proofs.YtjmabkpcahmnpaaGreatDoor
namespace Go.Proofs.YtjmabkpcahmnpaaGreatDoor
open Go.RowKit
section
variable {P:Program} {o:Oper} {E:Operand→V} {m:List (Option Bk)} {s d:TypeId} {x:Operand}
theorem byte_get {l:List UInt8} {i j:Nat} {d:D} (h:((l.map byteD)[i]?.bind fun x=>x[j]?)=some d):j=0∧∃b,l[i]?=some b∧d= .cv (.int .u8 (b.toNat:Nat)):=by
 rw[List.getElem?_map] at h
 cases hi:l[i]? with
 |none=>rw[hi] at h;cases h
 |some b=>
  rw[hi] at h
  cases j with
  |zero=>simp[byteD] at h;exact⟨rfl,b,rfl,h.symm⟩
  |succ j=>simp[byteD] at h
theorem Sat.bytes {B:Fr} {w0:World} {N:Names} {S:Sets} {t:List V} {a:Act} {w:World} (hs:Sat B w0 N S t m a w) {n k e g cap:Nat} {l l':List UInt8} {us':Array Value} {w':World}
  (hm:m[n]?=some (some (.row k e 1 true (l.map byteD)))) (hn:N n=some (k,.slice (some ⟨g,0,none⟩) l.length cap)) (hle:l.length≤cap) (hmax:cap≤maxLen) (hus:us'.size=cap)
  (hupd:Upd w w' g us' e) (hlen:l'.length=l.length) (hval:∀(j:Nat) (b:UInt8),l'[j]?=some b→us'[j]?=some (Value.int .u8 (b.toNat:Nat))):
  ∃N',Sat B w0 N' S t (m.set n (some (.row k e 1 true (l'.map byteD)))) a w':=by
 obtain⟨hB,hg⟩:=hs.own n _ _ g hn rfl
 have hfr:=row_new hs hm hn
 obtain⟨N',e1,e2,e3⟩:=hs.set (w':=w') (d:=n) (k:=k) (v:= .slice (some ⟨g,0,none⟩) l.length cap) (b:= .row k e 1 true (l'.map byteD)) (lt_of_get hm)
  (fun k0 v0 h=>by rw[hn] at h;cases h;exact .inl ⟨rfl,rfl⟩)
  (hupd.low hs.low hB) (by rw[hupd.size];exact Nat.le_refl _) (fun g' _ hk=>hupd.other g' fun e=>hk _ _ hn (by rw[e];rfl))
  (fun g' hg'=>by cases hg';exact⟨by rw[hupd.size];exact hg,.inr ⟨_,_,hn,rfl⟩⟩)
  (fun N' e1 e2 e3=>by
   refine⟨_,us'.toList.take l.length,e1,⟨?_,.inr ⟨g,cap,us',?_,Nat.zero_le _,hupd.new,?_,hmax,by rw[hus,Nat.mul_one],?_⟩⟩,?_,by omega,?_,fun _=>hfr⟩
   ·rw[List.length_take,List.length_map,hlen];simp[hus];omega
   ·rw[List.length_map,hlen]
   ·rw[List.length_map,hlen];exact hle
   ·rw[List.length_map,hlen,Nat.mul_one]
   ·intro x hx;obtain⟨b,_,rfl⟩:=List.mem_map.1 hx;rfl
   ·intro i j d hd
    obtain⟨rfl,b,hb,rfl⟩:=byte_get hd
    have hi:=lt_of_get hb
    refine⟨_,?_,.cv _ rfl⟩
    rw[show i*1+0=i by omega,List.getElem?_take,if_pos (by omega)]
    simpa using hval i b hb)
 exact⟨N',e3⟩
end
end Go.Proofs.YtjmabkpcahmnpaaGreatDoor
namespace Go.Proofs.YtjmabkpcahmnpaaGreatDoor
open Go.RowKit
theorem rep_get {n i j:Nat} {z:Value} {d:D} (h:((List.replicate n [D.cv z])[i]?.bind fun x=>x[j]?)=some d):j=0∧i<n∧d= .cv z:=by
 rw[List.getElem?_replicate] at h
 split at h
 ·rename_i hlt
  cases j with
  |zero=>simp at h;exact⟨rfl,hlt,h.symm⟩
  |succ j=>simp at h
 ·cases h
theorem ot_makeZ {P:Program} {o:Oper} {E:Operand→V} {m:List (Option Bk)} {ty e n dst:Nat} {i:TypeInfo} {l c:Operand} {z:Value} (ho:o.op= .makeSlice ty l c) (hl:E l= .cv (.int .i64 (n:Nat))) (hc:E c= .cv (.int .i64 (n:Nat))) (hd:o.dst=some dst) (hm:m[dst]?=some none)
  (ht:P.underlying ty=some (.slice e)) (hi:P.info? e=some i) (hz:i.zero=some z) (hzc:z.cells= #[z]) (hz1:z.oneCell'=true) (hsz:i.size=1) (hb:i.bytes*n≤281474976710656) (hn:n≤281474976710656):
  OpTr P o E m (.ow dst 0) (m.set dst (some (.row 0 e 1 true (List.replicate n [.cv z])))):=by
 intro B w0 N S t a w hs hr
 have h1:=hr l (by rw[ho];simp[Op.operands])
 have h2:=hr c (by rw[ho];simp[Op.operands])
 rw[hl] at h1;rw[hc] at h2
 generalize hu1:a.eval l=u1 at h1
 generalize hu2:a.eval c=u2 at h2
 cases h1;cases h2
 have hb':(i.bytes:Int)*(n:Int)≤281474976710656:=by
  have:((i.bytes:Int)*(n:Int))=((i.bytes*n:Nat):Int):=by simp
  omega
 have hrun:=run_make (P:=P) w ty e i z ht hi hz .i64 .i64 n n (by omega) (by omega) hb' (by omega)
 rw[hsz,Nat.mul_one] at hrun
 have hlen:(List.replicate n [D.cv z]).length=n:=by simp
 have hpost:=newK_row hs (dst:=o.dst) (f:=true) (xs:=List.replicate n [D.cv z]) (us:=madeCells z.cells n) (ty:=e) (sz:=1) (cap:=n) (w1:=w) (.inl rfl) (by omega)
  (fun x hx=>by rw[List.eq_of_mem_replicate hx];rfl) (by rw[size_madeCells];omega) (by omega) (by simp only[maxLen];omega)
  (fun i' j d' hd'=>by
   obtain⟨rfl,hlt,rfl⟩:=rep_get hd'
   refine⟨z,?_,.cv _ hz1⟩
   rw[hzc]
   simp[madeCells,hlt]
   rw[Nat.mod_one];rfl)
  (K:=fun v m'=>v= .ow dst 0∧m'=m.set dst (some (.row 0 e 1 true (List.replicate n [.cv z])))) (by
   unfold newK
   rw[hd]
   simp[hm,setK_eq])
 refine opOk_val (u:= .slice (some ⟨w.heap.size,0,none⟩) n n) (w':=w.alloc (.cells (madeCells z.cells n) e)) ?_ ?_
 ·unfold execOp
  simp only[ho]
  refine run_v ?_
  rw[hu1,hu2]
  simpa using hrun
 ·rw[hlen] at hpost
  obtain⟨N',S',v,m',h3,h4,rfl,rfl⟩:=hpost
  exact⟨N',S',h3,h4⟩
end Go.Proofs.YtjmabkpcahmnpaaGreatDoor
namespace Go.Proofs.YtjmabkpcahmnpaaGreatDoor
open Go.RowKit
section
variable {P:Program} {T:Tab}
theorem op_own {o:Oper} {E:Operand→V} {m m':List (Option Bk)} {v:V} {n k k2 E1 sz1 E2 sz2:Nat} {xs1 xs2:List (List D)} (h:OpTr P o E m v m') (hm:m[n]?=some (some (.row k E1 sz1 true xs1)))
  (hm':m'[n]?=some (some (.row k2 E2 sz2 false xs2))) (hf:Flat xs2):OpTr P o E m v (m'.set n (some (.row k2 E2 sz2 true xs2))):=by
 intro B w0 N S t a w hs hx
 obtain⟨v0,us,e1,e2,e3,e4,e5,e6⟩:=hs.blk n _ hm
 let B':Fr:={B with stay:=fun j=>if j=n then some (At v0) else B.stay j,free:=true}
 have hs':Sat B' w0 N S t m a w:=⟨hs.low,hs.nodef,hs.tmps,hs.blk,hs.non,hs.apart,hs.data,hs.fresh,hs.own,hs.base,hs.old,hs.lent,⟨hs.more.size,hs.more.ghost,hs.more.aside,hs.more.inv⟩,fun j og hj=>by
  refine⟨.inl rfl,?_⟩
  simp only[B'] at hj
  split at hj
  ·rename_i hjn;subst hjn;cases hj;exact⟨_,v0,e1,.inr fun g hg=> .inl hg⟩
  ·exact(hs.stay j og hj).2⟩
 intro Q
 refine Oper.wp_mono' (h B' w0 N S t a w hs' hx Q) ?_
 rintro a' w' ⟨u,he,N',S',h2,hr⟩
 refine⟨u,he,N',S',?_,hr⟩
 obtain⟨v2,us2,f1,f2,f3,f4,f5,f6⟩:=h2.blk n _ hm'
 have hnew:∀g,At v2 g→w0.heap.size≤g:=by
  obtain⟨_,x,v3,g1,g2⟩:=h2.stay n (At v0) (by simp[B'])
  rw[f1] at g1;cases g1
  intro g hg
  rcases g2 with⟨us,g2⟩|g2
  ·obtain⟨A,c,h⟩:=own_parts f2
   rw[h] at g2;cases g2
  rcases g2 g hg with g3|g3
  ·exact e6 rfl g g3
  ·exact g3
 have hlt:=lt_of_get hm'
 refine⟨h2.low,h2.nodef,h2.tmps,fun j b hb=>?_,fun j hj=>?_,h2.apart,h2.data,h2.fresh,h2.own,h2.base,h2.old,h2.lent,⟨h2.more.size,h2.more.ghost,h2.more.aside,h2.more.inv⟩,fun j og hj=>?_⟩
 ·by_cases hjn:j=n
  ·subst hjn
   rw[List.getElem?_set_self hlt] at hb
   cases hb
   refine⟨v2,us2,f1,f2,f3,f4,fun i q d hd=>?_,fun _ g hg=>hnew g hg⟩
   obtain⟨u,hu,hrel⟩:=f5 i q d hd
   refine⟨u,hu,?_⟩
   obtain⟨x,hx1,hx2⟩:=Option.bind_eq_some_iff.1 hd
   obtain⟨c,rfl⟩:=hf x (List.mem_of_getElem? hx1) d (List.mem_of_getElem? hx2)
   cases hrel
   exact .cv _ (by assumption)
  ·rw[List.getElem?_set_ne (Ne.symm hjn)] at hb
   exact h2.blk j b hb
 ·by_cases hjn:j=n
  ·subst hjn
   exact absurd (List.getElem?_set_self hlt) (hj _)
  ·exact h2.non j fun b hb=>hj b (by rw[List.getElem?_set_ne (Ne.symm hjn)];exact hb)
 ·refine⟨(hs.stay j og hj).1,?_⟩
  by_cases hjn:j=n
  ·subst hjn
   exact⟨_,v2,f1,.inr fun g hg=> .inr (hnew g hg)⟩
  ·exact(h2.stay j og (by simp only[B'];rw[if_neg hjn];exact hj)).2
theorem mcallR {st:Bool} {o:Oper} {E:Operand→V} {c:Call} {f:FuncId} {pre post av:List V} {m m1:List (Option Bk)} {ρ φ:List Nat} {gf:Bool} {m0 m2:List Bk} {args0:List V} {res:V} {K:V→List (Option Bk)→Prop} {k k2 E1 sz1 E2 sz2:Nat} {xs1 xs2:List (List D)} (n:Nat) (hM:MCallsG st P f args0 m0 res m2) (hf:Flat xs2)
  (hK:(res.co3 st (ρ++φ) m1 gf).k fun v=>forceM ((putM (fun n b=>b.co st (ρ++φ) m1 gf n) (ρ++φ) m2 m1).set n (some (.row k2 E2 sz2 true xs2))) fun m'=>K v m')
  (ln:Bool:=false) (ho:o.op= .call c:=by exact rfl) (hc:calleeV E c=some (f,pre,post):=by exact rfl) (hz:frzB ln m (pre++zA T E c.args.toList c.argTypes.toList++post)=some (av,m1):=by exact rfl)
  (_hr:(reach m1 64 (av.flatMap V.nm3) []).reverse=ρ:=by exact rfl) (hg:(av.all V.fl&&flM m1 ρ)=gf:=by exact rfl) (hab:abM ρ m1 ρ=some m0:=by exact rfl) (ha0:av.map (V.ab ρ m1)=args0:=by exact rfl)
  (hchk:(distinctB (ρ++φ)&&(freeB m1 φ&&(kindB m1 ρ m2&&Nat.beq (ρ.length+φ.length) m2.length)))=true:=by exact rfl)
  (hm:m[n]?=some (some (.row k E1 sz1 true xs1)):=by exact rfl) (hm':(putM (fun n b=>b.co st (ρ++φ) m1 gf n) (ρ++φ) m2 m1)[n]?=some (some (.row k2 E2 sz2 false xs2)):=by exact rfl):
  ∃v m',OpTr P o E m v m'∧v.k fun v=>forceM m' fun m'=>K v m':=
 ⟨_,_,op_own (op_mcall (T:=T) ho hc hz hg hab ha0 hM hchk) hm hm' hf,hK⟩
theorem mcallR2 {st:Bool} {o:Oper} {E:Operand→V} {c:Call} {f:FuncId} {pre post av:List V} {m m1:List (Option Bk)} {ρ φ:List Nat} {gf:Bool} {m0 m2:List Bk} {args0:List V} {res:V} {K:V→List (Option Bk)→Prop} {k k2 E1 sz1 E2 sz2 j j2 F1 rz1 F2 rz2:Nat} {xs1 xs2 ys1 ys2:List (List D)} (n p:Nat) (hM:MCallsG st P f args0 m0 res m2) (hf:Flat xs2) (hf2:Flat ys2)
  (hK:(res.co3 st (ρ++φ) m1 gf).k fun v=>forceM (((putM (fun n b=>b.co st (ρ++φ) m1 gf n) (ρ++φ) m2 m1).set n (some (.row k2 E2 sz2 true xs2))).set p (some (.row j2 F2 rz2 true ys2))) fun m'=>K v m')
  (ln:Bool:=false) (ho:o.op= .call c:=by exact rfl) (hc:calleeV E c=some (f,pre,post):=by exact rfl) (hz:frzB ln m (pre++zA T E c.args.toList c.argTypes.toList++post)=some (av,m1):=by exact rfl)
  (_hr:(reach m1 64 (av.flatMap V.nm3) []).reverse=ρ:=by exact rfl) (hg:(av.all V.fl&&flM m1 ρ)=gf:=by exact rfl) (hab:abM ρ m1 ρ=some m0:=by exact rfl) (ha0:av.map (V.ab ρ m1)=args0:=by exact rfl)
  (hchk:(distinctB (ρ++φ)&&(freeB m1 φ&&(kindB m1 ρ m2&&Nat.beq (ρ.length+φ.length) m2.length)))=true:=by exact rfl)
  (hm:m[n]?=some (some (.row k E1 sz1 true xs1)):=by exact rfl) (hm':(putM (fun n b=>b.co st (ρ++φ) m1 gf n) (ρ++φ) m2 m1)[n]?=some (some (.row k2 E2 sz2 false xs2)):=by exact rfl)
  (hq:m[p]?=some (some (.row j F1 rz1 true ys1)):=by exact rfl) (hq':((putM (fun n b=>b.co st (ρ++φ) m1 gf n) (ρ++φ) m2 m1).set n (some (.row k2 E2 sz2 true xs2)))[p]?=some (some (.row j2 F2 rz2 false ys2)):=by exact rfl):
  ∃v m',OpTr P o E m v m'∧v.k fun v=>forceM m' fun m'=>K v m':=
 ⟨_,_,op_own (op_own (op_mcall (T:=T) ho hc hz hg hab ha0 hM hchk) hm hm' hf) hq hq' hf2,hK⟩
end
end Go.Proofs.YtjmabkpcahmnpaaGreatDoor
namespace Go.Proofs.YtjmabkpcahmnpaaGreatDoor
open Go.RowKit
theorem flatIS (ks:List Int):Flat (ks.map intD):=by
 intro x hx d hd
 obtain⟨n,_,rfl⟩:=List.mem_map.1 hx
 simp[intD] at hd
 exact⟨_,hd⟩
theorem rep_int (n:Nat) (v:Int):List.replicate n [D.cv (.int .i64 v)]=(List.replicate n v).map intD:=by rw[List.map_replicate];rfl
theorem fillS (n k:Nat) (h:k<n):(List.replicate k (-1:Int)++List.replicate (n - k) 0).set k (-1)=List.replicate (k+1) (-1)++List.replicate (n - (k+1)) 0:=by
 obtain⟨m,rfl⟩:∃m,n=k+1+m:=⟨n - (k+1),by omega⟩
 rw[show k+1+m - k=m+1 by omega,show k+1+m - (k+1)=m by omega,List.replicate_succ (n:=m),List.set_append_right _ _ (by simp)]
 simp[List.replicate_succ']
theorem intInfo:∃i,Tryz.prog.info? 3=some i∧i.zero=some (.int .i64 0)∧i.size=1∧i.bytes=8:=by
 have h:(Tryz.prog.info? 3).map (fun i=>(i.zero,i.size,i.bytes))=some (some (.int .i64 0),1,8):=by kernel_rfl
 cases hi:Tryz.prog.info? 3 with
 |none=>rw[hi] at h;cases h
 |some i=>
  rw[hi] at h
  simp only[Option.map_some,Option.some.injEq,Prod.mk.injEq] at h
  exact⟨i,rfl,h.1,h.2.1,h.2.2⟩
theorem errInfo:∃i,Tryz.prog.info? 37=some i∧i.zero=some (.int .i64 0)∧i.size=1∧i.bytes=8:=by
 have h:(Tryz.prog.info? 37).map (fun i=>(i.zero,i.size,i.bytes))=some (some (.int .i64 0),1,8):=by kernel_rfl
 cases hi:Tryz.prog.info? 37 with
 |none=>rw[hi] at h;cases h
 |some i=>
  rw[hi] at h
  simp only[Option.map_some,Option.some.injEq,Prod.mk.injEq] at h
  exact⟨i,rfl,h.1,h.2.1,h.2.2⟩
abbrev studyV (r:List Int×List Int×Int×Int):V:= .tu [intsV r.1,intsV r.2.1,int r.2.2.1,int r.2.2.2]
abbrev pv (ps:List Bs):List (Bs×Int):=(ps.zipIdx).foldl (fun l x=>putB l x.1 (x.2:Int)) []
theorem pv_take {ps:List Bs} {m:Nat} (h:m<ps.length):pv (ps.take (m+1))=putB (pv (ps.take m)) ps[m] (m:Int):=by
 unfold pv
 rw[List.take_succ_eq_append_getElem h,List.zipIdx_append,List.foldl_append]
 simp[List.length_take,Nat.min_eq_left (Nat.le_of_lt h)]
theorem studyF_cons (ns:List Nd) (fs:List Fc) (f:Fc) (l:List Fc) (sl er lc:List Int):studyF ns fs (f::l) sl er lc=
  studyF ns fs l (walkS ns fs (f.body.toNat+1) f.body.toNat (scope0 f sl er)).sl (walkS ns fs (f.body.toNat+1) f.body.toNat (scope0 f sl er)).er (lc++[(walkS ns fs (f.body.toNat+1) f.body.toNat (scope0 f sl er)).nx]):=rfl
theorem firstE_cons (e:Int) (l:List Int) (i:Nat):firstE (e::l) i=if e=0 then firstE l (i+1) else((i:Int),e):=rfl
theorem x_study (p:Pg) (hp:PgS p) (ck:Int) (hck:DCalls Tryz.prog 97 [p.V] (int ck)) (hB:ck=0→∀f∈p.funcs,∃i:Nat,f.body=(i:Int)∧WalkOk p i (walkS p.nodes p.funcs (i+1))):
  DCalls Tryz.prog 80 [p.V] (studyV (studyP ck p)):=by
 have hfn:=x_functionsS p hp
 refine sxm [(115,false)] Tryz.func80 (by kernel_rfl) ?_
 conv=>whnf
 refine⟨_,hck,?_⟩
 conv=>whnf
 rintro(_|_) h1
 rotate_left
 ·have h1:ck≠0:=by simpa using h1
  rw[show studyP ck p=([],[],-1,ck) by unfold studyP;rw[if_pos h1]]
  (conv=>whnf)<;>rfl
 have h1:ck=0:=by simpa using h1
 have hB:=hB h1
 conv=>whnf
 refine⟨_,hfn,?_⟩
 conv=>whnf
 rintro(_|_) h2
 rotate_left
 ·have h2:(functionsE p.funcs).2≠0:=by simpa using h2
  rw[show studyP ck p=([],[],(functionsE p.funcs).1,(functionsE p.funcs).2) by unfold studyP;rw[if_neg (by simp[h1]),if_pos h2]]
  (conv=>whnf)<;>rfl
 have h2:(functionsE p.funcs).2=0:=by simpa using h2
 have hdef:studyP ck p=if(firstE (studyF p.nodes p.funcs p.funcs (List.replicate p.nodes.length (-1)) (List.replicate p.nodes.length 0) []).2.1 0).2≠0 then([],[],(firstE (studyF p.nodes p.funcs p.funcs (List.replicate p.nodes.length (-1)) (List.replicate p.nodes.length 0) []).2.1 0).1,(firstE (studyF p.nodes p.funcs p.funcs (List.replicate p.nodes.length (-1)) (List.replicate p.nodes.length 0) []).2.1 0).2) else((studyF p.nodes p.funcs p.funcs (List.replicate p.nodes.length (-1)) (List.replicate p.nodes.length 0) []).1,(studyF p.nodes p.funcs p.funcs (List.replicate p.nodes.length (-1)) (List.replicate p.nodes.length 0) []).2.2,0,0):=by
  unfold studyP;rw[if_neg (by simp[h1]),if_neg (by simp[h2])]
 have hN:=hp.ns
 have hnl:(p.nodes.map ndD).length=p.nodes.length:=List.length_map _
 obtain⟨ii,j1,j2,j3,j4⟩:=intInfo
 obtain⟨ei,e1,e2,e3,e4⟩:=errInfo
 conv=>whnf
 rw[hnl]
 refine at_tr (ot_makeZ (n:=p.nodes.length) (z:= .int .i64 0) (e:=3) (i:=ii) rfl rfl rfl rfl rfl (by kernel_rfl) j1 j2 rfl rfl j3 (by rw[j4];omega) (by omega)) ?_
 rw[rep_int]
 conv=>whnf
 rw[show((List.replicate p.nodes.length (0:Int)).map intD).length=p.nodes.length by simp]
 refine⟨[],Nat,fun k=>[(40,int k)],fun k=>[(37,some (.row 0 3 1 true ((List.replicate k (-1)++List.replicate (p.nodes.length - k) 0).map intD)))],fun k=>k≤p.nodes.length,fun k=>p.nodes.length - k,0,Nat.zero_le _,?_,?_⟩
 ·refine⟨rfl,?_,?_⟩<;>repeat' (first|exact trivial|exact rfl|refine and_rfl ?_|refine and_two ?_ ?_)
 rintro k b0
 have b0:k≤p.nodes.length:=b0
 conv=>whnf
 rintro(_|_) k1
 rotate_left
 ·have k1:k<p.nodes.length:=by simp at k1;omega
  have hkl:k<(List.replicate k (-1:Int)++List.replicate (p.nodes.length - k) 0).length:=by simp;omega
  conv=>whnf
  refine⟨Int.natCast_nonneg k,by rw[List.length_map,Int.toNat_natCast];exact hkl,?_⟩
  conv=>whnf
  refine⟨_,get_map intD hkl,Nat.le_refl _,?_⟩
  rw[put_int _ k (-1) hkl,fillS _ _ k1]
  conv=>whnf
  refine⟨k+1,k1,by dsimp only;omega,?_⟩
  refine⟨rfl,?_,?_⟩<;>repeat' (first|exact trivial|exact rfl|refine and_rfl ?_|refine and_val (wrap_succ (by omega)) ?_|refine and_two ?_ ?_)
 have k1:k=p.nodes.length:=by simp at k1;omega
 subst k1
 rw[Nat.sub_self,List.replicate_zero,List.append_nil]
 conv=>whnf
 rw[hnl]
 refine at_tr (ot_makeZ (n:=p.nodes.length) (z:= .int .i64 0) (e:=37) (i:=ei) rfl rfl rfl rfl rfl (by kernel_rfl) e1 e2 rfl rfl e3 (by rw[e4];omega) (by omega)) ?_
 rw[rep_int]
 have hfl:(p.funcs.map fcD).length=p.funcs.length:=List.length_map _
 have hfs:=hp.fs
 generalize hR:studyF p.nodes p.funcs p.funcs (List.replicate p.nodes.length (-1)) (List.replicate p.nodes.length 0) []=R at hdef
 conv=>whnf
 rw[hfl]
 refine⟨[(12,92,3,1)],Nat×List Int×List Int×List Int,fun⟨k,_,_,_⟩=>[(54,int k),(12,.ow 92 0)],fun⟨_,sl,er,lc⟩=>[(37,some (.row 0 3 1 true (sl.map intD))),(50,some (.row 0 37 1 true (er.map intD))),(92,some (.row 0 3 1 true (lc.map intD)))],
  fun⟨k,sl,er,lc⟩=>k≤p.funcs.length∧sl.length=p.nodes.length∧er.length=p.nodes.length∧lc.length≤k∧studyF p.nodes p.funcs (p.funcs.drop k) sl er lc=R,fun x=>p.funcs.length - x.1,(0,List.replicate p.nodes.length (-1),List.replicate p.nodes.length 0,[]),⟨Nat.zero_le _,by simp,by simp,Nat.le_refl _,hR⟩,?_,?_⟩
 ·refine⟨rfl,?_,?_⟩<;>repeat' (first|exact trivial|exact rfl|refine and_rfl ?_|refine and_two ?_ ?_)
 clear hR
 rintro⟨k,sl,er,lc⟩ ⟨b0,b1,b2,b3,b4⟩
 conv=>whnf
 rintro(_|_) h3
 rotate_left
 ·have h3:k<p.funcs.length:=by simp at h3;omega
  obtain⟨i,f1,f2⟩:=hB _ (List.getElem_mem h3)
  have hpl:=hp.ps _ (List.getElem_mem h3)
  rw[List.drop_eq_getElem_cons h3,studyF_cons] at b4
  have hgk:(p.funcs.map fcD)[((k:Nat):Int).toNat]?=some (fcD p.funcs[k]):=get_map fcD h3
  generalize p.funcs[k]=f at b4 hgk f1 hpl
  obtain⟨nm,ps,bd⟩:=f
  dsimp only at f1 hpl b4
  subst f1
  rw[Int.toNat_natCast] at b4
  have hw:=f2 (scope0 ⟨nm,ps,i⟩ sl er) ⟨b1,b2⟩
  have hu:=walkS_fit (ns:=p.nodes) (fs:=p.funcs) (i+1) i (scope0 ⟨nm,ps,i⟩ sl er) ⟨b1,b2⟩
  generalize walkS p.nodes p.funcs (i+1) i (scope0 ⟨nm,ps,i⟩ sl er)=u at b4 hw hu
  have hpp:(ps.map strD).length=ps.length:=List.length_map _
  conv=>whnf
  refine⟨by omega,_,hgk,?_⟩
  conv=>whnf
  refine at_tr (ot_makeMap rfl rfl rfl) ?_
  conv=>whnf
  rw[hpp]
  refine⟨[],Nat,fun m=>[(65,.un),(70,int m)],fun m=>[(59,some (bMap (pv (ps.take m))))],fun m=>m≤ps.length,fun m=>ps.length - m,0,Nat.zero_le _,?_,?_⟩
  ·refine⟨rfl,?_,?_⟩<;>repeat' (first|exact trivial|exact rfl|refine and_rfl ?_|refine and_two ?_ ?_)
  rintro m d0
  have d0:m≤ps.length:=d0
  conv=>whnf
  rintro(_|_) h4
  rotate_left
  ·have h4:m<ps.length:=by simp at h4;omega
   conv=>whnf
   refine⟨by omega,_,get_map strD h4,?_⟩
   conv=>whnf
   refine at_tr (put_b rfl rfl rfl rfl rfl) ?_
   conv=>whnf
   refine⟨m+1,h4,by dsimp only;omega,?_⟩
   rw[←pv_take h4]
   refine⟨rfl,?_,?_⟩<;>repeat' (first|exact trivial|exact rfl|refine and_rfl ?_|refine and_val (wrap_succ (by omega)) ?_|refine and_two ?_ ?_)
  have h4:ps.length≤m:=by simp at h4;omega
  rw[List.take_of_length_le h4]
  conv=>whnf
  refine mcallR2 (T:=TM [(115,false)]) (φ:=[]) (gf:=false) 37 50 hw (flatIS _) (flatIS _) ?_ (ln:=true)
  conv=>whnf
  refine⟨by rw[List.length_map];show(lc.length+1)*8≤_;omega,?_⟩
  conv=>whnf
  refine⟨(k+1,u.sl,u.er,lc++[u.nx]),⟨h3,hu.1,hu.2,by rw[List.length_append];simp;omega,b4⟩,by dsimp only;omega,?_⟩
  refine⟨rfl,?_,?_⟩<;>repeat' (first|exact trivial|exact rfl|(rw[List.map_append];exact rfl)|refine and_rfl ?_|refine and_val (wrap_succ (by omega)) ?_|refine and_two ?_ ?_)
 have h3:p.funcs.length≤k:=by simp at h3;omega
 rw[List.drop_eq_nil_of_le h3] at b4
 have b4:(sl,er,lc)=R:=b4
 subst b4
 dsimp only at hdef
 have hel:(er.map intD).length=er.length:=List.length_map _
 conv=>whnf
 rw[hel]
 refine⟨[],Nat,fun m=>[(96,int m)],fun _=>[],fun m=>m≤er.length∧firstE (er.drop m) m=firstE er 0,fun m=>er.length - m,0,⟨Nat.zero_le _,rfl⟩,?_,?_⟩
 ·refine⟨rfl,?_,?_⟩<;>repeat' (first|exact trivial|exact rfl|refine and_rfl ?_|refine and_two ?_ ?_)
 rintro m ⟨d0,d1⟩
 have d0:m≤er.length:=d0
 conv=>whnf
 rintro(_|_) h4
 ·have h4:er.length≤m:=by simp at h4;omega
  rw[List.drop_eq_nil_of_le h4] at d1
  have d1:firstE er 0=(0,0):=d1.symm
  rw[d1,if_neg (by simp)] at hdef
  rw[hdef]
  (conv=>whnf)<;>rfl
 have h4:m<er.length:=by simp at h4;omega
 rw[List.drop_eq_getElem_cons h4,firstE_cons] at d1
 conv=>whnf
 refine⟨Int.natCast_nonneg m,by rw[hel,Int.toNat_natCast];exact h4,?_⟩
 conv=>whnf
 refine⟨_,get_map intD h4,?_⟩
 conv=>whnf
 rintro(_|_) h5
 ·have h5:er[m]=0:=by simpa using h5
  rw[if_pos h5] at d1
  conv=>whnf
  refine⟨m+1,⟨h4,d1⟩,by dsimp only;omega,?_⟩
  refine⟨rfl,?_,?_⟩<;>repeat' (first|exact trivial|exact rfl|refine and_rfl ?_|refine and_val (wrap_succ (by omega)) ?_|refine and_two ?_ ?_)
 ·have h5:er[m]≠0:=by simpa using h5
  rw[if_neg h5] at d1
  rw[←d1,if_pos h5] at hdef
  rw[hdef]
  (conv=>whnf)<;>rfl
abbrev chkV (r:List Int×List Int×Int×Int):V:= .tu [int r.2.2.1,int r.2.2.2]
theorem x_scheck (p:Pg) (ck:Int) (h:DCalls Tryz.prog 80 [p.V] (studyV (studyP ck p))):DCalls Tryz.prog 66 [p.V] (chkV (studyP ck p)):=by
 refine sx Tryz.func66 (by kernel_rfl) ?_
 conv=>whnf
 refine⟨_,h,?_⟩
 (conv=>whnf)<;>rfl
end Go.Proofs.YtjmabkpcahmnpaaGreatDoor
namespace Go.Proofs.YtjmabkpcahmnpaaGreatDoor
open Go.RowKit
structure Mf where
 nm:Bs
 me:Int
 st:Int
 ops:List Bs
 src:Bs
abbrev Mf.V (m:Mf):V:= .ag [bstr m.nm,int m.me,int m.st,strsV m.ops,bstr m.src]
abbrev paB (m:Mf) (a b:V):Bk:= .box [bstr m.nm,int m.me,int m.st,.sl false 1 (m.ops.map strD),bstr m.src,a,b]
def numbersE (m:Mf):Int:=if m.me<1∨m.me>4000∨m.st<1∨m.st>20000 then 2 else 0
theorem x_bnumbers (m:Mf) (a b:V) (ha:∃l,a= .cv (.slice none 0 0)∨a= .sl false 5 l) (hb:∃l,b= .cv (.slice none 0 0)∨b= .sl false 3 l):MCallsG true Tryz.prog 44 [.bx 0 0] [paB m a b] (int (numbersE m)) [paB m a b]:=by
 obtain⟨l1,rfl|rfl⟩:=ha<;>obtain⟨l2,rfl|rfl⟩:=hb
 all_goals
  refine msxx [] Tryz.func44 (by kernel_rfl) (by kernel_rfl) (by rfl) ?_
  conv=>whnf
  rintro(_|_) h1
  ·conv=>whnf
   rintro(_|_) h2
   ·conv=>whnf
    rintro(_|_) h3
    ·conv=>whnf
     rintro(_|_) h4
     ·conv=>whnf
      exact⟨⟨rfl,rfl,fin_int (by simp at h1 h2 h3 h4;unfold numbersE;rw[if_neg (by omega)])⟩,rfl⟩
     ·conv=>whnf
      exact⟨⟨rfl,rfl,fin_int (by simp at h4;unfold numbersE;rw[if_pos (by omega)])⟩,rfl⟩
    ·conv=>whnf
     exact⟨⟨rfl,rfl,fin_int (by simp at h3;unfold numbersE;rw[if_pos (by omega)])⟩,rfl⟩
   ·conv=>whnf
    exact⟨⟨rfl,rfl,fin_int (by simp at h2;unfold numbersE;rw[if_pos (by omega)])⟩,rfl⟩
  ·conv=>whnf
   exact⟨⟨rfl,rfl,fin_int (by simp at h1;unfold numbersE;rw[if_pos (by omega)])⟩,rfl⟩
def leO (a b:Bs):Bool:=Op.bytesLess (mk a).toList (mk b).toList||((mk a).toList==(mk b).toList)
def opsOk (l:List Bs) (k:Nat):Bool:=match l[k]? with
 |some x=>(getB hostT x).isSome&&(k==0||(match l[k - 1]? with|some y=> !(leO x y)|none=>false))
 |none=>true
def opsF (l:List Bs):Nat→Nat→Int
 |0,_=>0
 |f+1,k=>if k<l.length then(if opsOk l k then opsF l f (k+1) else 4) else 0
theorem x_bops (m:Mf) (hm:m.ops.length≤1000000):MCallsG true Tryz.prog 45 [.bx 0 0] [paB m (.cv (.slice none 0 0)) (.cv (.slice none 0 0))] (int (opsF m.ops (m.ops.length+1) 0)) [paB m (.cv (.slice none 0 0)) (.cv (.slice none 0 0))]:=by
 obtain⟨nm,me,st,ops,src⟩:=m
 dsimp only at hm⊢
 have hll:(ops.map strD).length=ops.length:=List.length_map _
 refine msxx [] Tryz.func45 (by kernel_rfl) (by kernel_rfl) (by rfl) ?_
 conv=>whnf
 rw[hll]
 refine⟨[],Nat,fun k=>[(13,int k)],fun _=>[],fun k=>k≤ops.length∧opsF ops (ops.length+1 - k) k=opsF ops (ops.length+1) 0,fun k=>ops.length - k,0,⟨Nat.zero_le _,rfl⟩,?_,?_⟩
 ·refine⟨rfl,?_,?_⟩<;>repeat' (first|exact trivial|exact rfl|refine and_rfl ?_|refine and_two ?_ ?_)
 rintro k ⟨b0,b1⟩
 have b0:k≤ops.length:=b0
 conv=>whnf
 rintro(_|_) h1
 ·have h1:ops.length=k:=by simp at h1;omega
  subst h1
  have b1:opsF ops (ops.length+1) 0=0:=by rw[←b1,show ops.length+1 - ops.length=0+1 by omega];simp[opsF]
  rw[b1]
  conv=>whnf
  exact⟨⟨rfl,rfl,rfl⟩,rfl⟩
 have h1:k<ops.length:=by simp at h1;omega
 rw[show ops.length+1 - k=(ops.length+1 - (k+1))+1 by omega,opsF,if_pos h1] at b1
 have hok:opsOk ops k=((getB hostT ops[k]).isSome&&(k==0||(match ops[k - 1]? with|some y=> !(leO ops[k] y)|none=>false))):=by unfold opsOk;rw[List.getElem?_eq_getElem h1]
 conv=>whnf
 refine⟨by omega,_,get_map strD h1,?_⟩
 conv=>whnf
 refine⟨_,x_hostop ops[k],?_⟩
 conv=>whnf
 rintro(_|_) h2
 rotate_left
 ·have h2:(getB hostT ops[k]).isSome=false:=by simpa using h2
  rw[show opsOk ops k=false by rw[hok,h2];rfl] at b1
  rw[←show(4:Int)=opsF ops (ops.length+1) 0 by rw[←b1];rfl]
  conv=>whnf
  exact⟨⟨rfl,rfl,rfl⟩,rfl⟩
 have h2:(getB hostT ops[k]).isSome=true:=by simpa using h2
 conv=>whnf
 rintro(_|_) h3
 ·have h3:k=0:=by simp at h3;omega
  rw[show opsOk ops k=true by rw[hok,h2,show(k==0)=true by simp[h3]];rfl,if_pos rfl] at b1
  conv=>whnf
  refine⟨k+1,⟨h1,by rw[←b1]⟩,by dsimp only;omega,?_⟩
  refine⟨rfl,?_,?_⟩<;>repeat' (first|exact trivial|exact rfl|refine and_rfl ?_|refine and_val (wrap_succ (by omega)) ?_|refine and_two ?_ ?_)
 have h3:0<k:=by simp at h3;omega
 obtain⟨j,rfl⟩:∃j,k=j+1:=⟨k - 1,by omega⟩
 have hj:j<ops.length:=by omega
 rw[show ops[j+1 - 1]?=some ops[j] from List.getElem?_eq_getElem hj] at hok
 conv=>whnf
 rw[show IntKind.i64.wrap (((j+1:Nat):Int) - 1)=(j:Int) by rw[IntWalk.i64_in _ (by omega)];omega]
 refine⟨Int.natCast_nonneg j,_,get_map strD hj,?_⟩
 conv=>whnf
 rintro(_|_) h4
 ·have h4:leO ops[j+1] ops[j]=false:=h4
  rw[show opsOk ops (j+1)=true by rw[hok,h2];simp[h4],if_pos rfl] at b1
  conv=>whnf
  refine⟨j+1+1,⟨h1,by rw[←b1]⟩,by dsimp only;omega,?_⟩
  refine⟨rfl,?_,?_⟩<;>repeat' (first|exact trivial|exact rfl|refine and_rfl ?_|refine and_val (wrap_succ (by omega)) ?_|refine and_two ?_ ?_)
 ·have h4:leO ops[j+1] ops[j]=true:=h4
  rw[show opsOk ops (j+1)=false by rw[hok,h2];simp[h4]] at b1
  rw[←show(4:Int)=opsF ops (ops.length+1) 0 by rw[←b1];rfl]
  conv=>whnf
  exact⟨⟨rfl,rfl,rfl⟩,rfl⟩
end Go.Proofs.YtjmabkpcahmnpaaGreatDoor
namespace Go.Proofs.YtjmabkpcahmnpaaGreatDoor
open Go.RowKit
section
variable {P:Program} {T:Tab} {B:Fr} {w0:World} {N:Names} {S:Sets} {t:List V} {m:List (Option Bk)} {a:Act} {w:World}
theorem Sat.ghosted (hs:Sat B w0 N S t m a w) (gs:List (V×Value)) (h:∀p∈gs,RelV N S w p.1 p.2):Sat {B with ghost:=gs++B.ghost} w0 N S t m a w:=
 ⟨hs.low,hs.nodef,hs.tmps,hs.blk,hs.non,hs.apart,hs.data,hs.fresh,hs.own,hs.base,hs.old,hs.lent,⟨hs.more.size,fun p hp=>by
  rcases List.mem_append.1 hp with hp|hp
  ·exact h p hp
  ·exact hs.more.ghost p hp,hs.more.aside,hs.more.inv⟩,hs.stay⟩
theorem Sat.unghost {gs:List (V×Value)} (hs:Sat {B with ghost:=gs++B.ghost} w0 N S t m a w):Sat B w0 N S t m a w∧∀p∈gs,RelV N S w p.1 p.2:=
 ⟨⟨hs.low,hs.nodef,hs.tmps,hs.blk,hs.non,hs.apart,hs.data,hs.fresh,hs.own,hs.base,hs.old,hs.lent,⟨hs.more.size,fun p hp=>hs.more.ghost p (List.mem_append_right _ hp),hs.more.aside,hs.more.inv⟩,hs.stay⟩,fun p hp=>hs.more.ghost p (List.mem_append_left _ hp)⟩
theorem gh_ct (hs:Sat B w0 N S t m a w) {d k E sz:Nat} {f:Bool} {raws:List (List Value)} {rs:List (List Cl)} {outs:List V} {uo:List Value} (hm:m[d]?=some (some (.row k E sz f (raws.map fun x=>x.map .cv)))) (ho:RelL N S w outs uo) (hl:rs.length=raws.length) (hr:∀x∈raws,x.length=sz)
  (hC:Cells (S false) w uo rs.flatten raws.flatten []):∃N',Sat B w0 N' S t (m.set d (some (.asr (k+1) (rowC E sz rs) outs))) a w∧(∀v u,RelV N S w v u→RelV N' S w v u)∧∀u,N d=some (k,u)→RelV N' S w (.ow d (k+1)) u:=by
 obtain⟨u,us,h1,h2,h3,h4,h5,h6⟩:=hs.blk d _ hm
 obtain⟨A,c,hu⟩:=own_parts h2
 have hus:us=raws.flatten:=by
  have hlen:us.length=raws.length*sz:=by have:=h2.1;simpa using this
  have hfl:=flat_length hr
  apply List.ext_getElem?
  intro i
  rcases Nat.lt_or_ge i us.length with hi|hi
  ·have hdm:i=i / sz*sz+i % sz:=by rw[Nat.mul_comm];exact(Nat.div_add_mod i sz).symm
   have hq:i / sz<raws.length:=by rw[hlen] at hi;exact Nat.div_lt_of_lt_mul (by rw[Nat.mul_comm];exact hi)
   have hmod:i % sz<sz:=Nat.mod_lt _ h4
   have hx:raws[i / sz].length=sz:=hr _ (List.getElem_mem hq)
   have hv:(raws[i / sz]?.bind fun x=>x[i % sz]?)=some (raws[i / sz])[i % sz]:=by
    rw[List.getElem?_eq_getElem hq];simp[hx,hmod]
   obtain⟨u',e1,e2⟩:=h5 (i / sz) (i % sz) (.cv (raws[i / sz])[i % sz]) (by rw[List.getElem?_map,List.getElem?_eq_getElem hq];simp[hx,hmod])
   rw[←hdm] at e1
   rw[e1]
   have:=flat_at hr hv
   rw[←hdm] at this
   rw[this]
   cases e2
   rfl
  ·rw[List.getElem?_eq_none hi,List.getElem?_eq_none (by rw[hfl,←hlen];exact hi)]
 subst hus
 obtain⟨N',g1,g2,g3⟩:=hs.set (w':=w) (d:=d) (k:=k+1) (v:= .agg [u].toArray) (b:= .asr (k+1) (rowC E sz rs) outs) (lt_of_get hm) (fun k0 v0 h=>by rw[h1] at h;cases h;exact .inr (.inl ⟨⟨_,_,_,hu⟩,by omega⟩))
  hs.low (Nat.le_refl _) (fun _ _ _=>rfl)
  (fun g hg=>by
   obtain⟨v,hv,e⟩:=at_ct.1 hg
   simp at hv;subst hv
   have:At v g:=by rw[hu];rw[hu] at e;exact e
   exact⟨(hs.own d _ _ g h1 this).2,.inr ⟨_,_,h1,this⟩⟩)
  (fun N' e1 e2 e3=>⟨_,uo,e1,⟨ho.1,fun i v hv=>e2 _ _ (ho.2 i v hv)⟩,u,raws.flatten,[],rfl,by simp only[List.length_map] at h2;rw[hl];exact h2,hC,by simp[Dj]⟩)
 refine⟨N',g3,g2,fun u' h=>?_⟩
 rw[h1] at h;cases h
 exact .ow d (k+1) _ (by rw[hu];rfl) ⟨k+1,_,g1,Nat.le_refl _,fun _=>by simp[hdv]⟩
def toCl:List V→Nat→List Cl×List V
 |[],_=>([],[])
 |v::l,i=>match v.d with
  |some (x,_)=>(.d x::(toCl l i).1,(toCl l i).2)
  |none=>(.o i::(toCl l (i+1)).1,v::(toCl l (i+1)).2)
theorem toCl_cells (hTF:∀b,S true b→S false b):∀{vs:List V} {us:List Value} (pre:List V) (upre:List Value),pre.length=upre.length→RelL N S w vs us→allOne vs=true→
  ∃uo,RelL N S w (toCl vs pre.length).2 uo∧Cells (S false) w (upre++uo) (toCl vs pre.length).1 us []
 |[],us,pre,upre,hl,h,_=>by
  have:us=[]:=List.eq_nil_of_length_eq_zero h.1.symm
  subst this
  exact⟨[],⟨rfl,by simp[toCl]⟩,.nil⟩
 |v::vs,us,pre,upre,hl,h,h1=>by
  obtain⟨u,us,rfl,h2,h3⟩:=relL_uncons h
  simp only[allOne,Bool.and_eq_true] at h1
  unfold toCl
  cases hd:v.d with
  |some x=>
   obtain⟨x,f⟩:=x
   obtain⟨uo,e1,e2⟩:=toCl_cells hTF pre upre hl h3 h1.2
   exact⟨uo,e1,.d (RelD.ofV hTF h2 hd fun h=>by cases h) e2⟩
  |none=>
   obtain⟨uo,e1,e2⟩:=toCl_cells hTF (pre++[v]) (upre++[u]) (by simp[hl]) h3 h1.2
   simp only[List.length_append,List.length_singleton] at e1 e2
   exact⟨u::uo,relV_cons h2 e1,.o (by rw[hl];simp) (h2.one h1.1) (by simpa using e2)⟩
theorem gh_nilR {n d i E sz:Nat} {cs:List V} {bt:Option Nat} (hm:m[n]?=some (some (.box cs bt))) (hi:cs[i]?=some (.cv (.slice none 0 0))) (hd:m[d]?=some none) (hsz:0<sz):
  GhM m ((m.set d (some (.row 0 E sz true []))).set n (some (.box (cs.set i (.ow d 0)) bt))):=by
 intro B w0 N S t a w hs
 have hnd:n≠d:=by rintro rfl;rw[hm] at hd;cases hd
 have hnone:N d=none:=hs.non d fun b' h=>by rw[hd] at h;cases h
 obtain⟨N1,g1,g2,g3⟩:=hs.set (w':=w) (d:=d) (k:=0) (v:= .slice none 0 0) (b:= .row 0 E sz true []) (lt_of_get hd) (fun k0 v0 h=>by rw[hnone] at h;cases h) hs.low (Nat.le_refl _) (fun _ _ _=>rfl)
  (fun g hg=>by simp[At,at1] at hg)
  (fun N' e1 e2 e3=>⟨.slice none 0 0,[],e1,⟨by simp,.inl ⟨rfl,rfl⟩⟩,by simp,hsz,fun i j d hd=>by simp at hd,fun _ g hg=>by simp[At,at1] at hg⟩)
 have hm1:(m.set d (some (.row 0 E sz true [])))[n]?=some (some (.box cs bt)):=by rw[List.getElem?_set_ne (Ne.symm hnd)];exact hm
 obtain⟨g,ty,us,b1,b2,b3,b4⟩:=g3.blk n _ hm1
 obtain⟨N2,q1,q2,q3⟩:=g3.set (w':=w) (d:=n) (k:=0) (v:= .pointer (some ⟨g,0,none⟩)) (b:= .box (cs.set i (.ow d 0)) bt) (lt_of_get hm1) (fun k0 v0 h=>by rw[b1] at h;cases h;exact .inl ⟨rfl,rfl⟩) hs.low (Nat.le_refl _) (fun _ _ _=>rfl)
  (fun g' hg=>by cases hg;exact⟨(g3.own n _ _ g b1 rfl).2,.inr ⟨_,_,b1,rfl⟩⟩)
  (fun N' e1 e2 e3=>⟨g,ty,us,e1,b2,by simpa using b3,fun j v hv=>by
   rw[List.getElem?_set] at hv
   split at hv
   ·rename_i hij
    subst hij
    split at hv
    ·cases hv
     have h4:=b4 i _ hi
     generalize us.getD i undef=u at h4
     cases h4
     exact e2 _ _ (.ow d 0 _ rfl ⟨0,_,g1,Nat.le_refl _,fun _=>rfl⟩)
    ·cases hv
   ·exact e2 _ _ (b4 j v hv)⟩)
 exact⟨N2,S,q3,fun v u h=>q2 _ _ (g2 _ _ h)⟩
end
end Go.Proofs.YtjmabkpcahmnpaaGreatDoor
namespace Go.Proofs.YtjmabkpcahmnpaaGreatDoor
open Go.RowKit
section
variable {P:Program} {T:Tab} {B:Fr} {w0:World} {N:Names} {S:Sets} {t:List V} {m:List (Option Bk)} {a:Act} {w:World}
theorem cellsOne {v:Value} (h:v.oneCell'=true):v.cells= #[v]:=by
 cases v<;>simp_all [Value.oneCell',Value.cells]
theorem ot_build3 (hT:TOk P T) {o:Oper} {E:Operand→V} {ty e d sz by_:Nat} {ag:Bool} {z:List Value} {x0 x1 x2:Operand} {i:TI} {v0 v1 v2:V} {ps:Array (Nat×Operand)} (ho:o.op= .buildSlice ty 3 ps) (hps:ps.toList=[(0,x0),(1,x1),(2,x2)])
  (hti:T ty=some ⟨sz,by_,ag,z,.slice e⟩) (hie:T e=some i) (h0:i.size=1) (hx0:E x0=v0) (hx1:E x1=v1) (hx2:E x2=v2) (hone:allOne [v0,v1,v2]=true) (_hcells:v0.cells=[v0]∧v1.cells=[v1]∧v2.cells=[v2])
  (_hu:([v0,v1,v2].all fun v=>match v with| .un=>false|_=>true)=true) (hd:o.dst=some d) (hm:m[d]?=some none) {c0 c1 c2:Cl} (hc:(toCl [v0,v1,v2] 0).1=[c0,c1,c2]):
  OpTr P o E m (.ow d 1) (m.set d (some (.asr 1 (rowC e 1 [[c0],[c1],[c2]]) (toCl [v0,v1,v2] 0).2))):=by
 intro B w0 N S t a w hs hr
 have hps':ps= #[(0,x0),(1,x1),(2,x2)]:=by cases ps;simp at hps;rw[hps]
 subst hps'
 have hr0:=hr x0 (by rw[ho];simp[Op.operands])
 have hr1:=hr x1 (by rw[ho];simp[Op.operands])
 have hr2:=hr x2 (by rw[ho];simp[Op.operands])
 rw[hx0] at hr0;rw[hx1] at hr1;rw[hx2] at hr2
 simp only[allOne,Bool.and_eq_true] at hone
 have o0:=hr0.one hone.1
 have o1:=hr1.one hone.2.1
 have o2:=hr2.one hone.2.2.1
 generalize hw0:a.eval x0=u0 at hr0 o0
 generalize hw1:a.eval x1=u1 at hr1 o1
 generalize hw2:a.eval x2=u2 at hr2 o2
 have hs':=hs.ghosted [(v0,u0),(v1,u1),(v2,u2)] (by
  intro p hp
  simp only[List.mem_cons,List.not_mem_nil,or_false] at hp
  rcases hp with rfl|rfl|rfl
  ·exact hr0
  ·exact hr1
  ·exact hr2)
 have hok:=ok_buildSliceE (E:=fun x=> .cv (a.eval x)) hT hs' ho (fun p hp=>by simp at hp;rcases hp with rfl|rfl|rfl<;>exact .cv _) (K:=fun v m'=>v= .ow d 0∧m'=m.set d (some (.row 0 e i.size true [[.cv u0],[.cv u1],[.cv u2]]))) (by
  rw[hti]
  simp only[hie]
  rw[if_neg (by omega)]
  have q0:(V.cv u0).cells=[.cv u0]:=by show u0.cells.toList.map V.cv=_;rw[cellsOne o0];rfl
  have q1:(V.cv u1).cells=[.cv u1]:=by show u1.cells.toList.map V.cv=_;rw[cellsOne o1];rfl
  have q2:(V.cv u2).cells=[.cv u2]:=by show u2.cells.toList.map V.cv=_;rw[cellsOne o2];rfl
  have d0:toDs [V.cv u0]=some ([.cv u0],true):=by simp[toDs,V.d,o0]
  have d1:toDs [V.cv u1]=some ([.cv u1],true):=by simp[toDs,V.d,o1]
  have d2:toDs [V.cv u2]=some ([.cv u2],true):=by simp[toDs,V.d,o2]
  simp only[elemsD,hw0,hw1,hw2,q0,q1,q2,d0,d1,d2,h0,List.replicate,List.length_cons,List.length_nil,forceD_eq,setK_eq,List.set_cons_zero,List.set_cons_succ,Bool.and_self,newK,hd,hm]
  simp)
 intro Q
 refine Oper.wp_mono' (hok Q) ?_
 rintro a' w' ⟨u,he,N',S',v,m',h5,h6,rfl,rfl⟩
 obtain⟨h5,hgr⟩:=h5.unghost
 have g0:=hgr (v0,u0) (by simp)
 have g1':=hgr (v1,u1) (by simp)
 have g2':=hgr (v2,u2) (by simp)
 have hrl':RelL N' S' w' [v0,v1,v2] [u0,u1,u2]:=relV_cons g0 (relV_cons g1' (relV_cons g2' ⟨rfl,by simp⟩))
 obtain⟨uo,e1,e2⟩:=toCl_cells (fun b hb=>(h5.fresh b hb).1) [] [] rfl hrl' (by simp[allOne,hone])
 simp only[List.length_nil,List.nil_append] at e1 e2
 rw[hc] at e2
 have hml:=lt_of_get hm
 rw[h0] at h5
 obtain⟨N2,g1,g2,g3⟩:=gh_ct (raws:=[[u0],[u1],[u2]]) (rs:=[[c0],[c1],[c2]]) (outs:=(toCl [v0,v1,v2] 0).2) h5 (by rw[List.getElem?_set_self hml];rfl) e1 rfl (by simp) (by simpa using e2)
 refine⟨u,he,N2,S',?_,?_⟩
 ·rw[List.set_set] at g1;exact g1
 ·obtain⟨w1,us0,q1,q2,_⟩:=h5.blk d _ (List.getElem?_set_self hml)
  have:=ow_of q1 h6
  obtain⟨A,c,hsl⟩:=own_parts q2
  rw[hsl] at q1 this
  subst this
  exact g3 _ q1
end
end Go.Proofs.YtjmabkpcahmnpaaGreatDoor
namespace Go.Proofs.YtjmabkpcahmnpaaGreatDoor
open Go.RowKit
end Go.Proofs.YtjmabkpcahmnpaaGreatDoor
