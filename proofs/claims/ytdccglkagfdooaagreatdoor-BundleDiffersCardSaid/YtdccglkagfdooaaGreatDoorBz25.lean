/- Texts joined by pack.py: XSxMk XSxFl XStF XBuA XHxB XSxIp XLx11 -/
import Derived.Test.YtdccglkagfdooaaGreatDoorBz24
import Derived.Test.YtdccglkagfdooaaGreatDoorBz12
import Derived.Test.YtdccglkagfdooaaGreatDoorBz16
import Derived.Test.YtdccglkagfdooaaGreatDoorBz14
import Derived.Test.YtdccglkagfdooaaGreatDoorBz18
import Derived.Shelf.Sort.Plain
import Derived.Shelf.Slices.CompactI
import Derived.Test.YtdccglkagfdooaaGreatDoorBz15
set_option maxHeartbeats 16000000
set_option maxRecDepth 100000
namespace Go.Proofs.YtdccglkagfdooaaGreatDoor
open Go.RowKit
theorem rep_get {n i j:Nat} {z:Value} {d:D} (h:((List.replicate n [D.cv z])[i]?.bind fun x=>x[j]?)=some d):j=0∧i<n∧d= .cv z:=by
 rw[List.getElem?_replicate] at h
 split at h
 ·rename_i hlt
  cases j with
  |zero=>simp at h;exact⟨rfl,hlt,h.symm⟩
  |succ j=>simp at h
 ·cases h
theorem ot_makeZ {P:Program} {o:Oper} {E:Operand→V} {m:List (Option Bk)} {ty e n dst:Nat} {i:TypeInfo} {l c:Operand} {z:Value} (ho:o.op= .makeSlice ty l c) (hl:E l= .cv (.int .i64 (n:Nat))) (hc:E c= .cv (.int .i64 (n:Nat))) (hd:o.dst=some dst) (hm:m[dst]?=some none)
  (ht:P.underlying ty=some (.slice e)) (hi:P.info? e=some i) (hz:i.zero=some z) (hzc:z.cells= #[z]) (hz1:z.oneCell'=true) (hsz:i.size=1) (hb:i.bytes*n≤281474976710656) (hn:n≤281474976710656):
  OpTr P o E m (.ow dst 0) (m.set dst (some (.row 0 e 1 true (List.replicate n [.cv z])))):=by
 intro B w0 N S t a w hs hr
 have h1:=hr l (by rw[ho];simp[Op.operands])
 have h2:=hr c (by rw[ho];simp[Op.operands])
 rw[hl] at h1;rw[hc] at h2
 generalize hu1:a.eval l=u1 at h1
 generalize hu2:a.eval c=u2 at h2
 cases h1;cases h2
 have hb':(i.bytes:Int)*(n:Int)≤281474976710656:=by
  have:((i.bytes:Int)*(n:Int))=((i.bytes*n:Nat):Int):=by simp
  omega
 have hrun:=run_make (P:=P) w ty e i z ht hi hz .i64 .i64 n n (by omega) (by omega) hb' (by omega)
 rw[hsz,Nat.mul_one] at hrun
 have hlen:(List.replicate n [D.cv z]).length=n:=by simp
 have hpost:=newK_row hs (dst:=o.dst) (f:=true) (xs:=List.replicate n [D.cv z]) (us:=madeCells z.cells n) (ty:=e) (sz:=1) (cap:=n) (w1:=w) (.inl rfl) (by omega)
  (fun x hx=>by rw[List.eq_of_mem_replicate hx];rfl) (by rw[size_madeCells];omega) (by omega) (by simp only[maxLen];omega)
  (fun i' j d' hd'=>by
   obtain⟨rfl,hlt,rfl⟩:=rep_get hd'
   refine⟨z,?_,.cv _ hz1⟩
   rw[hzc]
   simp[madeCells,hlt]
   rw[Nat.mod_one];rfl)
  (K:=fun v m'=>v= .ow dst 0∧m'=m.set dst (some (.row 0 e 1 true (List.replicate n [.cv z])))) (by
   unfold newK
   rw[hd]
   simp[hm,setK_eq])
 refine opOk_val (u:= .slice (some ⟨w.heap.size,0,none⟩) n n) (w':=w.alloc (.cells (madeCells z.cells n) e)) ?_ ?_
 ·unfold execOp
  simp only[ho]
  refine run_v ?_
  rw[hu1,hu2]
  simpa using hrun
 ·rw[hlen] at hpost
  obtain⟨N',S',v,m',h3,h4,rfl,rfl⟩:=hpost
  exact⟨N',S',h3,h4⟩
end Go.Proofs.YtdccglkagfdooaaGreatDoor
namespace Go.Proofs.YtdccglkagfdooaaGreatDoor
open Go.RowKit
section
variable {P:Program} {T:Tab}
theorem op_flag {o:Oper} {E:Operand→V} {m m':List (Option Bk)} {v:V} {n k E1 sz1 E2 sz2:Nat} {xs1 xs2:List (List D)} (h:OpTr P o E m v m') (hm:m[n]?=some (some (.row k E1 sz1 true xs1)))
  (hm':m'[n]?=some (some (.row k E2 sz2 false xs2))) (hf:Flat xs2):OpTr P o E m v (m'.set n (some (.row k E2 sz2 true xs2))):=by
 intro B w0 N S t a w hs hx
 obtain⟨v0,us,e1,e2,_⟩:=hs.blk n _ hm
 have hu:v0.oneCell'=true:=by obtain⟨A,c,h⟩:=own_parts e2;rw[h];rfl
 let B':Fr:={B with ghost:=(.ow n k,v0)::B.ghost}
 have hs':Sat B' w0 N S t m a w:=⟨hs.low,hs.nodef,hs.tmps,hs.blk,hs.non,hs.apart,hs.data,hs.fresh,hs.own,hs.base,hs.old,hs.lent,⟨hs.more.size,fun p hp=>by
  rcases List.mem_cons.1 hp with rfl|hp
  ·exact .ow n k v0 hu ⟨k,v0,e1,Nat.le_refl _,fun _=>by obtain⟨A,c,h⟩:=own_parts e2;rw[h];rfl⟩
  ·exact hs.more.ghost p hp,hs.more.aside,hs.more.inv⟩,hs.stay⟩
 intro Q
 refine Oper.wp_mono' (h B' w0 N S t a w hs' hx Q) ?_
 rintro a' w' ⟨u,he,N',S',h2,hr⟩
 refine⟨u,he,N',S',?_,hr⟩
 obtain⟨v2,us2,f1,f2,f3,f4,f5,f6⟩:=h2.blk n _ hm'
 have hv:v2=v0:=by
  have hg:=h2.more.ghost (.ow n k,v0) List.mem_cons_self
  cases hg with
  |ow _ _ _ _ hn=>
   obtain⟨k',v',g1,g2,g3⟩:=hn
   rw[f1] at g1;cases g1
   have g4:=g3 rfl
   obtain⟨A,c,h⟩:=own_parts f2
   rw[h] at g4⊢
   exact g4.symm
 have hlt:=lt_of_get hm'
 refine⟨h2.low,h2.nodef,h2.tmps,fun j b hb=>?_,fun j hj=>?_,h2.apart,h2.data,h2.fresh,h2.own,h2.base,h2.old,h2.lent,⟨h2.more.size,fun p hp=>h2.more.ghost p (List.mem_cons_of_mem _ hp),h2.more.aside,h2.more.inv⟩,h2.stay⟩
 ·by_cases hjn:j=n
  ·subst hjn
   rw[List.getElem?_set_self hlt] at hb
   cases hb
   refine⟨v2,us2,f1,f2,f3,f4,fun i q d hd=>?_,fun _ g hg=>?_⟩
   ·obtain⟨u,hu,hrel⟩:=f5 i q d hd
    refine⟨u,hu,?_⟩
    obtain⟨x,hx1,hx2⟩:=Option.bind_eq_some_iff.1 hd
    obtain⟨c,rfl⟩:=hf x (List.mem_of_getElem? hx1) d (List.mem_of_getElem? hx2)
    cases hrel
    exact .cv _ (by assumption)
   ·rw[hv] at hg
    exact row_new hs hm e1 g hg
  ·rw[List.getElem?_set_ne (Ne.symm hjn)] at hb
   exact h2.blk j b hb
 ·by_cases hjn:j=n
  ·subst hjn
   exact absurd (List.getElem?_set_self hlt) (hj _)
  ·exact h2.non j fun b hb=>hj b (by rw[List.getElem?_set_ne (Ne.symm hjn)];exact hb)
theorem mcallF {st:Bool} {o:Oper} {E:Operand→V} {c:Call} {f:FuncId} {pre post av:List V} {m m1:List (Option Bk)} {ρ φ:List Nat} {gf:Bool} {m0 m2:List Bk} {args0:List V} {res:V} {K:V→List (Option Bk)→Prop} {k E1 sz1 E2 sz2:Nat} {xs1 xs2:List (List D)} (n:Nat) (hM:MCallsG st P f args0 m0 res m2) (hf:Flat xs2)
  (hK:(res.co3 st (ρ++φ) m1 gf).k fun v=>forceM ((putM (fun n b=>b.co st (ρ++φ) m1 gf n) (ρ++φ) m2 m1).set n (some (.row k E2 sz2 true xs2))) fun m'=>K v m')
  (ln:Bool:=false) (ho:o.op= .call c:=by exact rfl) (hc:calleeV E c=some (f,pre,post):=by exact rfl) (hz:frzB ln m (pre++zA T E c.args.toList c.argTypes.toList++post)=some (av,m1):=by exact rfl)
  (_hr:(reach m1 64 (av.flatMap V.nm3) []).reverse=ρ:=by exact rfl) (hg:(av.all V.fl&&flM m1 ρ)=gf:=by exact rfl) (hab:abM ρ m1 ρ=some m0:=by exact rfl) (ha0:av.map (V.ab ρ m1)=args0:=by exact rfl)
  (hchk:(distinctB (ρ++φ)&&(freeB m1 φ&&(kindB m1 ρ m2&&Nat.beq (ρ.length+φ.length) m2.length)))=true:=by exact rfl)
  (hm:m[n]?=some (some (.row k E1 sz1 true xs1)):=by exact rfl) (hm':(putM (fun n b=>b.co st (ρ++φ) m1 gf n) (ρ++φ) m2 m1)[n]?=some (some (.row k E2 sz2 false xs2)):=by exact rfl):
  ∃v m',OpTr P o E m v m'∧v.k fun v=>forceM m' fun m'=>K v m':=
 ⟨_,_,op_flag (op_mcall (T:=T) ho hc hz hg hab ha0 hM hchk) hm hm' hf,hK⟩
theorem op_own {o:Oper} {E:Operand→V} {m m':List (Option Bk)} {v:V} {n k k2 E1 sz1 E2 sz2:Nat} {xs1 xs2:List (List D)} (h:OpTr P o E m v m') (hm:m[n]?=some (some (.row k E1 sz1 true xs1)))
  (hm':m'[n]?=some (some (.row k2 E2 sz2 false xs2))) (hf:Flat xs2):OpTr P o E m v (m'.set n (some (.row k2 E2 sz2 true xs2))):=by
 intro B w0 N S t a w hs hx
 obtain⟨v0,us,e1,e2,e3,e4,e5,e6⟩:=hs.blk n _ hm
 let B':Fr:={B with stay:=fun j=>if j=n then some (At v0) else B.stay j,free:=true}
 have hs':Sat B' w0 N S t m a w:=⟨hs.low,hs.nodef,hs.tmps,hs.blk,hs.non,hs.apart,hs.data,hs.fresh,hs.own,hs.base,hs.old,hs.lent,⟨hs.more.size,hs.more.ghost,hs.more.aside,hs.more.inv⟩,fun j og hj=>by
  refine⟨.inl rfl,?_⟩
  simp only[B'] at hj
  split at hj
  ·rename_i hjn;subst hjn;cases hj;exact⟨_,v0,e1,.inr fun g hg=> .inl hg⟩
  ·exact(hs.stay j og hj).2⟩
 intro Q
 refine Oper.wp_mono' (h B' w0 N S t a w hs' hx Q) ?_
 rintro a' w' ⟨u,he,N',S',h2,hr⟩
 refine⟨u,he,N',S',?_,hr⟩
 obtain⟨v2,us2,f1,f2,f3,f4,f5,f6⟩:=h2.blk n _ hm'
 have hnew:∀g,At v2 g→w0.heap.size≤g:=by
  obtain⟨_,x,v3,g1,g2⟩:=h2.stay n (At v0) (by simp[B'])
  rw[f1] at g1;cases g1
  intro g hg
  rcases g2 with⟨us,g2⟩|g2
  ·obtain⟨A,c,h⟩:=own_parts f2
   rw[h] at g2;cases g2
  rcases g2 g hg with g3|g3
  ·exact e6 rfl g g3
  ·exact g3
 have hlt:=lt_of_get hm'
 refine⟨h2.low,h2.nodef,h2.tmps,fun j b hb=>?_,fun j hj=>?_,h2.apart,h2.data,h2.fresh,h2.own,h2.base,h2.old,h2.lent,⟨h2.more.size,h2.more.ghost,h2.more.aside,h2.more.inv⟩,fun j og hj=>?_⟩
 ·by_cases hjn:j=n
  ·subst hjn
   rw[List.getElem?_set_self hlt] at hb
   cases hb
   refine⟨v2,us2,f1,f2,f3,f4,fun i q d hd=>?_,fun _ g hg=>hnew g hg⟩
   obtain⟨u,hu,hrel⟩:=f5 i q d hd
   refine⟨u,hu,?_⟩
   obtain⟨x,hx1,hx2⟩:=Option.bind_eq_some_iff.1 hd
   obtain⟨c,rfl⟩:=hf x (List.mem_of_getElem? hx1) d (List.mem_of_getElem? hx2)
   cases hrel
   exact .cv _ (by assumption)
  ·rw[List.getElem?_set_ne (Ne.symm hjn)] at hb
   exact h2.blk j b hb
 ·by_cases hjn:j=n
  ·subst hjn
   exact absurd (List.getElem?_set_self hlt) (hj _)
  ·exact h2.non j fun b hb=>hj b (by rw[List.getElem?_set_ne (Ne.symm hjn)];exact hb)
 ·refine⟨(hs.stay j og hj).1,?_⟩
  by_cases hjn:j=n
  ·subst hjn
   exact⟨_,v2,f1,.inr fun g hg=> .inr (hnew g hg)⟩
  ·exact(h2.stay j og (by simp only[B'];rw[if_neg hjn];exact hj)).2
theorem mcallR {st:Bool} {o:Oper} {E:Operand→V} {c:Call} {f:FuncId} {pre post av:List V} {m m1:List (Option Bk)} {ρ φ:List Nat} {gf:Bool} {m0 m2:List Bk} {args0:List V} {res:V} {K:V→List (Option Bk)→Prop} {k k2 E1 sz1 E2 sz2:Nat} {xs1 xs2:List (List D)} (n:Nat) (hM:MCallsG st P f args0 m0 res m2) (hf:Flat xs2)
  (hK:(res.co3 st (ρ++φ) m1 gf).k fun v=>forceM ((putM (fun n b=>b.co st (ρ++φ) m1 gf n) (ρ++φ) m2 m1).set n (some (.row k2 E2 sz2 true xs2))) fun m'=>K v m')
  (ln:Bool:=false) (ho:o.op= .call c:=by exact rfl) (hc:calleeV E c=some (f,pre,post):=by exact rfl) (hz:frzB ln m (pre++zA T E c.args.toList c.argTypes.toList++post)=some (av,m1):=by exact rfl)
  (_hr:(reach m1 64 (av.flatMap V.nm3) []).reverse=ρ:=by exact rfl) (hg:(av.all V.fl&&flM m1 ρ)=gf:=by exact rfl) (hab:abM ρ m1 ρ=some m0:=by exact rfl) (ha0:av.map (V.ab ρ m1)=args0:=by exact rfl)
  (hchk:(distinctB (ρ++φ)&&(freeB m1 φ&&(kindB m1 ρ m2&&Nat.beq (ρ.length+φ.length) m2.length)))=true:=by exact rfl)
  (hm:m[n]?=some (some (.row k E1 sz1 true xs1)):=by exact rfl) (hm':(putM (fun n b=>b.co st (ρ++φ) m1 gf n) (ρ++φ) m2 m1)[n]?=some (some (.row k2 E2 sz2 false xs2)):=by exact rfl):
  ∃v m',OpTr P o E m v m'∧v.k fun v=>forceM m' fun m'=>K v m':=
 ⟨_,_,op_own (op_mcall (T:=T) ho hc hz hg hab ha0 hM hchk) hm hm' hf,hK⟩
theorem mcallR2 {st:Bool} {o:Oper} {E:Operand→V} {c:Call} {f:FuncId} {pre post av:List V} {m m1:List (Option Bk)} {ρ φ:List Nat} {gf:Bool} {m0 m2:List Bk} {args0:List V} {res:V} {K:V→List (Option Bk)→Prop} {k k2 E1 sz1 E2 sz2 j j2 F1 rz1 F2 rz2:Nat} {xs1 xs2 ys1 ys2:List (List D)} (n p:Nat) (hM:MCallsG st P f args0 m0 res m2) (hf:Flat xs2) (hf2:Flat ys2)
  (hK:(res.co3 st (ρ++φ) m1 gf).k fun v=>forceM (((putM (fun n b=>b.co st (ρ++φ) m1 gf n) (ρ++φ) m2 m1).set n (some (.row k2 E2 sz2 true xs2))).set p (some (.row j2 F2 rz2 true ys2))) fun m'=>K v m')
  (ln:Bool:=false) (ho:o.op= .call c:=by exact rfl) (hc:calleeV E c=some (f,pre,post):=by exact rfl) (hz:frzB ln m (pre++zA T E c.args.toList c.argTypes.toList++post)=some (av,m1):=by exact rfl)
  (_hr:(reach m1 64 (av.flatMap V.nm3) []).reverse=ρ:=by exact rfl) (hg:(av.all V.fl&&flM m1 ρ)=gf:=by exact rfl) (hab:abM ρ m1 ρ=some m0:=by exact rfl) (ha0:av.map (V.ab ρ m1)=args0:=by exact rfl)
  (hchk:(distinctB (ρ++φ)&&(freeB m1 φ&&(kindB m1 ρ m2&&Nat.beq (ρ.length+φ.length) m2.length)))=true:=by exact rfl)
  (hm:m[n]?=some (some (.row k E1 sz1 true xs1)):=by exact rfl) (hm':(putM (fun n b=>b.co st (ρ++φ) m1 gf n) (ρ++φ) m2 m1)[n]?=some (some (.row k2 E2 sz2 false xs2)):=by exact rfl)
  (hq:m[p]?=some (some (.row j F1 rz1 true ys1)):=by exact rfl) (hq':((putM (fun n b=>b.co st (ρ++φ) m1 gf n) (ρ++φ) m2 m1).set n (some (.row k2 E2 sz2 true xs2)))[p]?=some (some (.row j2 F2 rz2 false ys2)):=by exact rfl):
  ∃v m',OpTr P o E m v m'∧v.k fun v=>forceM m' fun m'=>K v m':=
 ⟨_,_,op_own (op_own (op_mcall (T:=T) ho hc hz hg hab ha0 hM hchk) hm hm' hf) hq hq' hf2,hK⟩
end
end Go.Proofs.YtdccglkagfdooaaGreatDoor
namespace Go.Proofs.YtdccglkagfdooaaGreatDoor
open Go.RowKit
theorem flatIS (ks:List Int):Flat (ks.map intD):=by
 intro x hx d hd
 obtain⟨n,_,rfl⟩:=List.mem_map.1 hx
 simp[intD] at hd
 exact⟨_,hd⟩
theorem rep_int (n:Nat) (v:Int):List.replicate n [D.cv (.int .i64 v)]=(List.replicate n v).map intD:=by rw[List.map_replicate];rfl
theorem fillS (n k:Nat) (h:k<n):(List.replicate k (-1:Int)++List.replicate (n - k) 0).set k (-1)=List.replicate (k+1) (-1)++List.replicate (n - (k+1)) 0:=by
 obtain⟨m,rfl⟩:∃m,n=k+1+m:=⟨n - (k+1),by omega⟩
 rw[show k+1+m - k=m+1 by omega,show k+1+m - (k+1)=m by omega,List.replicate_succ (n:=m),List.set_append_right _ _ (by simp)]
 simp[List.replicate_succ']
theorem intInfo:∃i,Tryz.prog.info? 3=some i∧i.zero=some (.int .i64 0)∧i.size=1∧i.bytes=8:=by
 have h:(Tryz.prog.info? 3).map (fun i=>(i.zero,i.size,i.bytes))=some (some (.int .i64 0),1,8):=by kernel_rfl
 cases hi:Tryz.prog.info? 3 with
 |none=>rw[hi] at h;cases h
 |some i=>
  rw[hi] at h
  simp only[Option.map_some,Option.some.injEq,Prod.mk.injEq] at h
  exact⟨i,rfl,h.1,h.2.1,h.2.2⟩
theorem errInfo:∃i,Tryz.prog.info? 29=some i∧i.zero=some (.int .i64 0)∧i.size=1∧i.bytes=8:=by
 have h:(Tryz.prog.info? 29).map (fun i=>(i.zero,i.size,i.bytes))=some (some (.int .i64 0),1,8):=by kernel_rfl
 cases hi:Tryz.prog.info? 29 with
 |none=>rw[hi] at h;cases h
 |some i=>
  rw[hi] at h
  simp only[Option.map_some,Option.some.injEq,Prod.mk.injEq] at h
  exact⟨i,rfl,h.1,h.2.1,h.2.2⟩
abbrev studyV (r:List Int×List Int×Int×Int):V:= .tu [intsV r.1,intsV r.2.1,int r.2.2.1,int r.2.2.2]
abbrev pv (ps:List Bs):List (Bs×Int):=(ps.zipIdx).foldl (fun l x=>putB l x.1 (x.2:Int)) []
theorem pv_take {ps:List Bs} {m:Nat} (h:m<ps.length):pv (ps.take (m+1))=putB (pv (ps.take m)) ps[m] (m:Int):=by
 unfold pv
 rw[List.take_succ_eq_append_getElem h,List.zipIdx_append,List.foldl_append]
 simp[List.length_take,Nat.min_eq_left (Nat.le_of_lt h)]
theorem studyF_cons (ns:List Nd) (fs:List Fc) (f:Fc) (l:List Fc) (sl er lc:List Int):studyF ns fs (f::l) sl er lc=
  studyF ns fs l (walkS ns fs (f.body.toNat+1) f.body.toNat (scope0 f sl er)).sl (walkS ns fs (f.body.toNat+1) f.body.toNat (scope0 f sl er)).er (lc++[(walkS ns fs (f.body.toNat+1) f.body.toNat (scope0 f sl er)).nx]):=rfl
theorem firstE_cons (e:Int) (l:List Int) (i:Nat):firstE (e::l) i=if e=0 then firstE l (i+1) else((i:Int),e):=rfl
theorem x_study (p:Pg) (hp:PgS p) (ck:Int) (hck:DCalls Tryz.prog 88 [p.V] (int ck)) (hB:ck=0→∀f∈p.funcs,∃i:Nat,f.body=(i:Int)∧WalkOk p i (walkS p.nodes p.funcs (i+1))):
  DCalls Tryz.prog 66 [p.V] (studyV (studyP ck p)):=by
 have hfn:=x_functionsS p hp
 refine sxm [(96,false)] Tryz.func66 (by kernel_rfl) ?_
 conv=>whnf
 refine⟨_,hck,?_⟩
 conv=>whnf
 rintro(_|_) h1
 rotate_left
 ·have h1:ck≠0:=by simpa using h1
  rw[show studyP ck p=([],[],-1,ck) by unfold studyP;rw[if_pos h1]]
  (conv=>whnf)<;>rfl
 have h1:ck=0:=by simpa using h1
 have hB:=hB h1
 conv=>whnf
 refine⟨_,hfn,?_⟩
 conv=>whnf
 rintro(_|_) h2
 rotate_left
 ·have h2:(functionsE p.funcs).2≠0:=by simpa using h2
  rw[show studyP ck p=([],[],(functionsE p.funcs).1,(functionsE p.funcs).2) by unfold studyP;rw[if_neg (by simp[h1]),if_pos h2]]
  (conv=>whnf)<;>rfl
 have h2:(functionsE p.funcs).2=0:=by simpa using h2
 have hdef:studyP ck p=if(firstE (studyF p.nodes p.funcs p.funcs (List.replicate p.nodes.length (-1)) (List.replicate p.nodes.length 0) []).2.1 0).2≠0 then([],[],(firstE (studyF p.nodes p.funcs p.funcs (List.replicate p.nodes.length (-1)) (List.replicate p.nodes.length 0) []).2.1 0).1,(firstE (studyF p.nodes p.funcs p.funcs (List.replicate p.nodes.length (-1)) (List.replicate p.nodes.length 0) []).2.1 0).2) else((studyF p.nodes p.funcs p.funcs (List.replicate p.nodes.length (-1)) (List.replicate p.nodes.length 0) []).1,(studyF p.nodes p.funcs p.funcs (List.replicate p.nodes.length (-1)) (List.replicate p.nodes.length 0) []).2.2,0,0):=by
  unfold studyP;rw[if_neg (by simp[h1]),if_neg (by simp[h2])]
 have hN:=hp.ns
 have hnl:(p.nodes.map ndD).length=p.nodes.length:=List.length_map _
 obtain⟨ii,j1,j2,j3,j4⟩:=intInfo
 obtain⟨ei,e1,e2,e3,e4⟩:=errInfo
 conv=>whnf
 rw[hnl]
 refine at_tr (ot_makeZ (n:=p.nodes.length) (z:= .int .i64 0) (e:=3) (i:=ii) rfl rfl rfl rfl rfl (by kernel_rfl) j1 j2 rfl rfl j3 (by rw[j4];omega) (by omega)) ?_
 rw[rep_int]
 conv=>whnf
 rw[show((List.replicate p.nodes.length (0:Int)).map intD).length=p.nodes.length by simp]
 refine⟨[],Nat,fun k=>[(40,int k)],fun k=>[(37,some (.row 0 3 1 true ((List.replicate k (-1)++List.replicate (p.nodes.length - k) 0).map intD)))],fun k=>k≤p.nodes.length,fun k=>p.nodes.length - k,0,Nat.zero_le _,?_,?_⟩
 ·refine⟨rfl,?_,?_⟩<;>repeat' (first|exact trivial|exact rfl|refine and_rfl ?_|refine and_two ?_ ?_)
 rintro k b0
 have b0:k≤p.nodes.length:=b0
 conv=>whnf
 rintro(_|_) k1
 rotate_left
 ·have k1:k<p.nodes.length:=by simp at k1;omega
  have hkl:k<(List.replicate k (-1:Int)++List.replicate (p.nodes.length - k) 0).length:=by simp;omega
  conv=>whnf
  refine⟨Int.natCast_nonneg k,by rw[List.length_map,Int.toNat_natCast];exact hkl,?_⟩
  conv=>whnf
  refine⟨_,get_map intD hkl,Nat.le_refl _,?_⟩
  rw[put_int _ k (-1) hkl,fillS _ _ k1]
  conv=>whnf
  refine⟨k+1,k1,by dsimp only;omega,?_⟩
  refine⟨rfl,?_,?_⟩<;>repeat' (first|exact trivial|exact rfl|refine and_rfl ?_|refine and_val (wrap_succ (by omega)) ?_|refine and_two ?_ ?_)
 have k1:k=p.nodes.length:=by simp at k1;omega
 subst k1
 rw[Nat.sub_self,List.replicate_zero,List.append_nil]
 conv=>whnf
 rw[hnl]
 refine at_tr (ot_makeZ (n:=p.nodes.length) (z:= .int .i64 0) (e:=29) (i:=ei) rfl rfl rfl rfl rfl (by kernel_rfl) e1 e2 rfl rfl e3 (by rw[e4];omega) (by omega)) ?_
 rw[rep_int]
 have hfl:(p.funcs.map fcD).length=p.funcs.length:=List.length_map _
 have hfs:=hp.fs
 generalize hR:studyF p.nodes p.funcs p.funcs (List.replicate p.nodes.length (-1)) (List.replicate p.nodes.length 0) []=R at hdef
 conv=>whnf
 rw[hfl]
 refine⟨[(12,92,3,1)],Nat×List Int×List Int×List Int,fun⟨k,_,_,_⟩=>[(54,int k),(12,.ow 92 0)],fun⟨_,sl,er,lc⟩=>[(37,some (.row 0 3 1 true (sl.map intD))),(50,some (.row 0 29 1 true (er.map intD))),(92,some (.row 0 3 1 true (lc.map intD)))],
  fun⟨k,sl,er,lc⟩=>k≤p.funcs.length∧sl.length=p.nodes.length∧er.length=p.nodes.length∧lc.length≤k∧studyF p.nodes p.funcs (p.funcs.drop k) sl er lc=R,fun x=>p.funcs.length - x.1,(0,List.replicate p.nodes.length (-1),List.replicate p.nodes.length 0,[]),⟨Nat.zero_le _,by simp,by simp,Nat.le_refl _,hR⟩,?_,?_⟩
 ·refine⟨rfl,?_,?_⟩<;>repeat' (first|exact trivial|exact rfl|refine and_rfl ?_|refine and_two ?_ ?_)
 clear hR
 rintro⟨k,sl,er,lc⟩ ⟨b0,b1,b2,b3,b4⟩
 conv=>whnf
 rintro(_|_) h3
 rotate_left
 ·have h3:k<p.funcs.length:=by simp at h3;omega
  obtain⟨i,f1,f2⟩:=hB _ (List.getElem_mem h3)
  have hpl:=hp.ps _ (List.getElem_mem h3)
  rw[List.drop_eq_getElem_cons h3,studyF_cons] at b4
  have hgk:(p.funcs.map fcD)[((k:Nat):Int).toNat]?=some (fcD p.funcs[k]):=get_map fcD h3
  generalize p.funcs[k]=f at b4 hgk f1 hpl
  obtain⟨nm,ps,bd⟩:=f
  dsimp only at f1 hpl b4
  subst f1
  rw[Int.toNat_natCast] at b4
  have hw:=f2 (scope0 ⟨nm,ps,i⟩ sl er) ⟨b1,b2⟩
  have hu:=walkS_fit (ns:=p.nodes) (fs:=p.funcs) (i+1) i (scope0 ⟨nm,ps,i⟩ sl er) ⟨b1,b2⟩
  generalize walkS p.nodes p.funcs (i+1) i (scope0 ⟨nm,ps,i⟩ sl er)=u at b4 hw hu
  have hpp:(ps.map strD).length=ps.length:=List.length_map _
  conv=>whnf
  refine⟨by omega,_,hgk,?_⟩
  conv=>whnf
  refine at_tr (ot_makeMap rfl rfl rfl) ?_
  conv=>whnf
  rw[hpp]
  refine⟨[],Nat,fun m=>[(65,.un),(70,int m)],fun m=>[(59,some (bMap (pv (ps.take m))))],fun m=>m≤ps.length,fun m=>ps.length - m,0,Nat.zero_le _,?_,?_⟩
  ·refine⟨rfl,?_,?_⟩<;>repeat' (first|exact trivial|exact rfl|refine and_rfl ?_|refine and_two ?_ ?_)
  rintro m d0
  have d0:m≤ps.length:=d0
  conv=>whnf
  rintro(_|_) h4
  rotate_left
  ·have h4:m<ps.length:=by simp at h4;omega
   conv=>whnf
   refine⟨by omega,_,get_map strD h4,?_⟩
   conv=>whnf
   refine at_tr (put_b rfl rfl rfl rfl rfl) ?_
   conv=>whnf
   refine⟨m+1,h4,by dsimp only;omega,?_⟩
   rw[←pv_take h4]
   refine⟨rfl,?_,?_⟩<;>repeat' (first|exact trivial|exact rfl|refine and_rfl ?_|refine and_val (wrap_succ (by omega)) ?_|refine and_two ?_ ?_)
  have h4:ps.length≤m:=by simp at h4;omega
  rw[List.take_of_length_le h4]
  conv=>whnf
  refine mcallR2 (T:=TM [(96,false)]) (φ:=[]) (gf:=false) 37 50 hw (flatIS _) (flatIS _) ?_ (ln:=true)
  conv=>whnf
  refine⟨by rw[List.length_map];show(lc.length+1)*8≤_;omega,?_⟩
  conv=>whnf
  refine⟨(k+1,u.sl,u.er,lc++[u.nx]),⟨h3,hu.1,hu.2,by rw[List.length_append];simp;omega,b4⟩,by dsimp only;omega,?_⟩
  refine⟨rfl,?_,?_⟩<;>repeat' (first|exact trivial|exact rfl|(rw[List.map_append];exact rfl)|refine and_rfl ?_|refine and_val (wrap_succ (by omega)) ?_|refine and_two ?_ ?_)
 have h3:p.funcs.length≤k:=by simp at h3;omega
 rw[List.drop_eq_nil_of_le h3] at b4
 have b4:(sl,er,lc)=R:=b4
 subst b4
 dsimp only at hdef
 have hel:(er.map intD).length=er.length:=List.length_map _
 conv=>whnf
 rw[hel]
 refine⟨[],Nat,fun m=>[(96,int m)],fun _=>[],fun m=>m≤er.length∧firstE (er.drop m) m=firstE er 0,fun m=>er.length - m,0,⟨Nat.zero_le _,rfl⟩,?_,?_⟩
 ·refine⟨rfl,?_,?_⟩<;>repeat' (first|exact trivial|exact rfl|refine and_rfl ?_|refine and_two ?_ ?_)
 rintro m ⟨d0,d1⟩
 have d0:m≤er.length:=d0
 conv=>whnf
 rintro(_|_) h4
 ·have h4:er.length≤m:=by simp at h4;omega
  rw[List.drop_eq_nil_of_le h4] at d1
  have d1:firstE er 0=(0,0):=d1.symm
  rw[d1,if_neg (by simp)] at hdef
  rw[hdef]
  (conv=>whnf)<;>rfl
 have h4:m<er.length:=by simp at h4;omega
 rw[List.drop_eq_getElem_cons h4,firstE_cons] at d1
 conv=>whnf
 refine⟨Int.natCast_nonneg m,by rw[hel,Int.toNat_natCast];exact h4,?_⟩
 conv=>whnf
 refine⟨_,get_map intD h4,?_⟩
 conv=>whnf
 rintro(_|_) h5
 ·have h5:er[m]=0:=by simpa using h5
  rw[if_pos h5] at d1
  conv=>whnf
  refine⟨m+1,⟨h4,d1⟩,by dsimp only;omega,?_⟩
  refine⟨rfl,?_,?_⟩<;>repeat' (first|exact trivial|exact rfl|refine and_rfl ?_|refine and_val (wrap_succ (by omega)) ?_|refine and_two ?_ ?_)
 ·have h5:er[m]≠0:=by simpa using h5
  rw[if_neg h5] at d1
  rw[←d1,if_pos h5] at hdef
  rw[hdef]
  (conv=>whnf)<;>rfl
abbrev chkV (r:List Int×List Int×Int×Int):V:= .tu [int r.2.2.1,int r.2.2.2]
theorem x_scheck (p:Pg) (ck:Int) (h:DCalls Tryz.prog 66 [p.V] (studyV (studyP ck p))):DCalls Tryz.prog 60 [p.V] (chkV (studyP ck p)):=by
 refine sx Tryz.func60 (by kernel_rfl) ?_
 conv=>whnf
 refine⟨_,h,?_⟩
 (conv=>whnf)<;>rfl
end Go.Proofs.YtdccglkagfdooaaGreatDoor
namespace Go.Proofs.YtdccglkagfdooaaGreatDoor
open Go.RowKit
structure Mf where
 nm:Bs
 me:Int
 st:Int
 ops:List Bs
 src:Bs
abbrev Mf.V (m:Mf):V:= .ag [bstr m.nm,int m.me,int m.st,strsV m.ops,bstr m.src]
abbrev paB (m:Mf) (a b:V):Bk:= .box [bstr m.nm,int m.me,int m.st,.sl false 1 (m.ops.map strD),bstr m.src,a,b]
def numbersE (m:Mf):Int:=if m.me<1∨m.me>4000∨m.st<1∨m.st>20000 then 2 else 0
theorem x_bnumbers (m:Mf) (a b:V) (ha:∃l,a= .cv (.slice none 0 0)∨a= .sl false 5 l) (hb:∃l,b= .cv (.slice none 0 0)∨b= .sl false 3 l):MCallsG true Tryz.prog 38 [.bx 0 0] [paB m a b] (int (numbersE m)) [paB m a b]:=by
 obtain⟨l1,rfl|rfl⟩:=ha<;>obtain⟨l2,rfl|rfl⟩:=hb
 all_goals
  refine msxx [] Tryz.func38 (by kernel_rfl) (by kernel_rfl) (by rfl) ?_
  conv=>whnf
  rintro(_|_) h1
  ·conv=>whnf
   rintro(_|_) h2
   ·conv=>whnf
    rintro(_|_) h3
    ·conv=>whnf
     rintro(_|_) h4
     ·conv=>whnf
      exact⟨⟨rfl,rfl,fin_int (by simp at h1 h2 h3 h4;unfold numbersE;rw[if_neg (by omega)])⟩,rfl⟩
     ·conv=>whnf
      exact⟨⟨rfl,rfl,fin_int (by simp at h4;unfold numbersE;rw[if_pos (by omega)])⟩,rfl⟩
    ·conv=>whnf
     exact⟨⟨rfl,rfl,fin_int (by simp at h3;unfold numbersE;rw[if_pos (by omega)])⟩,rfl⟩
   ·conv=>whnf
    exact⟨⟨rfl,rfl,fin_int (by simp at h2;unfold numbersE;rw[if_pos (by omega)])⟩,rfl⟩
  ·conv=>whnf
   exact⟨⟨rfl,rfl,fin_int (by simp at h1;unfold numbersE;rw[if_pos (by omega)])⟩,rfl⟩
def leO (a b:Bs):Bool:=Op.bytesLess (mk a).toList (mk b).toList||((mk a).toList==(mk b).toList)
def opsOk (l:List Bs) (k:Nat):Bool:=match l[k]? with
 |some x=>(getB hostT x).isSome&&(k==0||(match l[k - 1]? with|some y=> !(leO x y)|none=>false))
 |none=>true
def opsF (l:List Bs):Nat→Nat→Int
 |0,_=>0
 |f+1,k=>if k<l.length then(if opsOk l k then opsF l f (k+1) else 4) else 0
theorem x_bops (m:Mf) (hm:m.ops.length≤1000000):MCallsG true Tryz.prog 39 [.bx 0 0] [paB m (.cv (.slice none 0 0)) (.cv (.slice none 0 0))] (int (opsF m.ops (m.ops.length+1) 0)) [paB m (.cv (.slice none 0 0)) (.cv (.slice none 0 0))]:=by
 obtain⟨nm,me,st,ops,src⟩:=m
 dsimp only at hm⊢
 have hll:(ops.map strD).length=ops.length:=List.length_map _
 refine msxx [] Tryz.func39 (by kernel_rfl) (by kernel_rfl) (by rfl) ?_
 conv=>whnf
 rw[hll]
 refine⟨[],Nat,fun k=>[(13,int k)],fun _=>[],fun k=>k≤ops.length∧opsF ops (ops.length+1 - k) k=opsF ops (ops.length+1) 0,fun k=>ops.length - k,0,⟨Nat.zero_le _,rfl⟩,?_,?_⟩
 ·refine⟨rfl,?_,?_⟩<;>repeat' (first|exact trivial|exact rfl|refine and_rfl ?_|refine and_two ?_ ?_)
 rintro k ⟨b0,b1⟩
 have b0:k≤ops.length:=b0
 conv=>whnf
 rintro(_|_) h1
 ·have h1:ops.length=k:=by simp at h1;omega
  subst h1
  have b1:opsF ops (ops.length+1) 0=0:=by rw[←b1,show ops.length+1 - ops.length=0+1 by omega];simp[opsF]
  rw[b1]
  conv=>whnf
  exact⟨⟨rfl,rfl,rfl⟩,rfl⟩
 have h1:k<ops.length:=by simp at h1;omega
 rw[show ops.length+1 - k=(ops.length+1 - (k+1))+1 by omega,opsF,if_pos h1] at b1
 have hok:opsOk ops k=((getB hostT ops[k]).isSome&&(k==0||(match ops[k - 1]? with|some y=> !(leO ops[k] y)|none=>false))):=by unfold opsOk;rw[List.getElem?_eq_getElem h1]
 conv=>whnf
 refine⟨by omega,_,get_map strD h1,?_⟩
 conv=>whnf
 refine⟨_,x_hostop ops[k],?_⟩
 conv=>whnf
 rintro(_|_) h2
 rotate_left
 ·have h2:(getB hostT ops[k]).isSome=false:=by simpa using h2
  rw[show opsOk ops k=false by rw[hok,h2];rfl] at b1
  rw[←show(4:Int)=opsF ops (ops.length+1) 0 by rw[←b1];rfl]
  conv=>whnf
  exact⟨⟨rfl,rfl,rfl⟩,rfl⟩
 have h2:(getB hostT ops[k]).isSome=true:=by simpa using h2
 conv=>whnf
 rintro(_|_) h3
 ·have h3:k=0:=by simp at h3;omega
  rw[show opsOk ops k=true by rw[hok,h2,show(k==0)=true by simp[h3]];rfl,if_pos rfl] at b1
  conv=>whnf
  refine⟨k+1,⟨h1,by rw[←b1]⟩,by dsimp only;omega,?_⟩
  refine⟨rfl,?_,?_⟩<;>repeat' (first|exact trivial|exact rfl|refine and_rfl ?_|refine and_val (wrap_succ (by omega)) ?_|refine and_two ?_ ?_)
 have h3:0<k:=by simp at h3;omega
 obtain⟨j,rfl⟩:∃j,k=j+1:=⟨k - 1,by omega⟩
 have hj:j<ops.length:=by omega
 rw[show ops[j+1 - 1]?=some ops[j] from List.getElem?_eq_getElem hj] at hok
 conv=>whnf
 rw[show IntKind.i64.wrap (((j+1:Nat):Int) - 1)=(j:Int) by rw[IntWalk.i64_in _ (by omega)];omega]
 refine⟨Int.natCast_nonneg j,_,get_map strD hj,?_⟩
 conv=>whnf
 rintro(_|_) h4
 ·have h4:leO ops[j+1] ops[j]=false:=h4
  rw[show opsOk ops (j+1)=true by rw[hok,h2];simp[h4],if_pos rfl] at b1
  conv=>whnf
  refine⟨j+1+1,⟨h1,by rw[←b1]⟩,by dsimp only;omega,?_⟩
  refine⟨rfl,?_,?_⟩<;>repeat' (first|exact trivial|exact rfl|refine and_rfl ?_|refine and_val (wrap_succ (by omega)) ?_|refine and_two ?_ ?_)
 ·have h4:leO ops[j+1] ops[j]=true:=h4
  rw[show opsOk ops (j+1)=false by rw[hok,h2];simp[h4]] at b1
  rw[←show(4:Int)=opsF ops (ops.length+1) 0 by rw[←b1];rfl]
  conv=>whnf
  exact⟨⟨rfl,rfl,rfl⟩,rfl⟩
end Go.Proofs.YtdccglkagfdooaaGreatDoor
namespace Go.Proofs.YtdccglkagfdooaaGreatDoor
open Go.RowKit
theorem hexF_short:∀(f u:Nat),u<16 ^ (f+1)→∀acc g,f≤g→(hexF g u acc).length≤f+1+acc.length
 |0,u,h,acc,g,hg=>by
  cases g with
  |zero=>simp[hexF];omega
  |succ g=>simp only[hexF];rw[if_pos (by simpa using h)];simp;omega
 |f+1,u,h,acc,g,hg=>by
  cases g with
  |zero=>omega
  |succ g=>
   simp only[hexF]
   split
   ·simp;omega
   ·have:=hexF_short f (u / 16) (by rw[Nat.pow_succ] at h;omega) (digH (u % 16)::acc) g (by omega)
    simp at this;omega
def zerB (d:Nat):Bs:=List.replicate d 48
theorem rep_zs:∀d:Nat,Lib.repeatL [48] d=zerB d
 |0=>rfl
 |d+1=>by rw[Lib.repeatL,rep_zs d];simp[zerB,List.replicate_succ]
theorem x_zeros (d:Nat) (hd:d≤1000000):DCalls Tryz.prog 47 [bstr [48],int d] (bstr (zerB d)):=by
 refine⟨⟨_,Tryz.func47,by kernel_rfl,by kernel_rfl⟩,fun w vs hi hvs=>?_⟩
 obtain⟨v0,v1,rfl⟩:∃v0 v1,vs=[v0,v1]:=by
  have:=hvs.1
  match vs,this with
  |[a,b],_=>exact⟨a,b,rfl⟩
 have r0:=hvs.2 0 _ rfl
 have r1:=hvs.2 1 _ rfl
 simp only[List.getD_eq_getElem?_getD,List.getElem?_cons_zero,List.getElem?_cons_succ,Option.getD_some] at r0 r1
 cases r1
 cases r0
 have h:=Tryz.strings_Repeat (mk [48]) d w (by omega) (by rw[mk_size];show 1*d≤_;omega)
 rw[show(mk [48]).data.toList=[48] from rfl,rep_zs] at h
 refine h.mono ?_
 rintro e w' ⟨rfl,hb⟩
 exact⟨_,rfl,.cv _,hb⟩
theorem x_sjoinH (sep:Bs) (xs:List Bs) (hn:xs.length≤140737488355328) (hl:(Lib.join xs sep).length≤140737488355328):DCalls Tryz.prog 21 [strsV xs,bstr sep] (bstr (Lib.join xs sep)):=by
 refine⟨⟨_,Tryz.func21,by kernel_rfl,by kernel_rfl⟩,fun w vs hi hvs=>?_⟩
 obtain⟨v0,v1,rfl⟩:∃v0 v1,vs=[v0,v1]:=by
  have:=hvs.1
  match vs,this with
  |[a,b],_=>exact⟨a,b,rfl⟩
 have r0:=hvs.2 0 _ rfl
 have r1:=hvs.2 1 _ rfl
 simp only[List.getD_eq_getElem?_getD,List.getElem?_cons_zero,List.getElem?_cons_succ,Option.getD_some] at r0 r1
 cases r1
 cases r0
 rename_i hr
 generalize hxs:xs.map strD=ys at hr
 cases hr with
 |nil _ A cap=>
  have:xs=[]:=by simpa using hxs
  subst this
  refine(Any.strings_Join_none Tryz.lays156 Tryz.Builder_Extra_156 A cap (mk sep) w).mono ?_
  rintro e w' ⟨rfl,rfl⟩
  exact⟨_,rfl,.cv _,Below.refl _ _⟩
 |sl _ _ b o' cap u hS hx hcap hc hd=>
  subst hxs
  rw[List.length_map] at hcap⊢
  have hmm:(xs.map mk).map (·.data.toList)=xs:=by rw[List.map_map];exact List.map_id' xs
  have h:=Tryz.strings_Join b o' cap (xs.map mk) (mk sep) w (fun j x hj=>by
   rw[List.getElem?_map,Option.map_eq_some_iff] at hj
   obtain⟨y,hy,rfl⟩:=hj
   have h0:(((xs.map strD)[j]?).bind fun x=>x[0]?)=some (.cv (.string (mk y))):=by rw[List.getElem?_map,hy];rfl
   have h3:=hc j 0 _ h0
   have h4:=hd j 0 _ h0
   generalize u j 0=z at h3 h4
   cases h4
   rw[show o'+j=o'+j*1+0 by omega];exact h3) hS (by rw[List.length_map];exact hn) (by rw[List.length_map];exact hcap) (by rw[hmm,show(mk sep).data.toList=sep from rfl];exact hl)
  rw[hmm,show(mk sep).data.toList=sep from rfl,List.length_map] at h
  refine h.mono ?_
  rintro e w' ⟨rfl,hb⟩
  exact⟨_,rfl,.cv _,hb⟩
def hexP (u:Nat):Bs:=zerB (16 - (hexB u).length)++hexB u
theorem HexSt.short (u:Nat) (hu:u<18446744073709551616):(hexB u).length≤16:=by
 have:=hexF_short 15 u (by rw[show(16:Nat) ^ (15+1)=18446744073709551616 by decide+kernel];exact hu) [] 16 (by decide)
 simpa[hexB] using this
theorem x_hex (u:Nat) (hu:u<18446744073709551616):DCalls Tryz.prog 27 [.cv (.int .u64 u)] (bstr (hexP u)):=by
 have h:=HexSt.short u hu
 refine sx Tryz.func27 (by kernel_rfl) ?_
 conv=>whnf
 refine⟨_,x_fmtU u hu,?_⟩
 conv=>whnf
 rw[show IntKind.i64.wrap (16 - (((mk (hexB u)).size:Nat):Int))=((16 - (hexB u).length:Nat):Int) by rw[mk_size,wrap_in (by omega)];omega]
 refine⟨_,x_zeros _ (by omega),?_⟩
 conv=>whnf
 refine⟨by rw[mk_size,mk_size];simp[zerB];omega,?_⟩
 (conv=>whnf)<;>rfl
abbrev teH (p:Bs×Int):V:= .tu [bstr p.1,int p.2]
theorem b0W {n:Nat}:IntKind.u8.wrap (n:Int)=(((UInt8.ofNat n).toNat:Nat):Int):=by
 rw[IntKind.wrap_u8,UInt8.toNat_ofNat'];omega
theorem shr_nat (a n:Nat):(a:Int).fdiv (2 ^ n)=((a / 2 ^ n:Nat):Int):=by
 rw[Int.fdiv_eq_ediv_of_nonneg _ (by exact Int.le_of_lt (Int.pow_pos (by decide)))]
 simp
section
variable {P:Program} {o:Oper} {E:Operand→V} {m:List (Option Bk)} {x y:Operand}
theorem ot_appendX {n k:Nat} {f:Bool} {xs:List (List D)} {s:ByteArray} {c:Call} {ty tu e:TypeId} (l:List UInt8) (ho:o.op= .call c) (hc:c.callee= .builtin .append) (hargs:c.args.toList=[x,y]) (htys:c.argTypes.toList=[ty,tu])
  (hx:E x= .ow n k) (hy:E y= .cv (.string s)) (hm:m[n]?=some (some (.row k e 1 f xs))) (hxs:xs=l.map byteD)
  (ht:P.underlying ty=some (.slice e)) (hu:P.underlying tu=some .string) (hi:(P.info? e).map (fun i=>(i.size,i.bytes,i.zero))=some (1,1,some (.int .u8 0))) (hb:l.length+s.size≤140737488355328):
  OpTr P o E m (.ow n (k+1)) (m.set n (some (.row (k+1) e 1 f ((l++s.data.toList).map byteD)))):=by
 subst hxs
 exact ot_appendS ho hc hargs htys hx hy hm ht hu hi hb
end
def packB:List Bs→Bs→Bs×Int
 |[],acc=>(acc,0)
 |f::l,acc=>if f.length>4000 then([],3) else packB l (acc++[UInt8.ofNat (f.length / 256),UInt8.ofNat f.length]++f)
def packP (l:List Bs):Bs×Int:=if l.length>64 then([],3) else packB l [UInt8.ofNat l.length]
theorem hiW {b:Bs}:IntKind.u8.wrap ((((mk b).size:Nat):Int).fdiv (2 ^ (min (Int.toNat 8) IntKind.i64.bits)))=(((UInt8.ofNat (b.length / 256)).toNat:Nat):Int):=by
 rw[mk_size,show((b.length:Nat):Int).fdiv (2 ^ (min (Int.toNat 8) IntKind.i64.bits))=((b.length / 256:Nat):Int) from shr_nat b.length 8,IntKind.wrap_u8,UInt8.toNat_ofNat'];omega
theorem loW {b:Bs}:IntKind.u8.wrap (((mk b).size:Nat):Int)=(((UInt8.ofNat b.length).toNat:Nat):Int):=by rw[mk_size];exact b0W
theorem x_pack (l:List Bs) (hl:l.length≤8796093022207):DCalls Tryz.prog 19 [strsV l] (teH (packP l)):=by
 refine sxm [(1000009,false)] Tryz.func19 (by kernel_rfl) ?_
 conv=>whnf
 rintro(_|_) h0
 rotate_left
 ·rw[show packP l=([],3) by unfold packP;rw[if_pos (by simp at h0;omega)]]
  (conv=>whnf)<;>rfl
 have h0:l.length≤64:=by simp at h0;omega
 generalize hR:packP l=R
 have hR:packB l [UInt8.ofNat l.length]=R:=by rw[←hR];unfold packP;rw[if_neg (by omega)]
 have hw0:IntKind.u8.wrap (((l.map strD).length:Nat):Int)=(((UInt8.ofNat l.length).toNat:Nat):Int):=by rw[List.length_map];exact b0W
 conv=>whnf
 rw[hw0]
 refine⟨[],Nat×Bs,fun⟨k,acc⟩=>[(16,int k),(4,.ow 13 0),(13,.un)],fun⟨k,acc⟩=>[(13,some (.row 0 5 1 true (acc.map byteD)))],fun⟨k,acc⟩=>k≤l.length∧acc.length≤1+4002*k∧packB (l.drop k) acc=R,fun x=>l.length - x.1,(0,[UInt8.ofNat l.length]),⟨by omega,by simp,hR⟩,?_,?_⟩
 ·refine⟨rfl,?_,?_⟩<;>repeat' (first|exact trivial|exact rfl|refine and_rfl ?_|refine and_two ?_ ?_)
 rintro⟨k,acc⟩ ⟨hk1,hk2,hk⟩
 conv=>whnf
 rintro(_|_) h2
 ·have h2:l.length≤k:=by simp at h2;omega
  rw[List.drop_eq_nil_of_le h2] at hk
  subst hk
  conv=>whnf
  refine⟨_,_,ot_string (l:=acc) (e:=5) rfl rfl rfl (by kernel_rfl) (by kernel_rfl) (by kernel_rfl),?_⟩
  (conv=>whnf)<;>rfl
 have h2:k<l.length:=by simp at h2;omega
 rw[List.drop_eq_getElem_cons h2] at hk
 unfold packB at hk
 have hg:=get_map strD h2
 generalize l[k]=b at*
 conv=>whnf
 refine⟨by omega,_,hg,?_⟩
 conv=>whnf
 rintro(_|_) h3
 rotate_left
 ·have h3:b.length>4000:=by simp[mk_size] at h3;omega
  rw[if_pos h3] at hk
  subst hk
  (conv=>whnf)<;>rfl
 have h3:b.length≤4000:=by simp[mk_size] at h3;omega
 rw[if_neg (by omega)] at hk
 conv=>whnf
 refine⟨by omega,?_⟩
 conv=>whnf
 rw[hiW,loW]
 refine⟨by simp;omega,?_⟩
 conv=>whnf
 refine⟨_,_,ot_appendX (acc++[UInt8.ofNat (b.length / 256),UInt8.ofNat b.length]) (s:=mk b) rfl rfl rfl rfl rfl rfl rfl (by rw[List.map_append];rfl) (by kernel_rfl) (by kernel_rfl) (by kernel_rfl) (by rw[mk_size];simp;omega),?_⟩
 conv=>whnf
 refine⟨(k+1,acc++[UInt8.ofNat (b.length / 256),UInt8.ofNat b.length]++b),⟨h2,by simp;omega,hk⟩,by dsimp only;omega,?_⟩
 refine⟨rfl,?_,?_⟩<;>repeat' (first|exact trivial|exact rfl|refine and_rfl ?_|refine and_val (wrap_succ (by omega)) ?_|refine and_two ?_ ?_)
def encL (m:Mf):List Bs:=[m.nm,Lib.itoa m.me,Lib.itoa m.st,Lib.join m.ops [44],m.src]
def encP (ck:Int) (m:Mf):Bs×Int:=if ck≠0 then([],ck) else packP (encL m)
def digP (ck:Int) (m:Mf):Bs×Int:=if(encP ck m).2≠0 then([],(encP ck m).2) else(hexP (sumB (encP ck m).1).toNat,0)
theorem x_encode (m:Mf) (ck:Int) (hC:DCalls Tryz.prog 15 [m.V] (int ck)) (hme: -9223372036854775808≤m.me∧m.me≤9223372036854775807) (hst: -9223372036854775808≤m.st∧m.st≤9223372036854775807)
  (ho:m.ops.length≤140737488355328) (hj:(Lib.join m.ops [44]).length≤140737488355328):DCalls Tryz.prog 10 [m.V] (teH (encP ck m)):=by
 have hp:=x_pack (encL m) (show(5:Nat)≤8796093022207 by decide)
 have he:encP ck m=if ck≠0 then([],ck) else packP (encL m):=rfl
 obtain⟨nm,me,st,ops,src⟩:=m
 dsimp only at hme hst ho hj
 refine sx Tryz.func10 (by kernel_rfl) ?_
 conv=>whnf
 refine⟨_,hC,?_⟩
 conv=>whnf
 rintro(_|_) h1
 rotate_left
 ·have h1:ck≠0:=by simpa using h1
  rw[he,if_pos h1]
  (conv=>whnf)<;>rfl
 have h1:ck=0:=by simpa using h1
 rw[he,if_neg (by simp[h1])]
 conv=>whnf
 refine⟨none,by kernel_rfl,?_⟩
 conv=>whnf
 refine⟨_,x_format me hme.1 hme.2,?_⟩
 conv=>whnf
 refine⟨_,x_format st hst.1 hst.2,?_⟩
 conv=>whnf
 refine⟨_,x_sjoinH [44] ops ho hj,?_⟩
 conv=>whnf
 refine⟨_,hp,?_⟩
 (conv=>whnf)<;>rfl
theorem x_digest (m:Mf) (ck:Int) (hE:DCalls Tryz.prog 10 [m.V] (teH (encP ck m))) (hl:(encP ck m).1.length≤281474976710656):DCalls Tryz.prog 14 [m.V] (teH (digP ck m)):=by
 have hd:digP ck m=if(encP ck m).2≠0 then([],(encP ck m).2) else(hexP (sumB (encP ck m).1).toNat,0):=rfl
 generalize encP ck m=r at hE hl hd
 obtain⟨s,e⟩:=r
 dsimp only at hl hd
 have hs:=x_hsum s hl
 have hb:=sumB_in s
 have hx:=x_hex (sumB s).toNat (by omega)
 rw[show(((sumB s).toNat:Nat):Int)=sumB s by omega] at hx
 refine sx Tryz.func14 (by kernel_rfl) ?_
 conv=>whnf
 refine⟨_,hE,?_⟩
 conv=>whnf
 rintro(_|_) h1
 rotate_left
 ·have h1:e≠0:=by simpa using h1
  rw[hd,if_pos h1]
  (conv=>whnf)<;>rfl
 have h1:e=0:=by simpa using h1
 rw[hd,if_neg (by simp[h1])]
 conv=>whnf
 refine⟨_,hs,?_⟩
 conv=>whnf
 refine⟨_,hx,?_⟩
 (conv=>whnf)<;>rfl
end Go.Proofs.YtdccglkagfdooaaGreatDoor
namespace Go.Proofs.YtdccglkagfdooaaGreatDoor
open Go.RowKit Go.Shelf
section
variable {P:Program} {T:Tab}
end
end Go.Proofs.YtdccglkagfdooaaGreatDoor
namespace Go.Proofs.YtdccglkagfdooaaGreatDoor
open Go.RowKit
theorem decDigits_lt {u:Nat} (h:u<10):Lib.decDigits u=[UInt8.ofNat (48+u)]:=by rw[Lib.decDigits,dif_pos h]
theorem decDigits_ge {u:Nat} (h:10≤u):Lib.decDigits u=Lib.decDigits (u / 10)++[UInt8.ofNat (48+u % 10)]:=by rw[Lib.decDigits,dif_neg (by omega)]
theorem decDigits_ne (u:Nat):Lib.decDigits u≠[]:=by
 rcases Nat.lt_or_ge u 10 with h|h
 ·rw[decDigits_lt h];simp
 ·rw[decDigits_ge h];simp
def nd:Bs:=[48,49,50,51,52,53,54,55,56,57]
theorem digL_le:∀l:Bs,digL l≤l.length
 |[]=>Nat.le_refl _
 |c::l=>by
  have:=digL_le l
  simp only[digL,List.length_cons];split<;>omega
theorem digL_all:∀(l:Bs),∀c∈l.take (digL l),isDg c=true
 |[],c,h=>by simp at h
 |d::l,c,h=>by
  simp only[digL] at h
  split at h
  ·rw[List.take_succ_cons] at h
   rcases List.mem_cons.1 h with rfl|h
   ·assumption
   ·exact digL_all l c h
  ·simp at h
theorem digs_take {c:UInt8} {l:Bs} (h:isDg c=true):digs ((c::l).take (digL (c::l))):=by
 refine⟨?_,digL_all _⟩
 simp only[digL,h,if_true,List.take_succ_cons];simp
end Go.Proofs.YtdccglkagfdooaaGreatDoor
