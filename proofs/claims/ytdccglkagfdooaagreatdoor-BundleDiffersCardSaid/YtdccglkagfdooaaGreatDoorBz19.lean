/- Texts joined by pack.py: XSxCd XSxCe XSxYv XStA XSyYB -/
import Derived.Test.YtdccglkagfdooaaGreatDoorBz18
import Derived.Test.YtdccglkagfdooaaGreatDoorBz12
import Derived.Test.YtdccglkagfdooaaGreatDoorBz14
set_option maxHeartbeats 4000000
set_option maxRecDepth 100000
namespace Go.Proofs.YtdccglkagfdooaaGreatDoor
open Go.RowKit
section
variable {P:Program} {T:Tab} {B:Fr} {w0:World} {N:Names} {S:Sets} {t:List V} {m:List (Option Bk)} {a:Act} {w:World}
theorem Sat.ct (hs:Sat B w0 N S t m a w) {n k:Nat} {main main':Value} {own own':List Value} {uo:List Value} {outs:List V} {M':Main} {cs':List Cl} {us':List Value} {w':World} {A0:Asrt} {outs0:List V} (hm:m[n]?=some (some (.asr k A0 outs0)))
  (h1:N n=some (k,.agg (main::own).toArray)) (ho:RelL N S w outs uo) (hmain:main'=main) (low:Low B.keep B.ref w') (hsz:w.heap.size≤w'.heap.size)
  (hkeep:∀g,at1 main≠some g→w'.heap[g]?=w.heap[g]?) (hM:M'.ok w' main us') (hown:own'.Sublist own) (hdj:Dj (main::own))
  (hC:(∀g,S false g→w'.heap[g]?=w.heap[g]?)→(∀u∈own',∀g,at1 u=some g→w'.heap[g]?=w.heap[g]?)→Cells (S false) w' uo cs' us' own'):
  ∃N',Sat B w0 N' S t (m.set n (some (.asr k (ctA M' cs') outs))) a w'∧∀v u,RelV N S w v u→RelV N' S w' v u:=by
 subst hmain
 have hnl:=lt_of_get hm
 have hsub:∀u∈main'::own',u∈main'::own:=fun u hu=>by
  rcases List.mem_cons.1 hu with rfl|h
  ·simp
  ·exact List.mem_cons_of_mem _ (hown.subset h)
 have hdj':Dj (main'::own'):=List.Pairwise.sublist (List.Sublist.cons_cons _ hown) hdj
 have hrow:∀u∈own',∀g,at1 u=some g→w'.heap[g]?=w.heap[g]?:=fun u hu g hg=>hkeep g fun e=>(List.pairwise_cons.1 hdj').1 u hu g e hg
 have hS:∀g,S false g→w'.heap[g]?=w.heap[g]?:=fun g hg=>hkeep g fun e=>(hs.data false g hg).2 n _ _ h1 (at_ct.2 ⟨main',by simp,e⟩)
 have hC':=hC hS hrow
 obtain⟨N',g1,g2,g3⟩:=hs.set (w':=w') (d:=n) (k:=k) (v:= .agg (main'::own').toArray) (b:= .asr k (ctA M' cs') outs) hnl
  (fun k0 v0 h=>by rw[h1] at h;cases h;exact .inr (.inr ⟨_,_,rfl,rfl,.inr ⟨rfl,by simp⟩⟩)) low hsz
  (fun g _ hk=>hkeep g fun e=>hk _ _ h1 (at_ct.2 ⟨main',by simp,e⟩))
  (fun g hg=>by
   obtain⟨u,hu,e⟩:=at_ct.1 hg
   have:At (.agg (main'::own).toArray) g:=at_ct.2 ⟨u,hsub u hu,e⟩
   exact⟨Nat.lt_of_lt_of_le (hs.own n _ _ g h1 this).2 hsz,.inr ⟨_,_,h1,this⟩⟩)
  (fun N' e1 e2 e3=>⟨_,uo,e1,⟨ho.1,fun i v hv=>e2 _ _ (ho.2 i v hv)⟩,main',us',own',rfl,hM,hC',hdj'⟩)
 exact⟨N',g3,g2⟩
theorem low_block (hs:Sat B w0 N S t m a w) {n k b:Nat} {own:List Value} {ents ents':Array MapEntry} {clock clock':Nat} (h1:N n=some (k,.agg (.map (some b)::own).toArray)) (hb:w.heap[b]?=some (.map ents clock)):
  Low B.keep B.ref (Go.ChangeMaps.setBlock w b (.map ents' clock'))∧w.heap.size≤(Go.ChangeMaps.setBlock w b (.map ents' clock')).heap.size∧(∀g,at1 (.map (some b))≠some g→(Go.ChangeMaps.setBlock w b (.map ents' clock')).heap[g]?=w.heap[g]?)∧(Go.ChangeMaps.setBlock w b (.map ents' clock')).heap[b]?=some (.map ents' clock'):=by
 have hne:∀g,at1 (.map (some b))≠some g→(Go.ChangeMaps.setBlock w b (.map ents' clock')).heap[g]?=w.heap[g]?:=fun g hg=>Go.ChangeMaps.heap_setBlock_other hb _ fun e=>hg (by rw[e];rfl)
 have hsz:w.heap.size≤(Go.ChangeMaps.setBlock w b (.map ents' clock')).heap.size:=by simp[Go.ChangeMaps.setBlock]
 refine⟨hs.low.trans ⟨rfl,rfl,rfl,hsz,fun g hg=>hne g fun e=>?_⟩,hsz,hne,Go.ChangeMaps.heap_setBlock_same hb _⟩
 cases e
 exact(hs.own n _ _ b h1 (at_ct.2 ⟨.map (some b),by simp,rfl⟩)).1 hg
theorem upd_run {key:Nat} (hk:P.underlying key=some .string) {ty e b:Nat} {s:ByteArray} {es:List (ByteArray×Cl)} {ents:Array MapEntry} {clock:Nat} (hty:P.underlying ty=some (.map key e)) (hb:w.heap[b]?=some (.map ents clock)) (hke:ents.toList.map (·.key)=(es.map (·.1)).map Value.string) (hnd:(es.map (·.1)).Nodup) (val:Value) (c:Cl):
  ∃ents' clock',(Instr.mapUpdate ty (.map (some b)) (.string s) val).run P w= .ok () (Go.ChangeMaps.setBlock w b (.map ents' clock'))∧ents'.toList.map (·.key)=((putE es s c).map (·.1)).map Value.string∧((putE es s c).map (·.1)).Nodup∧
   ((s∉es.map (·.1)∧(putE es s c).map (·.2)=es.map (·.2)++[c]∧ents'.toList.map (·.val)=ents.toList.map (·.val)++[val])∨
    ∃c0 cs1 cs2 us1 u us2,getE es s=some c0∧es.map (·.2)=cs1++c0::cs2∧(putE es s c).map (·.2)=cs1++c::cs2∧ents.toList.map (·.val)=us1++u::us2∧ents'.toList.map (·.val)=us1++val::us2∧cs1.length=us1.length):=by
 rcases find_str (P:=P) w hk s ents.toList hke with⟨f1,f2⟩|⟨j,e0,f1,f2,f3,f4⟩
 ·refine⟨ents.push ⟨.string s,val,clock⟩,clock+1,?_,?_,?_,.inl ⟨f2,?_,?_⟩⟩
  ·simp[Instr.mapUpdate,run_underlying hty,MapKept.run_getObj_map hb,check_str w hk,f1,MapKept.run_setObj_map _ hb,Result.andThen,Go.ChangeMaps.setBlock]
  ·rw[putE_new f2];simp[hke]
  ·rw[putE_new f2]
   simp only[List.map_append,List.map_cons,List.map_nil]
   exact List.nodup_append.2 ⟨hnd,by simp,fun a ha b hb=>by simp at hb;subst hb;rintro rfl;exact f2 ha⟩
  ·rw[putE_new f2];simp
  ·simp
 ·obtain⟨c0,g1,g2⟩:=getE_at hnd f4
  obtain⟨l1,l2,rfl,g3⟩:=getE_some g1
  have hj:j=l1.length:=by
   have h1:(List.map (·.1) (l1++(s,c0)::l2))[l1.length]?=some s:=by simp
   exact(List.getElem?_inj (by have:=lt_of_get f4;simpa using this) hnd).1 (f4.trans h1.symm)
  subst hj
  have hjl:l1.length<ents.toList.length:=lt_of_get f2
  have hent:ents[l1.length]?=some e0:=by simpa using f2
  have hmod:(ents.modify l1.length (fun e'=>{e' with key:= .string s,val:=val})).toList=ents.toList.take l1.length++{e0 with key:= .string s,val:=val}::ents.toList.drop (l1.length+1):=by
   rw[Array.toList_modify,List.modify_eq_take_cons_drop hjl]
   congr 2
   have:ents.toList[l1.length]=e0:=(List.getElem?_eq_some_iff.1 f2).2
   rw[this]
  have hsplit:ents.toList=ents.toList.take l1.length++e0::ents.toList.drop (l1.length+1):=by
   have:ents.toList[l1.length]=e0:=(List.getElem?_eq_some_iff.1 f2).2
   rw[←this,List.getElem_cons_drop,List.take_append_drop]
  refine⟨ents.modify l1.length (fun e'=>{e' with key:= .string s,val:=val}),clock,?_,?_,?_,.inr ⟨c0,l1.map (·.2),l2.map (·.2),(ents.toList.take l1.length).map (·.val),e0.val,(ents.toList.drop (l1.length+1)).map (·.val),g1,by simp,by rw[putE_old g3];simp,?_,?_,?_⟩⟩
  ·have hst:(Instr.keyThatStays (.string s) (.string s)).run P w= .ok (.string s) w:=MapKept.run_keyThatStays (d:= .string) trivial
   simp[Instr.mapUpdate,run_underlying hty,MapKept.run_getObj_map hb,check_str w hk,f1,hent,f3,hst,MapKept.run_setObj_map _ hb,Result.andThen,Go.ChangeMaps.setBlock]
  ·rw[putE_old g3,hmod]
   rw[hsplit] at hke
   have hl:(ents.toList.take l1.length).length=l1.length:=by rw[List.length_take];omega
   simp only[List.map_append,List.map_cons] at hke⊢
   have:=List.append_inj hke (by rw[List.length_map,hl];simp)
   rw[this.1]
   have h2:=this.2
   simp only[List.cons.injEq] at h2
   rw[h2.2]
  ·rw[putE_old g3];simpa using hnd
  ·conv=>lhs;rw[hsplit]
   simp
  ·rw[hmod];simp
  ·simp;exact(Nat.min_eq_left (Nat.le_of_lt (by simpa using hjl))).symm
theorem ot_putD {o:Oper} {E:Operand→V} {ty key e n k:Nat} {x i y:Operand} {s:ByteArray} {es:List (ByteArray×Cl)} {outs:List V} {d:D} {f:Bool} (ho:o.op= .mapUpdate ty x i y∨o.op= .insert ty x i y)
  (hty:P.underlying ty=some (.map key e)) (hk:P.underlying key=some .string)
  (hx:E x= .ow n k) (hi:E i= .cv (.string s)) (hy:(E y).d=some (d,f)) (hm:m[n]?=some (some (.asr k (mapC es) outs))):OpTr P o E m .un (m.set n (some (.asr k (mapC (putE es s (.d d))) outs))):=by
 intro B w0 N S t a w hs hr
 obtain⟨b,ents,clock,own,uo,h1,h2,h3,h4,h5,h6,h7,h8⟩:=mapC_val hs hm
 have hx':=hr x (by rcases ho with h|h<;>rw[h]<;>simp[Op.operands])
 have hi':=hr i (by rcases ho with h|h<;>rw[h]<;>simp[Op.operands])
 have hy':=hr y (by rcases ho with h|h<;>rw[h]<;>simp[Op.operands])
 rw[hx] at hx';rw[hi] at hi'
 generalize hu:a.eval x=u at hx'
 generalize hv':a.eval i=v' at hi'
 generalize hvy:a.eval y=vy at hy'
 cases hi'
 have:=map_ref h1 hx'
 subst this
 have hd:RelD (S false) w d vy:=RelD.ofV (fun b hb=>(hs.fresh b hb).1) hy' hy (fun h=>by cases h)
 obtain⟨ents',clock',hrun,e1,e2,e3⟩:=upd_run (P:=P) (w:=w) hk (s:=s) hty h2 h3 h4 vy (.d d)
 obtain⟨l1,l2,l3,l4⟩:=low_block hs (ents':=ents') (clock':=clock') h1 h2
 have hone:∀u∈ents'.toList.map (·.val),u.oneCell'=true:=by
  rcases e3 with⟨_,_,q3⟩|⟨c0,cs1,cs2,us1,u,us2,_,_,_,q4,q5,_⟩
  ·rw[q3];simp only[List.mem_append,List.mem_singleton];rintro u (h|rfl)<;>first|exact h6 u h|exact hd.one
  ·rw[q5];rw[q4] at h6
   simp only[List.mem_append,List.mem_cons] at h6⊢
   rintro v (h|rfl|h)<;>first|exact h6 v (.inl h)|exact hd.one|exact h6 v (.inr (.inr h))
 have hfin:∃own',own'.Sublist own∧((∀g,S false g→(Go.ChangeMaps.setBlock w b (.map ents' clock')).heap[g]?=w.heap[g]?)→(∀u∈own',∀g,at1 u=some g→(Go.ChangeMaps.setBlock w b (.map ents' clock')).heap[g]?=w.heap[g]?)→
   Cells (S false) (Go.ChangeMaps.setBlock w b (.map ents' clock')) uo ((putE es s (.d d)).map (·.2)) (ents'.toList.map (·.val)) own'):=by
  rcases e3 with⟨_,q2,q3⟩|⟨c0,cs1,cs2,us1,u,us2,_,q2,q3,q4,q5,q6⟩
  ·refine⟨own,List.Sublist.refl _,fun hS hO=>?_⟩
   rw[q2,q3]
   have:=(h7.mono (fun _ h=>h) hS hO).app (.d (hd.mono (fun _ h=>h) hS) .nil)
   simpa using this
  ·rw[q2,q4] at h7
   obtain⟨v1,v2,ow1,ow2,r1,rfl,c1,c2⟩:=h7.unapp
   have:=List.append_inj r1 (by rw[←q6,c1.len])
   obtain⟨rfl,rfl⟩:=this
   obtain⟨ow3,hsub,c3⟩:=c2.tl
   refine⟨ow1++ow3,List.Sublist.append (List.Sublist.refl _) hsub,fun hS hO=>?_⟩
   rw[q3,q5]
   exact(c1.mono (fun _ h=>h) hS fun u hu=>hO u (by simp[hu])).app (.d (hd.mono (fun _ h=>h) hS) (c3.mono (fun _ h=>h) hS fun u hu=>hO u (by simp[hu])))
 obtain⟨own',p1,p2⟩:=hfin
 obtain⟨N',g1,g2⟩:=hs.ct (M':=mapM ((putE es s (.d d)).map (·.1))) (cs':=(putE es s (.d d)).map (·.2)) hm h1 h5 rfl l1 l2 l3 ⟨b,ents',clock',rfl,l4,e1,rfl,e2,hone⟩ p1 h8 p2
 refine opOk_skip (w':=Go.ChangeMaps.setBlock w b (.map ents' clock')) ?_ ⟨N',S,g1,.un _⟩
 unfold execOp
 rcases ho with ho|ho<;>(simp only[ho];refine run_u ?_;rw[hu,hv',hvy];exact hrun)
theorem ot_updD {o:Oper} {E:Operand→V} {ty key e n k:Nat} {x i y:Operand} {s:ByteArray} {es:List (ByteArray×Cl)} {outs:List V} {d:D} {f:Bool} (ho:o.op= .mapUpdate ty x i y)
  (hty:P.underlying ty=some (.map key e)) (hk:P.underlying key=some .string)
  (hx:E x= .ow n k) (hi:E i= .cv (.string s)) (hy:(E y).d=some (d,f)) (hm:m[n]?=some (some (.asr k (mapC es) outs))):OpTr P o E m .un (m.set n (some (.asr k (mapC (putE es s (.d d))) outs))):=
 ot_putD (.inl ho) hty hk hx hi hy hm
theorem ot_insD {o:Oper} {E:Operand→V} {ty key e n k:Nat} {x i y:Operand} {s:ByteArray} {es:List (ByteArray×Cl)} {outs:List V} {d:D} {f:Bool} (ho:o.op= .insert ty x i y)
  (hty:P.underlying ty=some (.map key e)) (hk:P.underlying key=some .string)
  (hx:E x= .ow n k) (hi:E i= .cv (.string s)) (hy:(E y).d=some (d,f)) (hm:m[n]?=some (some (.asr k (mapC es) outs))):OpTr P o E m .un (m.set n (some (.asr k (mapC (putE es s (.d d))) outs))):=
 ot_putD (.inr ho) hty hk hx hi hy hm
theorem ot_delete {o:Oper} {E:Operand→V} {ty key e n k:Nat} {x i:Operand} {s:ByteArray} {es:List (ByteArray×Cl)} {outs:List V} (ho:o.op= .call {callee:= .builtin .delete,args:= #[x,i],argTypes:= #[ty,key]})
  (hty:P.underlying ty=some (.map key e)) (hk:P.underlying key=some .string)
  (hx:E x= .ow n k) (hi:E i= .cv (.string s)) (hm:m[n]?=some (some (.asr k (mapC es) outs))):OpTr P o E m .un (m.set n (some (.asr k (mapC (delE es s)) outs))):=by
 intro B w0 N S t a w hs hr
 obtain⟨b,ents,clock,own,uo,h1,h2,h3,h4,h5,h6,h7,h8⟩:=mapC_val hs hm
 have hx':=hr x (by rw[ho];simp[Op.operands,Call.operands])
 have hi':=hr i (by rw[ho];simp[Op.operands,Call.operands])
 rw[hx] at hx';rw[hi] at hi'
 generalize hu:a.eval x=u at hx'
 generalize hv':a.eval i=v' at hi'
 cases hi'
 have:=map_ref h1 hx'
 subst this
 have hfin:∃ents' own',(Builtin.delete_ #[ty,key] o.type #[.map (some b),.string s]).run P w= .ok (.tuple #[]) (Go.ChangeMaps.setBlock w b (.map ents' clock))∧ents'.toList.map (·.key)=((delE es s).map (·.1)).map Value.string∧((delE es s).map (·.1)).Nodup∧(∀u∈ents'.toList.map (·.val),u∈ents.toList.map (·.val))∧
   own'.Sublist own∧Cells (S false) w uo ((delE es s).map (·.2)) (ents'.toList.map (·.val)) own':=by
  rcases find_str (P:=P) w hk s ents.toList h3 with⟨f1,f2⟩|⟨j,e0,f1,f2,f3,f4⟩
  ·refine⟨ents,own,?_,by rw[delE_new f2];exact h3,by rw[delE_new f2];exact h4,fun _ h=>h,List.Sublist.refl _,by rw[delE_new f2];exact h7⟩
   simp[Builtin.delete_,run_underlying hty,MapKept.run_getObj_map h2,check_str w hk,f1,MapKept.run_setObj_map _ h2,Result.andThen,Go.ChangeMaps.setBlock]
  ·obtain⟨c0,g1,g2⟩:=getE_at h4 f4
   obtain⟨l1,l2,rfl,g3⟩:=getE_some g1
   have hj:j=l1.length:=by
    have h1:(List.map (·.1) (l1++(s,c0)::l2))[l1.length]?=some s:=by simp
    exact(List.getElem?_inj (by have:=lt_of_get f4;simpa using this) h4).1 (f4.trans h1.symm)
   subst hj
   have hjl:l1.length<ents.toList.length:=lt_of_get f2
   have hjs:l1.length<ents.size:=by simpa using hjl
   have hent:ents.toList[l1.length]=e0:=(List.getElem?_eq_some_iff.1 f2).2
   have hsplit:ents.toList=ents.toList.take l1.length++e0::ents.toList.drop (l1.length+1):=by
    rw[←hent,List.getElem_cons_drop,List.take_append_drop]
   have hsub:(ents.eraseIdxIfInBounds l1.length).toList=ents.toList.take l1.length++ents.toList.drop (l1.length+1):=by
    unfold Array.eraseIdxIfInBounds
    rw[dif_pos hjs]
    simp[List.eraseIdx_eq_take_drop_succ]
   have hlt:(ents.toList.take l1.length).length=l1.length:=by rw[List.length_take];omega
   rw[hsplit] at h3 h7
   simp only[List.map_append,List.map_cons] at h3 h7
   obtain⟨v1,v2,ow1,ow2,r1,rfl,c1,c2⟩:=h7.unapp
   have:=List.append_inj r1 (by rw[List.length_map,hlt,←c1.len];simp)
   obtain⟨rfl,rfl⟩:=this
   obtain⟨ow3,hsub3,c3⟩:=c2.tl
   have h3':=List.append_inj h3 (by rw[List.length_map,hlt];simp)
   simp only[List.cons.injEq] at h3'
   refine⟨ents.eraseIdxIfInBounds l1.length,ow1++ow3,?_,?_,?_,?_,List.Sublist.append (List.Sublist.refl _) hsub3,?_⟩
   ·simp[Builtin.delete_,run_underlying hty,MapKept.run_getObj_map h2,check_str w hk,f1,MapKept.run_setObj_map _ h2,Result.andThen,Go.ChangeMaps.setBlock]
   ·rw[delE_old g3,hsub]
    simp only[List.map_append]
    rw[h3'.1,h3'.2.2]
   ·rw[delE_old g3]
    simp only[List.map_append,List.map_cons] at h4⊢
    exact List.Nodup.sublist (List.Sublist.append (List.Sublist.refl _) (List.sublist_cons_self _ _)) h4
   ·rw[hsub]
    conv=>intro u hu;rw[hsplit]
    simp only[List.map_append,List.map_cons,List.mem_append,List.mem_cons]
    rintro u (h|h)<;>first|exact .inl h|exact .inr (.inr h)
   ·rw[delE_old g3,hsub]
    simp only[List.map_append]
    exact c1.app c3
 obtain⟨ents',own',hrun,e1,e2,e3,p1,p2⟩:=hfin
 obtain⟨l1,l2,l3,l4⟩:=low_block hs (ents':=ents') (clock':=clock) h1 h2
 obtain⟨N',g1,g2⟩:=hs.ct (M':=mapM ((delE es s).map (·.1))) (cs':=(delE es s).map (·.2)) hm h1 h5 rfl l1 l2 l3 ⟨b,ents',clock,rfl,l4,e1,rfl,e2,fun u hu=>h6 u (e3 u hu)⟩ p1 h8 (fun hS hO=>p2.mono (fun _ h=>h) hS hO)
 refine opOk_val (u:= .tuple #[]) (w':=Go.ChangeMaps.setBlock w b (.map ents' clock)) ?_ ⟨N',S,g1,.un _⟩
 unfold execOp
 simp only[ho]
 simp[resolve,invoke,builtin,hu,hv',hrun]
theorem ot_makeMap {o:Oper} {E:Operand→V} {ty d:Nat} (ho:o.op= .makeMap ty none) (_hd:o.dst=some d) (hm:m[d]?=some none):OpTr P o E m (.ow d 0) (m.set d (some (.asr 0 (mapC []) []))):=by
 intro B w0 N S t a w hs hr
 have hnone:N d=none:=hs.non d fun b' h=>by rw[hm] at h;cases h
 have hheap:=MapKept.heap_alloc w (.map #[] 0)
 obtain⟨N',g1,g2,g3⟩:=hs.set (w':=w.alloc (.map #[] 0)) (d:=d) (k:=0) (v:= .agg (#[.map (some w.heap.size)]:Array Value)) (b:= .asr 0 (mapC []) []) (lt_of_get hm) (fun k0 v0 h=>by rw[hnone] at h;cases h)
  (hs.low.alloc hs.base _) (by simp) (fun g hg _=>Below.heap_alloc _ _ _ hg)
  (fun g hg=>by
   obtain⟨u,hu,e⟩:=(at_ct (main:= .map (some w.heap.size)) (own:=[])).1 hg
   simp at hu;subst hu;cases e
   exact⟨by simp,.inl (Nat.le_refl _)⟩)
  (fun N' e1 e2 e3=>⟨_,[],e1,⟨rfl,by simp⟩,.map (some w.heap.size),[],[],rfl,⟨_,#[],0,rfl,hheap.1,rfl,rfl,by simp,by simp⟩,.nil,by simp[Dj]⟩)
 refine opOk_val (u:= .map (some w.heap.size)) (w':=w.alloc (.map #[] 0)) ?_ ⟨N',S,g3,.ow d 0 _ rfl ⟨0,_,g1,Nat.le_refl _,fun _=>by simp[hdv]⟩⟩
 unfold execOp
 simp only[ho]
 refine run_v ?_
 simp[Instr.makeMap]
end
end Go.Proofs.YtdccglkagfdooaaGreatDoor
namespace Go.Proofs.YtdccglkagfdooaaGreatDoor
open Go.RowKit
section
variable {P:Program} {T:Tab} {B:Fr} {w0:World} {N:Names} {S:Sets} {t:List V} {m:List (Option Bk)} {a:Act} {w:World}
end
end Go.Proofs.YtdccglkagfdooaaGreatDoor
namespace Go.Proofs.YtdccglkagfdooaaGreatDoor
open Go.RowKit
def kN (n:Nat) (K:Nat→Prop):Prop:=
 match n with
 |0=>K 0
 |1=>K 1
 |2=>K 2
 |3=>K 3
 |4=>K 4
 |5=>K 5
 |6=>K 6
 |7=>K 7
 |8=>K 8
 |9=>K 9
 |10=>K 10
 |11=>K 11
 |12=>K 12
 |13=>K 13
 |14=>K 14
 |15=>K 15
 |16=>K 16
 |17=>K 17
 |18=>K 18
 |19=>K 19
 |n=>K n
theorem kN_eq (n:Nat) (K:Nat→Prop):kN n K=K n:=by unfold kN;split<;>rfl
def V.kv (v:V) (K:V→Prop):Prop:=
 match v with
 | .ow n k=>kN k fun k=>K (.ow n k)
 | .oq n k s i o=>kN k fun k=>K (.oq n k s i o)
 | .vw n k s lo hi=>kN k fun k=>K (.vw n k s lo hi)
 |v=>K v
theorem V.kv_eq (v:V) (K:V→Prop):v.kv K=K v:=by unfold V.kv;split<;>first|rfl|rw[kN_eq]
def forceLv:List V→(List V→Prop)→Prop
 |[],K=>K []
 |v::l,K=>v.kv fun v=>forceLv l fun l=>K (v::l)
theorem forceLv_eq:∀(l:List V) (K:List V→Prop),forceLv l K=K l
 |[],_=>rfl
 |v::l,K=>by unfold forceLv;rw[V.kv_eq,forceLv_eq l]
def V.kw (v:V) (K:V→Prop):Prop:=
 match v with
 | .ag cs=>forceLv cs fun cs=>K (.ag cs)
 | .tu cs=>forceLv cs fun cs=>K (.tu cs)
 |v=>v.kv K
theorem V.kw_eq (v:V) (K:V→Prop):v.kw K=K v:=by
 unfold V.kw
 split
 ·rw[forceLv_eq]
 ·rw[forceLv_eq]
 ·rw[V.kv_eq]
def forceMv:List (Option Bk)→(List (Option Bk)→Prop)→Prop
 |[],K=>K []
 |none::l,K=>forceMv l fun l=>K (none::l)
 |some (.box cs bt)::l,K=>forceLv cs fun cs=>forceMv l fun l=>K (some (.box cs bt)::l)
 |some (.row k e s f xs)::l,K=>kN k fun k=>forceMv l fun l=>K (some (.row k e s f xs)::l)
 |some (.fz k e bs)::l,K=>kN k fun k=>forceMv l fun l=>K (some (.fz k e bs)::l)
 |some (.asr k A outs)::l,K=>kN k fun k=>forceLv outs fun outs=>forceMv l fun l=>K (some (.asr k A outs)::l)
theorem forceMv_eq:∀(l:List (Option Bk)) (K:List (Option Bk)→Prop),forceMv l K=K l
 |[],_=>rfl
 |none::l,K=>by unfold forceMv;rw[forceMv_eq l]
 |some (.box cs bt)::l,K=>by unfold forceMv;rw[forceLv_eq,forceMv_eq l]
 |some (.row k e s f xs)::l,K=>by unfold forceMv;rw[kN_eq,forceMv_eq l]
 |some (.fz k e bs)::l,K=>by unfold forceMv;rw[kN_eq,forceMv_eq l]
 |some (.asr k A outs)::l,K=>by unfold forceMv;rw[kN_eq,forceLv_eq,forceMv_eq l]
section
variable {P:Program} {T:Tab} {st:Bool}
theorem mcallV {o:Oper} {E:Operand→V} {c:Call} {f:FuncId} {pre post av:List V} {m m1:List (Option Bk)} {ρ φ:List Nat} {gf:Bool} {m0 m2:List Bk} {args0:List V} {res:V} {K:V→List (Option Bk)→Prop} (hM:MCallsG st P f args0 m0 res m2)
  (hK:(res.co3 st (ρ++φ) m1 gf).k fun v=>v.kw fun v=>forceM (putM (fun n b=>b.co st (ρ++φ) m1 gf n) (ρ++φ) m2 m1) fun m'=>forceMv m' fun m'=>K v m')
  (ln:Bool:=false) (ho:o.op= .call c:=by exact rfl) (hc:calleeV E c=some (f,pre,post):=by exact rfl) (hz:frzB ln m (pre++zA T E c.args.toList c.argTypes.toList++post)=some (av,m1):=by exact rfl)
  (_hr:(reach m1 64 (av.flatMap V.nm3) []).reverse=ρ:=by exact rfl) (hg:(av.all V.fl&&flM m1 ρ)=gf:=by exact rfl) (hab:abM ρ m1 ρ=some m0:=by exact rfl) (ha0:av.map (V.ab ρ m1)=args0:=by exact rfl)
  (hchk:(distinctB (ρ++φ)&&(freeB m1 φ&&(kindB m1 ρ m2&&Nat.beq (ρ.length+φ.length) m2.length)))=true:=by exact rfl):
  ∃v m',OpTr P o E m v m'∧v.k fun v=>forceM m' fun m'=>K v m':=by
 refine mcall (T:=T) hM ?_ ln ho hc hz _hr hg hab ha0 hchk
 rw[k_eq] at hK⊢
 rw[V.kw_eq,forceM_eq,forceMv_eq] at hK
 rw[forceM_eq]
 exact hK
end
section
variable {P:Program} {T:Tab} {m m2:List (Option Bk)} {ρ:List Nat}
theorem idx_nin:∀{l:List Nat} {n k:Nat},n∉l→idx l n k=none
 |[],_,_,_=>rfl
 |a::l,n,k,h=>by
  simp only[List.mem_cons,not_or] at h
  unfold idx
  split
  ·rename_i e;exact absurd (Nat.eq_of_beq_eq_true e).symm h.1
  ·exact idx_nin h.2
theorem ab1_up (hup:Up m m2) (hρ:∀n∈ρ,∃b,m[n]?=some (some b)) (v:V):v.ab1 ρ m2=v.ab1 ρ m:=by
 cases v<;>simp only[V.ab1]
 ·rename_i n k
  by_cases hn:n∈ρ
  ·obtain⟨b,hb⟩:=hρ n hn
   rw[hup _ _ hb,hb]
  ·rw[idx_nin hn]
   have h:∀x:Option (Option Bk),(match x with
    |some (some (.row k' _ _ _ _))=>match decide (k=k'),(none:Option Nat) with
     |true,some i=>V.ow i 0
     |_,_=> .un
    |some (some (.asr k' _ _))=>match decide (k=k'),(none:Option Nat) with
     |true,some i=>V.ow i 0
     |_,_=> .un
    |_=> .un)= .un:=by
    intro x
    split<;>first|rfl|(rename_i k' _ _ _ _;cases decide (k=k')<;>rfl)|(rename_i k' _ _;cases decide (k=k')<;>rfl)
   exact(h _).trans (h _).symm
 ·rename_i n k s lo hi
  by_cases hn:n∈ρ
  ·obtain⟨b,hb⟩:=hρ n hn
   rw[hup _ _ hb,hb]
  ·rw[idx_nin hn]
   have h:∀x:Option (Option Bk),(match x with
    |some (some (.row k' _ sz _ _))=>match decide (k=k'∧s=sz),(none:Option Nat) with
     |true,some i=>V.vw i 0 s lo hi
     |_,_=> .un
    |_=> .un)= .un:=by
    intro x
    split<;>first|rfl|(rename_i k' _ sz _ _;cases decide (k=k'∧s=sz)<;>rfl)
   exact(h _).trans (h _).symm
theorem ab_up (hup:Up m m2) (hρ:∀n∈ρ,∃b,m[n]?=some (some b)):V.ab ρ m2=V.ab ρ m:=by
 have h1:V.ab1 ρ m2=V.ab1 ρ m:=funext fun v=>ab1_up hup hρ v
 funext v
 cases v<;>simp only[V.ab,h1]
theorem abM_up (hup:Up m m2) (hρ:∀n∈ρ,∃b,m[n]?=some (some b)):∀{l:List Nat},(∀n∈l,∃b,m[n]?=some (some b))→abM ρ m2 l=abM ρ m l
 |[],_=>rfl
 |n::l,hl=>by
  obtain⟨b,hb⟩:=hl n (by simp)
  have ih:=abM_up hup hρ (l:=l) fun x hx=>hl x (by simp[hx])
  simp only[abM,ih,hup _ _ hb,hb]
  have e:b.ab ρ m2=b.ab ρ m:=by cases b<;>simp only[Bk.ab,ab_up hup hρ]
  cases abM ρ m l with
  |none=>rfl
  |some bs=>exact congrArg (fun x=>some (x::bs)) e
theorem flM_up (hup:Up m m2):∀{l:List Nat},(∀n∈l,∃b,m[n]?=some (some b))→flM m2 l=flM m l
 |[],_=>rfl
 |n::l,hl=>by
  obtain⟨b,hb⟩:=hl n (by simp)
  have ih:=flM_up hup (l:=l) fun x hx=>hl x (by simp[hx])
  unfold flM at ih⊢
  simp only[List.all_cons,ih,hup _ _ hb,hb]
theorem kindB_up (hup:Up m m2):∀{l:List Nat} {bs:List Bk},(∀n∈l,∃b,m[n]?=some (some b))→kindB m2 l bs=kindB m l bs
 |[],bs,_=>by cases bs<;>rfl
 |n::l,[],hl=>rfl
 |n::l,b::bs,hl=>by
  obtain⟨b',hb⟩:=hl n (by simp)
  have ih:=kindB_up hup (l:=l) (bs:=bs) fun x hx=>hl x (by simp[hx])
  unfold kindB
  rw[hup _ _ hb,hb,ih]
theorem verOf_up (hup:Up m m2) {st:Bool} {n:Nat} (h:∃b,m[n]?=some (some b)):verOf st m2 n=verOf st m n:=by
 obtain⟨b,hb⟩:=h
 unfold verOf
 rw[hup _ _ hb,hb]
theorem co1_up (hup:Up m m2) (hρ:∀n∈ρ,∃b,m[n]?=some (some b)) {st g:Bool}:V.co1 st ρ m2 g=V.co1 st ρ m g:=by
 funext v
 cases v<;>simp only[V.co1]
 all_goals
  split<;>first|rfl|(rename_i n _ hn;rw[verOf_up hup (hρ n (List.mem_of_getElem? hn))])|(rename_i n hn;rw[verOf_up hup (hρ n (List.mem_of_getElem? hn))])
theorem co2_up (hup:Up m m2) (hρ:∀n∈ρ,∃b,m[n]?=some (some b)) {st g:Bool}:V.co2 st ρ m2 g=V.co2 st ρ m g:=by
 funext v
 cases v<;>simp only[V.co2,co1_up hup hρ]
theorem co3_up (hup:Up m m2) (hρ:∀n∈ρ,∃b,m[n]?=some (some b)) {st g:Bool}:V.co3 st ρ m2 g=V.co3 st ρ m g:=by
 funext v
 cases v<;>simp only[V.co3,co2_up hup hρ]
theorem bco_up (hup:Up m m2) (hρ:∀n∈ρ,∃b,m[n]?=some (some b)) {st g:Bool} {n:Nat} (hn:n∈ρ) (b:Bk):b.co st ρ m2 g n=b.co st ρ m g n:=by
 cases b<;>simp only[Bk.co,co2_up hup hρ,verOf_up hup (hρ n hn)]
def sameAt (F:Nat→Bk→Bk):List Nat→List Bk→List (Option Bk)→Prop
 |n::l,b::bs,m=>m[n]?=some (some (F n b))∧sameAt F l bs m
 |[],[],_=>True
 |_,_,_=>False
theorem putM_same {F F':Nat→Bk→Bk} (hup:Up m m2):∀{l:List Nat} {bs:List Bk},(∀n∈l,∀b,F' n b=F n b)→sameAt F l bs m→putM F' l bs m2=m2
 |[],[],_,_=>rfl
 |[],_::_,_,h=>h.elim
 |_::_,[],_,h=>h.elim
 |n::l,b::bs,hF,h=>by
  have h1:=hup _ _ h.1
  have h2:m2.set n (some (F' n b))=m2:=by
   rw[hF n (by simp) b]
   refine List.ext_getElem? fun j=>?_
   rw[List.getElem?_set]
   split
   ·rename_i e
    subst e
    rw[h1]
    split
    ·rfl
    ·rename_i hl
     rw[List.getElem?_eq_none (by omega)] at h1;cases h1
   ·rfl
  unfold putM
  rw[h2]
  exact putM_same hup (fun x hx=>hF x (by simp[hx])) h.2
theorem op_mcallC {o:Oper} {E:Operand→V} {c:Call} {f:FuncId} {pre post:List V} {ρ:List Nat} {gf:Bool} {m0:List Bk} {args0:List V} {res:V} (ho:o.op= .call c) (hc:calleeV E c=some (f,pre,post))
  (hg:((pre++zA T E c.args.toList c.argTypes.toList++post).all V.fl&&flM m ρ)=gf) (hab:abM ρ m ρ=some m0) (ha0:(pre++zA T E c.args.toList c.argTypes.toList++post).map (V.ab ρ m)=args0) (hM:MCallsG true P f args0 m0 res m0)
  (hchk:(distinctB ρ&&(kindB m ρ m0&&Nat.beq ρ.length m0.length))=true) (hs:sameAt (fun n b=>b.co true ρ m gf n) ρ m0 m):
  OpRc P o E m (res.co3 true ρ m gf):=by
 intro m2 hup
 have hρ:=abM_mem hab
 simp only[Bool.and_eq_true] at hchk
 obtain⟨h1,h2,h3⟩:=hchk
 have key:=op_mcall (T:=T) (m:=m2) (m1:=m2) (ρ:=ρ) (φ:=[]) (ln:=true) (st:=true) ho hc rfl (gf:=gf) (by rw[flM_up hup hρ];exact hg) (by rw[abM_up hup hρ hρ];exact hab) (by rw[ab_up hup hρ];exact ha0) hM (by
  rw[List.append_nil,kindB_up hup hρ]
  simp only[Bool.and_eq_true]
  exact⟨h1,rfl,h2,h3⟩)
 rw[List.append_nil,co3_up hup hρ,putM_same hup (fun n hn b=>bco_up hup hρ hn b) hs] at key
 exact key
theorem mcallC {o:Oper} {E:Operand→V} {c:Call} {f:FuncId} {pre post:List V} {ρ:List Nat} {gf:Bool} {m0:List Bk} {args0:List V} {res:V} {K:V→List (Option Bk)→Prop} (hM:MCallsG true P f args0 m0 res m0)
  (hK:(res.co3 true ρ m gf).k fun v=>K v m) (ho:o.op= .call c:=by exact rfl) (hc:calleeV E c=some (f,pre,post):=by exact rfl)
  (hg:((pre++zA T E c.args.toList c.argTypes.toList++post).all V.fl&&flM m ρ)=gf:=by exact rfl) (hab:abM ρ m ρ=some m0:=by exact rfl) (ha0:(pre++zA T E c.args.toList c.argTypes.toList++post).map (V.ab ρ m)=args0:=by exact rfl)
  (hchk:(distinctB ρ&&(kindB m ρ m0&&Nat.beq ρ.length m0.length))=true:=by exact rfl) (hs:sameAt (fun n b=>b.co true ρ m gf n) ρ m0 m:=by repeat' (first|exact trivial|refine And.intro rfl ?_)):
  rdK P o E m K:=
 ⟨_,op_mcallC (T:=T) ho hc hg hab ha0 hM hchk hs,hK⟩
end
end Go.Proofs.YtdccglkagfdooaaGreatDoor
namespace Go.Proofs.YtdccglkagfdooaaGreatDoor
open Go.RowKit
theorem at_tr {P:Program} {o:Oper} {E:Operand→V} {m m':List (Option Bk)} {v:V} {K:V→List (Option Bk)→Prop} (h:OpTr P o E m v m') (hK:v.k fun v=>forceM m' fun m'=>K v m'):∃v m',OpTr P o E m v m'∧v.k fun v=>forceM m' fun m'=>K v m':=⟨v,m',h,hK⟩
theorem at_rd {P:Program} {o:Oper} {E:Operand→V} {m:List (Option Bk)} {v:V} {K:V→List (Option Bk)→Prop} (h:OpRd P o E m v) (hK:v.k fun v=>K v m):rdK P o E m K:=⟨v,h.rc,hK⟩
abbrev intC (n:Int):Cl:= .d (.cv (.int .i64 n))
def bM (l:List (Bs×Int)):List (ByteArray×Cl):=l.map fun e=>(mk e.1,intC e.2)
theorem getE_bM:∀(l:List (Bs×Int)) (t:Bs),getE (bM l) (mk t)=(getB l t).map intC
 |[],_=>rfl
 |(k,x)::l,t=>by
  simp only[bM,List.map_cons,getE,getB]
  by_cases h:k=t
  ·rw[if_pos (by rw[h]),if_pos h];rfl
  ·rw[if_neg (fun e=>h (mk_inj e)),if_neg h];exact getE_bM l t
theorem putE_bM:∀(l:List (Bs×Int)) (t:Bs) (x:Int),putE (bM l) (mk t) (intC x)=bM (putB l t x)
 |[],_,_=>rfl
 |(k,y)::l,t,x=>by
  simp only[bM,List.map_cons,putE,putB]
  by_cases h:k=t
  ·rw[if_pos (by rw[h]),if_pos h,h];rfl
  ·rw[if_neg (fun e=>h (mk_inj e)),if_neg h]
   simp only[List.map_cons]
   exact congrArg _ (putE_bM l t x)
theorem delE_bM:∀(l:List (Bs×Int)) (t:Bs),delE (bM l) (mk t)=bM (delB l t)
 |[],_=>rfl
 |(k,y)::l,t=>by
  simp only[bM,List.map_cons,delE,delB]
  by_cases h:k=t
  ·rw[if_pos (by rw[h]),if_pos h]
  ·rw[if_neg (fun e=>h (mk_inj e)),if_neg h]
   simp only[List.map_cons]
   exact congrArg _ (delE_bM l t)
abbrev bMap (W:List (Bs×Int)):Bk:= .asr 0 (mapC (bM W)) []
section
variable {o:Oper} {E:Operand→V} {m:List (Option Bk)} {n k:Nat} {x i y:Operand} {W:List (Bs×Int)} {t:Bs} {v:Int}
theorem look_b (ho:o.op= .lookup 138 x i true) (hx:E x= .ow n k) (hi:E i=bstr t) (hm:m[n]?=some (some (.asr k (mapC (bM W)) []))):OpRd Tryz.prog o E m (.tu [int ((getB W t).getD 0),boo (getB W t).isSome]):=
 rd_look (z:= .int .i64 0) ho Tryz.underlying138 Tryz.underlying9 (by kernel_rfl) hx hi hm (by rw[getE_bM];cases getB W t<;>rfl)
theorem put_b (ho:o.op= .mapUpdate 138 x i y) (hx:E x= .ow n k) (hi:E i=bstr t) (hy:E y=int v) (hm:m[n]?=some (some (.asr k (mapC (bM W)) []))):OpTr Tryz.prog o E m .un (m.set n (some (.asr k (mapC (bM (putB W t v))) []))):=by
 have:=ot_updD (P:=Tryz.prog) (d:= .cv (.int .i64 v)) (f:=true) ho Tryz.underlying138 Tryz.underlying9 hx hi (by rw[hy];rfl) hm
 rwa [putE_bM] at this
theorem ins_b (ho:o.op= .insert 138 x i y) (hx:E x= .ow n k) (hi:E i=bstr t) (hy:E y=int v) (hm:m[n]?=some (some (.asr k (mapC (bM W)) []))):OpTr Tryz.prog o E m .un (m.set n (some (.asr k (mapC (bM (putB W t v))) []))):=by
 have:=ot_insD (P:=Tryz.prog) (d:= .cv (.int .i64 v)) (f:=true) ho Tryz.underlying138 Tryz.underlying9 hx hi (by rw[hy];rfl) hm
 rwa [putE_bM] at this
theorem del_b (ho:o.op= .call {callee:= .builtin .delete,args:= #[x,i],argTypes:= #[138,9]}) (hx:E x= .ow n k) (hi:E i=bstr t) (hm:m[n]?=some (some (.asr k (mapC (bM W)) []))):OpTr Tryz.prog o E m .un (m.set n (some (.asr k (mapC (bM (delB W t))) []))):=by
 have:=ot_delete (P:=Tryz.prog) ho Tryz.underlying138 Tryz.underlying9 hx hi hm
 rwa [delE_bM] at this
end
theorem x_arity (W:List (Bs×Int)) (t:Bs):MCallsG true Tryz.prog 84 [.ow 0 0,bstr t] [bMap W] (.tu [int ((getB W t).getD 0),boo (getB W t).isSome]) [bMap W]:=by
 refine msxx [] Tryz.func84 (by kernel_rfl) (by kernel_rfl) (by rfl) ?_
 conv=>whnf
 refine at_tr (ot_rd (look_b rfl rfl rfl rfl)) ?_
 exact⟨⟨rfl,rfl,rfl⟩,rfl⟩
theorem x_built (t:Bs):DCalls Tryz.prog 129 [bstr t] (.tu [int ((getB builtT t).getD 0),boo (getB builtT t).isSome]):=by
 refine sxm [(84,false)] Tryz.func129 (by kernel_rfl) ?_
 conv=>whnf
 refine at_tr (ot_makeMap rfl rfl rfl) ?_
 conv=>whnf
 refine at_tr (ins_b (W:=[]) rfl rfl rfl rfl rfl) ?_
 repeat' ((conv=>whnf);refine at_tr (ins_b rfl rfl rfl rfl rfl) ?_)
 conv=>whnf
 refine mcall (T:=TT) (φ:=[]) (x_arity builtT t) ?_ (ln:=true)
 (conv=>whnf)<;>rfl
theorem x_hostop (t:Bs):DCalls Tryz.prog 58 [bstr t] (.tu [int ((getB hostT t).getD 0),boo (getB hostT t).isSome]):=by
 refine sxm [(84,false)] Tryz.func58 (by kernel_rfl) ?_
 conv=>whnf
 refine at_tr (ot_makeMap rfl rfl rfl) ?_
 conv=>whnf
 refine at_tr (ins_b (W:=[]) rfl rfl rfl rfl rfl) ?_
 repeat' ((conv=>whnf);refine at_tr (ins_b rfl rfl rfl rfl rfl) ?_)
 conv=>whnf
 refine mcall (T:=TT) (φ:=[]) (x_arity hostT t) ?_ (ln:=true)
 (conv=>whnf)<;>rfl
abbrev scB (p:Pg) (nx:Int) (a b c:Nat):Bk:= .box [.sl false 5 (p.nodes.map ndD),.sl false 3 (p.funcs.map fcD),.ow a 0,int nx,.ow b 0,.ow c 0]
abbrev slR (l:List Int):Bk:= .row 0 3 1 false (l.map intD)
abbrev erR (l:List Int):Bk:= .row 0 29 1 false (l.map intD)
abbrev scN (p:Pg) (vis:List (Bs×Int)) (nx:Int) (sl er:List Int):List Bk:=[scB p nx 1 2 3,bMap vis,slR sl,erR er]
abbrev scM (p:Pg) (s:Scp):List Bk:=scN p s.vis s.nx s.sl s.er
theorem put_int (l:List Int) (i:Nat) (v:Int) (h:i<l.length):(l.map intD).set ((i:Nat):Int).toNat (List.take 0 (intD l[i])++[D.cv (.int .i64 v)]++List.drop (0+[D.cv (.int .i64 v)].length) (intD l[i]))=(l.set i v).map intD:=by
 rw[List.map_set,Int.toNat_natCast];rfl
theorem letS_eq (i:Nat) (t:Bs) (vis:List (Bs×Int)) (nx:Int) (sl er:List Int):letS i t ⟨vis,nx,sl,er⟩=match getB vis t with
  |some _=>⟨vis,IntKind.i64.wrap (nx+1),sl.set i nx,er.set i 6⟩
  |none=>if nx=32 then⟨vis,IntKind.i64.wrap (nx+1),sl.set i nx,er.set i 3⟩ else⟨putB vis t nx,IntKind.i64.wrap (nx+1),sl.set i nx,er⟩:=by
 unfold letS
 cases getB vis t<;>rfl
theorem x_let (p:Pg) (vis:List (Bs×Int)) (nx:Int) (sl er:List Int) (i:Nat) (t:Bs) (h1:i<sl.length) (h2:i<er.length):
  MCallsG true Tryz.prog 132 [.bx 0 0,int i,bstr t] (scN p vis nx sl er) (.tu []) (scM p (letS i t ⟨vis,nx,sl,er⟩)):=by
 have hs:=letS_eq i t vis nx sl er
 refine msxx [] Tryz.func132 (by kernel_rfl) (by kernel_rfl) (by rfl) ?_
 conv=>whnf
 refine⟨Int.natCast_nonneg i,by rw[List.length_map,Int.toNat_natCast];exact h1,?_⟩
 conv=>whnf
 refine⟨_,get_map intD h1,Nat.le_refl _,?_⟩
 rw[put_int sl i nx h1]
 conv=>whnf
 refine at_tr (ot_rd (look_b rfl rfl rfl rfl)) ?_
 conv=>whnf
 rintro(_|_) g1
 ·have g1:getB vis t=none:=by simpa using g1
  rw[g1] at hs
  dsimp only at hs
  conv=>whnf
  rintro(_|_) g2
  ·have g2:nx≠32:=by simpa using g2
   rw[if_neg g2] at hs
   rw[hs]
   conv=>whnf
   refine at_tr (put_b rfl rfl rfl rfl rfl) ?_
   conv=>whnf
   exact⟨⟨rfl,rfl,rfl⟩,rfl⟩
  ·have g2:nx=32:=by simpa using g2
   rw[if_pos g2] at hs
   rw[hs]
   conv=>whnf
   refine⟨Int.natCast_nonneg i,by rw[List.length_map,Int.toNat_natCast];exact h2,?_⟩
   conv=>whnf
   refine⟨_,get_map intD h2,Nat.le_refl _,?_⟩
   rw[put_int er i 3 h2]
   conv=>whnf
   exact⟨⟨rfl,rfl,rfl⟩,rfl⟩
 ·obtain⟨v,g1⟩:∃v,getB vis t=some v:=by
   cases e:getB vis t with
   |none=>rw[e] at g1;cases g1
   |some v=>exact⟨v,rfl⟩
  rw[g1] at hs
  dsimp only at hs
  rw[hs]
  conv=>whnf
  refine⟨Int.natCast_nonneg i,by rw[List.length_map,Int.toNat_natCast];exact h2,?_⟩
  conv=>whnf
  refine⟨_,get_map intD h2,Nat.le_refl _,?_⟩
  rw[put_int er i 6 h2]
  conv=>whnf
  exact⟨⟨rfl,rfl,rfl⟩,rfl⟩
end Go.Proofs.YtdccglkagfdooaaGreatDoor
namespace Go.Proofs.YtdccglkagfdooaaGreatDoor
open Go.RowKit
def fdM:List (Nat×Bool):=[(170,false),(165,false)]
def findN (x:Bs):List Fc→Nat→Int
 |[],_=> -1
 |s::l,i=>if s.name==x then i else findN x l (i+1)
theorem findN_cons (x:Bs) (s:Fc) (l:List Fc) (i:Nat):findN x (s::l) i=if s.name==x then(i:Int) else findN x l (i+1):=rfl
theorem x_fnd1 (f:Fc) (x:Bs):MCalls Tryz.prog 170 [.ag [bstr f.name,.sl false 1 (f.params.map strD),int f.body],.bx 0 0] [.box [bstr x]] (boo (sEq (mk f.name) (mk x))) [.box [bstr x]]:=by
 refine msx Tryz.func170 (by kernel_rfl) (by kernel_rfl) ?_
 exact⟨rfl,rfl,rfl⟩
theorem x_indexFc (l:List Fc) (x:Bs) (hl:l.length≤8796093022207):
  MCalls Tryz.prog 165 [.sl false 3 (l.map fcD),.fn 170 0 [.bx 0 0]] [.box [bstr x]] (int (findN x l 0)) [.box [bstr x]]:=by
 refine msxm fdM Tryz.func165 (by kernel_rfl) (by kernel_rfl) ?_
 conv=>whnf
 refine⟨[],Nat,fun k=>[(8,int k)],fun _=>[],fun k=>k≤l.length∧findN x (l.drop k) k=findN x l 0,fun k=>l.length - k,0,⟨by simp,rfl⟩,?_,?_⟩
 ·refine⟨rfl,?_,?_⟩<;>repeat' (first|exact trivial|exact rfl|refine and_rfl ?_|refine and_two ?_ ?_)
 rintro k ⟨hk,hf⟩
 conv=>whnf
 rintro(_|_) h1
 ·have h1:l.length≤k:=by simp at h1;omega
  rw[List.drop_eq_nil_of_le h1] at hf
  exact⟨rfl,rfl,by rw[←hf];rfl⟩
 have h1:k<l.length:=by simp at h1;omega
 rw[List.drop_eq_getElem_cons h1,findN_cons] at hf
 conv=>whnf
 refine⟨by omega,_,get_map fcD h1,?_⟩
 conv=>whnf
 refine mcall (T:=TM fdM) (φ:=[]) (x_fnd1 l[k] x) ?_
 conv=>whnf
 rintro(_|_) h2
 ·rw[sEq_mk] at h2
  rw[h2,if_neg (by simp)] at hf
  conv=>whnf
  refine⟨k+1,⟨h1,hf⟩,by dsimp only;omega,?_⟩
  refine⟨rfl,?_,?_⟩<;>repeat' (first|exact trivial|exact rfl|refine and_rfl ?_|refine and_val (wrap_succ (by omega)) ?_|refine and_two ?_ ?_)
 ·rw[sEq_mk] at h2
  rw[h2,if_pos rfl] at hf
  exact⟨rfl,rfl,by rw[←hf];rfl⟩
theorem x_sfind (p:Pg) (x:Bs) (hl:p.funcs.length≤8796093022207):DCalls Tryz.prog 130 [p.V,bstr x] (int (findN x p.funcs 0)):=by
 refine sxm fdM Tryz.func130 (by kernel_rfl) ?_
 conv=>whnf
 refine mcall (T:=TM fdM) (φ:=[]) (x_indexFc p.funcs x hl) ?_
 rfl
end Go.Proofs.YtdccglkagfdooaaGreatDoor
