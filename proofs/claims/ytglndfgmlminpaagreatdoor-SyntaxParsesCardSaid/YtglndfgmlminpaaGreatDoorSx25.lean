/- Texts joined by pack.py: XSxBu XSxAs XSxFl XSyXA XLx23h XLx23a XLx23b XLx23c XLx23 XSyXB XSyXC -/
import Derived.Test.YtglndfgmlminpaaGreatDoorSx15
import Derived.Lib.Builder
import Derived.Shelf.Strings.Builder1
import Derived.Test.YtglndfgmlminpaaGreatDoorSx12
import Derived.Lib.AppendStr
import Derived.Test.YtglndfgmlminpaaGreatDoorSx13
import Derived.Test.YtglndfgmlminpaaGreatDoorSx23
import Derived.Test.YtglndfgmlminpaaGreatDoorSx24
import Derived.Test.YtglndfgmlminpaaGreatDoorSx20
set_option maxHeartbeats 4000000
set_option maxRecDepth 100000
namespace Go.Proofs.YtglndfgmlminpaaGreatDoor
open Go.RowKit Go.Shelf
section
variable {P:Program} {o:Oper} {E:Operand→V} {m:List (Option Bk)} {x:Operand}
theorem heap_shape {w:World} {g ty:Nat} {us:Array Value} {fr:Nat×Nat} (h:w.heap[g]?=some (.cells us ty fr)):w.shape? g=some (ty,us.size):=by
 simp[World.shape?,h]
theorem ot_unsafe {n ty sp dp t sz:Nat} {cs:List V} (ho:o.op= .convert sp dp x) (hx:E x= .bx n 0) (hm:m[n]?=some (some (.box cs (some ty)))) (hs:P.underlying sp=some (.pointer t)) (hd:P.underlying dp=some .unsafePointer)
  (ht:(P.info? t).map (·.size)=some sz) (h0:(sz !=0&&decide (0<cs.length))=true):OpTr P o E m (.bx n 0) m:=by
 intro B w0 N S tt a w hsat hr
 have h:=hr x (by rw[ho];simp[Op.operands])
 rw[hx] at h
 generalize hv:a.eval x=u at h
 cases h
 rename_i b hn
 simp only[Bool.and_eq_true,bne_iff_ne,ne_eq,decide_eq_true_eq] at h0
 obtain⟨g,ty',us,e1,e2,e3,_⟩:=hsat.blk n _ hm
 rw[hn] at e1;cases e1
 obtain⟨j,hj,hjs⟩:=Option.map_eq_some_iff.1 ht
 refine opOk_val (u:= .pointer (some ⟨b,0,none⟩)) (w':=w) ?_ ⟨N,S,hsat,.bx n 0 b hn⟩
 unfold execOp
 simp only[ho]
 refine run_v ?_
 rw[hv]
 exact Lib.run_to_unsafe w ⟨b,0,none⟩ hs hd hj (by rw[hjs];exact h0.1) (heap_shape e2) (by simp only;omega)
theorem ot_safe {n ty sp dp t sz len:Nat} {cs:List V} (ho:o.op= .convert sp dp x) (hx:E x= .bx n 0) (hm:m[n]?=some (some (.box cs (some ty)))) (hs:P.underlying sp=some .unsafePointer) (hd:P.underlying dp=some (.pointer t))
  (ht:(P.info? t).map (·.size)=some sz) (hl:cs.length=len) (hlies:liesAt P P.depth ty (len / P.cellsOf ty) 0 t 1=true):OpTr P o E m (.bx n 0) m:=by
 intro B w0 N S tt a w hsat hr
 have h:=hr x (by rw[ho];simp[Op.operands])
 rw[hx] at h
 generalize hv:a.eval x=u at h
 cases h
 rename_i b hn
 obtain⟨g,ty',us,e1,e2,e3,_⟩:=hsat.blk n _ hm
 rw[hn] at e1;cases e1
 obtain⟨j,hj,hjs⟩:=Option.map_eq_some_iff.1 ht
 refine opOk_val (u:= .pointer (some ⟨b,0,none⟩)) (w':=w) ?_ ⟨N,S,hsat,.bx n 0 b hn⟩
 unfold execOp
 simp only[ho]
 refine run_v ?_
 rw[hv]
 exact Lib.run_from_unsafe w ⟨b,0,none⟩ hs hd hj (heap_shape e2) (by
  show liesAt P P.depth ((some ty).getD ty') (us.size / P.cellsOf ((some ty).getD ty')) 0 t 1=true
  rw[←e3,hl]
  exact hlies)
theorem ot_noescape {f:FuncId} {fn:Func} {c:Call} {v:V} (hf:P.funcs[f]?=some fn) (hname:(fn.name== "runtime.NumGoroutine")=false) (hb:fn.body.isNone=true) (hn:Extern.findNext fn=none) (he:Extern.find fn=some Extern.AbiNoEscape.same)
  (ho:o.op= .call c) (hc:c.callee= .value (.func f)) (hargs:c.args.toList=[x]) (hx:E x=v):OpTr P o E m v m:=by
 intro B w0 N S tt a w hsat hr
 have e1:c.args= #[x]:=by apply Array.ext';simpa using hargs
 have h:=hr x (by rw[ho];simp[Op.operands,Call.operands,e1])
 rw[hx] at h
 generalize hv:a.eval x=u at h
 refine opOk_val (u:=u) (w':=w) ?_ ⟨N,S,hsat,h⟩
 have hrun:=run_callFunc_extern hf hname hb hn he #[u] w
 rw[Lib.run_noEscape] at hrun
 simp only[Result.andThen] at hrun
 have hcal:a.eval (.func f)= .func (.func f) #[] #[]:=rfl
 unfold execOp
 simp only[ho]
 simp[resolve,hc,e1,hv,hcal,Deferred.ofValue,invoke,hrun]
end
section
variable {P:Program} {ρ:Ren}
theorem string_row (L:Lays.n169 P ρ) (X:Builder.Extra P ρ) (b g cap cells:Nat) (l:List UInt8) (w:World) (h0:l≠[]) (c1:w.cell? ⟨b,1,none⟩=some (.slice (some ⟨g,0,none⟩) l.length cap)) (hsh:w.shape? g=some (ρ.t 5,cells)) (hle:l.length≤cells) (hlc:l.length≤cap) (hcap:cap≤maxLen)
  (hcell:∀j x,l[j]?=some x→w.cell? ((⟨g,0,none⟩:Addr).add j)=some (.int .u8 x.toNat)):
  Calls P (ρ.f 169) #[.pointer (some ⟨b,0,none⟩)] w fun e w'=>e= .returned (.string ⟨l.toArray⟩)∧w'=w.drew.freeze ⟨g,0,none⟩ l.length:=by
 have hl0:l.length≠0:=by simpa using h0
 replace c1:w.drew.cell? ⟨b,1,none⟩=some (.slice (some ⟨g,0,none⟩) l.length cap):=c1
 have hSD:(Builtin.unsafeSliceData_ #[(ρ.t 37)] (ρ.t 127) #[.slice (some ⟨g,0,none⟩) l.length cap]).run P w.drew= .ok (.pointer (some ⟨g,0,none⟩)) w.drew:=
  Lib.run_unsafeSliceData_row _ _ _ _ _ _ (by omega)
 have hUS:(Builtin.unsafeString_ #[(ρ.t 127),(ρ.t 3)] (ρ.t 9) #[.pointer (some ⟨g,0,none⟩),.int .i64 l.length]).run P w.drew= .ok (.string ⟨l.toArray⟩) (w.drew.freeze ⟨g,0,none⟩ l.length):=
  Lib.run_unsafeString_row w.drew (ρ.t 127) (ρ.t 3) (ρ.t 9) (ρ.t 5) L.t127 X.cellsByte g cells hsh l h0 hle (by unfold maxLen at hcap;omega) hcell
 have mixed:=L.mixed
 have t72:=L.t72;have a72:=L.a72;have z72:=L.z72;have v72:=L.v72;have u72:=run_underlying L.t72
 have t70:=L.t70;have a70:=L.a70;have z70:=L.z70;have v70:=L.v70;have u70:=run_underlying L.t70
 have t37:=L.t37;have a37:=L.a37;have z37:=L.z37;have v37:=L.v37;have u37:=run_underlying L.t37
 have t127:=L.t127;have a127:=L.a127;have z127:=L.z127;have v127:=L.v127;have u127:=run_underlying L.t127
 have t3:=L.t3;have a3:=L.a3;have z3:=L.z3;have v3:=L.v3;have u3:=run_underlying L.t3
 have t9:=L.t9;have a9:=L.a9;have z9:=L.z9;have v9:=L.v9;have u9:=run_underlying L.t9
 have t5:=X.t5;have a5:=X.a5;have z5:=X.z5;have v5:=X.v5;have u5:=run_underlying X.t5
 clear hcell hsh hcap hlc hle
 go_enter L.f169,Body.n169_ntmps ρ
 go_wp2
 go_region_o
 all_goals(go_wp2;go_ret;exact⟨rfl,rfl⟩)
theorem freeze_heap (w:World) (g n:Nat) (h0:n≠0) (us:Array Value) (E:Nat) (fr:Nat×Nat) (h:w.heap[g]?=some (.cells us E fr)):(∃fr',(w.drew.freeze ⟨g,0,none⟩ n).heap[g]?=some (.cells us E fr'))∧(∀k,k≠g→(w.drew.freeze ⟨g,0,none⟩ n).heap[k]?=w.heap[k]?)∧
  (w.drew.freeze ⟨g,0,none⟩ n).heap.size=w.heap.size∧(w.drew.freeze ⟨g,0,none⟩ n).os=w.os∧(w.drew.freeze ⟨g,0,none⟩ n).tape=w.tape∧(w.drew.freeze ⟨g,0,none⟩ n).output=w.output:=by
 have e:w.drew.heap=w.heap:=rfl
 unfold World.freeze
 rw[if_neg h0]
 refine⟨?_,fun k hk=>?_,?_,rfl,rfl,rfl⟩
 ·obtain⟨lo,hi⟩:=fr
  simp only[e]
  rw[Array.getElem?_modify,if_pos rfl,h]
  exact⟨_,rfl⟩
 ·simp only[e]
  rw[Array.getElem?_modify,if_neg (fun h=>hk h.symm)]
 ·simp[e]
variable {o:Oper} {E:Operand→V} {m:List (Option Bk)} {x:Operand}
theorem string_tr (L:Lays.n169 P ρ) (X:Builder.Extra P ρ) {n r k:Nat} {bt:Option Nat} {cs:List V} {l:List UInt8} {c:Call} (ho:o.op= .call c) (hc:c.callee= .value (.func (ρ.f 169))) (hargs:c.args.toList=[x]) (hx:E x= .bx n 0)
  (hm:m[n]?=some (some (.box cs bt))) (h1:cs[1]?=some (.ow r k)) (h0:l≠[]) {b0:Bk} (hb0:m[r]?=some (some b0))
  (hb:∀(N:Names) (S:Sets) (w:World) (H:Nat),Holds H N S w r b0→∃g cap us fr,N r=some (k,.slice (some ⟨g,0,none⟩) l.length cap)∧w.heap[g]?=some (.cells us (ρ.t 5) fr)∧l.length≤cap∧cap≤maxLen∧us.size=cap∧∀(j:Nat) (x:UInt8),l[j]?=some x→us[j]?=some (Value.int .u8 (x.toNat:Nat))):
  OpTr P o E m (.cv (.string ⟨l.toArray⟩)) (m.set r (some (.fz k (ρ.t 5) l))):=by
 intro B w0 N S tt a w hsat hr
 have e1:c.args= #[x]:=by apply Array.ext';simpa using hargs
 have h:=hr x (by rw[ho];simp[Op.operands,Call.operands,e1])
 rw[hx] at h
 generalize hv:a.eval x=u at h
 cases h
 rename_i b hn
 obtain⟨g0,ty0,us0,q1,q2,q3,q4⟩:=hsat.blk n _ hm
 rw[hn] at q1;cases q1
 obtain⟨g,cap,us,fr,p1,p2,p3,p4,p5,p6⟩:=hb N S w _ (hsat.blk r b0 hb0)
 have hr1:=q4 1 _ h1
 have hlt1:=lt_of_get h1
 generalize hz:us0.getD 1 undef=z at hr1
 cases hr1
 rename_i hz1 hnr
 obtain⟨k',v',s1,s2,s3⟩:=hnr
 rw[p1] at s1;cases s1
 have hzv:=s3 rfl
 have hl0:l.length≠0:=by simpa using h0
 have c1:w.cell? ⟨b,1,none⟩=some (.slice (some ⟨g,0,none⟩) l.length cap):=by
  rw[cell_of_row w b 1 us0 _ _ q2,←hzv,←hz,Array.getD_eq_getD_getElem?,Array.getElem?_eq_getElem (by omega)]
  rfl
 have hcall:=string_row L X b g cap us.size l w h0 c1 (heap_shape p2) (by omega) p3 p4 (fun j y hj=>by
  have:(⟨g,0,none⟩:Addr).add j=⟨g,j,none⟩:=by unfold Addr.add;split<;>simp_all
  rw[this,cell_of_row w g j us _ _ p2]
  exact p6 j y hj)
 obtain⟨⟨fr',f1⟩,f2,f3,f4,f5,f6⟩:=freeze_heap w g l.length hl0 us _ fr p2
 generalize hw':w.drew.freeze ⟨g,0,none⟩ l.length=w' at hcall f1 f2 f3 f4 f5 f6
 have hown:=hsat.own r _ _ g p1 rfl
 obtain⟨N',g1,g2,g3⟩:=hsat.set (w':=w') (d:=r) (k:=k) (v:= .slice (some ⟨g,0,none⟩) l.length cap) (b:= .fz k (ρ.t 5) l) (lt_of_get hb0)
  (fun k0 v0 h=>by rw[p1] at h;cases h;exact .inl ⟨rfl,rfl⟩)
  ⟨f4.trans hsat.low.os,f5.trans hsat.low.tape,f6.trans hsat.low.output,by rw[f3];exact hsat.low.size,fun j hj=>(f2 j fun e=>hown.1 (e▸hj)).trans (hsat.low.block j hj)⟩
  (by rw[f3];exact Nat.le_refl _) (fun j hj hk=>f2 j fun e=>hk _ _ p1 (by rw[e];rfl))
  (fun j hj=>by cases hj;exact⟨by rw[f3];exact hown.2,.inr ⟨_,_,p1,rfl⟩⟩)
  (fun N' g1 g2 g3=>⟨g,cap,us,fr',g1,f1,p3,p4,p5,p6⟩)
 refine opOk_enter (f:=ρ.f 169) (args:= #[.pointer (some ⟨b,0,none⟩)]) ?_ (hcall.mono ?_)
 ·have e169:∀args w,(callFunc (ρ.f 169) args).run P w= .ok (.enter (ρ.f 169) args) w:=enters_of L.f169 (by kernel_rfl) rfl
  have hcal:a.eval (.func (ρ.f 169))= .func (.func (ρ.f 169)) #[] #[]:=rfl
  unfold execOp
  simp only[ho]
  simp[resolve,hc,e1,hv,hcal,Deferred.ofValue,invoke,e169]
 ·rintro e w2 ⟨rfl,rfl⟩
  exact⟨_,rfl,N',S,g3,.cv _⟩
theorem ot_string1 (L:Lays.n169 P ρ) (X:Builder.Extra P ρ) {n r k:Nat} {bt:Option Nat} {f:Bool} {cs:List V} {l:List UInt8} {c:Call} (ho:o.op= .call c) (hc:c.callee= .value (.func (ρ.f 169))) (hargs:c.args.toList=[x]) (hx:E x= .bx n 0)
  (hm:m[n]?=some (some (.box cs bt))) (h1:cs[1]?=some (.ow r k)) (h0:l≠[]) (hb0:m[r]?=some (some (.row k (ρ.t 5) 1 f (l.map byteD)))):OpTr P o E m (.cv (.string ⟨l.toArray⟩)) (m.set r (some (.fz k (ρ.t 5) l))):=by
 refine string_tr L X ho hc hargs hx hm h1 h0 hb0 fun N S w H h=>?_
 obtain⟨v,us,b1,b2,b3,b4,b5,b6⟩:=h
 rw[List.length_map] at b2
 have hl0:l.length≠0:=by simpa using h0
 rcases b2.2 with⟨_,hz⟩|⟨g,cap,cu,rfl,_,hg,hle,hcm,hcs,htk⟩
 ·exact absurd hz hl0
 ·refine⟨g,cap,cu,_,b1,hg,hle,hcm,by simpa using hcs,fun j y hj=>?_⟩
  obtain⟨u,hu,hr⟩:=b5 j 0 (.cv (.int .u8 (y.toNat:Nat))) (by rw[List.getElem?_map,hj];rfl)
  cases hr
  rw[Nat.mul_one,Nat.add_zero,←htk,List.getElem?_take] at hu
  split at hu
  ·rw[Array.getElem?_toList] at hu;exact hu
  ·cases hu
theorem ot_string2 (L:Lays.n169 P ρ) (X:Builder.Extra P ρ) {n r k:Nat} {bt:Option Nat} {cs:List V} {l:List UInt8} {c:Call} (ho:o.op= .call c) (hc:c.callee= .value (.func (ρ.f 169))) (hargs:c.args.toList=[x]) (hx:E x= .bx n 0)
  (hm:m[n]?=some (some (.box cs bt))) (h1:cs[1]?=some (.ow r k)) (h0:l≠[]) (hb0:m[r]?=some (some (.fz k (ρ.t 5) l))):OpTr P o E m (.cv (.string ⟨l.toArray⟩)) (m.set r (some (.fz k (ρ.t 5) l))):=
 string_tr L X ho hc hargs hx hm h1 h0 hb0 fun _ _ _ _ h=>h
end
end Go.Proofs.YtglndfgmlminpaaGreatDoor
namespace Go.Proofs.YtglndfgmlminpaaGreatDoor
open Go.RowKit
section
variable {P:Program} {o:Oper} {E:Operand→V} {m:List (Option Bk)} {x y:Operand}
theorem ot_appendS {n k:Nat} {f:Bool} {l:List UInt8} {s:ByteArray} {c:Call} {ty tu e:TypeId} (ho:o.op= .call c) (hc:c.callee= .builtin .append) (hargs:c.args.toList=[x,y]) (htys:c.argTypes.toList=[ty,tu])
  (hx:E x= .ow n k) (hy:E y= .cv (.string s)) (hm:m[n]?=some (some (.row k e 1 f (l.map byteD))))
  (ht:P.underlying ty=some (.slice e)) (hu:P.underlying tu=some .string) (hi:(P.info? e).map (fun i=>(i.size,i.bytes,i.zero))=some (1,1,some (.int .u8 0))) (hb:l.length+s.size≤140737488355328):
  OpTr P o E m (.ow n (k+1)) (m.set n (some (.row (k+1) e 1 f ((l++s.data.toList).map byteD)))):=by
 intro B w0 N S t a w hsat hr
 obtain⟨i,hi,hie⟩:=Option.map_eq_some_iff.1 hi
 simp only[Prod.mk.injEq] at hie
 obtain⟨hsz,hby,hz⟩:=hie
 have e1:=arr2 hargs
 have e2:=arr2 htys
 have hrx:=hr x (by rw[ho];simp[Op.operands,Call.operands,e1])
 have hry:=hr y (by rw[ho];simp[Op.operands,Call.operands,e1])
 rw[hx] at hrx
 rw[hy] at hry
 generalize hux:a.eval x=u at hrx
 generalize huy:a.eval y=uy at hry
 cases hry
 cases hrx
 rename_i hu1 hn
 obtain⟨k0,v,hn,hk,he⟩:=hn
 obtain⟨v2,us,b1,b2,b3,b4,b5,b6⟩:=hsat.blk n _ hm
 rw[hn] at b1;cases b1
 have:=he rfl
 subst this
 rw[List.length_map] at b2
 obtain⟨v',w',hrun,hown,hgr,_⟩:=Lib.run_append_own_string (P:=P) w 0 ty tu o.type e i ht hu hi hz hsz hby u l.length us b2 s (by simp only[maxLen];omega) hb (Nat.zero_le _)
 have hvs0:∃A l c,u= .slice A l c:=by obtain⟨A,c,h⟩:=own_parts b2;exact⟨_,_,_,h⟩
 have hvs:∃A l c,v'= .slice A l c:=by obtain⟨A,c,h⟩:=own_parts hown;exact⟨_,_,_,h⟩
 have hv1:v'.oneCell'=true:=by obtain⟨A,l,c,rfl⟩:=hvs;rfl
 have hat:∀g,atOf v'=some g→w.heap.size≤g∨atOf u=some g:=by
  intro g hg
  rcases b2.2 with⟨rfl,hl0⟩|⟨g0,cap0,cu,rfl,hbg,hg0,hnc,hcm,hcs,htake⟩
  ·have hl:us=[]:=List.eq_nil_of_length_eq_zero (by have:=b2.1;omega)
   subst hl
   have hown2:w.ownsRow w.heap.size e 1 (.slice none 0 0) l.length []:=by rw[hl0];exact World.ownsRow_nil w _ e 1
   obtain⟨v3,w3,hr3,hown3,_⟩:=Lib.run_append_own_string (P:=P) w w.heap.size ty tu o.type e i ht hu hi hz hsz hby _ l.length [] hown2 s (by simp only[maxLen];omega) hb (Nat.le_refl _)
   rw[hrun] at hr3;cases hr3
   rcases hown3.2 with⟨rfl,_⟩|⟨g1,cap1,cu1,rfl,hb1,_⟩
   ·simp[atOf] at hg
   ·simp[atOf] at hg;subst hg;exact .inl hb1
  ·by_cases hroom:l.length+s.size≤cap0
   ·have hcs':cu.size=cap0:=by simpa using hcs
    have hr2:=Lib.run_append_room_string (P:=P) w ty tu o.type e i ht hu hi hsz g0 l.length cap0 cu hg0 s hroom (by omega)
    rw[hrun] at hr2;cases hr2
    exact .inr hg
   ·have holds:∀j u,us[j]?=some u→w.cell? ((⟨g0,0,none⟩:Addr).add j)=some u:=b2.cells (g:=g0) rfl
    have hxl:us.length=l.length:=by simpa using b2.1
    have hr2:=Lib.run_append_grow_string (P:=P) w ty tu o.type e i (.int .u8 0) ht hu hi hz ⟨g0,0,none⟩ l.length cap0 us (by rw[hsz];simpa using hxl) holds s (by omega) (by omega) (by rw[hby];exact growslice_fits (by omega) (by omega))
    rw[hrun] at hr2;cases hr2
    simp[atOf] at hg;subst hg;exact .inl (Nat.le_refl _)
 obtain⟨N',g1,g2,g3⟩:=hsat.set (w':=w') (d:=n) (k:=k+1) (v:=v') (b:= .row (k+1) e 1 f ((l++s.data.toList).map byteD)) (lt_of_get hm)
  (fun k0 v0 h=>by rw[hn] at h;cases h;exact .inr ⟨hvs0,by omega⟩)
  (hsat.low.grown hgr hsat.base (fun q hq=>(hsat.own n _ _ q hn (by rw[←atOf_own hvs0];exact hq)).1)) hgr.size (fun g hg hk=>hgr.block g hg (by rw[atOf_own hvs0];exact fun e=>hk _ _ hn e.symm))
  (fun g hg=>by
   have hlt:=hown.lt g (by rw[atOf_own hvs];exact hg)
   refine⟨hlt.2,?_⟩
   rcases hat g hg with h|h
   ·exact .inl h
   ·exact .inr ⟨_,_,hn,h⟩)
  (fun N' g1 g2 g3=>⟨v',us++Lib.strCells s,g1,by rw[List.length_map,List.length_append];exact hown,(fun x hx=>by
    obtain⟨c,_,rfl⟩:=List.mem_map.1 hx;rfl),by omega,(fun i' j' d' hd'=>by
   have hul:us.length=l.length:=by simpa using b2.1
   rw[List.getElem?_map] at hd'
   cases hq:(l++s.data.toList)[i']? with
   |none=>rw[hq] at hd';cases hd'
   |some c=>
    rw[hq] at hd'
    cases j' with
    |succ j'=>simp[byteD] at hd'
    |zero=>
     obtain rfl:D.cv (.int .u8 (c.toNat:Nat))=d':=by simpa[byteD] using hd'
     rw[List.getElem?_append] at hq
     split at hq
     ·rename_i hlt
      obtain⟨u',hu1',hu2'⟩:=b5 i' 0 (.cv (.int .u8 (c.toNat:Nat))) (by rw[List.getElem?_map,hq];rfl)
      refine⟨u',?_,g3 _ _ _ hu2'⟩
      rw[List.getElem?_append_left (lt_of_get hu1')];exact hu1'
     ·rename_i hlt
      refine⟨.int .u8 (c.toNat:Nat),?_,.cv _ rfl⟩
      rw[List.getElem?_append_right (by omega),hul,show i'*1+0 - l.length=i' - l.length by omega]
      simp[Lib.strCells,hq]),fun e g hg=>by
   rcases hat g hg with h|h
   ·exact Nat.le_trans hsat.size h
   ·exact b6 e g h⟩)
 refine opOk_val (u:=v') (w':=w') ?_ ⟨N',S,g3,.ow n (k+1) _ hv1 ⟨k+1,v',g1,Nat.le_refl _,fun _=>rfl⟩⟩
 unfold execOp
 simp only[ho]
 simp[resolve,hc,e1,e2,invoke,builtin,hux,huy,hrun]
end
end Go.Proofs.YtglndfgmlminpaaGreatDoor
namespace Go.Proofs.YtglndfgmlminpaaGreatDoor
open Go.RowKit
section
variable {P:Program} {T:Tab}
theorem op_own {o:Oper} {E:Operand→V} {m m':List (Option Bk)} {v:V} {n k k2 E1 sz1 E2 sz2:Nat} {xs1 xs2:List (List D)} (h:OpTr P o E m v m') (hm:m[n]?=some (some (.row k E1 sz1 true xs1)))
  (hm':m'[n]?=some (some (.row k2 E2 sz2 false xs2))) (hf:Flat xs2):OpTr P o E m v (m'.set n (some (.row k2 E2 sz2 true xs2))):=by
 intro B w0 N S t a w hs hx
 obtain⟨v0,us,e1,e2,e3,e4,e5,e6⟩:=hs.blk n _ hm
 let B':Fr:={B with stay:=fun j=>if j=n then some (atOf v0) else B.stay j,free:=true}
 have hs':Sat B' w0 N S t m a w:=⟨hs.low,hs.nodef,hs.tmps,hs.blk,hs.non,hs.apart,hs.data,hs.fresh,hs.own,hs.base,hs.old,hs.lent,⟨hs.more.size,hs.more.ghost,hs.more.aside,hs.more.inv⟩,fun j og hj=>by
  refine⟨.inl rfl,?_⟩
  simp only[B'] at hj
  split at hj
  ·rename_i hjn;subst hjn;cases hj;exact⟨_,v0,e1,fun g hg=> .inl hg⟩
  ·exact(hs.stay j og hj).2⟩
 intro Q
 refine Oper.wp_mono' (h B' w0 N S t a w hs' hx Q) ?_
 rintro a' w' ⟨u,he,N',S',h2,hr⟩
 refine⟨u,he,N',S',?_,hr⟩
 obtain⟨v2,us2,f1,f2,f3,f4,f5,f6⟩:=h2.blk n _ hm'
 have hnew:∀g,atOf v2=some g→w0.heap.size≤g:=by
  obtain⟨_,x,v3,g1,g2⟩:=h2.stay n (atOf v0) (by simp[B'])
  rw[f1] at g1;cases g1
  intro g hg
  rcases g2 g hg with g3|g3
  ·exact e6 rfl g g3
  ·exact g3
 have hlt:=lt_of_get hm'
 refine⟨h2.low,h2.nodef,h2.tmps,fun j b hb=>?_,fun j hj=>?_,h2.apart,h2.data,h2.fresh,h2.own,h2.base,h2.old,h2.lent,⟨h2.more.size,h2.more.ghost,h2.more.aside,h2.more.inv⟩,fun j og hj=>?_⟩
 ·by_cases hjn:j=n
  ·subst hjn
   rw[List.getElem?_set_self hlt] at hb
   cases hb
   refine⟨v2,us2,f1,f2,f3,f4,fun i q d hd=>?_,fun _ g hg=>hnew g hg⟩
   obtain⟨u,hu,hrel⟩:=f5 i q d hd
   refine⟨u,hu,?_⟩
   obtain⟨x,hx1,hx2⟩:=Option.bind_eq_some_iff.1 hd
   obtain⟨c,rfl⟩:=hf x (List.mem_of_getElem? hx1) d (List.mem_of_getElem? hx2)
   cases hrel
   exact .cv _ (by assumption)
  ·rw[List.getElem?_set_ne (Ne.symm hjn)] at hb
   exact h2.blk j b hb
 ·by_cases hjn:j=n
  ·subst hjn
   exact absurd (List.getElem?_set_self hlt) (hj _)
  ·exact h2.non j fun b hb=>hj b (by rw[List.getElem?_set_ne (Ne.symm hjn)];exact hb)
 ·refine⟨(hs.stay j og hj).1,?_⟩
  by_cases hjn:j=n
  ·subst hjn
   exact⟨_,v2,f1,fun g hg=> .inr (hnew g hg)⟩
  ·exact(h2.stay j og (by simp only[B'];rw[if_neg hjn];exact hj)).2
theorem mcallR {st:Bool} {o:Oper} {E:Operand→V} {c:Call} {f:FuncId} {pre post av:List V} {m m1:List (Option Bk)} {ρ φ:List Nat} {gf:Bool} {m0 m2:List Bk} {args0:List V} {res:V} {K:V→List (Option Bk)→Prop} {k k2 E1 sz1 E2 sz2:Nat} {xs1 xs2:List (List D)} (n:Nat) (hM:MCallsG st P f args0 m0 res m2) (hf:Flat xs2)
  (hK:(res.co3 st (ρ++φ) m1 gf).k fun v=>forceM ((putM (fun n b=>b.co st (ρ++φ) m1 gf n) (ρ++φ) m2 m1).set n (some (.row k2 E2 sz2 true xs2))) fun m'=>K v m')
  (ln:Bool:=false) (ho:o.op= .call c:=by exact rfl) (hc:calleeV E c=some (f,pre,post):=by exact rfl) (hz:frzB ln m (pre++zA T E c.args.toList c.argTypes.toList++post)=some (av,m1):=by exact rfl)
  (_hr:(reach m1 64 (av.flatMap V.nm3) []).reverse=ρ:=by exact rfl) (hg:(av.all V.fl&&flM m1 ρ)=gf:=by exact rfl) (hab:abM ρ m1 ρ=some m0:=by exact rfl) (ha0:av.map (V.ab ρ m1)=args0:=by exact rfl)
  (hchk:(distinctB (ρ++φ)&&(freeB m1 φ&&(kindB m1 ρ m2&&Nat.beq (ρ.length+φ.length) m2.length)))=true:=by exact rfl)
  (hm:m[n]?=some (some (.row k E1 sz1 true xs1)):=by exact rfl) (hm':(putM (fun n b=>b.co st (ρ++φ) m1 gf n) (ρ++φ) m2 m1)[n]?=some (some (.row k2 E2 sz2 false xs2)):=by exact rfl):
  ∃v m',OpTr P o E m v m'∧v.k fun v=>forceM m' fun m'=>K v m':=
 ⟨_,_,op_own (op_mcall (T:=T) ho hc hz hg hab ha0 hM hchk) hm hm' hf,hK⟩
theorem mcallR2 {st:Bool} {o:Oper} {E:Operand→V} {c:Call} {f:FuncId} {pre post av:List V} {m m1:List (Option Bk)} {ρ φ:List Nat} {gf:Bool} {m0 m2:List Bk} {args0:List V} {res:V} {K:V→List (Option Bk)→Prop} {k k2 E1 sz1 E2 sz2 j j2 F1 rz1 F2 rz2:Nat} {xs1 xs2 ys1 ys2:List (List D)} (n p:Nat) (hM:MCallsG st P f args0 m0 res m2) (hf:Flat xs2) (hf2:Flat ys2)
  (hK:(res.co3 st (ρ++φ) m1 gf).k fun v=>forceM (((putM (fun n b=>b.co st (ρ++φ) m1 gf n) (ρ++φ) m2 m1).set n (some (.row k2 E2 sz2 true xs2))).set p (some (.row j2 F2 rz2 true ys2))) fun m'=>K v m')
  (ln:Bool:=false) (ho:o.op= .call c:=by exact rfl) (hc:calleeV E c=some (f,pre,post):=by exact rfl) (hz:frzB ln m (pre++zA T E c.args.toList c.argTypes.toList++post)=some (av,m1):=by exact rfl)
  (_hr:(reach m1 64 (av.flatMap V.nm3) []).reverse=ρ:=by exact rfl) (hg:(av.all V.fl&&flM m1 ρ)=gf:=by exact rfl) (hab:abM ρ m1 ρ=some m0:=by exact rfl) (ha0:av.map (V.ab ρ m1)=args0:=by exact rfl)
  (hchk:(distinctB (ρ++φ)&&(freeB m1 φ&&(kindB m1 ρ m2&&Nat.beq (ρ.length+φ.length) m2.length)))=true:=by exact rfl)
  (hm:m[n]?=some (some (.row k E1 sz1 true xs1)):=by exact rfl) (hm':(putM (fun n b=>b.co st (ρ++φ) m1 gf n) (ρ++φ) m2 m1)[n]?=some (some (.row k2 E2 sz2 false xs2)):=by exact rfl)
  (hq:m[p]?=some (some (.row j F1 rz1 true ys1)):=by exact rfl) (hq':((putM (fun n b=>b.co st (ρ++φ) m1 gf n) (ρ++φ) m2 m1).set n (some (.row k2 E2 sz2 true xs2)))[p]?=some (some (.row j2 F2 rz2 false ys2)):=by exact rfl):
  ∃v m',OpTr P o E m v m'∧v.k fun v=>forceM m' fun m'=>K v m':=
 ⟨_,_,op_own (op_own (op_mcall (T:=T) ho hc hz hg hab ha0 hM hchk) hm hm' hf) hq hq' hf2,hK⟩
end
end Go.Proofs.YtglndfgmlminpaaGreatDoor
namespace Go.Proofs.YtglndfgmlminpaaGreatDoor
open Go.RowKit
def prM:List (Nat×Bool):=[(36,false),(39,false),(40,false),(41,false),(73,false),(118,false),
 (160,false),(121,false),(161,false),(179,false),(180,false),(181,false),(182,false),
 (183,false),(184,false),(204,false),(38,false),(76,false),(1000133,false),(1000065,false)]
theorem pcx {f:FuncId} {fn:Func} (hf:Tryz.prog.funcs[f]?=some fn) (hn:(fn.name== "runtime.NumGoroutine")=false) {args:List V} {m:List Bk} {res:V} {m':List Bk} (h16:(decide (args.length≤fn.ntmps)&&decide (m.length≤16))=true)
  (h:BodyM (fun vs=>vs.flatMap V.bn) Tryz.prog (TM prM) fn args m res m'):MCalls Tryz.prog f args m res m':=
 mcalls_of (tokM prM) mixed hf hn h16 h
abbrev wBox (a:V) (n1:Nat) (l:List Nd):Bk:= .box [a,.ow n1 0,.sl false 5 (l.map ndD)] (some 70)
abbrev wRow (bs:Bs):Bk:= .row 0 5 1 false (bs.map byteD)
abbrev nilP:V:= .cv (.pointer none)
abbrev wM (bs:Bs) (l:List Nd):List Bk:=[wBox (.bx 0 0) 1 l,wRow bs]
abbrev wF (bs:Bs) (l:List Nd):List Bk:=[wBox nilP 1 l,wRow bs]
section
variable {bs:Bs} {l:List Nd}
theorem x_ccU:MCalls Tryz.prog 73 [.bx 0 0] (wM bs l) (.tu []) (wM bs l):=by
 refine pcx Tryz.func73 (by kernel_rfl) (by kernel_rfl) ?_
 conv=>whnf
 refine known false rfl ?_
 conv=>whnf
 refine⟨rfl,rfl,?_⟩
 conv=>whnf
 refine known false rfl ?_
 conv=>whnf
 exact⟨rfl,rfl,rfl⟩
theorem x_ccF:MCalls Tryz.prog 73 [.bx 0 0] (wF bs l) (.tu []) (wM bs l):=by
 refine pcx Tryz.func73 (by kernel_rfl) (by kernel_rfl) ?_
 conv=>whnf
 refine known true rfl ?_
 conv=>whnf
 refine⟨_,_,ot_unsafe (sz:=2) rfl rfl rfl Tryz.underlying65 Tryz.underlying133 (by kernel_rfl) rfl,?_⟩
 conv=>whnf
 refine⟨_,_,ot_noescape Tryz.func118 (by kernel_rfl) (by kernel_rfl) (by kernel_rfl) (by kernel_rfl) rfl rfl rfl rfl,?_⟩
 conv=>whnf
 refine⟨_,_,ot_safe (sz:=2) (len:=3) rfl rfl rfl Tryz.underlying133 Tryz.underlying65 (by kernel_rfl) rfl (by kernel_rfl),?_⟩
 conv=>whnf
 exact⟨rfl,rfl,rfl⟩
theorem x_wsU (s:Bs) (hb:bs.length+s.length≤140737488355328):MCalls Tryz.prog 36 [.bx 0 0,bstr s] (wM bs l) (.tu [int s.length,.cv .nilIface]) (wM (bs++s) l):=by
 refine pcx Tryz.func36 (by kernel_rfl) (by kernel_rfl) ?_
 conv=>whnf
 refine mcall (T:=TM prM) (φ:=[]) (gf:=false) x_ccU ?_
 conv=>whnf
 refine⟨_,_,ot_appendS (l:=bs) (s:=mk s) rfl rfl rfl rfl rfl rfl rfl (by kernel_rfl) (by kernel_rfl) (by kernel_rfl) (by rw[mk_size];omega),?_⟩
 conv=>whnf
 exact⟨rfl,rfl,by rw[mk_size];rfl⟩
theorem x_wsF (s:Bs) (hb:bs.length+s.length≤140737488355328):MCalls Tryz.prog 36 [.bx 0 0,bstr s] (wF bs l) (.tu [int s.length,.cv .nilIface]) (wM (bs++s) l):=by
 refine pcx Tryz.func36 (by kernel_rfl) (by kernel_rfl) ?_
 conv=>whnf
 refine mcall (T:=TM prM) (φ:=[]) (gf:=false) x_ccF ?_
 conv=>whnf
 refine⟨_,_,ot_appendS (l:=bs) (s:=mk s) rfl rfl rfl rfl rfl rfl rfl (by kernel_rfl) (by kernel_rfl) (by kernel_rfl) (by rw[mk_size];omega),?_⟩
 conv=>whnf
 exact⟨rfl,rfl,by rw[mk_size];rfl⟩
theorem x_wbU (c:UInt8) (hb:bs.length+1≤140737488355328):MCalls Tryz.prog 39 [.bx 0 0,.cv (.int .u8 (c.toNat:Nat))] (wM bs l) (.cv .nilIface) (wM (bs++[c]) l):=by
 refine pcx Tryz.func39 (by kernel_rfl) (by kernel_rfl) ?_
 conv=>whnf
 refine mcall (T:=TM prM) (φ:=[]) (gf:=false) x_ccU ?_
 conv=>whnf
 refine⟨by rw[List.length_map];show(bs.length+1)*1≤_;omega,?_⟩
 conv=>whnf
 exact⟨rfl,by rw[show wM (bs++[c]) l=[wBox (.bx 0 0) 1 l,.row 0 5 1 false (bs.map byteD++[byteD c])] by simp only[wM,wRow,List.map_append,List.map_cons,List.map_nil]];rfl,rfl⟩
theorem x_wlen (_hb:bs.length≤140737488355328):MCalls Tryz.prog 40 [.bx 0 0] (wM bs l) (int bs.length) (wM bs l):=by
 refine pcx Tryz.func40 (by kernel_rfl) (by kernel_rfl) ?_
 conv=>whnf
 exact⟨rfl,rfl,by rw[List.length_map];rfl⟩
end
end Go.Proofs.YtglndfgmlminpaaGreatDoor
namespace Go.Proofs.YtglndfgmlminpaaGreatDoor
open Go.RowKit
theorem contB_len {l:Bs} (h:contB l=true):l.length≤200:=by unfold contB at h;simp at h;exact h.1
end Go.Proofs.YtglndfgmlminpaaGreatDoor
namespace Go.Proofs.YtglndfgmlminpaaGreatDoor
open Go.RowKit
end Go.Proofs.YtglndfgmlminpaaGreatDoor
namespace Go.Proofs.YtglndfgmlminpaaGreatDoor
open Go.RowKit
end Go.Proofs.YtglndfgmlminpaaGreatDoor
namespace Go.Proofs.YtglndfgmlminpaaGreatDoor
open Go.RowKit
end Go.Proofs.YtglndfgmlminpaaGreatDoor
namespace Go.Proofs.YtglndfgmlminpaaGreatDoor
open Go.RowKit
end Go.Proofs.YtglndfgmlminpaaGreatDoor
namespace Go.Proofs.YtglndfgmlminpaaGreatDoor
open Go.RowKit
section
variable {bs:Bs} {l:List Nd}
theorem plit {a:Bs} {d:Array UInt8} {b:Bool} (h:(a==d.toList)=b):((mk a).toList==(⟨d⟩:ByteArray).toList)=b:=(litE a d).trans h
def levN (n:Nd):Int:=if n.kind=9 then binL n.text else if n.kind=8 then(if n.text=wNot then 3 else 7) else if n.kind=10 then 8 else 9
theorem x_level (i:Nat) (hi:i<l.length):MCalls Tryz.prog 160 [.bx 0 0,int i] (wM bs l) (int (levN l[i])) (wM bs l):=by
 have hg:(l.map ndD)[((i:Nat):Int).toNat]?=some (ndD l[i]):=get_map ndD hi
 generalize l[i]=n at hg⊢
 obtain⟨k,s,v,ks,js⟩:=n
 refine pcx Tryz.func160 (by kernel_rfl) (by kernel_rfl) ?_
 conv=>whnf
 refine⟨Int.natCast_nonneg i,_,hg,?_⟩
 conv=>whnf
 rintro(_|_) h1
 rotate_left
 ·have h1:k=9:=by simpa using h1
  subst h1
  conv=>whnf
  refine⟨_,x_sbinary s,?_⟩
  conv=>whnf
  exact⟨rfl,rfl,rfl⟩
 have h1:k≠9:=by simpa using h1
 conv=>whnf
 rintro(_|_) h2
 rotate_left
 ·have h2:k=8:=by simpa using h2
  subst h2
  by_cases hs:s=wNot
  ·subst hs
   conv=>whnf
   refine known true (plit rfl) ?_
   conv=>whnf
   exact⟨rfl,rfl,rfl⟩
  ·rw[show levN ⟨8,s,v,ks,js⟩=7 by unfold levN;simp[hs]]
   conv=>whnf
   refine known false (plit (by simpa[wNot] using hs)) ?_
   conv=>whnf
   exact⟨rfl,rfl,rfl⟩
 have h2:k≠8:=by simpa using h2
 conv=>whnf
 rintro(_|_) h3
 ·have h3:k≠10:=by simpa using h3
  rw[show levN ⟨k,s,v,ks,js⟩=9 by unfold levN;simp[h1,h2,h3]]
  conv=>whnf
  exact⟨rfl,rfl,rfl⟩
 ·have h3:k=10:=by simpa using h3
  subst h3
  conv=>whnf
  exact⟨rfl,rfl,rfl⟩
def Wr (f:FuncId) (args:List V) (l:List Nd) (p:Bs):Prop:=∀bs:Bs,bs.length+p.length≤70368744177664→MCalls Tryz.prog f (.bx 0 0::args) (wM bs l) (.tu []) (wM (bs++p) l)
abbrev BareOk (l:List Nd) (i:Nat) (p:Bs):Prop:=Wr 161 [int i] l p
abbrev ExprOk (l:List Nd) (i:Nat) (req:Int) (p:Bs):Prop:=Wr 121 [int i,int req] l p
theorem x_pexpr {i:Nat} {p:Bs} (req:Int) (hi:i<l.length) (hB:BareOk l i p):ExprOk l i req (if levN l[i]<req then 40::(p++[41]) else p):=by
 intro bs hb
 refine pcx Tryz.func121 (by kernel_rfl) (by kernel_rfl) ?_
 conv=>whnf
 refine mcall (T:=TM prM) (φ:=[]) (gf:=false) (x_level i hi) ?_
 conv=>whnf
 rintro(_|_) h1
 ·have h1:¬levN l[i]<req:=by simpa using h1
  rw[if_neg h1] at hb⊢
  conv=>whnf
  refine mcall (T:=TM prM) (φ:=[]) (gf:=false) (hB bs hb) ?_
  conv=>whnf
  exact⟨rfl,rfl,rfl⟩
 ·have h1:levN l[i]<req:=by simpa using h1
  rw[if_pos h1] at hb⊢
  simp only[List.length_cons,List.length_append,List.length_nil] at hb
  conv=>whnf
  refine mcall (T:=TM prM) (φ:=[]) (gf:=false) (x_wbU (l:=l) (bs:=bs) 40 (by omega)) ?_
  conv=>whnf
  refine mcall (T:=TM prM) (φ:=[]) (gf:=false) (hB (bs++[40]) (by simp only[List.length_cons,List.length_append,List.length_nil];omega)) ?_
  conv=>whnf
  refine mcall (T:=TM prM) (φ:=[]) (gf:=false) (x_wbU (l:=l) (bs:=bs++[40]++p) 41 (by simp only[List.length_cons,List.length_append,List.length_nil];omega)) ?_
  conv=>whnf
  exact⟨rfl,by rw[show bs++40::(p++[41])=bs++[40]++p++[41] by simp];rfl,rfl⟩
def comB:List Bs→Bs
 |[]=>[]
 |[p]=>p
 |p::q::ps=>p++44::32::comB (q::ps)
end
end Go.Proofs.YtglndfgmlminpaaGreatDoor
namespace Go.Proofs.YtglndfgmlminpaaGreatDoor
open Go.RowKit
section
variable {l:List Nd}
theorem catL (d:Array UInt8) (s:Bs):(⟨d⟩:ByteArray)++mk s=mk (d.toList++s):=by
 rw[←mk_app];rfl
theorem catR (d:Array UInt8) (s:Bs):mk s++(⟨d⟩:ByteArray)=mk (s++d.toList):=by
 rw[←mk_app];rfl
theorem size_d (d:Array UInt8):(⟨d⟩:ByteArray).size=d.toList.length:=by simp[ByteArray.size]
theorem x_oper {k v:Int} {s:Bs} {ks:List Bs} {q1 q2:Nat} {p1 p2:Bs} (hs:s.length≤1000) (h1:ExprOk l q1 (if binL s=4 then 5 else binL s) p1) (h2:ExprOk l q2 (binL s+1) p2) (hbl: -1000≤binL s∧binL s≤1000):
  Wr 183 [.ag [int k,bstr s,int v,.sl false 1 (ks.map strD),.sl false 1 ([(q1:Int),(q2:Int)].map intD)]] l (p1++32::(s++32::p2)):=by
 intro bs hb
 simp only[List.length_append,List.length_cons] at hb
 have hw:IntKind.i64.wrap (binL s+1)=binL s+1:=wrap_in (by omega)
 refine pcx Tryz.func183 (by kernel_rfl) (by kernel_rfl) ?_
 conv=>whnf
 refine⟨_,x_sbinary s,?_⟩
 conv=>whnf
 rw[hw]
 conv=>whnf
 rintro(_|_) h4
 ·have h4:binL s≠4:=by simpa using h4
  rw[if_neg h4] at h1
  conv=>whnf
  refine⟨by decide,_,rfl,?_⟩
  conv=>whnf
  refine mcall (T:=TM prM) (φ:=[]) (gf:=false) (h1 bs (by omega)) ?_
  conv=>whnf
  refine⟨none,by kernel_rfl,?_⟩
  conv=>whnf
  refine⟨by rw[mk_size,size_d];show 1+_≤_;omega,?_⟩
  conv=>whnf
  rw[catL]
  refine⟨by rw[mk_size,size_d,List.length_append];show 1+_+1≤_;omega,?_⟩
  conv=>whnf
  rw[catR]
  refine mcall (T:=TM prM) (φ:=[]) (gf:=false) (x_wsU (l:=l) (bs:=bs++p1) ([32]++s++[32]) (by simp only[List.length_append,List.length_cons,List.length_nil];omega)) ?_
  conv=>whnf
  refine⟨by decide,_,rfl,?_⟩
  conv=>whnf
  refine mcall (T:=TM prM) (φ:=[]) (gf:=false) (h2 (bs++p1++([32]++s++[32])) (by simp only[List.length_append,List.length_cons,List.length_nil];omega)) ?_
  conv=>whnf
  exact⟨rfl,by rw[show bs++(p1++32::(s++32::p2))=bs++p1++([32]++s++[32])++p2 by simp];rfl,rfl⟩
 ·have h4:binL s=4:=by simpa using h4
  rw[if_pos h4] at h1
  conv=>whnf
  refine⟨by decide,_,rfl,?_⟩
  conv=>whnf
  refine mcall (T:=TM prM) (φ:=[]) (gf:=false) (h1 bs (by omega)) ?_
  conv=>whnf
  refine⟨none,by kernel_rfl,?_⟩
  conv=>whnf
  refine⟨by rw[mk_size,size_d];show 1+_≤_;omega,?_⟩
  conv=>whnf
  rw[catL]
  refine⟨by rw[mk_size,size_d,List.length_append];show 1+_+1≤_;omega,?_⟩
  conv=>whnf
  rw[catR]
  refine mcall (T:=TM prM) (φ:=[]) (gf:=false) (x_wsU (l:=l) (bs:=bs++p1) ([32]++s++[32]) (by simp only[List.length_append,List.length_cons,List.length_nil];omega)) ?_
  conv=>whnf
  refine⟨by decide,_,rfl,?_⟩
  conv=>whnf
  refine mcall (T:=TM prM) (φ:=[]) (gf:=false) (h2 (bs++p1++([32]++s++[32])) (by simp only[List.length_append,List.length_cons,List.length_nil];omega)) ?_
  conv=>whnf
  exact⟨rfl,by rw[show bs++(p1++32::(s++32::p2))=bs++p1++([32]++s++[32])++p2 by simp];rfl,rfl⟩
end
end Go.Proofs.YtglndfgmlminpaaGreatDoor
