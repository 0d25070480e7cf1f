/- Texts joined by pack.py: XSxRc XSyT XSyU XSxDp XSyV XSyWI XStH -/
import Derived.Test.YtdccglkagfdooaaGreatDoorBz38
import Derived.Test.YtdccglkagfdooaaGreatDoorBz37
import Derived.Test.YtdccglkagfdooaaGreatDoorBz31
import Derived.Test.YtdccglkagfdooaaGreatDoorBz16
import Derived.Test.YtdccglkagfdooaaGreatDoorBz28
set_option maxHeartbeats 8000000
set_option maxRecDepth 100000
namespace Go.Proofs.YtdccglkagfdooaaGreatDoor
open Go.RowKit
section
variable {P:Program} {T:Tab} {B:Fr} {w0:World} {N:Names} {S:Sets} {t t':List V} {m m':List (Option Bk)} {a:Act} {w:World} {ops:Array Oper}
theorem wpOpsS_step {Q:Exit→Act→List Frame→World→Prop} {i:Nat} {rest:List Nat} {o:Oper} {cs:List Frame} (ho:ops[i]?=some o) (hw:Region.wanted o (yielded ops a.tmps)=true)
  (h:o.wp P a w (fun a' w'=>wpOpsS P ops Q rest a' cs w') (fun e a' w'=>Q e a' cs w')):wpOpsS P ops Q (i::rest) a cs w:=by
 simp only[wpOpsS,ho,hw,if_true]
 unfold Oper.wp at h
 split
 ·rename_i w' hr
  rw[hr] at h
  exact h.elim
 ·exact h
theorem opsS_sound (hT:TOk P T) {K:St→Prop} {Q:Exit→Act→List Frame→World→Prop} {cs:List Frame} (hKQ:∀a w,OkSt B w0 K a w→Q .normal a cs w):∀(l:List Oper) (is:List Nat) (a:Act) (w:World),is.map (fun i=>ops[i]?)=l.map some→
  OkSt B w0 (fun st=>awpOps P T ops l st K) a w→wpOpsS P ops Q is a cs w
 |[],is,a,w,he,h=>by
  have:is=[]:=by simpa using he
  subst this
  exact hKQ a w h
 |o::l,is,a,w,he,⟨N,S,t,m,hs,h⟩=>by
  cases is with
  |nil=>simp at he
  |cons i is=>
   simp only[List.map_cons,List.cons.injEq] at he
   obtain⟨ho,he⟩:=he
   simp only[awpOps] at h
   obtain⟨v,m',t',h1,h2,h3⟩:=aOp_spec h rfl
   have hst:=step_sound hT hs h1 (K:=fun st=>∃t',nfEq st.t t'∧awpOps P T ops l ⟨t',st.m⟩ K) ⟨t',h2,h3⟩ (K':=fun a' w'=>wpOpsS P ops Q is a' cs w') (Q:=fun e a' w'=>Q e a' cs w') fun a w ⟨N,S,t,m,hs,t',he2,h⟩=>opsS_sound hT hKQ l is a w he ⟨N,S,t',m,hs.nf he2,h⟩
   cases hw:Region.wanted o (yielded ops a.tmps) with
   |true=>
    rw[hw] at hst
    simp only[if_true] at hst
    rcases yields_wanted hs h1 with⟨_,hTr⟩|⟨hw2,_,_⟩
    ·refine wpOpsS_step ho hw ?_
     have:=aCore_sound hT hs (hTr (fun v m'=>∃t',nfEq (putL t o.dst v) t'∧awpOps P T ops l ⟨t',m'⟩ K) ⟨t',h2,h3⟩) (fun e a' w'=>Q e a' cs w')
     refine Oper.wp_mono' this ?_
     rintro a' w' ⟨u,rfl,N1,S1,v1,m2,hs1,hr,t2,he2,hk⟩
     exact opsS_sound hT hKQ l is _ w' he ⟨N1,S1,t2,m2,(hs1.put hr o.dst).nf he2,hk⟩
    ·rw[hw] at hw2;cases hw2
   |false=>
    rw[hw] at hst
    simp only[Bool.false_eq_true,if_false] at hst
    simp only[wpOpsS,ho,hw,Bool.false_eq_true,if_false]
    exact hst
def RecAt (mode mode':FrameMode) (vr:Value):Prop:=∀(c₀:Frame) (cs:List Frame),c₀.mode=mode→(match recoverD (c₀::cs) with
 |some (v,cs')=>v=vr∧cs'={c₀ with mode:=mode'}::cs
 |none=>vr= .nilIface∧mode'=mode)
theorem rec_panic (v:Value):RecAt (.panicking [{v:=v,recovered:=false}]) (.panicking [{v:=v,recovered:=true}]) v:=fun c₀ cs h=>by
 simp[recoverD,h]
theorem rec_idle:RecAt .returning .returning .nilIface:=fun c₀ cs h=>by
 simp[recoverD,h]
def BodyR (sd:List V→List Nat) (P:Program) (T:Tab) (fn:Func) (args:List V) (m0:List Bk) (vr:Value) (m1:List Bk):Prop:=
 match fn.body with
 |some (.seq (.region _ ops false) rest)=>(match ops.toList with
  |o0::l=>(match o0.dst with
   |some d=>o0.guard.isNone=true∧(∀(ρ:Operand→Value) (w:World),(execOp ρ o0).run P w= .ok .recover w)∧enterMK fn args m0 fun st=>setK st.t d (.cv vr) fun t=>awpOps P T ops l ⟨t,st.m⟩ fun st=>awp P T rest st (DoneM sd T fn m0.length (.tu []) m1)
   |none=>False)
  |[]=>False)
 |_=>False
theorem rcatch_of {sd:List V→List Nat} (hT:TOk P T) (hm:P.follows .mixedOrders=true) {f:FuncId} {fn:Func} (hf:P.funcs[f]?=some fn) {args:List V} {m0 m1:List Bk} {mode mode':FrameMode} {vr:Value} (hrec:RecAt mode mode' vr)
  (h16:(decide (args.length≤fn.ntmps)&&decide (m0.length≤16))=true) (h:BodyR sd P T fn args m0 vr m1):
  ∀(w:World) (vs ns:List Value) (So:Nat→Prop),MemOk w.heap.size (oldS So) w ns m0→RelL (NamesOf ns) (oldS So) w args vs→
   CallsD P f vs.toArray mode w fun e u' w'=>e= .returned (.tuple #[])∧u'=mode'∧∃ns',MemOk w.heap.size (newS So w w' ns') w' ns' m1∧Low (fun g=>g<w.heap.size∧¬blks ns g) w w'∧
    (∀(k:Nat) (a:Addr),ns[k]?=some (.pointer (some a))→ns'[k]?=some (.pointer (some a))):=by
 simp only[Bool.and_eq_true,decide_eq_true_eq] at h16
 unfold BodyR at h
 split at h
 rotate_left
 ·exact h.elim
 rename_i id ops rest hb
 split at h
 rotate_left
 ·exact h.elim
 rename_i o0 l hops
 split at h
 rotate_left
 ·exact h.elim
 rename_i d hd
 obtain⟨hg,hx,h⟩:=h
 intro w vs ns So hmem hvs
 refine callsD_of_wpS hf hb fun c₀ cs hu=>?_
 apply wpS_seq
 apply wpS_region
 simp only[enterMK,forceAll_eq,forceM_eq,setK_eq] at h
 have hsz:ops.size=l.length+1:=by rw[←Array.length_toList,hops];rfl
 have ho0:ops[0]?=some o0:=by rw[←Array.getElem?_toList,hops];rfl
 have hw:Region.wanted o0 (yielded ops (vs.toArray++Array.replicate (fn.ntmps - vs.toArray.size) undef))=true:=by
  simp only[Option.isNone_iff_eq_none] at hg
  simp[Region.wanted,hg]
 rw[hsz,List.range_succ_eq_map]
 have hsat:=sat_enterM hmem hvs fn.ntmps h16.1 h16.2
 have hsat2:=hsat.put (v:= .cv vr) (u:=vr) (.cv vr) (some d)
 have rest0:∀cs',cs'={c₀ with mode:=mode'}::cs→wpOpsS P ops (Exit.thenS (rest.wpS P (bodyPostS P fn c₀ cs fun e u' w'=>e= .returned (.tuple #[])∧u'=mode'∧∃ns',MemOk w.heap.size (newS So w w' ns') w' ns' m1∧Low (fun g=>g<w.heap.size∧¬blks ns g) w w'∧
       (∀(k:Nat) (a:Addr),ns[k]?=some (.pointer (some a))→ns'[k]?=some (.pointer (some a))))) (bodyPostS P fn c₀ cs fun e u' w'=>e= .returned (.tuple #[])∧u'=mode'∧∃ns',MemOk w.heap.size (newS So w w' ns') w' ns' m1∧Low (fun g=>g<w.heap.size∧¬blks ns g) w w'∧
       (∀(k:Nat) (a:Addr),ns[k]?=some (.pointer (some a))→ns'[k]?=some (.pointer (some a))))) ((List.range l.length).map Nat.succ) (({tmps:=vs.toArray++Array.replicate (fn.ntmps - vs.toArray.size) undef,defers:=[]}:Act).put (some d) vr) cs' w:=by
  rintro cs' rfl
  refine opsS_sound hT (B:=frM w ns So fn.ntmps) (w0:=w) (K:=fun st=>awp P T rest st (DoneM sd T fn m0.length (.tu []) m1)) ?_ l _ _ w ?_ ⟨_,_,_,_,hsat2,h⟩
  ·intro a1 w1 h1
   show rest.wpS P _ a1 _ w1
   refine wpS_of_wp (Go.wp_mono (awp_sound hT hm ⟨by intro p hp;simp[frM] at hp,rfl⟩ rest _ a1 w1 h1) ?_)
   have key:=doneM_ret (P:=P) (sd:=sd) (st:=false) (fn:=fn) (res:= .tu []) (m1:=m1) hT hmem
   have fin:∀(a:Act) (w':World),OkSt (frM w ns So fn.ntmps) w (DoneM sd T fn m0.length (.tu []) m1 .ret) a w'→a.defers=[]∧∃u',({c₀ with mode:=mode'}::cs:List Frame)={c₀ with mode:=u'}::cs∧∃v,(results fn a.tmps).run P w'= .ok v w'∧(Ending.returned v= .returned (.tuple #[])∧u'=mode'∧∃ns',MemOk w.heap.size (newS So w w' ns') w' ns' m1∧Low (fun g=>g<w.heap.size∧¬blks ns g) w w'∧
    (∀(k:Nat) (a:Addr),ns[k]?=some (.pointer (some a))→ns'[k]?=some (.pointer (some a)))):=by
    intro a w' h
    obtain⟨c1,v,c2,v',ns',c3,c4,c5,c6,_,c7,_⟩:=key a w' (by obtain⟨N,S,t,m,hs,h⟩:=h;exact⟨N,S,t,m,hs,h,fun e=>by cases e⟩)
    cases c3
    refine⟨c1,mode',rfl,v,c2,?_,rfl,ns',c4,c6,c7⟩
    cases c5 with
    |tu _ us hl _=>
     have:us= #[]:=Array.eq_empty_of_size_eq_zero (by simpa using hl.symm)
     rw[this]
   intro e a2 w2 h2
   cases e<;>simp only[QK] at h2<;>first|exact h2.elim|skip
   ·exact fin a2 w2 h2
   ·obtain⟨N,S,t,m,hs,h⟩:=h2;exact h.elim
   ·exact fin a2 w2 h2
  ·apply List.ext_getElem?
   intro j
   simp only[List.map_map,List.getElem?_map]
   rcases Nat.lt_or_ge j l.length with hj|hj
   ·rw[List.getElem?_range hj,List.getElem?_eq_getElem hj]
    simp only[Option.map_some,Option.some.injEq]
    show ops[j+1]?=some l[j]
    rw[←Array.getElem?_toList,hops]
    simp[hj]
   ·rw[List.getElem?_eq_none (by simpa using hj),List.getElem?_eq_none hj];rfl
 simp only[wpOpsS,ho0,hw,if_true]
 rw[hx]
 have hr:=hrec c₀ cs hu
 dsimp only
 cases hq:recoverD (c₀::cs) with
 |none=>
  rw[hq] at hr
  obtain⟨rfl,rfl⟩:=hr
  dsimp only
  rw[hd]
  refine rest0 _ ?_
  rw[←hu]
 |some p=>
  obtain⟨v,cs'⟩:=p
  rw[hq] at hr
  obtain⟨rfl,hr⟩:=hr
  dsimp only
  rw[hd]
  exact rest0 _ hr
theorem ot_assert {o:Oper} {E:Operand→V} {x:Operand} {xt ty:Nat} {c:Value} (ho:o.op= .typeAssert x xt ty true) (hx:E x= .cv (.iface ty (.agg #[c]))) (hu:∃fs,P.underlying ty=some (.struct fs)):OpTr P o E m (.tu [.ag [.cv c],.cv (.bool true)]) m:=by
 intro B w0 N S t a w hs hr Q
 have h:=hr x (by rw[ho];simp[Op.operands])
 rw[hx] at h
 generalize hv:a.eval x=u at h
 cases h
 obtain⟨fs,hu⟩:=hu
 unfold Oper.wp
 have e:(execOp a.eval o).run P w= .ok (.value (.tuple #[.agg #[c],.bool true])) w:=by
  unfold execOp
  simp only[ho]
  refine run_v ?_
  rw[hv]
  simp[Instr.typeAssert,run_underlying hu]
 rw[e]
 refine⟨_,rfl,N,S,hs,.tu _ _ rfl fun i v hv=>?_⟩
 rcases i with _|_|i
 ·cases hv
  exact .ag _ _ rfl fun j w hw=>by
   rcases j with _|j
   ·cases hw;exact .cv _
   ·simp at hw
 ·cases hv;exact .cv _
 ·simp at hv
theorem ot_assert0 {o:Oper} {E:Operand→V} {x:Operand} {xt ty:Nat} {c:Value} (ho:o.op= .typeAssert x xt ty true) (hx:E x= .cv .nilIface) (hu:∃fs,P.underlying ty=some (.struct fs)) (hz:∀w,(zeroValue ty).run P w= .ok (.agg #[c]) w):OpTr P o E m (.tu [.ag [.cv c],.cv (.bool false)]) m:=by
 intro B w0 N S t a w hs hr Q
 have h:=hr x (by rw[ho];simp[Op.operands])
 rw[hx] at h
 generalize hv:a.eval x=u at h
 cases h
 obtain⟨fs,hu⟩:=hu
 unfold Oper.wp
 have e:(execOp a.eval o).run P w= .ok (.value (.tuple #[.agg #[c],.bool false])) w:=by
  unfold execOp
  simp only[ho]
  refine run_v ?_
  rw[hv]
  simp[Instr.typeAssert,run_underlying hu,hz]
 rw[e]
 refine⟨_,rfl,N,S,hs,.tu _ _ rfl fun i v hv=>?_⟩
 rcases i with _|_|i
 ·cases hv
  exact .ag _ _ rfl fun j w hw=>by
   rcases j with _|j
   ·cases hw;exact .cv _
   ·simp at hw
 ·cases hv;exact .cv _
 ·simp at hv
theorem idle_of {sd:List V→List Nat} (hT:TOk P T) (hm:P.follows .mixedOrders=true) {f:FuncId} {fn:Func} (hf:P.funcs[f]?=some fn) {n:Nat} (h16:(decide (n≤fn.ntmps))=true) (h:BodyR sd P T fn (List.replicate n .un) [] .nilIface []):IdleOk P f n:=by
 intro us w hi hus
 have hr:=rcatch_of hT hm hf (mode:= .returning) rec_idle (args:=List.replicate n .un) (m0:=[]) (m1:=[]) (by simpa using h16) h w us.toList [] (fun _=>False) ⟨rfl,fun k b hb=>by simp at hb,fun j k u v g hj=>by simp at hj,fun f g hg=>hg.2.elim,fun g hg=>by obtain⟨v,hv,_⟩:=hg;simp at hv,hi,fun g hg hb=>by obtain⟨v,hv,_⟩:=hb;simp at hv⟩
  ⟨by simp[hus],fun i v hv=>by
   rw[List.getElem?_replicate] at hv
   split at hv
   ·cases hv;exact .un _
   ·cases hv⟩
 rw[Array.toArray_toList] at hr
 refine hr.mono ?_
 rintro e u' w' ⟨h1,h2,ns',_,h3,_⟩
 exact⟨h1,h2,(h3.mono fun g hg=>⟨hg,fun hb=>by obtain⟨v,hv,_⟩:=hb;simp at hv⟩).below⟩
end
end Go.Proofs.YtdccglkagfdooaaGreatDoor
namespace Go.Proofs.YtdccglkagfdooaaGreatDoor
open Go.RowKit
theorem und_fault:∃fs,Tryz.prog.underlying 146=some (.struct fs):=⟨_,Tryz.underlying146⟩
theorem x_idle:IdleOk Tryz.prog 86 3:=by
 refine idle_of (sd:=fun vs=>vs.flatMap V.bn) (tokM parM) mixed Tryz.func86 (by kernel_rfl) ?_
 conv=>whnf
 refine⟨rfl,fun _ _=>rfl,?_⟩
 conv=>whnf
 refine⟨_,_,ot_assert0 (c:= .int .i64 0) rfl rfl und_fault Tryz.zeroValue146,?_⟩
 conv=>whnf
 refine known false rfl ?_
 conv=>whnf
 exact⟨rfl,rfl,rfl⟩
end Go.Proofs.YtdccglkagfdooaaGreatDoor
namespace Go.Proofs.YtdccglkagfdooaaGreatDoor
open Go.RowKit
abbrev parV (x:Pg×Int×Int):V:= .tu [x.1.V,int x.2.1,int x.2.2]
theorem toksF_few:∀(f:Nat) (l:Bs) (k:Nat) (out:List Tok),out.length≤1000→(toksF f l k out).1.length≤1000
 |0,_,_,out,h=>h
 |f+1,l,k,out,h=>by
  unfold toksF
  split
  ·exact h
  split
  ·simp
  rename_i h2
  split
  ·exact toksF_few f _ _ _ (by simp;omega)
  ·simp
theorem tokens_few (s:Bs):(tokens s).1.length≤1000:=by
 unfold tokens
 split
 ·simp
 ·exact toksF_few _ _ _ _ (by simp)
theorem x_parseA (s:Bs) (hs:s.length≤281474976710656) (h:(tokens s).2.2≠0):DCalls Tryz.prog 59 [bstr s] (parV (parseP s)):=by
 have hp:parseP s=(⟨[],[]⟩,((tokens s).2.1:Int),(tokens s).2.2):=by unfold parseP;rw[if_pos h]
 rw[hp]
 refine dcalls_df (tokM parM) mixed Tryz.func59 (by kernel_rfl) Tryz.func86 (by kernel_rfl) (by kernel_rfl) x_idle ?_
 conv=>whnf
 refine⟨_,x_tokens s hs,?_⟩
 conv=>whnf
 refine known true (by simpa using h) ?_
 conv=>whnf
 rfl
theorem x_parseB (s:Bs) (hs:s.length≤281474976710656) (h:(tokens s).2.2=0) (p:Pg) (hp:progP s.length (tokens s).1= .ok p) (hck:DCalls Tryz.prog 88 [p.V] (int (checkP p))):DCalls Tryz.prog 59 [bstr s] (parV (parseP s)):=by
 have hprog:=x_program (l:=(tokens s).1) (e:=s.length) (by have:=tokens_few s;omega) (by have:=tokens_few s;omega)
 rw[show progF (s.length:Int) ((tokens s).1.length+1) (tokens s).1.length [] (tokens s).1 []=progP s.length (tokens s).1 from rfl,hp] at hprog
 have hlim:checkP p=0∨checkP p=3:=by
  obtain⟨Fs,h1,rfl⟩:=parse_trees hp
  exact check_lim h1
 refine dcalls_df (tokM parM) mixed Tryz.func59 (by kernel_rfl) Tryz.func86 (by kernel_rfl) (by kernel_rfl) x_idle ?_
 conv=>whnf
 refine⟨_,x_tokens s hs,?_⟩
 conv=>whnf
 refine known false (by simpa using h) ?_
 conv=>whnf
 refine⟨rfl,rfl,?_⟩
 conv=>whnf
 refine mcall (T:=TM parM) (φ:=[40,41]) (gf:=true) hprog ?_
 conv=>whnf
 refine⟨_,hck,?_⟩
 rcases hlim with h0|h0
 ·have hp2:parseP s=(p,0,0):=by unfold parseP;rw[if_neg (by simp[h]),hp];dsimp only;rw[if_neg (by simp[h0])]
  rw[hp2]
  conv=>whnf
  refine known false (by simp[h0]) ?_
  (conv=>whnf)<;>rfl
 ·have hp2:parseP s=(⟨[],[]⟩,0,3):=by unfold parseP;rw[if_neg (by simp[h]),hp];dsimp only;rw[if_pos (by rw[h0];decide)]
  rw[hp2,h0]
  conv=>whnf
  refine known true rfl ?_
  (conv=>whnf)<;>rfl
end Go.Proofs.YtdccglkagfdooaaGreatDoor
namespace Go.Proofs.YtdccglkagfdooaaGreatDoor
open Go.RowKit
def plainB:Bk→Bool
 | .box cs _=>allC cs
 |_=>false
def PanO (P:Program) (T:Tab) (pv:Value) (nt:Nat) (rs:List Nat) (bs:List Bk) (o:Oper) (st:St):Prop:=
 o.guard=none∧st.t.length=nt∧∃(c:Call) (f:FuncId) (pre post av:List V) (ρ:List Nat) (m0:List Bk) (args0:List V),o.op= .call c∧calleeV (evN st.t) c=some (f,pre,post)∧pre++zA T (evN st.t) c.args.toList c.argTypes.toList++post=av∧
  abM ρ st.m ρ=some m0∧av.map (V.ab ρ st.m)=args0∧distinctB ρ=true∧MPans P f args0 m0 pv∧(rs.all (fun n=> !has ρ n)&&(distinctB rs&&bs.all plainB))=true∧rs.map (fun n=>st.m[n]?)=(bs.map fun b=>some (some b))∧rs.map (fun n=>st.t[n]?)=rs.map fun n=>some (V.bx n 0)
def PanC (P:Program) (T:Tab) (pv:Value) (nt:Nat) (fd:FuncId) (rs:List Nat) (bs:List Bk) (f:FuncId) (cs:List V) (y:Code) (st:St):Prop:=
 f=fd∧cs=rs.map (fun n=>V.bx n 0)∧(match y with
  | .seq (.region _ ops false) _=>(match ops.toList with
   |[o1,o2]=>aOp P T ops o1 st fun st=>PanO P T pv nt rs bs o2 st
   |_=>False)
  |_=>False)
def resT (fn:Func) (rs:List Nat):List V:=(List.range fn.ntmps).map fun i=>match idx rs i 0 with
 |some j=>V.bx j 0
 |none=> .un
section
variable {P:Program} {T:Tab} {B:Fr} {w0:World} {N:Names} {S:Sets} {t t':List V} {m m':List (Option Bk)} {a:Act} {w:World} {pv:Value}
theorem allC_get:∀{cs:List V} {i:Nat} {v:V},allC cs=true→cs[i]?=some v→∃c,v= .cv c
 |[],i,v,_,h=>by simp at h
 |x::cs,i,v,ha,h=>by
  simp only[allC,Bool.and_eq_true] at ha
  cases i with
  |zero=>
   simp at h;subst h
   cases x with
   |cv c=>exact⟨c,rfl⟩
   |_=>cases ha.1
  |succ i=>exact allC_get ha.2 (by simpa using h)
theorem has_mem:∀{l:List Nat} {n:Nat},n∈l→has l n=true
 |a::l,n,h=>by
  simp only[has]
  split
  ·rfl
  ·rename_i hb
   rcases List.mem_cons.1 h with rfl|h
   ·rw[Nat.beq_refl] at hb;cases hb
   ·exact has_mem h
theorem plain_mem (hs:Sat B w0 N S t m a w) {rs:List Nat} {bs:List Bk} (hd:distinctB rs=true) (hp:bs.all plainB=true) (hb:rs.map (fun n=>m[n]?)=bs.map fun b=>some (some b)) {w':World} (hsz:w.heap.size≤w'.heap.size)
  (hg:∀n∈rs,∀x v g,N n=some (x,v)→At v g→w'.heap[g]?=w.heap[g]?) (hi:ginv w'):MemOk w'.heap.size (oldS fun _=>False) w' (valsOf N rs) bs:=by
 have hl:rs.length=bs.length:=by simpa using congrArg List.length hb
 have hget:∀{i:Nat} {b:Bk},bs[i]?=some b→∃n,rs[i]?=some n∧m[n]?=some (some b):=by
  intro i b hib
  have hlt:=lt_of_get hib
  have h1:(rs.map fun n=>m[n]?)[i]?=(bs.map fun b=>some (some b))[i]?:=by rw[hb]
  rw[List.getElem?_map,List.getElem?_map,hib,List.getElem?_eq_getElem (by omega)] at h1
  simp only[Option.map_some,Option.some.injEq] at h1
  exact⟨rs[i],List.getElem?_eq_getElem (by omega),h1⟩
 have hρ:∀n∈rs,∃b,m[n]?=some (some b):=by
  intro n hn
  obtain⟨i,hi⟩:=List.getElem?_of_mem hn
  have hlt:=lt_of_get hi
  obtain⟨n',h1,h2⟩:=hget (List.getElem?_eq_getElem (show i<bs.length by omega))
  rw[hi] at h1;cases h1
  exact⟨_,h2⟩
 refine⟨by simp[valsOf,hl],fun k b hb'=>?_,fun j k u v g hj hk hu hv=>?_,fun f g hg=>hg.2.elim,fun g hg'=>?_,hi,fun g hgl hbk=>?_⟩
 ·obtain⟨n,h1,h2⟩:=hget hb'
  have hpl:=List.all_eq_true.1 hp b (List.mem_of_getElem? hb')
  have hH:=hs.blk n b h2
  cases b with
  |row=>cases hpl
  |fz=>cases hpl
  |asr=>cases hpl
  |box cs=>
   obtain⟨g,ty,us,e1,e2,e3,e4⟩:=hH
   refine⟨g,ty,us,valsOf_names h1 e1,(hg n (List.mem_of_getElem? h1) _ _ g e1 rfl).trans e2,e3,fun i v hv=>?_⟩
   obtain⟨c,rfl⟩:=allC_get hpl hv
   have:=e4 i _ hv
   generalize us.getD i undef=z at this
   cases this
   exact .cv _
 ·obtain⟨n,x,a1,a2⟩:=vals_named hs hρ hj
  obtain⟨n',x',b1,b2⟩:=vals_named hs hρ hk
  have:=hs.apart n n' _ _ _ _ g a2 b2 hu hv
  subst this
  exact distinctB_spec hd j k n a1 b1
 ·obtain⟨n,_,x,v,h3,h4⟩:=blks_valsOf hρ hs hg'
  exact Nat.lt_of_lt_of_le (hs.own n x v g h3 h4).2 hsz
 ·obtain⟨n,_,x,v,h3,h4⟩:=blks_valsOf hρ hs hbk
  exact(hs.own n x v g h3 h4).1 (hs.more.inv.2 g hgl)
theorem plain_conv {H:Nat} {S1:Sets} {w':World} {ns:List Value} {bs:List Bk} (hp:bs.all plainB=true) (h:MemOk H S1 w' ns bs):MemOk w'.heap.size (oldS fun _=>False) w' ns bs:=by
 refine⟨h.len,fun k b hb=>?_,h.apart,fun f g hg=>hg.2.elim,h.lt,h.inv⟩
 have hH:=h.blk k b hb
 have hpl:=List.all_eq_true.1 hp b (List.mem_of_getElem? hb)
 cases b with
 |row=>cases hpl
 |fz=>cases hpl
 |asr=>cases hpl
 |box cs=>
  obtain⟨g,ty,us,e1,e2,e3,e4⟩:=hH
  refine⟨g,ty,us,e1,e2,e3,fun i v hv=>?_⟩
  obtain⟨c,rfl⟩:=allC_get hpl hv
  have:=e4 i _ hv
  generalize us.getD i undef=z at this
  cases this
  exact .cv _
theorem Sat.ghosts {w1:World} {ds:List Deferred} {gs:List (V×Value)} (hs:Sat (frD w1 []) w1 N S t m a w) (hgs:∀p∈gs,RelV N S w p.1 p.2):Sat {frD w1 ds with ghost:=gs} w1 N S t m {a with defers:=ds} w:=
 ⟨hs.low,rfl,hs.tmps,hs.blk,hs.non,hs.apart,hs.data,hs.fresh,hs.own,hs.base,hs.old,hs.lent,⟨hs.more.size,hgs,hs.more.aside,hs.more.inv⟩,hs.stay⟩
def CatchOk (P:Program) (f:FuncId) (pv:Value) (bs bs':List Bk):Prop:=∀(w:World) (vs ns:List Value) (So:Nat→Prop),MemOk w.heap.size (oldS So) w ns bs→RelL (NamesOf ns) (oldS So) w ((List.range bs.length).map fun i=>V.bx i 0) vs→
 CallsD P f vs.toArray (.panicking [{v:=pv,recovered:=false}]) w fun e u' w'=>e= .returned (.tuple #[])∧u'= .panicking [{v:=pv,recovered:=true}]∧∃ns',MemOk w.heap.size (newS So w w' ns') w' ns' bs'∧Low (fun g=>g<w.heap.size∧¬blks ns g) w w'∧
  (∀(k:Nat) (a:Addr),ns[k]?=some (.pointer (some a))→ns'[k]?=some (.pointer (some a)))
theorem dcalls_dfp (hT:TOk P T) (hm:P.follows .mixedOrders=true) {f:FuncId} {fn:Func} (hf:P.funcs[f]?=some fn) (hn:(fn.name== "runtime.NumGoroutine")=false) {args:List V} {res:V} {fd:Nat} {fnd:Func} (hfd:P.funcs[fd]?=some fnd) (hnd:(fnd.name== "runtime.NumGoroutine")=false) (hbd:fnd.body.isNone=false)
  {rs:List Nat} {bs bs':List Bk} (hC:CatchOk P fd pv bs bs') (hchk:(bs'.all plainB&&(decide (fn.ntmps≤fn.ntmps)&&(decide (bs'.length≤16)&&decide (rs.length=bs.length))))=true)
  (hres:resK T fn (fun v=>v=res) ⟨(resT fn rs).map (V.sh fn.ntmps)++List.replicate (fn.ntmps - (resT fn rs).length) .un,inM fn.ntmps bs'⟩)
  (_hlen:args.length≤fn.ntmps)
  (h:match fn.body with
   |some c=>enterK fn args fun st=>awpDf P T c st (fun _=>False) fun f' cs y st=>PanC P T pv fn.ntmps fd rs bs f' cs y st
   |none=>False):DCalls P f args res:=by
 simp only[Bool.and_eq_true,decide_eq_true_eq] at hchk
 obtain⟨hp',_,h16,hrl⟩:=hchk
 cases hb:fn.body with
 |none=>rw[hb] at h;exact h.elim
 |some c=>
  rw[hb] at h
  refine⟨⟨fn,hf,hn,by rw[hb];rfl⟩,fun w vs hi hvs=>?_⟩
  simp only[enterK,forceAll_eq] at h
  refine calls_of_wp_defers hf hb (awpDf_sound (B:=frD w []) (w0:=w) hT hm ⟨by intro p hp;simp[frD] at hp,rfl⟩ ?_ ?_ c _ w ⟨_,_,_,_,sat_enter hi hvs fn.ntmps,h⟩)
  ·rintro a w' ⟨_,_,_,_,_,h⟩;exact h.elim
  rintro f' cs y N S t m a w1 d ⟨hs,us,rfl,hus⟩ ⟨rfl,rfl,hy⟩
  split at hy
  rotate_left
  ·exact hy.elim
  rename_i id ops rest
  split at hy
  rotate_left
  ·exact hy.elim
  rename_i o1 o2 hops
  have hnil:a.defers=[]:=hs.nodef
  have hd0:({a with defers:={target:=Target.fn (.func f') us,args:= #[]}::a.defers}:Act)={a with defers:=[{target:= .fn (.func f') us,args:= #[]}]}:=by rw[hnil]
  rw[hd0]
  have hs':=hs.ghosts (ds:=[{target:= .fn (.func f') us,args:= #[]}]) (gs:=(rs.map fun n=>V.bx n 0).zip us.toList) fun p hp=>by
   obtain⟨i,hi⟩:=List.getElem?_of_mem hp
   rw[List.getElem?_zip_eq_some] at hi
   have:=hus.2 i _ hi.1
   rw[List.getD_eq_getElem?_getD,hi.2] at this
   exact this
  refine wp_seq (wp_region_list ?_)
  rw[hops]
  obtain⟨v,m1,t1,h1,h2,h3⟩:=aOp_spec hy rfl
  unfold wpList
  refine step_sound hT hs' h1 (K:=fun st=>∃t',nfEq st.t t'∧PanO P T pv fn.ntmps rs bs o2 ⟨t',st.m⟩) ⟨t1,h2,h3⟩ ?_
  rintro a2 w2 ⟨N1,S1,t2,m2,hs1,t3,he,hk⟩
  have hs2:=hs1.nf he
  obtain⟨hg,htl3,c,g0,pre,post,av,ρ,m0,args0,ho,hc,hav,hab,ha0,hdρ,hM,hok,hbm,htm⟩:=hk
  subst hav ha0
  simp only[Bool.and_eq_true] at hok
  obtain⟨hno,hdr,hpb⟩:=hok
  unfold wpList
  have hw:Region.wanted o2 (yielded ops a2.tmps)=true:=by simp[Region.wanted,hg]
  rw[if_pos hw]
  refine .inl ?_
  obtain⟨us2,hus2,hcall⟩:=run_call0 (T:=T) ho hc (fun x _=>hs2.evN x) hM.1
  have hρ:=abM_mem hab
  have hmem:=abM_ok hs2 hdρ (gf:=false) (fun e=>by cases e) hab
  have hargs:RelL (NamesOf (valsOf N1 ρ)) (oldS (S1 false)) w2 ((pre++zA T (evN t3) c.args.toList c.argTypes.toList++post).map (V.ab ρ m2)) us2:=⟨by simpa using hus2.1,fun i v hv=>by
   rw[List.getElem?_map,Option.map_eq_some_iff] at hv
   obtain⟨v',hv',rfl⟩:=hv
   exact ab_rel hs2 (fun e=>by cases e) (hus2.2 i v' hv')⟩
  unfold Oper.wp
  rw[hcall]
  simp only[Oper.upon]
  refine(hM.2 w2 us2 (valsOf N1 ρ) (S1 false) hmem hargs).mono ?_
  rintro e w3 ⟨rfl,hlow⟩
  dsimp only
  show Leaves P fn a2.tmps _ a2.defers (.panicking [{v:=pv,recovered:=false}]) w3
  rw[hs2.nodef]
  have hrsm:∀n∈rs,∃b,m2[n]?=some (some b):=by
   intro n hn
   obtain⟨i,hi⟩:=List.getElem?_of_mem hn
   have hlt:=lt_of_get hi
   have h4:(rs.map fun n=>m2[n]?)[i]?=(bs.map fun b=>some (some b))[i]?:=by rw[hbm]
   rw[List.getElem?_map,hi,List.getElem?_map,List.getElem?_eq_getElem (by omega:i<bs.length)] at h4
   exact⟨bs[i],by simpa using h4⟩
  have hkeep:∀n∈rs,∀x v g,N1 n=some (x,v)→At v g→w3.heap[g]?=w2.heap[g]?:=by
   intro n hn x v g h4 h5
   refine hlow.block g ⟨(hs2.own n x v g h4 h5).2,fun hb=>?_⟩
   obtain⟨n',hn',x',v',h6,h7⟩:=blks_valsOf hρ hs2 hb
   have:=hs2.apart n n' _ _ _ _ g h4 h6 h5 h7
   subst this
   have:=List.all_eq_true.1 hno n hn
   rw[has_mem hn'] at this
   cases this
  have hi3:ginv w3:=ginv_low hs2.inv (keep:=fun g=>g<w2.heap.size∧¬blks (valsOf N1 ρ) g) (fun g hg=>⟨ginv_lt hs2.inv hg,fun hb=>by
   obtain⟨n',hn',x',v',h6,h7⟩:=blks_valsOf hρ hs2 hb
   exact(hs2.own n' x' v' g h6 h7).1 (hs2.more.inv.2 g hg)⟩) fun k hk=>hlow.block k hk
  have hmem3:=plain_mem hs2 hdr hpb hbm hlow.size hkeep hi3
  have hptr:∀(i n:Nat),rs[i]?=some n→∃g,N1 n=some (0,.pointer (some ⟨g,0,none⟩))∧us.toList[i]?=some (.pointer (some ⟨g,0,none⟩))∧a2.tmps.toList.getD n undef= .pointer (some ⟨g,0,none⟩):=by
   intro i n hi
   have hul:us.toList.length=rs.length:=by have:=hus.1;simpa using this.symm
   have hlt:=lt_of_get hi
   have hu:us.toList[i]?=some (us.toList[i]'(by omega)):=List.getElem?_eq_getElem (by omega)
   have hz:((rs.map fun n=>V.bx n 0).zip us.toList)[i]?=some (V.bx n 0,us.toList[i]'(by omega)):=by
    rw[List.getElem?_zip_eq_some]
    exact⟨by rw[List.getElem?_map,hi];rfl,hu⟩
   have hgh:=hs2.more.ghost _ (List.mem_of_getElem? hz)
   dsimp only at hgh
   generalize us.toList[i]'(by omega)=z at hgh hu
   cases hgh
   rename_i g hng
   have h6:(rs.map fun n=>t3[n]?)[i]?=(rs.map fun n=>some (V.bx n 0))[i]?:=by rw[htm]
   rw[List.getElem?_map,List.getElem?_map,hi] at h6
   simp only[Option.map_some,Option.some.injEq] at h6
   have hr:=hs2.tmps.2 n _ h6
   generalize a2.tmps.toList.getD n undef=y at hr⊢
   cases hr
   rename_i g2 hng2
   rw[hng] at hng2;cases hng2
   exact⟨g,hng,hu,rfl⟩
  have husl:us.toList=valsOf N1 rs:=by
   apply List.ext_getElem?
   intro i
   rcases Nat.lt_or_ge i rs.length with h4|h4
   ·obtain⟨g,h5,h6,_⟩:=hptr i rs[i] (List.getElem?_eq_getElem h4)
    rw[h6,valsOf_get (List.getElem?_eq_getElem h4) h5]
   ·rw[List.getElem?_eq_none (by have:=hus.1;simp at this;simpa[this] using h4),List.getElem?_eq_none (by simpa[valsOf] using h4)]
  have hrel3:RelL (NamesOf (valsOf N1 rs)) (oldS fun _=>False) w3 ((List.range bs.length).map fun i=>V.bx i 0) (valsOf N1 rs):=by
   refine⟨by simp[valsOf,hrl],fun i v hv=>?_⟩
   rw[List.getElem?_map] at hv
   rcases Nat.lt_or_ge i bs.length with h4|h4
   ·rw[List.getElem?_range h4] at hv
    cases hv
    obtain⟨g,h5,h6,_⟩:=hptr i rs[i] (List.getElem?_eq_getElem (by omega))
    have h7:=valsOf_get (List.getElem?_eq_getElem (by omega:i<rs.length)) h5
    rw[List.getD_eq_getElem?_getD,h7]
    exact .bx _ _ g (by simp[NamesOf,h7])
   ·rw[List.getElem?_eq_none (by simpa using h4)] at hv;cases hv
  have hcl:=hC w3 (valsOf N1 rs) (valsOf N1 rs) (fun _=>False) hmem3 hrel3
  rw[←husl,Array.toArray_toList] at hcl
  refine leaves_cons (by simp) (invoke_fn hfd hnd hbd us w3) (hcl.mono ?_)
  rintro e u' w4 ⟨rfl,rfl,ns',hmem4,hlow4,hpt⟩
  rw[husl] at hlow4 hpt
  have hmem5:=plain_conv hp' hmem4
  have hsz:a2.tmps.size=fn.ntmps:=by
   have:=hs2.tmps.1
   rw[htl3] at this
   simpa using this.symm
  have hrl5:RelL (NamesOf ns') (oldS fun _=>False) w4 (resT fn rs) a2.tmps.toList:=by
   refine⟨by simp[resT,hsz],fun i v hv=>?_⟩
   unfold resT at hv
   rw[List.getElem?_map,Option.map_eq_some_iff] at hv
   obtain⟨j,hj,rfl⟩:=hv
   have hji:j=i:=by
    have:=List.getElem?_range (n:=fn.ntmps) (i:=i) (by have:=lt_of_get hj;simpa using this)
    rw[this] at hj;exact(Option.some.inj hj).symm
   subst hji
   split
   ·rename_i q hq
    obtain⟨_,hq2⟩:=idx_spec hq
    rw[Nat.sub_zero] at hq2
    obtain⟨g,h5,h6,h7⟩:=hptr q j hq2
    rw[h7]
    have:=hpt q ⟨g,0,none⟩ (valsOf_get hq2 h5)
    exact .bx _ _ g (by simp[NamesOf,this])
   ·exact .un _
  have hsat:=sat_enterM hmem5 hrl5 fn.ntmps (by simp[resT]) h16
  have htm5:(a2.tmps.toList.toArray++Array.replicate (fn.ntmps - a2.tmps.toList.toArray.size) undef:Array Value)=a2.tmps:=by
   rw[Array.toArray_toList,hsz,Nat.sub_self]
   simp
  rw[htm5] at hsat
  obtain⟨v,h8,h9⟩:=resK_any (P:=P) hT _ w4 ⟨_,_,_,_,hsat,hres⟩
  have hlow5:Low (· <w.heap.size) w w4:=by
   refine(hs2.low.trans (hlow.mono fun g hg=>⟨hs2.base g hg,fun hb=>?_⟩)).trans (hlow4.mono fun g hg=>⟨Nat.lt_of_lt_of_le (hs2.base g hg) hlow.size,fun hb=>?_⟩)
   ·obtain⟨n',hn',x',v',h6,h7⟩:=blks_valsOf hρ hs2 hb
    exact(hs2.own n' x' v' g h6 h7).1 hg
   ·obtain⟨n',hn',x',v',h6,h7⟩:=blks_valsOf hrsm hs2 hb
    exact(hs2.own n' x' v' g h6 h7).1 hg
  exact⟨v,h8,v,rfl,h9.mono (NLe.refl _) (fun _ g hg=>⟨Nat.le_trans hlow5.size hg.1,hg.2⟩) (fun _ _ _=>rfl),hlow5.below⟩
end
end Go.Proofs.YtdccglkagfdooaaGreatDoor
namespace Go.Proofs.YtdccglkagfdooaaGreatDoor
open Go.RowKit
abbrev cN:Value:= .slice none 0 0
abbrev resB0:List Bk:=[.box [.cv cN,.cv cN],.box [int 0],.box [int 0]]
abbrev resB1 (o:Int):List Bk:=[.box [.cv cN,.cv cN],.box [int o],.box [int 1]]
theorem x_catch (o:Int):CatchOk Tryz.prog 86 (faultV o) resB0 (resB1 o):=by
 intro w vs ns So hmem hvs
 refine rcatch_of (sd:=fun vs=>vs.flatMap V.bn) (tokM parM) mixed Tryz.func86 (rec_panic _) (by kernel_rfl) ?_ w vs ns So hmem hvs
 conv=>whnf
 refine⟨rfl,fun _ _=>rfl,?_⟩
 conv=>whnf
 refine⟨_,_,ot_assert (c:= .int .i64 o) rfl rfl und_fault,?_⟩
 conv=>whnf
 refine known true rfl ?_
 conv=>whnf
 refine⟨some (.one 0 (.pull 1 (.alt 2 (.one 3 (.one 4 (.one 5 .done))) (.alt 3 (.one 2 (.one 4 (.one 5 .done))) .stop)))),by kernel_rfl,?_⟩
 conv=>whnf
 refine⟨.bx 3 0,fun m2 K2 hK=>hK,?_⟩
 conv=>whnf
 refine⟨?_,?_,trivial⟩
 all_goals
  conv=>whnf
  exact⟨rfl,rfl,rfl⟩
theorem x_parseC (s:Bs) (hs:s.length≤281474976710656) (h:(tokens s).2.2=0) (o:Int) (hp:progP s.length (tokens s).1= .error o):DCalls Tryz.prog 59 [bstr s] (parV (parseP s)):=by
 have hprog:=x_program (l:=(tokens s).1) (e:=s.length) (by have:=tokens_few s;omega) (by have:=tokens_few s;omega)
 rw[show progF (s.length:Int) ((tokens s).1.length+1) (tokens s).1.length [] (tokens s).1 []=progP s.length (tokens s).1 from rfl,hp] at hprog
 have hp2:parseP s=(⟨[],[]⟩,o,1):=by unfold parseP;rw[if_neg (by simp[h]),hp]
 rw[hp2]
 refine dcalls_dfp (T:=TM parM) (tokM parM) mixed Tryz.func59 (by kernel_rfl) Tryz.func86 (by kernel_rfl) (by kernel_rfl) (rs:=[2,3,4]) (x_catch o) (by kernel_rfl) ?_ (of_decide_eq_true rfl) ?_
 ·(conv=>whnf)<;>rfl
 conv=>whnf
 refine⟨_,x_tokens s hs,?_⟩
 conv=>whnf
 refine known false (by simpa using h) ?_
 conv=>whnf
 refine⟨rfl,rfl,rfl,?_⟩
 conv=>whnf
 exact⟨rfl,rfl,_,_,_,_,_,[25],_,_,rfl,rfl,rfl,rfl,rfl,rfl,hprog,rfl,rfl,rfl⟩
theorem x_sparse (s:Bs) (hs:s.length≤281474976710656) (hck:∀p:Pg,progP s.length (tokens s).1= .ok p→DCalls Tryz.prog 88 [p.V] (int (checkP p))):DCalls Tryz.prog 59 [bstr s] (parV (parseP s)):=by
 by_cases h:(tokens s).2.2=0
 ·cases hp:progP s.length (tokens s).1 with
  |ok p=>exact x_parseB s hs h p hp (hck p hp)
  |error o=>exact x_parseC s hs h o hp
 ·exact x_parseA s hs h
end Go.Proofs.YtdccglkagfdooaaGreatDoor
namespace Go.Proofs.YtdccglkagfdooaaGreatDoor
open Go.RowKit
theorem parP_few {e:Int} {r:List Tok} {ps:List Bs} {r1:List Tok} (h:parP e r= .ok (ps,r1)):ps.length≤r.length:=by
 unfold parP at h
 split at h
 ·cases h;simp
 ·have:=parF_grow _ h;simp at this;omega
theorem funcP_few {e:Int} {f:Nat} {r:List Tok} {ns:List Nd} {x:Fc} {r1:List Tok} {ns1:List Nd} (h:funcP e f r ns= .ok (x,r1,ns1)):x.params.length≤r.length∧r1.length<r.length:=by
 unfold funcP at h
 split at h
 ·cases h
 rename_i h1
 split at h
 ·cases h
 rename_i h2
 split at h
 ·cases h
 rename_i h3
 split at h
 ·cases h
 rename_i h4
 split at h
 ·cases h
 rename_i h5
 cases h
 have:=(mustT_eats h1).lt
 have:=(mustK_eats h2).lt
 have:=(mustT_eats h3).lt
 have:=(parP_eats h4).lt
 have:=(blockP_eats f h5).lt
 have:=parP_few h4
 exact⟨by dsimp only;omega,by omega⟩
theorem progF_few {e:Int} {f B:Nat}:∀(g:Nat) {fs:List Fc} {r:List Tok} {ns:List Nd} {p:Pg},progF e f g fs r ns= .ok p→r.length≤B→(∀x∈fs,x.params.length≤B)→
  p.nodes.length≤ns.length+r.length∧p.funcs.length≤fs.length+r.length∧∀x∈p.funcs,x.params.length≤B
 |0,fs,r,ns,p,h,_,hB=>by cases h;exact⟨by simp,by simp,hB⟩
 |g+1,fs,r,ns,p,h,hr,hB=>by
  simp only[progF] at h
  split at h
  ·cases h;exact⟨by simp,by simp,hB⟩
  split at h
  ·cases h
  rename_i x r1 ns1 h1
  have h2:=funcP_few h1
  have h3:=funcP_grow h1
  obtain⟨a,b,c⟩:=progF_few (B:=B) (r:=r1) g h (by omega) (by
   intro y hy
   rcases List.mem_append.1 hy with hy|hy
   ·exact hB y hy
   ·rw[List.mem_singleton.1 hy];omega)
  rw[List.length_append,List.length_singleton] at b
  exact⟨by omega,by omega,c⟩
theorem binL_len {s:Bs} (h:0<binL s):s.length≤3:=by
 unfold binL at h
 split at h
 ·rename_i h1;subst h1;decide
 split at h
 ·rename_i h1;subst h1;decide
 split at h
 ·rename_i h1;exact(show∀s∈opCmp,s.length≤3 by decide) _ (List.contains_iff_mem.1 h1)
 split at h
 ·rename_i h1;exact(show∀s∈opAdd,s.length≤3 by decide) _ (List.contains_iff_mem.1 h1)
 split at h
 ·rename_i h1;exact(show∀s∈opMul,s.length≤3 by decide) _ (List.contains_iff_mem.1 h1)
 cases h
theorem contB_l2 {s:Bs} (h:contB s=true):s.length≤200:=by
 unfold contB at h
 simp only[Bool.and_eq_true,decide_eq_true_eq] at h
 exact h.1
theorem nameB_len {s:Bs} (h:nameB s=true):s.length≤200:=by
 unfold nameB at h
 simp only[Bool.and_eq_true] at h
 have:=(whole_elim h.1).2.2
 omega
theorem ascB_all:∀(l:List Bs),ascB l=true→∀b∈l,contB b=true
 |[],_,b,h=>by cases h
 |[a],h,b,hb=>by rw[List.mem_singleton.1 hb];exact h
 |a::c::l,h,b,hb=>by
  simp only[ascB,Bool.and_eq_true] at h
  rcases List.mem_cons.1 hb with rfl|hb
  ·exact h.1.1
  ·exact ascB_all (c::l) h.2 b hb
theorem fields_len {a:Lab} {nk:Nat} (h:fieldsB a nk=true):a.text.length≤200∧a.keys.length≤nk∧∀b∈a.keys,b.length≤200:=by
 unfold fieldsB at h
 split at h
 ·cases h
 rename_i h0
 simp only[not_or,not_and,ne_eq,Classical.not_not] at h0
 by_cases h7:a.kind=7
 ·rw[if_neg (by omega),if_neg (by omega),if_neg (by omega),if_neg (by omega),if_neg (by omega),if_pos h7] at h
  simp only[Bool.and_eq_true,decide_eq_true_eq] at h
  exact⟨by rw[h.1.1];simp,by omega,fun b hb=>contB_l2 (ascB_all _ h.2 b hb)⟩
 ·have hk:=h0.1 h7
  refine⟨?_,by rw[hk];simp,by rw[hk];simp⟩
  split at h
  ·simp only[Bool.and_eq_true,decide_eq_true_eq] at h;rw[h.1];simp
  split at h
  ·simp only[Bool.and_eq_true,decide_eq_true_eq] at h;rw[h.1.1];simp
  split at h
  ·exact contB_l2 h
  split at h
  ·exact nameB_len h
  split at h
  ·have:=(whole_elim h).2.2;omega
  split at h
  ·simp only[Bool.or_eq_true,decide_eq_true_eq] at h
   rcases h with h|h<;>rw[h]<;>decide
  split at h
  ·have:=binL_len (of_decide_eq_true h);omega
  ·rw[of_decide_eq_true h];simp
theorem flats_mem:∀(ts:List Tr) (b:Nat) {n:Nd},n∈Tr.flats b ts→∃T∈ts,∃c,n∈T.flat c
 |[],b,n,h=>by cases h
 |T::ts,b,n,h=>by
  simp only[Tr.flats] at h
  rcases List.mem_append.1 h with h|h
  ·exact⟨T,by simp,b,h⟩
  ·obtain⟨X,hX,c,hc⟩:=flats_mem ts _ h
   exact⟨X,by simp[hX],c,hc⟩
theorem sizes_len:∀(ts:List Tr),ts.length≤Tr.sizes ts
 |[]=>Nat.le_refl _
 |T::ts=>by
  have:=sizes_len ts
  have:=T.size_pos
  simp only[Tr.sizes,List.length_cons]
  omega
theorem flatN_len:∀(m:Nat) (T:Tr) (b:Nat),T.size≤m→T.wf=true→∀n∈T.flat b,n.kids.length≤T.size∧n.keys.length≤T.size∧n.text.length≤200∧∀x∈n.keys,x.length≤200
 |0,T,b,h,_,_,_=>by have:=T.size_pos;omega
 |m+1,T,b,h,hw,n,hn=>by
  obtain⟨a,ts⟩:=T
  obtain⟨hf,hc,hws⟩:=wf_parts hw
  simp only[Tr.size] at h
  simp only[Tr.flat] at hn
  have hsl:=sizes_len ts
  rcases List.mem_append.1 hn with hn|hn
  ·obtain⟨X,hX,c,hc⟩:=flats_mem ts _ hn
   have hms:=Tr.mem_size hX
   obtain⟨g1,g2,g3,g4⟩:=flatN_len m X c (by omega) (kid_wf hX hws) n hc
   simp only[Tr.size]
   exact⟨by omega,by omega,g3,g4⟩
  ·rw[List.mem_singleton.1 hn]
   obtain⟨g1,g2,g3⟩:=fields_len hf
   simp only[Tr.size]
   exact⟨by rw[Tr.roots_length];omega,by omega,g1,g3⟩
theorem prog_ok {s:Bs} {p:Pg} (h:progP s.length (tokens s).1= .ok p):PgOk p:=by
 obtain⟨Fs,hF,e⟩:=parse_trees h
 have ht:=tokens_few s
 obtain⟨g1,g2,g3⟩:=progF_few (B:=1000) _ h (by omega) (fun x hx=>by cases hx)
 simp only[List.length_nil,Nat.zero_add] at g1 g2
 refine⟨⟨by omega,fun n hn=>?_⟩,by omega,fun f hf=>⟨?_,?_,?_⟩⟩
 ·have hns:p.nodes=Tr.flats 0 (Fs.map (·.body)):=by rw[e];rfl
  have hlen:Tr.sizes (Fs.map (·.body))≤1000:=by
   have:=congrArg List.length hns
   rw[Tr.flats_length] at this
   omega
  rw[hns] at hn
  obtain⟨T,hT,c,hc⟩:=flats_mem _ _ hn
  have hms:=Tr.mem_size hT
  obtain⟨F,hFm,rfl⟩:=List.mem_map.1 hT
  obtain⟨k1,k2,k3,k4⟩:=flatN_len _ F.body c (Nat.le_refl _) (hF F hFm).wf n hc
  exact⟨by omega,by omega,fun b hb=>by have:=k4 b hb;omega,by omega⟩
 all_goals
  have hfs:p.funcs=fcs 0 Fs:=by rw[e];rfl
  have hq:∀(Fs:List FnT) (b:Nat),(∀F∈Fs,FnTOk F)→∀f∈fcs b Fs,nameB f.name=true∧∀s∈f.params,nameB s=true:=by
   intro Fs
   induction Fs with
   |nil=>intro b _ f hf;cases hf
   |cons F Fs ih=>
    intro b hF f hf
    simp only[fcs] at hf
    rcases List.mem_cons.1 hf with rfl|hf
    ·exact⟨(hF F (by simp)).name,(hF F (by simp)).params⟩
    ·exact ih _ (fun X hX=>hF X (by simp[hX])) f hf
 ·have:=nameB_len (hq Fs 0 hF f (hfs▸hf)).1;omega
 ·have:=g3 f hf;omega
 ·intro b hb
  have:=nameB_len ((hq Fs 0 hF f (hfs▸hf)).2 b hb);omega
theorem x_sparseP (s:Bs) (hs:s.length≤281474976710656):DCalls Tryz.prog 59 [bstr s] (parV (parseP s)):=x_sparse s hs fun p h=>x_check p (prog_ok h)
end Go.Proofs.YtdccglkagfdooaaGreatDoor
namespace Go.Proofs.YtdccglkagfdooaaGreatDoor
open Go.RowKit
theorem x_walkT (p:Pg) (hp:PgS p):∀(f:Nat) (T:Tr) (a i:Nat),T.ht≤f→Seg p.nodes T a i→WalkOk p i (walkS p.nodes p.funcs f)
 |0,T,a,i,h,_=>by cases T;simp[Tr.ht] at h
 |f+1,T,a,i,h,hs=>by
  have hi:i<p.nodes.length:=by
   obtain⟨n,h1,_⟩:=hs.kind
   rcases Nat.lt_or_ge i p.nodes.length with h'|h'
   ·exact h'
   ·rw[List.getElem?_eq_none h'] at h1;cases h1
  obtain⟨b,ts⟩:=T
  obtain⟨_,_,hws⟩:=wf_parts hs.wf
  have hlen2:=hs.len
  have hseg:=hs.seg
  simp only[Tr.size] at hlen2
  simp only[Tr.flat] at hseg
  rw[prefix_app,Tr.flats_length] at hseg
  have hq:p.nodes[i]=⟨b.kind,b.text,b.val,b.keys,Tr.roots a ts⟩:=by
   have:=prefix_get hseg.2 (j:=0) (by simp)
   rw[show a+Tr.sizes ts+0=i by omega,List.getElem?_eq_getElem hi] at this
   exact Option.some.inj this
  refine x_walk1 p hp f i hi fun k hk=>?_
  rw[show p.nodes[i].kids=Tr.roots a ts by rw[hq]] at hk
  obtain⟨X,hX,b',j,h1,h2⟩:=roots_seg ts a (fun X hX=>kid_wf hX hws) hseg.1 k hk
  have hht:X.ht≤f:=by have:=Tr.ht_mem hX;simp only[Tr.ht] at h;omega
  refine⟨j,h1,?_,x_walkT p hp f X b' j hht h2⟩
  obtain⟨n,h3,_⟩:=h2.kind
  rcases Nat.lt_or_ge j p.nodes.length with h'|h'
  ·exact h'
  ·rw[List.getElem?_eq_none h'] at h3;cases h3
theorem x_walkF (p:Pg) (hp:PgS p) (ho:ordB p=true):∀f∈p.funcs,∃i:Nat,f.body=(i:Int)∧WalkOk p i (walkS p.nodes p.funcs (i+1)):=by
 obtain⟨Fs,hF,e⟩:=ord_iff.1 ho
 intro f hf
 have hfs:p.funcs=fcs 0 Fs:=by rw[e];rfl
 have hns:p.nodes=Tr.flats 0 (Fs.map (·.body)):=by rw[e];rfl
 rw[hfs] at hf
 obtain⟨T,b,i,h1,h2,_⟩:=fcs_seg (l:=p.nodes) Fs 0 hF (by rw[hns];exact List.prefix_refl _) f hf
 have h3:=Tr.ht_size _ T (Nat.le_refl _)
 have h4:=h2.len
 exact⟨i,h1,x_walkT p hp (i+1) T b i (by omega) h2⟩
def staticP (p:Pg):List Int×List Int×Int×Int:=studyP (checkP p) p
theorem x_staticCk (p:Pg) (h1:PgOk p) (h2:PgS p):DCalls Tryz.prog 60 [p.V] (chkV (staticP p)):=
 x_scheck p _ (x_study p h2 _ (x_check p h1) fun h=>x_walkF p h2 (check_ord h))
theorem x_staticOps (p:Pg) (h1:PgOk p) (h2:PgS p):DCalls Tryz.prog 61 [p.V] (strsV (opsS (staticP p).2.2.2 p)):=
 x_sops p h2 _ _ (x_staticCk p h1 h2)
theorem prog_s {s:Bs} {p:Pg} (h:progP s.length (tokens s).1= .ok p):PgS p:=by
 obtain⟨Fs,hF,e⟩:=parse_trees h
 have ht:=tokens_few s
 obtain⟨g1,g2,g3⟩:=progF_few (B:=1000) _ h (by omega) (fun x hx=>by cases hx)
 simp only[List.length_nil,Nat.zero_add] at g1 g2
 refine⟨by omega,by omega,fun n hn=>?_,fun f hf=>by have:=g3 f hf;omega⟩
 have hns:p.nodes=Tr.flats 0 (Fs.map (·.body)):=by rw[e];rfl
 have hlen:Tr.sizes (Fs.map (·.body))≤1000:=by
  have:=congrArg List.length hns
  rw[Tr.flats_length] at this
  omega
 rw[hns] at hn
 obtain⟨T,hT,c,hc⟩:=flats_mem _ _ hn
 have hms:=Tr.mem_size hT
 obtain⟨F,hFm,rfl⟩:=List.mem_map.1 hT
 obtain⟨k1,_⟩:=flatN_len _ F.body c (Nat.le_refl _) (hF F hFm).wf n hc
 omega
theorem parse_s {s:Bs} (h:(parseP s).2.2=0):PgOk (parseP s).1∧PgS (parseP s).1:=by
 unfold parseP at h⊢
 split at h
 ·rename_i h1;exact absurd h h1
 ·rename_i h1
  rw[if_neg h1]
  split at h
  ·cases h
  ·rename_i p hp
   split at h
   ·cases h
   ·rename_i h2
    simp only[if_neg h2]
    exact⟨prog_ok hp,prog_s hp⟩
theorem parse_S (s:Bs):PgS (parseP s).1:=by
 by_cases h:(parseP s).2.2=0
 ·exact(parse_s h).2
 ·have e:(parseP s).1=⟨[],[]⟩:=by
   unfold parseP at h⊢
   split
   ·rfl
   ·rename_i h1
    rw[if_neg h1] at h
    split
    ·rfl
    ·rename_i p hp
     rw[hp] at h
     split
     ·rfl
     ·rename_i h2
      simp only[if_neg h2] at h
      exact(h trivial).elim
  rw[e]
  exact⟨by simp,by simp,fun n hn=>(by cases hn),fun f hf=>(by cases hf)⟩
end Go.Proofs.YtdccglkagfdooaaGreatDoor
