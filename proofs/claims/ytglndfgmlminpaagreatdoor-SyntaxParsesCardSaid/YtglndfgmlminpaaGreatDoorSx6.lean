/- Texts joined by pack.py: XSxI XSxJ -/
import Derived.Test.YtglndfgmlminpaaGreatDoorSx5
namespace Go.Proofs.YtglndfgmlminpaaGreatDoor
open Go.RowKit
section
variable {P:Program} {T:Tab} {B:Fr} {w0:World} {N:Names} {S:Sets} {t:List V} {m:List (Option Bk)} {a:Act} {w:World}
theorem elems_sound (hs:Sat B w0 N S t m a w) {E:Operand→V} {sz:Nat} (_h0:0<sz) (ps:List (Nat×Operand)) (hE:∀p∈ps,RelV N S w (E p.2) (a.eval p.2)):
  ∀(xs:List (List D)) (f:Bool) (us:Array Value),us.size=xs.length*sz→(∀x∈xs,x.length=sz)→(∀i j d,(xs[i]?.bind fun x=>x[j]?)=some d→RelD (S f) w d (us.getD (i*sz+j) undef))→∀{K:List (List D)→Bool→Prop},elemsD sz E xs f ps K→
   ∃us' xs' f',Instr.fill (fun i=>some (i*sz,sz)) us (ps.map fun p=>(p.1,a.eval p.2))=some us'∧us'.size=xs'.length*sz∧xs'.length=xs.length∧(∀x∈xs',x.length=sz)∧(∀i j d,(xs'[i]?.bind fun x=>x[j]?)=some d→RelD (S f') w d (us'.getD (i*sz+j) undef))∧K xs' f':=by
 induction ps with
 |nil=>intro xs f us hl hx hr K h;exact⟨us,xs,f,rfl,hl,rfl,hx,hr,h⟩
 |cons p ps ih=>
  intro xs f us hl hx hr K h
  obtain⟨i,x⟩:=p
  simp only[elemsD] at h
  split at h
  rotate_left
  ·cases h
  rename_i ds g hds
  split at h
  rotate_left
  ·cases h
  rename_i hc
  have hTF:∀b,S true b→S false b:=fun b hb=>(hs.fresh b hb).1
  replace h:elemsD sz E (xs.set i ds) (f&&g) ps K:=by
   split at h<;>rename_i hfg<;>(rw[forceD_eq,setK_eq] at h;rw[hfg];exact h)
  have hEx:RelV N S w (E x) (a.eval x):=hE (i,x) (by simp)
  obtain⟨hne,hdl,hdr⟩:=toDs_one hTF hEx hds
  replace hdr:=hdr (f&&g) fun e=>by simp at e;exact e.2
  have hi1:i*sz+sz≤xs.length*sz:=by
   calc i*sz+sz=(i+1)*sz:=by rw[Nat.add_mul];omega
    _≤xs.length*sz:=Nat.mul_le_mul_right _ hc.1
  have hcond:((a.eval x).cells.size≠sz||i*sz+(a.eval x).cells.size>us.size)=false:=by
   simp only[Bool.or_eq_false_iff,decide_eq_false_iff_not,ne_eq]
   exact⟨by omega,by omega⟩
  simp only[List.map_cons,Instr.fill,hcond,Bool.false_eq_true,if_false]
  obtain⟨us',xs',f',e1,e2,e3,e4⟩:=ih (fun p hp=>hE p (by simp[hp])) (xs.set i ds) (f&&g) ((a.eval x).cells.zipIdx.foldl (fun cs (p:Value×Nat)=>cs.setIfInBounds (i*sz+p.2) p.1) us) (by
   rw[←Array.foldl_toList,Array.toList_zipIdx,List.length_set,←hl]
   exact fold_size _ (i*sz) us) (fun y hy=>by
    rcases List.mem_or_eq_of_mem_set hy with hy|rfl
    ·exact hx y hy
    ·exact hc.2) (fun i' j d hd=>by
   have key:=fold_get (a.eval x).cells.toList (i*sz) 0 us (i'*sz+j)
   simp only[Nat.add_zero,Array.length_toList,getD_toList] at key
   rw[←Array.foldl_toList,Array.toList_zipIdx]
   refine(congrArg (RelD (S (f&&g)) w d) key).mpr ?_
   have hij:i'<xs.length∧j<sz:=by
    cases hi':(xs.set i ds)[i']? with
    |none=>rw[hi'] at hd;cases hd
    |some c=>
     rw[hi'] at hd
     have a1:=lt_of_get hi'
     have a2:=lt_of_get (show c[j]?=some d from hd)
     rcases List.mem_or_eq_of_mem_set (List.mem_of_getElem? hi') with hc'|rfl
     ·rw[hx c hc'] at a2;exact⟨by simpa using a1,a2⟩
     ·rw[hc.2] at a2;exact⟨by simpa using a1,a2⟩
   by_cases hii:i'=i
   ·subst hii
    rw[List.getElem?_set_self hc.1] at hd
    rw[if_pos (by omega),show i'*sz+j - i'*sz=j by omega]
    exact hdr j d hd
   ·rw[List.getElem?_set_ne (Ne.symm hii)] at hd
    have:¬(i*sz≤i'*sz+j∧i'*sz+j<i*sz+(a.eval x).cells.size∧i'*sz+j<us.size):=by
     rcases Nat.lt_or_ge i' i with h|h
     ·have:i'*sz+sz≤i*sz:=by
       calc i'*sz+sz=(i'+1)*sz:=by rw[Nat.add_mul];omega
        _≤i*sz:=Nat.mul_le_mul_right _ h
      omega
     ·have:i*sz+sz≤i'*sz:=by
       calc i*sz+sz=(i+1)*sz:=by rw[Nat.add_mul];omega
        _≤i'*sz:=Nat.mul_le_mul_right _ (by omega)
      omega
    rw[if_neg this]
    exact(hr _ _ _ hd).down hTF) h
  exact⟨us',xs',f',e1,e2,by rw[e3];simp,e4⟩
theorem ok_buildSliceE (hT:TOk P T) (hs:Sat B w0 N S t m a w) {E:Operand→V} {o:Oper} {ty n:Nat} {ps:Array (Nat×Operand)} (ho:o.op= .buildSlice ty n ps) (hE:∀p∈ps.toList,RelV N S w (E p.2) (a.eval p.2)) {K:V→List (Option Bk)→Prop}
  (h:match T ty with
  |some ⟨_,_,_,_,.slice e⟩=>match T e with
   |some i=>if i.size=0∨n*i.size>16777216 then False else elemsD i.size E (List.replicate n (i.zero.map .cv)) true ps.toList fun xs f=>newK o.dst (.row 0 e i.size f xs) (.ow · 0) m K
   |none=>False
  |_=>False):OpOk P o a w (Post B w0 t a K):=by
 split at h
 rotate_left
 ·cases h
 rename_i e hti
 have hsl:=hT.kd_slice hti rfl
 split at h
 rotate_left
 ·cases h
 rename_i i hie
 split at h
 ·cases h
 rename_i hc
 simp only[not_or] at hc
 have h0:0<i.size:=by omega
 obtain⟨z,hz,hzr⟩:=hT.zero hie
 obtain⟨_,hzl,hz1⟩:=hT.ok hie
 have hzs:z.cells.size=i.size:=by rw[←hzl,←hz];simp
 let us0:Array Value:=(Array.range (n*i.size)).map (z.cells[· % z.cells.size]!)
 have hus0:∀i' j d,((List.replicate n (i.zero.map D.cv))[i']?.bind fun x=>x[j]?)=some d→RelD (S true) w d (us0.getD (i'*i.size+j) undef):=by
  intro i' j d hd
  rw[List.getElem?_replicate] at hd
  split at hd
  rotate_left
  ·cases hd
  rename_i hlt
  simp only[Option.bind_some,List.getElem?_map,Option.map_eq_some_iff] at hd
  obtain⟨u,hu,rfl⟩:=hd
  have hj:j<i.size:=by have:=lt_of_get hu;omega
  have hidx:i'*i.size+j<n*i.size:=by
   calc i'*i.size+j<i'*i.size+i.size:=by omega
    _=(i'+1)*i.size:=by rw[Nat.add_mul];omega
    _≤n*i.size:=Nat.mul_le_mul_right _ hlt
  have hmod:(i'*i.size+j) % i.size=j:=by rw[Nat.add_comm,Nat.add_mul_mod_self_right];exact Nat.mod_eq_of_lt hj
  have:us0.getD (i'*i.size+j) undef=u:=by
   rw[←hz,Array.getElem?_toList] at hu
   have e:us0[i'*i.size+j]?=some (z.cells[(i'*i.size+j) % z.cells.size]!):=by
    simp only[us0,Array.getElem?_map,Array.getElem?_range,hidx,if_true,Option.map_some]
   rw[Array.getD_eq_getD_getElem?,e,hzs,hmod,Option.getD_some]
   rw[getElem!_def,hu]
  rw[this]
  exact .cv u (hz1 u (List.mem_of_getElem? hu))
 obtain⟨us',xs',f',e1,e2,e3,e4,e5,e6⟩:=elems_sound hs h0 ps.toList hE (List.replicate n (i.zero.map .cv)) true us0 (by simp[us0]) (fun x hx=>by rw[(List.mem_replicate.1 hx).2];simp[hzl]) hus0 h
 have hn:xs'.length=n:=by rw[e3];simp
 have hbig:n≤n*i.size:=Nat.le_mul_of_pos_right _ h0
 refine opOk_val (u:= .slice (some ⟨w.heap.size,0,none⟩) xs'.length n) (w':=w.alloc (.cells us' e)) ?_ (newK_row hs (cap:=n) (.inl rfl) h0 e4 (by rw[e2,hn]) (by omega) (by simp only[maxLen];omega) (fun i' j d hd=>?_) e6)
 ·unfold execOp
  simp only[ho]
  refine run_v ?_
  have hlim:¬(n*i.size>2 ^ 24):=by omega
  have hfill:Instr.fill (fun i'=>some (i'*i.size,i.size)) ((Array.range (n*i.size)).map (z.cells[· % z.cells.size]!)) (ps.map fun(i,x)=>(i,a.eval x)).toList=some us':=by
   rw[←e1];simp[us0]
  by_cases hn0:n*i.size=0
  ·have hn0':n=0:=by rcases Nat.mul_eq_zero.1 hn0 with h|h<;>omega
   have hzz:∀zz:Array Value,(Array.range (n*i.size)).map (zz[· % zz.size]!)=(Array.range (n*i.size)).map (z.cells[· % z.cells.size]!):=by
    intro zz;rw[hn0];simp
   simp only[Instr.buildSlice,Sem.run_bind,run_underlying hsl,Result.andThen_ok,hT.size hie,Sem.run_ite,hlim,if_false,if_pos hn0,Sem.run_pure,hzz,hfill]
   simp[newRow,hn]
  ·have h1:n≠0:=by rintro rfl;simp at hn0
   have h2:i.size≠0:=by omega
   simp only[Instr.buildSlice,Sem.run_bind,run_underlying hsl,Result.andThen_ok,hT.size hie,Sem.run_ite,hlim,if_false,hn0,hzr,Sem.run_pure,hfill]
   simp[newRow,hn]
 ·have hij:i'*i.size+j<us'.size:=by
   cases hi':xs'[i']? with
   |none=>rw[hi'] at hd;cases hd
   |some c=>
    rw[hi'] at hd
    have a2:=lt_of_get (show c[j]?=some d from hd)
    rw[e4 c (List.mem_of_getElem? hi')] at a2
    rw[e2]
    calc i'*i.size+j<i'*i.size+i.size:=by omega
     _=(i'+1)*i.size:=by rw[Nat.add_mul];omega
     _≤xs'.length*i.size:=Nat.mul_le_mul_right _ (lt_of_get hi')
  exact⟨us'.getD (i'*i.size+j) undef,by simp[Array.getD_eq_getD_getElem?,hij],e5 _ _ _ hd⟩
theorem ok_buildSlice (hT:TOk P T) (hs:Sat B w0 N S t m a w) {o:Oper} {ty n:Nat} {ps:Array (Nat×Operand)} (ho:o.op= .buildSlice ty n ps) {K:V→List (Option Bk)→Prop}
  (h:match T ty with
  |some ⟨_,_,_,_,.slice e⟩=>match T e with
   |some i=>if i.size=0∨n*i.size>16777216 then False else elemsD i.size (evN t) (List.replicate n (i.zero.map .cv)) true ps.toList fun xs f=>newK o.dst (.row 0 e i.size f xs) (.ow · 0) m K
   |none=>False
  |_=>False):OpOk P o a w (Post B w0 t a K):=ok_buildSliceE hT hs ho (fun p _=>hs.evN p.2) h
theorem pass1_rel (hs:Sat B w0 N S t m a w) {v:V} {u:Value} (h:RelV N S w v u):RelV (fun _=>none) (fun _ b=>b<w.heap.size) w (v.pass1 m) u:=by
 cases h<;>simp only[V.pass1]<;>try exact .un _
 ·exact .cv _
 ·exact .cv _
 ·rename_i f sz xs h
  exact .sl _ _ _ _ (h.mono (fun g hg=>(hs.data _ g hg).1) fun _ _=>rfl)
 ·rename_i n k hu hn
  obtain⟨k',v,hn,hk,he⟩:=hn
  split
  ·rename_i k2 E sz f xs hm
   split
   ·rename_i hkk
    subst hkk
    obtain⟨rfl,h1,h2,h3⟩:=row_cells hs hm hn
    have:=he rfl
    subst this
    rcases h3 with⟨rfl,rfl⟩|⟨g,cap,us,rfl,h4,h5,_,_,h6⟩
    ·exact .sl _ _ _ _ (.nil _ _ _)
    ·refine .sl _ _ _ _ (.sl _ _ g 0 cap (fun i j=>us.getD (i*sz+j) undef) (hs.own n _ _ g hn rfl).2 h1 h5 (fun i j d hd=>?_) (fun i j d hd=>?_))
     ·obtain⟨h7,_⟩:=h6 i j d hd
      rw[cell_of_row w g _ us E _ h4]
      simp[Array.getD_eq_getD_getElem?,h7]
     ·exact(h6 i j d hd).2.mono (fun g hg=>(hs.data _ g hg).1) fun _ _=>rfl
   ·exact .un _
  ·exact .un _
 ·rename_i n k s lo hi hu hn
  obtain⟨k',v,hn,hk,he⟩:=hn
  split
  ·rename_i k2 E sz f xs hm
   split
   ·rename_i hkk
    obtain⟨rfl,rfl⟩:=hkk
    obtain⟨rfl,_⟩:=row_cells hs hm hn
    exact .sl _ _ _ _ (vw_data hs hm hn (he rfl) (fun g hg=>(hs.data _ g hg).1) fun g hg=>(hs.own n _ _ g hn hg).2)
   ·exact .un _
  ·exact .un _
theorem pass_rel (hs:Sat B w0 N S t m a w) {v:V} {u:Value} (h:RelV N S w v u):RelV (fun _=>none) (fun _ b=>b<w.heap.size) w (v.pass m) u:=by
 have one:∀{v:V} {u:Value},RelV N S w v u→RelV (fun _=>none) (fun _ b=>b<w.heap.size) w (v.pass1 m) u:=fun h=>pass1_rel hs h
 unfold V.pass
 split
 ·rename_i cs
  cases h with
  |ag _ us hl h=>
   refine .ag _ us (by simpa using hl) fun i v hv=>?_
   rw[List.getElem?_map,Option.map_eq_some_iff] at hv
   obtain⟨v',hv',rfl⟩:=hv
   exact one (h i v' hv')
 ·exact one h
theorem z_rel {S':Sets} {N':Names} {w':World} {v:V} {u:Value} (ns:List Nat) (h:RelV N' S' w' v u):RelV N' S' w' (v.z ns) u:=by
 have one:∀(n:Nat) {v:V} {u:Value},RelV N' S' w' v u→RelV N' S' w' (v.z1 n) u:=by
  intro n v u h
  unfold V.z1
  split
  ·cases h
   cases n
   ·exact .cv _
   ·exact .sl _ _ _ _ (.nil _ _ _)
  ·exact h
 have list:∀(ns:List Nat) (cs:List V),(zL cs ns).length=cs.length∧∀(i:Nat) (v:V),(zL cs ns)[i]?=some v→∃v0 n,cs[i]?=some v0∧(v=v0∨v=v0.z1 n):=by
  intro ns
  induction ns with
  | nil => intro cs;have e:zL cs []=cs:=by cases cs<;>rfl
           rw[e];exact⟨rfl,fun i v hv=>⟨v,0,hv,.inl rfl⟩⟩
  |cons n ns ih=>
   intro cs
   cases cs with
   |nil=>exact⟨rfl,fun i v hv=>by simp[zL] at hv⟩
   |cons c cs=>
    obtain⟨h1,h2⟩:=ih cs
    refine⟨by simp[zL,h1],fun i v hv=>?_⟩
    cases i with
    |zero=>simp[zL] at hv;exact⟨c,n,by simp,.inr hv.symm⟩
    |succ i=>simpa using h2 i v (by simpa[zL] using hv)
 unfold V.z
 split
 ·rename_i cs
  cases h with
  |ag _ us hl h=>
   obtain⟨h1,h2⟩:=list ns cs
   refine .ag _ us (by rw[h1];exact hl) fun i v hv=>?_
   obtain⟨v0,n,h3,h4⟩:=h2 i v hv
   rcases h4 with rfl|rfl
   ·exact h i _ h3
   ·exact one n (h i _ h3)
 ·split
  ·exact one _ h
  ·exact h
def passA (T:Tab) (m:List (Option Bk)) (E:Operand→V):List Operand→List TypeId→List V
 |[],_=>[]
 |x::l,ty::tys=>((E x).pass m).z (czs T 5 ty)::passA T m E l tys
 |x::l,[]=>(E x).pass m::passA T m E l []
theorem passL_eq (l:List Operand):∀(tys:List TypeId) (E:Operand→V) (K:List V→Prop),passL T m l tys E K=K (passA T m E l tys):=by
 induction l with
 |nil=>intro tys E K;rfl
 |cons x l ih=>
  intro tys E K
  cases tys<;>simp only[passL,passA,k_eq,ih]
theorem Sat.called (hs:Sat B w0 N S t m a w) {w':World} (hb:Below w.heap.size w w'):Sat B w0 N (fun f g=>S f g∨(w.heap.size≤g∧g<w'.heap.size)) t m a w':=by
 have hw:∀f g,S f g→w'.heap[g]?=w.heap[g]?:=fun f g hg=>hb.block g (hs.data f g hg).1
 refine⟨hs.low.trans ((Low.of_below hb).mono hs.base),hs.nodef,hs.tmps.mono (NLe.refl _) (fun _ _ h=> .inl h) hw,fun k b hk=>(hs.blk k b hk).mono rfl (NLe.refl _) (fun _ _ h=> .inl h) hw fun x v g h1 h2=>hb.block g (hs.own k x v g h1 h2).2,hs.non,hs.apart,?_,?_,?_,fun g hg=>Nat.lt_of_lt_of_le (hs.base g hg) hb.size,?_,?_,?_,hs.stay⟩
 ·intro f g hg
  rcases hg with hg|hg
  ·exact⟨Nat.lt_of_lt_of_le (hs.data f g hg).1 hb.size,(hs.data f g hg).2⟩
  ·exact⟨hg.2,fun k x v h1 h2=>by have:=(hs.own k x v g h1 h2).2;omega⟩
 ·intro g hg
  rcases hg with hg|hg
  ·exact⟨.inl (hs.fresh g hg).1,(hs.fresh g hg).2⟩
  ·exact⟨.inr hg,Nat.le_trans hs.size hg.1⟩
 ·intro k x v g h1 h2
  exact⟨(hs.own k x v g h1 h2).1,Nat.lt_of_lt_of_le (hs.own k x v g h1 h2).2 hb.size⟩
 ·intro g hg
  rcases hg with hg|hg
  ·exact hs.old g hg
  ·exact .inl (Nat.le_trans hs.size hg.1)
 ·exact hs.lent
 ·exact hs.more.mono hb.size (fun _ _ h=>h.mono (NLe.refl _) (fun _ _ h=> .inl h) hw) hs.base fun _ _ h=>h.imp id fun h=> .inl h.1
theorem call_sound (hs:Sat B w0 N S t m a w) {f:FuncId} {args:List V} {us:List Value} (hargs:RelL (fun _=>none) (fun _ b=>b<w.heap.size) w args us) {K:V→List (Option Bk)→Prop} (h:callK P f args m K):
  (callFunc f us.toArray).run P w= .ok (.enter f us.toArray) w∧Calls P f us.toArray w fun e w'=>∃v,e= .returned v∧Post B w0 t a K v w':=by
 obtain⟨res,⟨⟨fn,hf,hn,hb⟩,hc⟩,hK⟩:=h
 rw[k_eq] at hK
 have hn':¬fn.name= "runtime.NumGoroutine" :=by simpa using hn
 have hb':¬fn.body=none:=by intro e;rw[e] at hb;cases hb
 refine⟨by simp[callFunc,hf,hn',hb'],(hc w us hs.inv hargs).mono fun e w' ⟨v,he,hv,hbl⟩=>⟨v,he,N,_,res,m,hs.called hbl,?_,hK⟩⟩
 exact hv.mono (fun n k v h=>by cases h) (fun f g hg=> .inr hg) fun _ _ _=>rfl
theorem args_rel (hs:Sat B w0 N S t m a w) (l:List Operand):∀(tys:List TypeId),RelL (fun _=>none) (fun _ b=>b<w.heap.size) w (passA T m (evN t) l tys) (l.map a.eval):=by
 induction l with
 |nil=>intro tys;exact⟨rfl,fun i v hv=>by simp[passA] at hv⟩
 |cons x l ih=>
  intro tys
  have key:∀{v:V} {vs:List V},RelV (fun _=>none) (fun _ b=>b<w.heap.size) w v (a.eval x)→RelL (fun _=>none) (fun _ b=>b<w.heap.size) w vs (l.map a.eval)→RelL (fun _=>none) (fun _ b=>b<w.heap.size) w (v::vs) ((x::l).map a.eval):=by
   intro v vs h1 h2
   refine⟨by simp[h2.1],fun i v' hv'=>?_⟩
   cases i with
   |zero=>simp at hv';subst hv';simpa using h1
   |succ i=>simpa using h2.2 i v' (by simpa using hv')
  cases tys with
  |nil=>exact key (pass_rel hs (hs.evN x)) (ih [])
  |cons ty tys=>exact key (z_rel _ (pass_rel hs (hs.evN x))) (ih tys)
theorem ok_call (hs:Sat B w0 N S t m a w) {o:Oper} {c:Call} {f:FuncId} (ho:o.op= .call c) (hc:c.callee= .value (.func f)) {K:V→List (Option Bk)→Prop}
  (h:passL T m c.args.toList c.argTypes.toList (evN t) fun vs=>callK P f vs m K):OpOk P o a w (Post B w0 t a K):=by
 rw[passL_eq] at h
 obtain⟨h1,h2⟩:=call_sound hs (args_rel hs c.args.toList c.argTypes.toList) h
 have e:(c.args.toList.map a.eval).toArray=c.args.map a.eval:=by
  apply Array.ext';simp
 rw[e] at h1 h2
 refine opOk_enter (f:=f) (args:=c.args.map a.eval) ?_ h2
 unfold execOp
 simp only[ho]
 simp[resolve,hc,Act.eval,Deferred.ofValue,invoke,h1]
theorem ok_callv (hs:Sat B w0 N S t m a w) {o:Oper} {c:Call} {i:Nat} (ho:o.op= .call c) (hc:c.callee= .value (.tmp i)) {K:V→List (Option Bk)→Prop}
  (h:match evN t (.tmp i) with
   | .cv (.func (.func f) fst cap)=>passL T m c.args.toList c.argTypes.toList (evN t) fun vs=>callK P f (fst.toList.map .cv++vs++cap.toList.map .cv) m K
   | .fn f n cs=>forceL (cs.map (V.pass1 m)) fun cs=>passL T m c.args.toList c.argTypes.toList (evN t) fun vs=>callK P f (cs.take n++vs++cs.drop n) m K
   |_=>False):OpOk P o a w (Post B w0 t a K):=by
 have hx:=hs.evN (.tmp i)
 have hcv:∀(xs:Array Value),RelL (fun _=>none) (fun _ b=>b<w.heap.size) w (xs.toList.map .cv) xs.toList:=fun xs=>⟨by simp,fun i v hv=>by
  rw[List.getElem?_map,Option.map_eq_some_iff] at hv
  obtain⟨x,hx,rfl⟩:=hv
  rw[List.getD_eq_getElem?_getD,hx];exact .cv _⟩
 have happ:∀{N:Names} {S:Sets} {v1 v2:List V} {u1 u2:List Value},RelL N S w v1 u1→RelL N S w v2 u2→RelL N S w (v1++v2) (u1++u2):=by
  intro N S v1 v2 u1 u2 h1 h2
  refine⟨by simp[h1.1,h2.1],fun i v hv=>?_⟩
  rw[List.getElem?_append] at hv
  rw[List.getD_eq_getElem?_getD,List.getElem?_append,←h1.1]
  split at hv
  ·rename_i hlt
   rw[if_pos hlt,←List.getD_eq_getElem?_getD];exact h1.2 i v hv
  ·rename_i hlt
   rw[if_neg hlt,←List.getD_eq_getElem?_getD];exact h2.2 _ v hv
 have fin:∀(f:FuncId) (fst cap:Array Value) (vf vc:List V),a.eval (.tmp i)= .func (.func f) fst cap→RelL (fun _=>none) (fun _ b=>b<w.heap.size) w vf fst.toList→RelL (fun _=>none) (fun _ b=>b<w.heap.size) w vc cap.toList→
   callK P f (vf++passA T m (evN t) c.args.toList c.argTypes.toList++vc) m K→OpOk P o a w (Post B w0 t a K):=by
  intro f fst cap vf vc hu hf hcp h
  obtain⟨h1,h2⟩:=call_sound hs (happ (happ hf (args_rel hs c.args.toList c.argTypes.toList)) hcp) h
  have e:(fst.toList++c.args.toList.map a.eval++cap.toList).toArray=fst++(c.args.map a.eval++cap):=by
   apply Array.ext';simp
  rw[e] at h1 h2
  refine opOk_enter (f:=f) (args:=fst++(c.args.map a.eval++cap)) ?_ h2
  unfold execOp
  simp only[ho]
  simp[resolve,hc,hu,Deferred.ofValue,invoke,h1]
 split at h
 ·rename_i f fst cap hev
  rw[hev] at hx
  generalize hu:a.eval (.tmp i)=u at hx
  cases hx
  rw[passL_eq] at h
  exact fin f fst cap _ _ hu (hcv fst) (hcv cap) h
 ·rename_i f n cs hev
  rw[hev] at hx
  generalize hu:a.eval (.tmp i)=u at hx
  cases hx
  rename_i us vs hn hl hr
  rw[forceL_eq,passL_eq] at h
  have hp:∀i v,(cs.map (V.pass1 m))[i]?=some v→RelV (fun _=>none) (fun _ b=>b<w.heap.size) w v ((us++vs).getD i undef):=fun i v hv=>by
   rw[List.getElem?_map,Option.map_eq_some_iff] at hv
   obtain⟨v',hv',rfl⟩:=hv
   exact pass1_rel hs (hr i v' hv')
  refine fin f us vs _ _ hu ⟨by simp[hn];omega,fun i v hv=>?_⟩ ⟨by simp[hn];omega,fun i v hv=>?_⟩ h
  ·rw[List.getElem?_take] at hv
   split at hv
   ·rename_i hlt
    have:=hp i v hv
    rw[getD_toList]
    simpa[Array.getD_eq_getD_getElem?,Array.getElem?_append,show i<us.size by omega] using this
   ·cases hv
  ·rw[List.getElem?_drop] at hv
   have:=hp (n+i) v hv
   rw[getD_toList]
   simpa[Array.getD_eq_getD_getElem?,Array.getElem?_append,hn,show¬(us.size+i<us.size) by omega] using this
 ·cases h
end
end Go.Proofs.YtglndfgmlminpaaGreatDoor
namespace Go.Proofs.YtglndfgmlminpaaGreatDoor
open Go.RowKit
section
variable {P:Program} {T:Tab} {B:Fr} {w0:World} {N:Names} {S:Sets} {t:List V} {m:List (Option Bk)} {a:Act} {w:World}
theorem arr1 {α:Type} {c:Array α} {x:α} (h:c.toList=[x]):c= #[x]:=by
 apply Array.ext';simpa using h
theorem arr2 {α:Type} {c:Array α} {x y:α} (h:c.toList=[x,y]):c= #[x,y]:=by
 apply Array.ext';simpa using h
theorem len_sound (_hT:TOk P T) (hs:Sat B w0 N S t m a w) {ty e oty:Nat} (hsl:P.underlying ty=some (.slice e)) {v:V} {u:Value} (h:RelV N S w v u) {K:V→List (Option Bk)→Prop} (hK:lenK v m K):
  ∃n:Nat,(Builtin.len_ #[ty] oty #[u]).run P w= .ok (goInt n) w∧K (.cv (.int .i64 (n:Nat))) m:=by
 have run:∀{A:Option Addr} {n cap:Nat},(Builtin.len_ #[ty] oty #[.slice A n cap]).run P w= .ok (goInt n) w:=by
  intro A n cap;simp[Builtin.len_,run_underlying hsl]
 unfold lenK at hK
 split at hK
 ·cases h;exact⟨0,run,hK⟩
 ·rename_i f sz xs
  cases h
  rename_i h
  cases h with
  |nil=>exact⟨0,run,hK⟩
  |sl=>exact⟨xs.length,run,hK⟩
 ·rename_i n k
  cases h
  rename_i hu hn
  obtain⟨k',v,hn,hk,he⟩:=hn
  split at hK
  ·rename_i k2 E sz f xs hm
   split at hK
   ·rename_i hkk
    subst hkk
    obtain⟨rfl,h1,h2,h3⟩:=row_cells hs hm hn
    have:=he rfl
    subst this
    rcases h3 with⟨rfl,rfl⟩|⟨g,cap,us,rfl,_⟩
    ·exact⟨0,run,hK⟩
    ·exact⟨xs.length,run,hK⟩
   ·cases hK
  ·cases hK
 ·rename_i n k s lo hi
  cases h
  rename_i hu hn
  obtain⟨k',v,hn,hk,he⟩:=hn
  split at hK
  ·rename_i k2 E sz f xs hm
   split at hK
   ·rename_i hkk
    subst hkk
    obtain⟨rfl,_⟩:=row_cells hs hm hn
    obtain⟨A,len,cap,A',_,_,_,rfl,_⟩:=he rfl
    exact⟨hi - lo,run,hK⟩
   ·cases hK
  ·cases hK
 ·cases hK
theorem ok_len (hT:TOk P T) (hs:Sat B w0 N S t m a w) {o:Oper} {c:Call} (ho:o.op= .call c) (hc:c.callee= .builtin .len) {K:V→List (Option Bk)→Prop}
  (h:match c.args.toList,c.argTypes.toList with
   |[x],[ty]=>match T ty with
    |some ⟨_,_,_,_,.string⟩=>match evN t x with
     | .cv (.string s)=>K (.cv (.int .i64 (s.size:Nat))) m
     |_=>False
    |some ⟨_,_,_,_,.slice _⟩=>lenK (evN t x) m K
    |_=>False
   |_,_=>False):OpOk P o a w (Post B w0 t a K):=by
 split at h
 rotate_left
 ·cases h
 rename_i x ty h1 h2
 have e1:=arr1 h1
 have e2:=arr1 h2
 have hx:=hs.evN x
 have fin:∀{n:Nat},(Builtin.len_ #[ty] o.type #[a.eval x]).run P w= .ok (goInt n) w→K (.cv (.int .i64 (n:Nat))) m→OpOk P o a w (Post B w0 t a K):=by
  intro n hr hK
  refine opOk_val (u:=goInt n) (w':=w) ?_ (Post.same hs (.cv _) hK)
  unfold execOp
  simp only[ho]
  simp[resolve,hc,e1,e2,invoke,builtin,hr]
 split at h
 ·rename_i hti
  split at h
  ·rename_i s hev
   rw[hev] at hx
   generalize hu:a.eval x=u at hx fin
   cases hx
   exact fin (by simp[Builtin.len_,run_underlying (hT.kd_string hti rfl)]) h
  ·cases h
 ·rename_i e hti
  obtain⟨n,h3,h4⟩:=len_sound (oty:=o.type) hT hs (hT.kd_slice hti rfl) hx h
  exact fin h3 h4
 ·cases h
theorem ok_max (hs:Sat B w0 N S t m a w) {o:Oper} {c:Call} (ho:o.op= .call c) (hc:c.callee= .builtin .max) {K:V→List (Option Bk)→Prop}
  (h:match c.args.toList with
   |[x,y]=>match evN t x,evN t y with
    | .cv (.int k a),.cv (.int _ b)=>K (.cv (.int k (if b>a then b else a))) m
    |_,_=>False
   |_=>False):OpOk P o a w (Post B w0 t a K):=by
 split at h
 rotate_left
 ·cases h
 rename_i x y h1
 have e1:=arr2 h1
 have hx:=hs.evN x
 have hy:=hs.evN y
 split at h
 rotate_left
 ·cases h
 rename_i k p k' q hp hq
 rw[hp] at hx;rw[hq] at hy
 generalize hu:a.eval x=u at hx
 generalize hv:a.eval y=v at hy
 cases hx;cases hy
 refine opOk_val (u:= .int k (if q>p then q else p)) (w':=w) ?_ (Post.same hs (.cv _) h)
 unfold execOp
 simp only[ho]
 simp[resolve,hc,e1,hu,hv,invoke,builtin,Builtin.max_,Builtin.max2]
theorem ok_min (hs:Sat B w0 N S t m a w) {o:Oper} {c:Call} (ho:o.op= .call c) (hc:c.callee= .builtin .min) {K:V→List (Option Bk)→Prop}
  (h:match c.args.toList with
   |[x,y]=>match evN t x,evN t y with
    | .cv (.int k a),.cv (.int _ b)=>K (.cv (.int k (if b<a then b else a))) m
    |_,_=>False
   |_=>False):OpOk P o a w (Post B w0 t a K):=by
 split at h
 rotate_left
 ·cases h
 rename_i x y h1
 have e1:=arr2 h1
 have hx:=hs.evN x
 have hy:=hs.evN y
 split at h
 rotate_left
 ·cases h
 rename_i k p k' q hp hq
 rw[hp] at hx;rw[hq] at hy
 generalize hu:a.eval x=u at hx
 generalize hv:a.eval y=v at hy
 cases hx;cases hy
 refine opOk_val (u:= .int k (if q<p then q else p)) (w':=w) ?_ (Post.same hs (.cv _) h)
 unfold execOp
 simp only[ho]
 simp[resolve,hc,e1,hu,hv,invoke,builtin,Builtin.min_,Builtin.min2]
theorem src_spec (hs:Sat B w0 N S t m a w) {v:V} {u:Value} (h:RelV N S w v u) {sz:Nat} (h0:0<sz) {ys:List (List D)} {fr:Bool} (he:v.elems m sz=some (ys,fr)) {fo:Bool} (hfl:fo=true→fr=true∨Flat ys):
  (∀x∈ys,x.length=sz)∧((∃cap,u= .slice none 0 cap∧ys=[])∨∃ad cap,u= .slice (some ad) ys.length cap∧∃news:List Value,news.length=ys.length*sz∧(∀j u,news[j]?=some u→w.cell? (ad.add j)=some u)∧(∀u∈news,u.oneCell'=true)∧
   ∀i j d,(ys[i]?.bind fun x=>x[j]?)=some d→∃u,news[i*sz+j]?=some u∧RelD (S fo) w d u):=by
 have mk:∀{g p cap:Nat} {S':Nat→Prop} {f:Nat→Nat→Value} {ys:List (List D)},(∀x∈ys,x.length=sz)→(∀i j d,(ys[i]?.bind fun x=>x[j]?)=some d→w.cell? ⟨g,p+i*sz+j,none⟩=some (f i j)∧RelD S' w d (f i j)∧RelD (S fo) w d (f i j))→
   ∃ad cap',(Value.slice (some ⟨g,p,none⟩) ys.length cap)= .slice (some ad) ys.length cap'∧∃news:List Value,news.length=ys.length*sz∧(∀j u,news[j]?=some u→w.cell? (ad.add j)=some u)∧(∀u∈news,u.oneCell'=true)∧
   ∀i j d,(ys[i]?.bind fun x=>x[j]?)=some d→∃u,news[i*sz+j]?=some u∧RelD (S fo) w d u:=by
  intro g p cap S' f ys hx hc
  have hget:∀q,q<ys.length*sz→∃d,(ys[q / sz]?.bind fun x=>x[q % sz]?)=some d:=by
   intro q hq
   have h1:q / sz<ys.length:=Nat.div_lt_of_lt_mul (by rw[Nat.mul_comm];exact hq)
   have h2:q % sz<sz:=Nat.mod_lt _ h0
   rw[List.getElem?_eq_getElem h1]
   simp only[Option.bind_some]
   rw[List.getElem?_eq_getElem (by rw[hx _ (List.getElem_mem h1)];exact h2)]
   exact⟨_,rfl⟩
  have hdm:∀q,q / sz*sz+q % sz=q:=fun q=>by rw[Nat.mul_comm];exact Nat.div_add_mod q sz
  refine⟨⟨g,p,none⟩,cap,rfl,(List.range (ys.length*sz)).map (fun q=>f (q / sz) (q % sz)),by simp,fun q u hq=>?_,fun u hu=>?_,fun i j d hd=>?_⟩
  ·rw[List.getElem?_map,Option.map_eq_some_iff] at hq
   obtain⟨q',hq',rfl⟩:=hq
   have hlt:=lt_of_get hq'
   simp only[List.length_range] at hlt
   rw[List.getElem?_range hlt] at hq'
   cases hq'
   obtain⟨d,hd⟩:=hget q hlt
   have:=(hc _ _ d hd).1
   rw[add_mk,←this,Nat.add_assoc,hdm]
  ·simp only[List.mem_map,List.mem_range] at hu
   obtain⟨q,hq,rfl⟩:=hu
   obtain⟨d,hd⟩:=hget q hq
   exact(hc _ _ d hd).2.1.one
  ·have hij:i<ys.length∧j<sz:=by
    cases hi':ys[i]? with
    |none=>rw[hi'] at hd;cases hd
    |some c=>
     rw[hi'] at hd
     have a2:=lt_of_get (show c[j]?=some d from hd)
     rw[hx c (List.mem_of_getElem? hi')] at a2
     exact⟨lt_of_get hi',a2⟩
   have hlt:i*sz+j<ys.length*sz:=by
    calc i*sz+j<i*sz+sz:=by omega
     _=(i+1)*sz:=by rw[Nat.add_mul];omega
     _≤ys.length*sz:=Nat.mul_le_mul_right _ hij.1
   have e1:(i*sz+j) / sz=i:=by
    rw[Nat.add_comm,Nat.add_mul_div_right _ _ h0,Nat.div_eq_of_lt hij.2,Nat.zero_add]
   have e2:(i*sz+j) % sz=j:=by
    rw[Nat.add_comm,Nat.add_mul_mod_self_right];exact Nat.mod_eq_of_lt hij.2
   refine⟨f i j,?_,(hc i j d hd).2.2⟩
   rw[List.getElem?_map,List.getElem?_range hlt,Option.map_some,e1,e2]
 have conv:∀{i j:Nat} {d:D} {u:Value},(ys[i]?.bind fun x=>x[j]?)=some d→RelD (S fr) w d u→RelD (S fo) w d u:=by
  intro i j d u hd hr
  have hTF:∀b,S true b→S false b:=fun b hb=>(hs.fresh b hb).1
  cases hfo:fo with
  |false=>
   cases hfr:fr with
   |false=>rw[hfr] at hr;exact hr
   |true=>rw[hfr] at hr;exact hr.mono hTF fun _ _=>rfl
  |true=>
   rcases hfl hfo with h|h
   ·rw[h] at hr;exact hr
   ·cases hi':ys[i]? with
    |none=>rw[hi'] at hd;cases hd
    |some c=>
     rw[hi'] at hd
     obtain⟨v,rfl⟩:=h c (List.mem_of_getElem? hi') d (List.mem_of_getElem? hd)
     exact hr.flat
 cases h<;>simp only[V.elems] at he<;>try(cases he;done)
 ·split at he
  ·rename_i hv
   cases he
   cases hv
   exact⟨by simp,.inl ⟨0,rfl,rfl⟩⟩
  all_goals(first|cases he|skip)
  all_goals(rename_i hv;cases hv)
 ·rename_i f s xs h
  split at he
  ·rename_i hss
   subst hss
   cases he
   cases h with
   |nil sz A cap=>
    refine⟨by simp,?_⟩
    cases A with
    |none=>exact .inl ⟨cap,rfl,rfl⟩
    |some ad=>exact .inr ⟨ad,cap,rfl,[],by simp,by simp,by simp,by simp⟩
   |sl _ _ b p cap u hS hx hcap hc hd=>
    refine⟨hx,.inr (mk (S':=S fr) (f:=u) hx fun i j d h=>⟨hc i j d h,hd i j d h,conv h (hd i j d h)⟩)⟩
  ·cases he
 ·rename_i n k hu hn
  obtain⟨k',v,hn,hk,hev⟩:=hn
  split at he
  ·rename_i k2 E s f xs hm
   split at he
   ·rename_i hkk
    obtain⟨rfl,rfl⟩:=hkk
    cases he
    obtain⟨rfl,h1,h2,h3⟩:=row_cells hs hm hn
    have:=hev rfl
    subst this
    refine⟨h1,?_⟩
    rcases h3 with⟨rfl,rfl⟩|⟨g,cap,us,rfl,h4,h5,_,_,h6⟩
    ·exact .inl ⟨0,rfl,rfl⟩
    ·refine .inr (mk (S':=S fr) (f:=fun i j=>us.getD (i*s+j) undef) h1 fun i j d hd=>?_)
     obtain⟨h7,h8⟩:=h6 i j d hd
     refine⟨?_,h8,conv hd h8⟩
     rw[Nat.zero_add,cell_of_row w g _ us E _ h4]
     simp[Array.getD_eq_getD_getElem?,h7]
   ·cases he
  ·cases he
 ·rename_i n k s lo hi hu hn
  obtain⟨k',v,hn,hk,hev⟩:=hn
  split at he
  ·rename_i k2 E s f xs hm
   split at he
   ·rename_i hkk
    obtain⟨rfl,rfl,rfl⟩:=hkk
    cases he
    obtain⟨rfl,h1,h2,h3⟩:=row_cells hs hm hn
    obtain⟨A,len,cap,A',e1,e2,e3,e4,e5⟩:=hev rfl
    subst e4
    have hx:∀y∈(xs.take hi).drop lo,y.length=s:=fun y hy=>h1 y (List.mem_of_mem_take (List.mem_of_mem_drop hy))
    refine⟨hx,?_⟩
    have hlen:((xs.take hi).drop lo).length=min hi xs.length - lo:=by rw[List.length_drop,List.length_take]
    rcases Nat.eq_or_lt_of_le e2 with e|hlt
    ·have e6:(xs.take hi).drop lo=[]:=by apply List.drop_eq_nil_of_le;rw[List.length_take];omega
     rw[e6,show hi - lo=0 by omega]
     cases A' with
     |none=>exact .inl ⟨_,rfl,rfl⟩
     |some ad=>exact .inr ⟨ad,_,rfl,[],by simp,by simp,by simp,by simp⟩
    rcases h3 with⟨h3,_⟩|⟨g,cap',us,h3,h4,h5,_,_,h6⟩
    ·rw[e1] at h3;cases h3;omega
    rw[e1] at h3;cases h3
    rw[e5 hlt]
    simp only[Option.map_some,add_mk]
    rw[show hi - lo=((xs.take hi).drop lo).length by omega]
    refine .inr (mk (S':=S fr) (f:=fun i j=>us.getD ((lo+i)*s+j) undef) hx fun i j d hd=>?_)
    have hd':(xs[lo+i]?.bind fun x=>x[j]?)=some d:=by
     rw[List.getElem?_drop,List.getElem?_take] at hd
     split at hd
     ·exact hd
     ·cases hd
    obtain⟨h7,h8⟩:=h6 _ j d hd'
    refine⟨?_,h8,conv hd h8⟩
    rw[cell_of_row w g _ us E _ h4,show 0+lo*s+i*s+j=(lo+i)*s+j by rw[Nat.add_mul];omega]
    simp[Array.getD_eq_getD_getElem?,h7]
   ·cases he
  ·cases he
theorem append_run {base ty oty e sz bytes:Nat} {fo:Bool} {i:TypeInfo} {z:Value} (ht:P.underlying ty=some (.slice e)) (hi:P.info? e=some i) (hz:i.zero=some z)
  (hsize:i.size=sz) (hby:i.bytes=bytes) (hzs:z.cells.size=sz) (hsz:0<sz) {v:Value} {n:Nat} {xs:List Value} (hown:w.ownsRow base e sz v n xs)
  {ys:List (List D)} {u:Value} (hu:(∃cap,u= .slice none 0 cap∧ys=[])∨∃ad cap,u= .slice (some ad) ys.length cap∧∃news:List Value,news.length=ys.length*sz∧(∀j u,news[j]?=some u→w.cell? (ad.add j)=some u)∧(∀u∈news,u.oneCell'=true)∧
   ∀i j d,(ys[i]?.bind fun x=>x[j]?)=some d→∃u,news[i*sz+j]?=some u∧RelD (S fo) w d u)
  (h63:n+ys.length≤maxLen) (hbytes:(n+ys.length)*bytes≤140737488355328) (hbase:base≤w.heap.size):
  ∃v' w' news,(Builtin.append_ #[ty,ty] oty #[v,u]).run P w= .ok v' w'∧w'.ownsRow base e sz v' (n+ys.length) (xs++news)∧w.grownBy w' v.ownBlock∧
   (∀g,atOf v'=some g→w.heap.size≤g∨atOf v=some g)∧
   (∀i j d,(ys[i]?.bind fun x=>x[j]?)=some d→∃u,news[i*sz+j]?=some u∧RelD (S fo) w d u)∧v'.oneCell'=true∧∃A l c,v'= .slice A l c:=by
 have hsl:∃A c,v= .slice A n c:=own_parts hown
 rcases hu with⟨cap,rfl,rfl⟩|⟨ad,cap,rfl,news,h1,h2,h3,h4⟩
 ·obtain⟨A,c,rfl⟩:=hsl
  refine⟨_,w,[],?_,by simpa using hown,⟨rfl,rfl,rfl,Nat.le_refl _,fun _ _ _=>rfl⟩,fun g hg=> .inr hg,by simp,rfl,_,_,_,rfl⟩
  have hle:n+0≤c:=by
   rcases hown.2 with⟨h,h'⟩|⟨g,cap',cu,e1,_,_,e4,_⟩
   ·omega
   ·cases e1;omega
  cases A<;>simp[Builtin.append_,run_underlying ht,sizeOf,typeInfo,hi,Builtin.lenOf,Builtin.firstCells,storeCells]<;>omega
 ·obtain⟨v',w',hr,hown',hgr,_⟩:=run_append_own (P:=P) w base ty oty e i z sz bytes ht hi hz hsize hby hzs hsz v n xs hown ad ys.length cap news h1 h2 h3 h63 hbytes hbase
  refine⟨v',w',news,hr,hown',hgr,?_,h4,?_,?_⟩
  ·intro g hg
   rcases hown.2 with⟨rfl,rfl⟩|⟨g0,cap0,cu,rfl,hbg,hg0,hnc,hcm,hcs,htake⟩
   ·have hown2:w.ownsRow w.heap.size e sz (.slice none 0 0) 0 []:=World.ownsRow_nil w _ e sz
    have hx:xs=[]:=List.eq_nil_of_length_eq_zero (by simpa using hown.1)
    subst hx
    obtain⟨v2,w2,hr2,hown2',_⟩:=run_append_own (P:=P) w w.heap.size ty oty e i z sz bytes ht hi hz hsize hby hzs hsz _ 0 [] hown2 ad ys.length cap news h1 h2 h3 h63 hbytes (Nat.le_refl _)
    rw[hr] at hr2;cases hr2
    rcases hown2'.2 with⟨rfl,_⟩|⟨g1,cap1,cu1,rfl,hb1,_⟩
    ·simp[atOf] at hg
    ·simp[atOf] at hg;subst hg;exact .inl hb1
   ·by_cases hroom:n+ys.length≤cap0
    ·have hfit:n*i.size+news.length≤cu.size:=by rw[h1,hcs,hsize,←Nat.add_mul];exact Nat.mul_le_mul_right _ hroom
     have hr2:=run_append_room (P:=P) w ty oty e i ht hi g0 n cap0 cu hg0 ad ys.length cap news (by rw[hsize];exact h1) h2 h3 hroom hfit
     rw[hr] at hr2;cases hr2
     exact .inr hg
    ·have hsmall:n+ys.length≤9223372036854775807:=by simp only[maxLen] at h63;omega
     have holds:∀j u,xs[j]?=some u→w.cell? ((⟨g0,0,none⟩:Addr).add j)=some u:=hown.cells (g:=g0) rfl
     have hr2:=run_append_grow (P:=P) w ty oty e i z ht hi hz ⟨g0,0,none⟩ n cap0 xs (by rw[hsize];exact hown.1) holds ad ys.length cap news (by rw[hsize];exact h1) h2 (by omega) (by omega) (growslice_fits (by omega) (by rw[hby];exact hbytes))
     rw[hr] at hr2;cases hr2
     simp[atOf] at hg;subst hg;exact .inl (Nat.le_refl _)
  ·obtain⟨A,c,rfl⟩:=own_parts hown';rfl
  ·obtain⟨A,c,rfl⟩:=own_parts hown';exact⟨_,_,_,rfl⟩
end
end Go.Proofs.YtglndfgmlminpaaGreatDoor
