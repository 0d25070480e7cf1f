/- Texts joined by pack.py: XSxK XSxL -/
import Derived.Test.YtglndfgmlminpaaGreatDoorSx6
import Derived.Still
set_option maxHeartbeats 2000000
namespace Go.Proofs.YtglndfgmlminpaaGreatDoor
open Go.RowKit
section
variable {P:Program} {T:Tab} {B:Fr} {w0:World} {N:Names} {S:Sets} {t:List V} {m:List (Option Bk)} {a:Act} {w:World}
theorem atOf_own {v:Value} (h:∃A l c,v= .slice A l c):v.ownBlock=atOf v:=by
 obtain⟨A,l,c,rfl⟩:=h
 cases A<;>rfl
theorem flagK_eq {f fr:Bool} {ys:List (List D)} {K:Bool→Prop} (h:flagK f fr ys K):(f=true→fr=true∨Flat ys)∧K f:=by
 unfold flagK at h
 cases f<;>cases fr<;>simp only at h
 ·exact⟨(fun e=>by cases e),h⟩
 ·exact⟨(fun e=>by cases e),h⟩
 ·exact⟨fun _=> .inr h.1,h.2⟩
 ·exact⟨fun _=> .inl rfl,h⟩
theorem ok_append (hT:TOk P T) (hs:Sat B w0 N S t m a w) {o:Oper} {c:Call} (ho:o.op= .call c) (hc:c.callee= .builtin .append) {K:V→List (Option Bk)→Prop}
  (h:match c.args.toList,c.argTypes.toList with
   |[x,y],[ty,ty']=>match T ty,decide (ty=ty') with
    |some ⟨_,_,_,_,.slice e⟩,true=>match T e with
     |some i=>if i.size=0∨i.bytes=0 then False else
      match(evN t y).elems m i.size with
      |some (ys,fr)=>
       (match evN t x with
       | .cv (.slice none 0 0)=>flagK true fr ys fun f=>ys.length*i.bytes≤140737488355328∧newK o.dst (.row 0 e i.size f ys) (.ow · 0) m K
       | .ow n k=>match m[n]? with
        |some (some (.row k' e' s f xs))=>if k=k'∧e'=e∧s=i.size then flagK f fr ys fun f=>(xs.length+ys.length)*i.bytes≤140737488355328∧setK m n (some (.row (k+1) e' s f (xs++ys))) fun m'=>K (.ow n (k+1)) m' else False
        |_=>False
       |_=>False)
      |none=>False
     |none=>False
    |_,_=>False
   |_,_=>False):OpOk P o a w (Post B w0 t a K):=by
 split at h
 rotate_left
 ·cases h
 rename_i x y ty ty' h1 h2
 have e1:=arr2 h1
 have e2:=arr2 h2
 have hx:=hs.evN x
 have hy:=hs.evN y
 split at h
 rotate_left
 ·cases h
 rename_i e hti hde
 simp only[decide_eq_true_eq] at hde
 subst hde
 have hsl:=hT.kd_slice hti rfl
 split at h
 rotate_left
 ·cases h
 rename_i i hie
 split at h
 ·cases h
 rename_i hc0
 simp only[not_or] at hc0
 have h0:0<i.size:=by omega
 obtain⟨j,hj,hsz,hby,⟨z,hz,hzc⟩,_⟩:=hT.get _ _ hie
 obtain⟨_,hzl,_⟩:=hT.ok hie
 have hzs:z.cells.size=i.size:=by rw[←hzl,←hzc];simp
 split at h
 rotate_left
 ·cases h
 rename_i ys fr hel
 have fin:∀{v':Value} {w':World},(Builtin.append_ #[ty,ty] o.type #[a.eval x,a.eval y]).run P w= .ok v' w'→Post B w0 t a K v' w'→OpOk P o a w (Post B w0 t a K):=by
  intro v' w' hr hK
  refine opOk_val (u:=v') (w':=w') ?_ hK
  unfold execOp
  simp only[ho]
  simp[resolve,hc,e1,e2,invoke,builtin,hr]
 split at h
 ·rename_i hev
  rw[hev] at hx
  generalize hu:a.eval x=u at hx fin
  cases hx
  obtain⟨hfl,hbytes,h⟩:=flagK_eq h
  obtain⟨hyx,hyu⟩:=src_spec hs hy h0 hel hfl
  have hlen:ys.length≤140737488355328:=Nat.le_trans (Nat.le_mul_of_pos_right _ (by omega)) hbytes
  obtain⟨v',w',news,hr,hown,hgr,hat,hnews,hv1,hvs⟩:=append_run (oty:=o.type) hsl hj hz hsz hby hzs h0 (World.ownsRow_nil w 0 e i.size) hyu (by simp only[maxLen];omega) (by rw[Nat.zero_add];exact hbytes) (Nat.zero_le _)
  simp only[Nat.zero_add,List.nil_append] at hown
  unfold newK at h
  split at h
  ·cases h
  rename_i d hdst
  split at h
  rotate_left
  ·cases h
  rename_i hd
  rw[setK_eq] at h
  have hnone:N d=none:=hs.non d fun b' h=>by rw[hd] at h;cases h
  obtain⟨N',g1,g2,g3⟩:=hs.set (w':=w') (d:=d) (k:=0) (v:=v') (b:= .row 0 e i.size true ys) (lt_of_get hd) (fun k0 v0 h=>by rw[hnone] at h;cases h)
   (hs.low.grown hgr hs.base (fun k hk=>by simp[Value.ownBlock] at hk)) hgr.size (fun g hg _=>hgr.block g hg (by simp[Value.ownBlock]))
   (fun g hg=>by
    have hlt:=hown.lt g (by rw[atOf_own hvs];exact hg)
    refine⟨hlt.2,?_⟩
    rcases hat g hg with h|h
    ·exact .inl h
    ·simp[atOf] at h)
   (fun N' g1 g2 g3=>⟨v',news,g1,hown,hyx,h0,fun i' j' d' hd'=>(by
    obtain⟨u,hu1,hu2⟩:=hnews i' j' d' hd'
    exact⟨u,hu1,g3 _ _ _ hu2⟩),fun _ g hg=>by
    rcases hat g hg with h|h
    ·exact Nat.le_trans hs.size h
    ·simp[atOf] at h⟩)
  exact fin hr ⟨N',S,_,_,g3,.ow d 0 _ hv1 ⟨0,v',g1,Nat.le_refl _,fun _=>rfl⟩,h⟩
 ·rename_i n k hev
  rw[hev] at hx
  generalize hu:a.eval x=u at hx fin
  cases hx
  rename_i hu1 hn
  obtain⟨k0,v,hn,hk,he⟩:=hn
  split at h
  rotate_left
  ·cases h
  rename_i k' e' s f xs hm
  split at h
  rotate_left
  ·cases h
  rename_i hkk
  obtain⟨rfl,rfl,rfl⟩:=hkk
  obtain⟨hfl,hbytes,h⟩:=flagK_eq h
  obtain⟨hyx,hyu⟩:=src_spec hs hy h0 hel hfl
  rw[setK_eq] at h
  obtain⟨v2,us,b1,b2,b3,b4,b5,b6⟩:=hs.blk n _ hm
  rw[hn] at b1;cases b1
  have:=he rfl
  subst this
  have hlen:xs.length+ys.length≤140737488355328:=Nat.le_trans (Nat.le_mul_of_pos_right _ (by omega)) hbytes
  obtain⟨v',w',news,hr,hown,hgr,hat,hnews,hv1,hvs⟩:=append_run (oty:=o.type) hsl hj hz hsz hby hzs h0 b2 hyu (by simp only[maxLen];omega) hbytes (Nat.zero_le _)
  have hvs0:∃A l c,u= .slice A l c:=by obtain⟨A,c,h⟩:=own_parts b2;exact⟨_,_,_,h⟩
  obtain⟨N',g1,g2,g3⟩:=hs.set (w':=w') (d:=n) (k:=k+1) (v:=v') (b:= .row (k+1) e' i.size f (xs++ys)) (lt_of_get hm)
   (fun k0 v0 h=>by rw[hn] at h;cases h;exact .inr ⟨hvs0,by omega⟩)
   (hs.low.grown hgr hs.base (fun q hq=>(hs.own n _ _ q hn (by rw[←atOf_own hvs0];exact hq)).1)) hgr.size (fun g hg hk=>hgr.block g hg (by rw[atOf_own hvs0];exact fun e=>hk _ _ hn e.symm))
   (fun g hg=>by
    have hlt:=hown.lt g (by rw[atOf_own hvs];exact hg)
    refine⟨hlt.2,?_⟩
    rcases hat g hg with h|h
    ·exact .inl h
    ·exact .inr ⟨_,_,hn,h⟩)
   (fun N' g1 g2 g3=>⟨v',us++news,g1,by rw[List.length_append];exact hown,(fun x hx=>by
     rcases List.mem_append.1 hx with hx|hx
     ·exact b3 x hx
     ·exact hyx x hx),h0,(fun i' j' d' hd'=>by
    rw[List.getElem?_append] at hd'
    have hul:us.length=xs.length*i.size:=b2.1
    split at hd'
    ·rename_i hlt
     obtain⟨u,hu1,hu2⟩:=b5 i' j' d' hd'
     refine⟨u,?_,g3 _ _ _ hu2⟩
     rw[List.getElem?_append_left (lt_of_get hu1)];exact hu1
    ·rename_i hlt
     obtain⟨u,hu1,hu2⟩:=hnews _ j' d' hd'
     refine⟨u,?_,g3 _ _ _ hu2⟩
     have:xs.length*i.size≤i'*i.size:=Nat.mul_le_mul_right _ (by omega)
     rw[List.getElem?_append_right (by omega),hul,←hu1]
     congr 1
     rw[Nat.sub_mul];omega),fun e g hg=>by
    rcases hat g hg with h|h
    ·exact Nat.le_trans hs.size h
    ·exact b6 e g h⟩)
  exact fin hr ⟨N',S,_,_,g3,.ow n (k+1) _ hv1 ⟨k+1,v',g1,Nat.le_refl _,fun _=>rfl⟩,h⟩
 ·cases h
theorem ok_pick (hs:Sat B w0 N S t m a w) {o:Oper} {c x y:Operand} (ho:o.op= .pick c x y) {K:V→List (Option Bk)→Prop}
  (h:match evN t c with
  | .cv (.bool b)=>∀b',b=b'→K (match b' with|true=>evN t x|false=>evN t y) m
  |_=>False):OpOk P o a w (Post B w0 t a K):=by
 have hc:=hs.evN c
 split at h
 rotate_left
 ·cases h
 rename_i b hev
 rw[hev] at hc
 generalize hu:a.eval c=u at hc
 cases hc
 have h:=h b rfl
 refine opOk_val (u:=if b then a.eval x else a.eval y) (w':=w) ?_ (Post.same hs ?_ h)
 ·unfold execOp
  simp only[ho,hu]
  simp[asBool]
 ·cases b
  ·exact hs.evN y
  ·exact hs.evN x
theorem Oper.wp_mono' {o:Oper} {next next':Act→World→Prop} {Q:Exit→Act→World→Prop} (h:o.wp P a w next Q) (hm:∀a w,next a w→next' a w):o.wp P a w next' Q:=by
 unfold Oper.wp at*
 generalize (execOp a.eval o).run P w=r at h⊢
 cases r with
 |ok x w'=>
  cases x<;>simp only[Oper.upon] at h⊢ <;>first|exact hm _ _ h|exact h.elim|skip
  ·refine Calls.mono h fun e w'' he=>?_
   cases e with
   |returned u=>exact hm _ _ he
   |panicked c=>exact he
   |outgrown=>exact he
  ·exact Rows.mono h fun u w'' he=>hm _ _ he
 |halt x w'=>cases x<;>simp only[Oper.upon] at h⊢ <;>exact h
theorem consts_spec {E:Operand→V}:∀{l:List Operand} {cs:List Value},consts E l=some cs→cs.length=l.length∧∀(i:Nat) (x:Operand),l[i]?=some x→∃c,cs[i]?=some c∧E x= .cv c
 |[],cs,h=>by cases h;exact⟨rfl,fun i x hx=>by simp at hx⟩
 |y::l,cs,h=>by
  simp only[consts] at h
  split at h
  ·rename_i v vs h1 h2
   cases h
   obtain⟨e1,e2⟩:=consts_spec h2
   refine⟨by simp[e1],fun i x hx=>?_⟩
   cases i with
   |zero=>simp at hx;subst hx;exact⟨v,by simp,h1⟩
   |succ i=>simpa using e2 i x (by simpa using hx)
  ·cases h
theorem ok_makeFunc (hs:Sat B w0 N S t m a w) {o:Oper} {f:FuncId} {fst cap:Array Operand} (ho:o.op= .makeFunc (.func f) fst cap) {K:V→List (Option Bk)→Prop}
  (h:match consts (evN t) (fst.toList++cap.toList) with
  |some cs=>K (.cv (.func (.func f) (cs.take fst.size).toArray (cs.drop fst.size).toArray)) m
  |none=>match allOne ((fst.toList++cap.toList).map (evN t)) with
   |true=>forceL ((fst.toList++cap.toList).map (evN t)) fun cs=>K (.fn f fst.size cs) m
   |false=>False):OpOk P o a w (Post B w0 t a K):=by
 have fin:∀v:V,RelV N S w v (.func (.func f) (fst.map a.eval) (cap.map a.eval))→K v m→OpOk P o a w (Post B w0 t a K):=by
  intro v hv hK
  refine opOk_val (u:= .func (.func f) (fst.map a.eval) (cap.map a.eval)) (w':=w) ?_ (Post.same hs hv hK)
  unfold execOp
  simp only[ho]
  refine run_v ?_
  simp[Instr.makeFunc]
 split at h
 ·rename_i cs hc
  obtain⟨e1,e2⟩:=consts_spec hc
  refine fin _ ?_ h
  have key:∀(i:Nat) (x:Operand),(fst.toList++cap.toList)[i]?=some x→cs[i]?=some (a.eval x):=by
   intro i x hx
   obtain⟨c,h1,h2⟩:=e2 i x hx
   have hr:=hs.evN x
   rw[h2] at hr
   generalize hu:a.eval x=u at hr
   cases hr
   exact h1
  have hl:cs=(fst.toList++cap.toList).map a.eval:=by
   refine List.ext_getElem? fun i=>?_
   rw[List.getElem?_map]
   cases hx:(fst.toList++cap.toList)[i]? with
   |none=>
    rw[Option.map_none,List.getElem?_eq_none]
    have:(fst.toList++cap.toList).length≤i:=by
     rcases Nat.lt_or_ge i (fst.toList++cap.toList).length with h|h
     ·rw[List.getElem?_eq_getElem h] at hx;cases hx
     ·exact h
    omega
   |some x=>rw[key i x hx];rfl
  have h1:(cs.take fst.size).toArray=fst.map a.eval:=by
   apply Array.ext'
   rw[hl];simp
  have h2:(cs.drop fst.size).toArray=cap.map a.eval:=by
   apply Array.ext'
   rw[hl];simp
  rw[h1,h2];exact .cv _
 ·split at h
  ·rw[forceL_eq] at h
   refine fin _ (.fn _ _ _ _ _ (by simp) (by simp) fun i v hv=>?_) h
   rw[List.getElem?_map,Option.map_eq_some_iff] at hv
   obtain⟨x,hx,rfl⟩:=hv
   have e:(fst.map a.eval++cap.map a.eval).getD i undef=a.eval x:=by
    have h3:(fst.map a.eval++cap.map a.eval).toList[i]?=some (a.eval x):=by
     simp only[Array.toList_append,Array.toList_map,←List.map_append,List.getElem?_map,hx,Option.map_some]
    exact getD_of_get h3
   rw[e];exact hs.evN x
  ·exact h.elim
theorem ok_ext (hs:Sat B w0 N S t m a w) {o:Oper} {K:V→List (Option Bk)→Prop} (h:∃v m',OpTr P o (evN t) m v m'∧v.k fun v=>forceM m' fun m'=>K v m'):OpOk P o a w (Post B w0 t a K):=by
 obtain⟨v,m',h1,h2⟩:=h
 rw[k_eq,forceM_eq] at h2
 have:=h1 B w0 N S t a w hs fun x _=>hs.evN x
 intro Q
 refine Oper.wp_mono' (this Q) ?_
 rintro a' w' ⟨u,he,N',S',h3,h4⟩
 exact⟨u,he,N',S',v,m',h3,h4,h2⟩
theorem aCore_sound (hT:TOk P T) (hs:Sat B w0 N S t m a w) {o:Oper} {K:V→List (Option Bk)→Prop} (h:aCore P T o (evN t) m K):OpOk P o a w (Post B w0 t a K):=by
 unfold aCore at h
 split at h
 ·exact ok_move hs (.inl (by assumption)) h
 ·exact ok_move hs (.inr (by assumption)) h
 ·exact ok_pick hs (by assumption) h
 ·exact ok_alloc hT hs (by assumption) h
 ·exact ok_box (F:=T.fm) hs (by assumption) h
 ·exact ok_load hT hs (by assumption) h
 ·exact ok_store hT hs (by assumption) h
 ·exact ok_fieldAddr hT hs (by assumption) h
 ·exact ok_field hT hs (by assumption) h
 ·exact ok_indexAddr hT hs (by assumption) h
 ·exact ok_makeInterface hT hs (by assumption) h
 ·exact ok_nilCheck hs (by assumption) h
 ·exact ok_index hT hs (by assumption) h
 ·split at h
  ·exact ok_ext hs h
  ·exact ok_slice hT hs (by assumption) h
 ·exact ok_binOp hT hs (by assumption) h
 ·exact ok_unOp hs (by assumption) h
 ·split at h
  ·exact ok_ext hs h
  ·exact ok_convert hT hs (by assumption) h
 ·exact ok_extract hs (by assumption) h
 ·exact ok_build hT hs (by assumption) h
 ·split at h
  ·exact ok_ext hs h
  ·exact ok_buildSlice hT hs (by assumption) h
 ·rename_i c ho
  split at h
  ·rename_i f hc
   split at h
   ·exact ok_call hs ho hc h
   ·exact ok_ext hs h
  ·rename_i i hc
   split at h
   ·rename_i f fst cap hev
    split at h
    ·exact ok_callv hs ho hc (by rw[hev];exact h)
    ·exact ok_ext hs h
   ·rename_i f n cs hev
    split at h
    ·exact ok_callv hs ho hc (by rw[hev];exact h)
    ·exact ok_ext hs h
   ·exact h.elim
  ·exact ok_len hT hs ho (by assumption) h
  ·exact ok_max hs ho (by assumption) h
  ·exact ok_min hs ho (by assumption) h
  ·rename_i hc
   split at h
   ·rename_i x y ty ty' h1 h2
    split at h
    ·exact ok_ext hs h
    ·exact ok_append hT hs ho hc (by rw[h1,h2];exact h)
   ·exact h.elim
  ·exact ok_ext hs h
 ·exact ok_makeFunc hs (by assumption) h
 ·exact ok_ext hs h
end
end Go.Proofs.YtglndfgmlminpaaGreatDoor
namespace Go.Proofs.YtglndfgmlminpaaGreatDoor
open Go.RowKit
section
variable {P:Program} {T:Tab} {m:List (Option Bk)}
theorem buildV_congr {fs:List (Nat×Nat)} {E E':Operand→V} (ps:List (Nat×Operand)):∀(cs:List V) (K:List V→Prop),(∀p∈ps,E p.2=E' p.2)→buildV fs T E cs ps K=buildV fs T E' cs ps K:=by
 induction ps with
 |nil=>intro cs K _;rfl
 |cons p ps ih=>
  intro cs K h
  obtain⟨i,x⟩:=p
  have h1:E x=E' x:=h (i,x) (by simp)
  have h2:∀cs K,buildV fs T E cs ps K=buildV fs T E' cs ps K:=fun cs K=>ih cs K fun p hp=>h p (by simp[hp])
  simp only[buildV,h1,h2]
theorem elemsD_congr {sz:Nat} {E E':Operand→V} (ps:List (Nat×Operand)):∀(xs:List (List D)) (f:Bool) (K:List (List D)→Bool→Prop),(∀p∈ps,E p.2=E' p.2)→elemsD sz E xs f ps K=elemsD sz E' xs f ps K:=by
 induction ps with
 |nil=>intro cs f K _;rfl
 |cons p ps ih=>
  intro cs f K h
  obtain⟨i,x⟩:=p
  have h1:E x=E' x:=h (i,x) (by simp)
  have h2:∀cs f K,elemsD sz E cs f ps K=elemsD sz E' cs f ps K:=fun cs f K=>ih cs f K fun p hp=>h p (by simp[hp])
  simp only[elemsD,h1,h2]
theorem passL_congr {E E':Operand→V} (l:List Operand):∀(tys:List TypeId) (K:List V→Prop),(∀x∈l,E x=E' x)→passL T m l tys E K=passL T m l tys E' K:=by
 induction l with
 |nil=>intro tys K _;rfl
 |cons x l ih=>
  intro tys K h
  have h1:=h x (by simp)
  have h2:∀tys K,passL T m l tys E K=passL T m l tys E' K:=fun tys K=>ih tys K fun y hy=>h y (by simp[hy])
  cases tys<;>simp only[passL,h1,h2]
theorem optInt_congr {E E':Operand→V} {d:Int} {x:Option Operand} (h:∀y,x=some y→E y=E' y):optInt E d x=optInt E' d x:=by
 cases x with
 |none=>rfl
 |some y=>simp only[optInt,h y rfl]
theorem opTr_congr {o:Oper} {E E':Operand→V} {v:V} {m':List (Option Bk)} (h:∀x,x∈o.op.operands.toList→E x=E' x):OpTr P o E m v m'=OpTr P o E' m v m':=by
 have key:∀{E E':Operand→V},(∀x,x∈o.op.operands.toList→E x=E' x)→OpTr P o E m v m'→OpTr P o E' m v m':=fun h ht B w0 N S t a w hs hx=>
  ht B w0 N S t a w hs fun x hm=>by rw[h x hm];exact hx x hm
 exact propext ⟨key h,key fun x hx=>(h x hx).symm⟩
theorem consts_congr {E E':Operand→V}:∀(l:List Operand),(∀x∈l,E x=E' x)→consts E l=consts E' l
 |[],_=>rfl
 |x::l,h=>by simp only[consts,h x (by simp),consts_congr l fun y hy=>h y (by simp[hy])]
theorem aCore_congr {o:Oper} {E E':Operand→V} {K:V→List (Option Bk)→Prop} (h:∀x,x∈o.op.operands.toList→E x=E' x):aCore P T o E m K=aCore P T o E' m K:=by
 have hext:∀v m',OpTr P o E m v m'=OpTr P o E' m v m':=fun v m'=>opTr_congr h
 unfold aCore
 cases ho:o.op<;>(try simp only[])<;>(rw[ho] at h;simp only[Op.operands] at h)<;>(try simp only[hext])<;>try rfl
 case move x=>rw[h x (by simp)]
 case pick c x y=>rw[h c (by simp),h x (by simp),h y (by simp)]
 case assign x=>rw[h x (by simp)]
 case box ty x=>rw[h x (by simp)]
 case load ty x=>rw[h x (by simp)]
 case store ty x y=>rw[h x (by simp),h y (by simp)]
 case fieldAddr s x f=>rw[h x (by simp)]
 case field s x f=>rw[h x (by simp)]
 case indexAddr ty x i=>rw[h x (by simp),h i (by simp)]
 case nilCheck x=>rw[h x (by simp)]
 case makeInterface ty x=>rw[h x (by simp)]
 case index ty x i=>rw[h x (by simp),h i (by simp)]
 case slice ty x lo hi mx=>
  have h1:∀d,optInt E d lo=optInt E' d lo:=fun d=>optInt_congr fun y hy=>h y (by subst hy;simp)
  have h2:∀d,optInt E d hi=optInt E' d hi:=fun d=>optInt_congr fun y hy=>h y (by subst hy;simp)
  rw[h x (by simp)]
  simp only[h1,h2]
 case binOp op ty x y yt=>rw[h x (by simp),h y (by simp)]
 case unOp op ty x=>rw[h x (by simp)]
 case convert s d x=>rw[h x (by simp)]
 case extract x i=>rw[h x (by simp)]
 case build ty ps=>
  have h2:∀fs cs K,buildV fs T E cs ps.toList K=buildV fs T E' cs ps.toList K:=fun fs cs K=>buildV_congr _ _ _ fun p hp=>h p.2 (by simp;exact⟨p.1,by simpa using hp⟩)
  simp only[h2]
 case buildSlice ty n ps=>
  have h2:∀sz xs f K,elemsD sz E xs f ps.toList K=elemsD sz E' xs f ps.toList K:=fun sz xs f K=>elemsD_congr _ _ _ _ fun p hp=>h p.2 (by simp;exact⟨p.1,by simpa using hp⟩)
  simp only[h2]
 case makeFunc fn fst cap=>
  have ha:∀x∈fst.toList++cap.toList,E x=E' x:=fun x hx=>h x (by simpa using hx)
  have h1:(fst.toList++cap.toList).map E=(fst.toList++cap.toList).map E':=List.map_congr_left ha
  cases fn<;>simp only[consts_congr _ ha,h1]<;>simp only[hext]
 case call c=>
  have ha:∀x∈c.args.toList,E x=E' x:=fun x hx=>h x (by simp only[Call.operands,Array.toList_append,List.mem_append];exact .inr hx)
  have h1:∀K,passL T m c.args.toList c.argTypes.toList E K=passL T m c.args.toList c.argTypes.toList E' K:=fun K=>passL_congr _ _ K ha
  split
  ·simp only[h1]
  ·rename_i t hc
   have:E (.tmp t)=E' (.tmp t):=h _ (by simp[Call.operands,hc])
   simp only[this,h1]
  ·split
   ·rename_i x ty e1 e2
    rw[ha x (by rw[e1];simp)]
   ·rfl
  ·split
   ·rename_i x y e1
    rw[ha x (by rw[e1];simp),ha y (by rw[e1];simp)]
   ·rfl
  ·split
   ·rename_i x y e1
    rw[ha x (by rw[e1];simp),ha y (by rw[e1];simp)]
   ·rfl
  ·split
   ·rename_i x y ty ty' e1 e2
    rw[ha x (by rw[e1];simp),ha y (by rw[e1];simp)]
   ·rfl
  ·simp only
def Det (m:List (Option Bk)) (ne:Bool) (F:(V→List (Option Bk)→Prop)→Prop):Prop:=
 ∀K,F K→∃v m',(∀K':V→List (Option Bk)→Prop,K' v m'→F K')∧K v m'∧(ne=true→m'=m)
theorem det_ret (m:List (Option Bk)) (ne:Bool) (v:V):Det m ne fun K=>K v m:=fun _ h=>⟨v,m,fun _ h=>h,h,fun _=>rfl⟩
theorem det_no (m:List (Option Bk)) (ne:Bool):Det m ne fun _=>False:=fun _ h=>h.elim
theorem det_and {m:List (Option Bk)} {ne:Bool} {p:Prop} {F:(V→List (Option Bk)→Prop)→Prop} (h:Det m ne F):Det m ne fun K=>p∧F K:=fun K ⟨hp,hF⟩=>
 let⟨v,m',h1,h2,h3⟩:=h K hF;⟨v,m',fun K' hK=>⟨hp,h1 K' hK⟩,h2,h3⟩
theorem det_ex {m:List (Option Bk)} {ne:Bool} {α:Type} {F:α→(V→List (Option Bk)→Prop)→Prop} (h:∀x,Det m ne (F x)):Det m ne fun K=>∃x,F x K:=fun K ⟨x,hF⟩=>
 let⟨v,m',h1,h2,h3⟩:=h x K hF;⟨v,m',fun K' hK=>⟨x,h1 K' hK⟩,h2,h3⟩
theorem det_ite {m:List (Option Bk)} {ne:Bool} {c:Prop} [Decidable c] {F G:(V→List (Option Bk)→Prop)→Prop} (h:Det m ne F) (h':Det m ne G):Det m ne fun K=>if c then F K else G K:=by
 by_cases hc:c
 ·simp only[hc,if_true];exact h
 ·simp only[hc,if_false];exact h'
theorem det_eff {m m2:List (Option Bk)} (v:V):Det m false fun K=>K v m2:=fun _ h=>⟨v,m2,fun _ h=>h,h,fun h=>by cases h⟩
theorem det_loadK {ne:Bool} {i:TI} {cs:List V} {off:Nat}:Det m ne fun K=>loadK i cs off fun v=>K v m:=by
 unfold loadK
 simp only[k_eq]
 refine det_ite (det_ite (det_ret _ _ _) (det_no _ _)) ?_
 cases cs[off]? with
 |none=>exact det_no _ _
 |some v=>exact det_ret _ _ _
theorem det_newK {dst:Option Tmp} {b:Bk} {v:Nat→V}:Det m false fun K=>newK dst b v m K:=by
 unfold newK
 cases dst with
 |none=>exact det_no _ _
 |some d=>
  simp only[setK_eq]
  rcases m[d]? with _|_|b
  ·exact det_no _ _
  ·exact det_eff _
  ·exact det_no _ _
theorem det_buildV {fs:List (Nat×Nat)} {E:Operand→V} (ps:List (Nat×Operand)):∀(cs:List V),Det m true fun K=>buildV fs T E cs ps fun cs=>K (.ag cs) m:=by
 induction ps with
 |nil=>intro cs;exact det_ret _ _ _
 |cons p ps ih=>
  intro cs
  obtain⟨i,x⟩:=p
  simp only[buildV,forceL_eq]
  rcases fs[i]? with _|⟨off,ty⟩
  ·exact det_no _ _
  dsimp only
  rcases T ty with _|ti
  ·exact det_no _ _
  dsimp only
  generalize ((match E x with| .un=>false|_=>true)&&(E x).cells.length==ti.size)=c
  cases c
  ·exact det_no _ _
  rcases fillV cs off (E x).cells with _|cs'
  ·exact det_no _ _
  ·exact ih cs'
theorem det_elemsD {sz:Nat} {E:Operand→V} {F:List (List D)→Bool→(V→List (Option Bk)→Prop)→Prop} (hF:∀xs f,Det m false (F xs f)) (ps:List (Nat×Operand)):∀(xs:List (List D)) (f:Bool),Det m false fun K=>elemsD sz E xs f ps fun xs f=>F xs f K:=by
 induction ps with
 |nil=>intro xs f;exact hF xs f
 |cons p ps ih=>
  intro xs f
  obtain⟨i,x⟩:=p
  simp only[elemsD,forceD_eq,setK_eq]
  cases toDs (E x).cells with
  |none=>exact det_no _ _
  |some p=>
   obtain⟨ds,g⟩:=p
   dsimp only
   refine det_ite ?_ (det_no _ _)
   cases f&&g<;>exact ih _ _
theorem det_call {ne:Bool} {f:FuncId} {args:List V}:Det m ne fun K=>callK P f args m K:=by
 unfold callK
 exact det_ex fun res=>det_and (by simp only[k_eq];exact det_ret _ _ _)
theorem det_len {ne:Bool} {v:V}:Det m ne fun K=>lenK v m K:=by
 unfold lenK
 cases v<;>try exact det_no _ _
 ·rename_i v
  split<;>first|exact det_ret _ _ _|exact det_no _ _|(rename_i h;cases h)
 ·exact det_ret _ _ _
 ·rename_i n k
  dsimp only
  rcases m[n]? with _|_|_|_<;>try exact det_no _ _
  exact det_ite (det_ret _ _ _) (det_no _ _)
 ·rename_i n k s lo hi
  dsimp only
  rcases m[n]? with _|_|_|_<;>try exact det_no _ _
  exact det_ite (det_ret _ _ _) (det_no _ _)
theorem det_binC {ne:Bool} {op:BinOp} {x y:Value}:Det m ne fun K=>binC op x y fun v=>K (.cv v) m:=by
 unfold binC
 split
 ·split
  ·exact det_and (det_ret _ _ _)
  ·exact det_and (det_ret _ _ _)
  split
  ·exact det_no _ _
  ·cases op<;>first|exact det_ret _ _ _|exact det_no _ _|exact det_and (det_ret _ _ _)
 ·cases op<;>first|exact det_ret _ _ _|exact det_no _ _|exact det_and (det_ret _ _ _)
 ·exact det_no _ _
theorem det_binB {ne:Bool} {op:BinOp} {x y:Bool}:Det m ne fun K=>binB op x y fun v=>K (.cv v) m:=by
 unfold binB
 cases op<;>first|exact det_ret _ _ _|exact det_no _ _
theorem det_flag {ne f fr:Bool} {ys:List (List D)} {F:Bool→(V→List (Option Bk)→Prop)→Prop} (h:∀f,Det m ne (F f)):Det m ne fun K=>flagK f fr ys fun f=>F f K:=by
 cases f<;>cases fr<;>simp only[flagK]<;>first|exact h _|exact det_and (h _)
theorem det_ext {o:Oper} {E:Operand→V}:Det m false fun K=>∃v m',OpTr P o E m v m'∧v.k fun v=>forceM m' fun m'=>K v m':=by
 simp only[k_eq,forceM_eq]
 exact det_ex fun v=>det_ex fun m'=>det_and (det_eff _)
theorem aCore_det {o:Oper} {E:Operand→V}:Det m (Op.noeff T.fm o.op) fun K=>aCore P T o E m K:=by
 unfold aCore
 cases ho:o.op<;>simp only[Op.noeff,Op.nomem]<;>(try exact det_no _ _)<;>try exact det_ext
 case move x=>exact det_ret _ _ _
 case pick c x y=>
  split
  ·rename_i b _
   intro K h
   exact⟨_,_,fun K' hK b' e=>by subst e;exact hK,h b rfl,fun _=>rfl⟩
  ·exact det_no _ _
 case assign x=>exact det_ret _ _ _
 case alloc ty=>
  split
  ·split<;>exact det_newK
  ·exact det_no _ _
 case box ty x=>
  simp only[forceL_eq]
  split
  ·exact det_no _ _
  ·split<;>exact det_newK
 case load ty x=>
  simp only[forceD_eq]
  split
  ·exact det_no _ _
  split
  ·split<;>first|exact det_loadK|exact det_no _ _
  ·exact det_loadK
  ·split
   ·exact det_ite (det_ex fun _=>det_and det_loadK) (det_no _ _)
   ·exact det_no _ _
  ·split<;>first|exact det_loadK|exact det_no _ _
  ·exact det_no _ _
 case store ty x y=>
  simp only[forceL_eq,setK_eq]
  split
  ·exact det_no _ _
  split
  ·split
   ·refine det_ite ?_ (det_no _ _)
    split<;>first|exact det_eff _|exact det_no _ _
   ·exact det_no _ _
  ·split
   ·refine det_ite ?_ (det_no _ _)
    split
    ·refine det_ite ?_ (det_no _ _)
     split<;>exact det_ex fun _=>det_and (det_and (det_eff _))
    ·exact det_no _ _
   ·exact det_no _ _
  ·exact det_no _ _
 case fieldAddr s x f=>
  split<;>try exact det_no _ _
  split<;>try exact det_no _ _
  split<;>try exact det_no _ _
  refine det_ite (det_no _ _) ?_
  split<;>try first|exact det_ret _ _ _|exact det_no _ _
  split
  ·exact det_ite (det_ret _ _ _) (det_no _ _)
  ·exact det_no _ _
 case field s x f=>
  split<;>try exact det_no _ _
  split<;>try exact det_no _ _
  split<;>try exact det_no _ _
  split<;>first|exact det_loadK|exact det_no _ _
 case indexAddr ty x i=>
  simp only[forceD_eq]
  repeat' (first|exact det_no _ _|exact det_ret _ _ _|refine det_ite ?_ ?_|refine det_and ?_|refine det_ex fun _=>?_|split)
 case nilCheck x=>split<;>first|exact det_ret _ _ _|exact det_no _ _
 case makeInterface ty x=>split<;>first|exact det_ret _ _ _|exact det_no _ _
 case index ty x i=>
  simp only[k_eq]
  split<;>try exact det_no _ _
  ·split
   ·exact det_and (det_ex fun _=>det_and (det_ret _ _ _))
   ·exact det_no _ _
  ·split<;>try exact det_no _ _
   refine det_ite ?_ (det_no _ _)
   split
   ·exact det_and (det_and (det_ex fun _=>det_and (det_ret _ _ _)))
   ·exact det_no _ _
 case slice ty x lo hi mx=>
  cases mx
  rotate_left
  ·exact det_ext
  dsimp only
  repeat' (first|exact det_no _ _|exact det_ret _ _ _|refine det_ite ?_ ?_|refine det_and ?_|refine det_ex fun _=>?_|split)
 case binOp op ty x y yt=>
  split
  ·split<;>first|exact det_binB|exact det_no _ _
  ·split<;>try exact det_no _ _
   cases op<;>first|exact det_ret _ _ _|exact det_no _ _
  ·split<;>try exact det_no _ _
   cases op<;>first|exact det_ret _ _ _|exact det_no _ _
  ·exact det_binC
  ·split<;>try exact det_no _ _
   refine det_and ?_
   cases op<;>first|exact det_ret _ _ _|exact det_no _ _
  ·split<;>try exact det_no _ _
   cases op<;>first|exact det_ret _ _ _|exact det_no _ _
  ·split<;>try exact det_no _ _
   split<;>try exact det_no _ _
   refine det_and (det_and ?_)
   cases op<;>first|exact det_ret _ _ _|exact det_no _ _
  ·refine det_ite (det_ex fun _=>det_and ?_) (det_no _ _)
   cases op<;>first|exact det_ret _ _ _|exact det_no _ _
  ·exact det_no _ _
 case unOp op ty x=>split<;>first|exact det_ret _ _ _|exact det_no _ _
 case convert s d x=>
  cases hF:T.fm (1000000+d) with
  |some b=>exact det_ext
  |none=>
   simp only[]
   split
   ·exact det_ret _ _ _
   ·exact det_ret _ _ _
   ·split<;>try exact det_no _ _
    split<;>first|exact det_ret _ _ _|exact det_no _ _
   ·exact det_no _ _
 case extract x i=>
  split<;>try exact det_no _ _
  split<;>first|exact det_ret _ _ _|exact det_no _ _
 case build ty ps=>
  split<;>try exact det_no _ _
  ·exact det_ite (det_buildV _ _) (det_no _ _)
  ·split
   ·exact det_buildV _ _
   ·exact det_no _ _
 case buildSlice ty n ps=>
  split
  ·exact det_ext
  split<;>try exact det_no _ _
  split<;>try exact det_no _ _
  exact det_ite (det_no _ _) (det_elemsD (F:=fun xs f K=>newK o.dst (.row 0 _ _ f xs) (.ow · 0) m K) (fun _ _=>det_newK) _ _ _)
 case call c=>
  cases hc:c.callee<;>(try simp only[])<;>try exact det_ext
  case value f=>
   cases f<;>(try simp only[])<;>try exact det_ext
   ·simp only[forceL_eq]
    split
    ·split
     ·simp only[passL_eq];exact det_call
     ·exact det_ext
    ·split
     ·simp only[passL_eq];exact det_call
     ·exact det_ext
    ·exact det_no _ _
   ·rename_i f
    cases hF:T.fm f with
    |none=>simp only[passL_eq];exact det_call
    |some b=>exact det_ext
  case builtin b=>
   cases b<;>(try simp only[])<;>try exact det_ext
   case len=>
    split<;>try exact det_no _ _
    split
    ·split<;>first|exact det_ret _ _ _|exact det_no _ _
    ·exact det_len
    ·exact det_no _ _
   case max=>
    split<;>try exact det_no _ _
    split<;>first|exact det_ret _ _ _|exact det_no _ _
   case min=>
    split<;>try exact det_no _ _
    split<;>first|exact det_ret _ _ _|exact det_no _ _
   case append=>
    split
    rotate_left
    ·exact det_no _ _
    split
    ·exact det_ext
    simp only[setK_eq]
    split<;>try exact det_no _ _
    split<;>try exact det_no _ _
    refine det_ite (det_no _ _) ?_
    split<;>try exact det_no _ _
    split
    ·exact det_flag fun _=>det_and det_newK
    ·split<;>try exact det_no _ _
     exact det_ite (det_flag fun _=>det_and (det_eff _)) (det_no _ _)
    ·exact det_no _ _
 case makeFunc fn fst cap=>
  cases fn<;>simp only[forceL_eq]<;>try exact det_ext
  split
  ·exact det_ret _ _ _
  ·split<;>first|exact det_ret _ _ _|exact det_no _ _
theorem aCore_nomem {o:Oper} {E:Operand→V} (hn:Op.nomem T.fm o.op=true) {m2:List (Option Bk)} {K:V→List (Option Bk)→Prop}:aCore P T o E m K=aCore P T o E m2 fun v _=>K v m:=by
 unfold aCore
 cases ho:o.op<;>rw[ho] at hn<;>simp only[Op.nomem] at hn<;>try(cases hn;done)
 all_goals try rfl
 case convert s d x=>
  cases hF:T.fm (1000000+d) with
  |some b=>rw[hF] at hn;cases hn
  |none=>simp only[hF]
 case makeFunc fn fst cap=>
  cases fn<;>first|rfl|cases hn
 case call c=>
  cases hc:c.callee<;>rw[hc] at hn<;>(try simp only[] at hn)<;>try(cases hn;done)
  case builtin b=>
   cases b<;>simp only[] at hn<;>first|(cases hn;done)|(simp only[hc])
theorem noeff_of_nomem {F:Nat→Option Bool} {op:Op} (h:Op.nomem F op=true):Op.noeff F op=true:=by
 cases op<;>(try simp only[Op.nomem] at h)<;>first|(cases h;done)|rfl|exact h|skip
 rename_i c
 cases hc:c.callee<;>rw[hc] at h<;>(try simp only[] at h)<;>try(cases h;done)
 rename_i b
 cases b<;>simp only[] at h<;>first|(cases h;done)|(simp[Op.noeff,hc])
end
end Go.Proofs.YtglndfgmlminpaaGreatDoor
