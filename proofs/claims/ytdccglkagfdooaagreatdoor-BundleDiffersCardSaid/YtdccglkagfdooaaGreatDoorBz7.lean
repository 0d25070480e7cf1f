/- Texts joined by pack.py: XSxL XSxL2 -/
import Derived.Test.YtdccglkagfdooaaGreatDoorBz6
import Derived.Still
set_option maxHeartbeats 2000000
namespace Go.Proofs.YtdccglkagfdooaaGreatDoor
open Go.RowKit
section
variable {P:Program} {T:Tab} {m:List (Option Bk)}
theorem buildV_congr {fs:List (Nat×Nat)} {E E':Operand→V} (ps:List (Nat×Operand)):∀(cs:List V) (K:List V→Prop),(∀p∈ps,E p.2=E' p.2)→buildV fs T E cs ps K=buildV fs T E' cs ps K:=by
 induction ps with
 |nil=>intro cs K _;rfl
 |cons p ps ih=>
  intro cs K h
  obtain⟨i,x⟩:=p
  have h1:E x=E' x:=h (i,x) (by simp)
  have h2:∀cs K,buildV fs T E cs ps K=buildV fs T E' cs ps K:=fun cs K=>ih cs K fun p hp=>h p (by simp[hp])
  simp only[buildV,h1,h2]
theorem elemsD_congr {sz:Nat} {E E':Operand→V} (ps:List (Nat×Operand)):∀(xs:List (List D)) (f:Bool) (K:List (List D)→Bool→Prop),(∀p∈ps,E p.2=E' p.2)→elemsD sz E xs f ps K=elemsD sz E' xs f ps K:=by
 induction ps with
 |nil=>intro cs f K _;rfl
 |cons p ps ih=>
  intro cs f K h
  obtain⟨i,x⟩:=p
  have h1:E x=E' x:=h (i,x) (by simp)
  have h2:∀cs f K,elemsD sz E cs f ps K=elemsD sz E' cs f ps K:=fun cs f K=>ih cs f K fun p hp=>h p (by simp[hp])
  simp only[elemsD,h1,h2]
theorem passL_congr {E E':Operand→V} (l:List Operand):∀(tys:List TypeId) (K:List V→Prop),(∀x∈l,E x=E' x)→passL T m l tys E K=passL T m l tys E' K:=by
 induction l with
 |nil=>intro tys K _;rfl
 |cons x l ih=>
  intro tys K h
  have h1:=h x (by simp)
  have h2:∀tys K,passL T m l tys E K=passL T m l tys E' K:=fun tys K=>ih tys K fun y hy=>h y (by simp[hy])
  cases tys<;>simp only[passL,h1,h2]
theorem optInt_congr {E E':Operand→V} {d:Int} {x:Option Operand} (h:∀y,x=some y→E y=E' y):optInt E d x=optInt E' d x:=by
 cases x with
 |none=>rfl
 |some y=>simp only[optInt,h y rfl]
theorem opTr_congr {o:Oper} {E E':Operand→V} {v:V} {m':List (Option Bk)} (h:∀x,x∈o.op.operands.toList→E x=E' x):OpTr P o E m v m'=OpTr P o E' m v m':=by
 have key:∀{E E':Operand→V},(∀x,x∈o.op.operands.toList→E x=E' x)→OpTr P o E m v m'→OpTr P o E' m v m':=fun h ht B w0 N S t a w hs hx=>
  ht B w0 N S t a w hs fun x hm=>by rw[h x hm];exact hx x hm
 exact propext ⟨key h,key fun x hx=>(h x hx).symm⟩
theorem opRc_congr {o:Oper} {E E':Operand→V} {v:V} (h:∀x,x∈o.op.operands.toList→E x=E' x):OpRc P o E m v=OpRc P o E' m v:=by
 unfold OpRc
 simp only[opTr_congr h]
theorem consts_congr {E E':Operand→V}:∀(l:List Operand),(∀x∈l,E x=E' x)→consts E l=consts E' l
 |[],_=>rfl
 |x::l,h=>by simp only[consts,h x (by simp),consts_congr l fun y hy=>h y (by simp[hy])]
theorem aCore_congr {o:Oper} {E E':Operand→V} {K:V→List (Option Bk)→Prop} (h:∀x,x∈o.op.operands.toList→E x=E' x):aCore P T o E m K=aCore P T o E' m K:=by
 have hext:∀v m',OpTr P o E m v m'=OpTr P o E' m v m':=fun v m'=>opTr_congr h
 have hrd:∀K,rdK P o E m K=rdK P o E' m K:=fun K=>by unfold rdK;simp only[opRc_congr h]
 have hex:∀K,exK P o E m K=exK P o E' m K:=fun K=>by unfold exK;simp only[hext]
 unfold aCore
 cases ho:o.op<;>(try simp only[])<;>(rw[ho] at h;simp only[Op.operands] at h)<;>(try simp only[hext,hrd,hex])<;>try rfl
 case move x=>rw[h x (by simp)]
 case pick c x y=>rw[h c (by simp),h x (by simp),h y (by simp)]
 case assign x=>rw[h x (by simp)]
 case box ty x=>rw[h x (by simp)]
 case load ty x=>rw[h x (by simp)]
 case store ty x y=>rw[h x (by simp),h y (by simp)]
 case fieldAddr s x f=>rw[h x (by simp)]
 case field s x f=>rw[h x (by simp)]
 case indexAddr ty x i=>rw[h x (by simp),h i (by simp)]
 case nilCheck x=>rw[h x (by simp)]
 case makeInterface ty x=>rw[h x (by simp)]
 case index ty x i=>rw[h x (by simp),h i (by simp)]
 case slice ty x lo hi mx=>
  have h1:∀d,optInt E d lo=optInt E' d lo:=fun d=>optInt_congr fun y hy=>h y (by subst hy;simp)
  have h2:∀d,optInt E d hi=optInt E' d hi:=fun d=>optInt_congr fun y hy=>h y (by subst hy;simp)
  rw[h x (by simp)]
  simp only[h1,h2]
 case binOp op ty x y yt=>rw[h x (by simp),h y (by simp)]
 case unOp op ty x=>rw[h x (by simp)]
 case convert s d x=>rw[h x (by simp)]
 case extract x i=>rw[h x (by simp)]
 case build ty ps=>
  have h2:∀fs cs K,buildV fs T E cs ps.toList K=buildV fs T E' cs ps.toList K:=fun fs cs K=>buildV_congr _ _ _ fun p hp=>h p.2 (by simp;exact⟨p.1,by simpa using hp⟩)
  simp only[h2]
 case buildSlice ty n ps=>
  have h2:∀sz xs f K,elemsD sz E xs f ps.toList K=elemsD sz E' xs f ps.toList K:=fun sz xs f K=>elemsD_congr _ _ _ _ fun p hp=>h p.2 (by simp;exact⟨p.1,by simpa using hp⟩)
  simp only[h2]
 case makeFunc fn fst cap=>
  have ha:∀x∈fst.toList++cap.toList,E x=E' x:=fun x hx=>h x (by simpa using hx)
  have h1:(fst.toList++cap.toList).map E=(fst.toList++cap.toList).map E':=List.map_congr_left ha
  cases fn<;>simp only[consts_congr _ ha,h1]<;>simp only[hext]
 case call c=>
  have ha:∀x∈c.args.toList,E x=E' x:=fun x hx=>h x (by simp only[Call.operands,Array.toList_append,List.mem_append];exact .inr hx)
  have h1:∀K,passL T m c.args.toList c.argTypes.toList E K=passL T m c.args.toList c.argTypes.toList E' K:=fun K=>passL_congr _ _ K ha
  split
  ·simp only[h1]
  ·rename_i t hc
   have:E (.tmp t)=E' (.tmp t):=h _ (by simp[Call.operands,hc])
   simp only[this,h1]
  ·split
   ·rename_i x ty e1 e2
    rw[ha x (by rw[e1];simp)]
   ·rfl
  ·split
   ·rename_i x y e1
    rw[ha x (by rw[e1];simp),ha y (by rw[e1];simp)]
   ·rfl
  ·split
   ·rename_i x y e1
    rw[ha x (by rw[e1];simp),ha y (by rw[e1];simp)]
   ·rfl
  ·split
   ·rename_i x y ty ty' e1 e2
    rw[ha x (by rw[e1];simp),ha y (by rw[e1];simp)]
   ·rfl
  ·simp only
def Det (m:List (Option Bk)) (ne:Bool) (F:(V→List (Option Bk)→Prop)→Prop):Prop:=
 ∀K,F K→∃v m',(∀K':V→List (Option Bk)→Prop,K' v m'→F K')∧K v m'∧(ne=true→m'=m)
theorem det_ret (m:List (Option Bk)) (ne:Bool) (v:V):Det m ne fun K=>K v m:=fun _ h=>⟨v,m,fun _ h=>h,h,fun _=>rfl⟩
theorem det_no (m:List (Option Bk)) (ne:Bool):Det m ne fun _=>False:=fun _ h=>h.elim
theorem det_and {m:List (Option Bk)} {ne:Bool} {p:Prop} {F:(V→List (Option Bk)→Prop)→Prop} (h:Det m ne F):Det m ne fun K=>p∧F K:=fun K ⟨hp,hF⟩=>
 let⟨v,m',h1,h2,h3⟩:=h K hF;⟨v,m',fun K' hK=>⟨hp,h1 K' hK⟩,h2,h3⟩
theorem det_ex {m:List (Option Bk)} {ne:Bool} {α:Type} {F:α→(V→List (Option Bk)→Prop)→Prop} (h:∀x,Det m ne (F x)):Det m ne fun K=>∃x,F x K:=fun K ⟨x,hF⟩=>
 let⟨v,m',h1,h2,h3⟩:=h x K hF;⟨v,m',fun K' hK=>⟨x,h1 K' hK⟩,h2,h3⟩
theorem det_ite {m:List (Option Bk)} {ne:Bool} {c:Prop} [Decidable c] {F G:(V→List (Option Bk)→Prop)→Prop} (h:Det m ne F) (h':Det m ne G):Det m ne fun K=>if c then F K else G K:=by
 by_cases hc:c
 ·simp only[hc,if_true];exact h
 ·simp only[hc,if_false];exact h'
theorem det_eff {m m2:List (Option Bk)} (v:V):Det m false fun K=>K v m2:=fun _ h=>⟨v,m2,fun _ h=>h,h,fun h=>by cases h⟩
theorem det_loadK {ne:Bool} {i:TI} {cs:List V} {off:Nat}:Det m ne fun K=>loadK i cs off fun v=>K v m:=by
 unfold loadK
 simp only[k_eq]
 refine det_ite (det_ite (det_ret _ _ _) (det_no _ _)) ?_
 cases cs[off]? with
 |none=>exact det_no _ _
 |some v=>exact det_ret _ _ _
theorem det_newK {dst:Option Tmp} {b:Bk} {v:Nat→V}:Det m false fun K=>newK dst b v m K:=by
 unfold newK
 cases dst with
 |none=>exact det_no _ _
 |some d=>
  simp only[setK_eq]
  rcases m[d]? with _|_|b
  ·exact det_no _ _
  ·exact det_eff _
  ·exact det_no _ _
theorem det_buildV {fs:List (Nat×Nat)} {E:Operand→V} (ps:List (Nat×Operand)):∀(cs:List V),Det m true fun K=>buildV fs T E cs ps fun cs=>K (.ag cs) m:=by
 induction ps with
 |nil=>intro cs;exact det_ret _ _ _
 |cons p ps ih=>
  intro cs
  obtain⟨i,x⟩:=p
  simp only[buildV,forceL_eq]
  rcases fs[i]? with _|⟨off,ty⟩
  ·exact det_no _ _
  dsimp only
  rcases T ty with _|ti
  ·exact det_no _ _
  dsimp only
  generalize ((match E x with| .un=>false|_=>true)&&(E x).cells.length==ti.size)=c
  cases c
  ·exact det_no _ _
  rcases fillV cs off (E x).cells with _|cs'
  ·exact det_no _ _
  ·exact ih cs'
theorem det_elemsD {sz:Nat} {E:Operand→V} {F:List (List D)→Bool→(V→List (Option Bk)→Prop)→Prop} (hF:∀xs f,Det m false (F xs f)) (ps:List (Nat×Operand)):∀(xs:List (List D)) (f:Bool),Det m false fun K=>elemsD sz E xs f ps fun xs f=>F xs f K:=by
 induction ps with
 |nil=>intro xs f;exact hF xs f
 |cons p ps ih=>
  intro xs f
  obtain⟨i,x⟩:=p
  simp only[elemsD,forceD_eq,setK_eq]
  cases toDs (E x).cells with
  |none=>exact det_no _ _
  |some p=>
   obtain⟨ds,g⟩:=p
   dsimp only
   refine det_ite ?_ (det_no _ _)
   cases f&&g<;>exact ih _ _
theorem det_call {ne:Bool} {f:FuncId} {args:List V}:Det m ne fun K=>callK P f args m K:=by
 unfold callK
 exact det_ex fun res=>det_and (by simp only[k_eq];exact det_ret _ _ _)
theorem det_len {ne:Bool} {v:V}:Det m ne fun K=>lenK v m K:=by
 unfold lenK
 cases v<;>try exact det_no _ _
 ·rename_i v
  split<;>first|exact det_ret _ _ _|exact det_no _ _|(rename_i h;cases h)
 ·exact det_ret _ _ _
 ·rename_i n k
  dsimp only
  rcases m[n]? with _|_|_|_<;>try exact det_no _ _
  exact det_ite (det_ret _ _ _) (det_no _ _)
 ·rename_i n k s lo hi
  dsimp only
  rcases m[n]? with _|_|_|_<;>try exact det_no _ _
  exact det_ite (det_ret _ _ _) (det_no _ _)
theorem det_binC {ne:Bool} {op:BinOp} {x y:Value}:Det m ne fun K=>binC op x y fun v=>K (.cv v) m:=by
 unfold binC
 split
 ·split
  ·exact det_and (det_ret _ _ _)
  ·exact det_and (det_ret _ _ _)
  split
  ·exact det_no _ _
  ·cases op<;>first|exact det_ret _ _ _|exact det_no _ _|exact det_and (det_ret _ _ _)
 ·cases op<;>first|exact det_ret _ _ _|exact det_no _ _|exact det_and (det_ret _ _ _)
 ·exact det_no _ _
theorem det_binB {ne:Bool} {op:BinOp} {x y:Bool}:Det m ne fun K=>binB op x y fun v=>K (.cv v) m:=by
 unfold binB
 cases op<;>first|exact det_ret _ _ _|exact det_no _ _
theorem det_flag {ne f fr:Bool} {ys:List (List D)} {F:Bool→(V→List (Option Bk)→Prop)→Prop} (h:∀f,Det m ne (F f)):Det m ne fun K=>flagK f fr ys fun f=>F f K:=by
 cases f<;>cases fr<;>simp only[flagK]<;>first|exact h _|exact det_and (h _)
theorem det_ext {o:Oper} {E:Operand→V}:Det m false fun K=>∃v m',OpTr P o E m v m'∧v.k fun v=>forceM m' fun m'=>K v m':=by
 simp only[k_eq,forceM_eq]
 exact det_ex fun v=>det_ex fun m'=>det_and (det_eff _)
theorem det_rd {ne:Bool} {o:Oper} {E:Operand→V}:Det m ne fun K=>rdK P o E m K:=by
 unfold rdK
 simp only[k_eq]
 exact det_ex fun v=>det_and (det_ret _ _ _)
theorem det_exK {o:Oper} {E:Operand→V}:Det m false fun K=>exK P o E m K:=det_ext
theorem aCore_det {o:Oper} {E:Operand→V}:Det m (Oper.noeff T.fm o) fun K=>aCore P T o E m K:=by
 unfold aCore Oper.noeff
 cases ho:o.op<;>simp only[Op.noeff,Op.nomem]<;>(try exact det_no _ _)<;>try exact det_ext
 case lookup=>
  cases hF:T.fm (6000000+o.dst.getD 0) with
  |some _=>exact det_rd
  |none=>exact det_ext
 case move x=>exact det_ret _ _ _
 case pick c x y=>
  split
  ·rename_i b _
   intro K h
   exact⟨_,_,fun K' hK b' e=>by subst e;exact hK,h b rfl,fun _=>rfl⟩
  ·exact det_no _ _
 case assign x=>exact det_ret _ _ _
 case alloc ty=>
  split
  ·split<;>exact det_newK
  ·exact det_no _ _
 case box ty x=>
  simp only[forceL_eq]
  split
  ·exact det_no _ _
  ·split<;>exact det_newK
 case load ty x=>
  simp only[forceD_eq]
  cases hF:T.fm (4000000+ty) with
  |some _=>exact det_exK
  |none=>
  simp only[]
  split
  ·exact det_no _ _
  split
  ·split<;>first|exact det_loadK|exact det_no _ _
  ·exact det_loadK
  ·split
   ·exact det_ite (det_ex fun _=>det_and det_loadK) (det_no _ _)
   ·exact det_rd
   ·exact det_no _ _
  ·split<;>first|exact det_loadK|exact det_no _ _
  ·exact det_no _ _
 case store ty x y=>
  simp only[forceL_eq,setK_eq]
  split
  ·exact det_no _ _
  split
  ·split
   ·refine det_ite ?_ (det_no _ _)
    split<;>first|exact det_eff _|exact det_no _ _
   ·exact det_no _ _
  ·split
   ·refine det_ite ?_ (det_no _ _)
    split
    ·refine det_ite ?_ (det_no _ _)
     split<;>exact det_ex fun _=>det_and (det_and (det_eff _))
    ·exact det_no _ _
   ·exact det_exK
   ·exact det_no _ _
  ·exact det_no _ _
 case fieldAddr s x f=>
  split<;>try exact det_no _ _
  split<;>try exact det_no _ _
  split<;>try exact det_no _ _
  refine det_ite (det_no _ _) ?_
  split<;>try first|exact det_ret _ _ _|exact det_no _ _
  split
  ·exact det_ite (det_ret _ _ _) (det_no _ _)
  ·exact det_ite (det_ret _ _ _) (det_no _ _)
  ·exact det_no _ _
 case field s x f=>
  split<;>try exact det_no _ _
  split<;>try exact det_no _ _
  split<;>try exact det_no _ _
  split<;>first|exact det_loadK|exact det_no _ _
 case indexAddr ty x i=>
  simp only[forceD_eq]
  repeat' (first|exact det_no _ _|exact det_ret _ _ _|exact det_rd|refine det_ite ?_ ?_|refine det_and ?_|refine det_ex fun _=>?_|split)
 case nilCheck x=>split<;>first|exact det_ret _ _ _|exact det_no _ _
 case makeInterface ty x=>split<;>first|exact det_ret _ _ _|exact det_no _ _
 case index ty x i=>
  simp only[k_eq]
  split<;>try exact det_no _ _
  ·split
   ·exact det_and (det_ex fun _=>det_and (det_ret _ _ _))
   ·exact det_no _ _
  ·split<;>try exact det_no _ _
   refine det_ite ?_ (det_no _ _)
   split
   ·exact det_and (det_and (det_ex fun _=>det_and (det_ret _ _ _)))
   ·exact det_no _ _
 case slice ty x lo hi mx=>
  cases mx
  rotate_left
  ·exact det_ext
  dsimp only
  repeat' (first|exact det_no _ _|exact det_ret _ _ _|exact det_rd|refine det_ite ?_ ?_|refine det_and ?_|refine det_ex fun _=>?_|split)
 case binOp op ty x y yt=>
  split
  ·split<;>first|exact det_binB|exact det_no _ _
  ·split<;>try exact det_no _ _
   cases op<;>first|exact det_ret _ _ _|exact det_no _ _
  ·split<;>try exact det_no _ _
   cases op<;>first|exact det_ret _ _ _|exact det_no _ _
  ·split<;>try exact det_no _ _
   cases op<;>first|exact det_ret _ _ _|exact det_no _ _
  ·exact det_binC
  ·split<;>try exact det_no _ _
   refine det_and ?_
   cases op<;>first|exact det_ret _ _ _|exact det_no _ _
  ·split<;>first|exact det_rd|exact det_no _ _
  ·split<;>try exact det_no _ _
   cases op<;>first|exact det_ret _ _ _|exact det_no _ _
  ·split<;>try exact det_no _ _
   split<;>try exact det_no _ _
   refine det_and (det_and ?_)
   cases op<;>first|exact det_ret _ _ _|exact det_no _ _
  ·refine det_ite (det_ex fun _=>det_and ?_) (det_no _ _)
   cases op<;>first|exact det_ret _ _ _|exact det_no _ _
  ·exact det_no _ _
 case unOp op ty x=>split<;>first|exact det_ret _ _ _|exact det_no _ _
 case convert s d x=>
  cases hF:T.fm (1000000+d) with
  |some b=>exact det_ext
  |none=>
   simp only[]
   split
   ·exact det_ret _ _ _
   ·exact det_ret _ _ _
   ·split<;>try exact det_no _ _
    split<;>first|exact det_ret _ _ _|exact det_no _ _
   ·exact det_no _ _
 case extract x i=>
  split<;>try exact det_no _ _
  split<;>first|exact det_ret _ _ _|exact det_no _ _
 case build ty ps=>
  split<;>try exact det_no _ _
  ·exact det_ite (det_buildV _ _) (det_no _ _)
  ·split
   ·exact det_buildV _ _
   ·exact det_no _ _
 case buildSlice ty n ps=>
  split
  ·exact det_ext
  split<;>try exact det_no _ _
  split<;>try exact det_no _ _
  exact det_ite (det_no _ _) (det_elemsD (F:=fun xs f K=>newK o.dst (.row 0 _ _ f xs) (.ow · 0) m K) (fun _ _=>det_newK) _ _ _)
 case call c=>
  cases hc:c.callee<;>(try simp only[])<;>try exact det_ext
  case value f=>
   cases f<;>(try simp only[])<;>try exact det_ext
   ·simp only[forceL_eq]
    split
    ·split
     ·simp only[passL_eq];exact det_call
     ·exact det_ext
    ·split
     ·simp only[passL_eq];exact det_call
     ·exact det_ext
    ·exact det_no _ _
   ·rename_i f
    cases hF:T.fm f with
    |none=>simp only[passL_eq];exact det_call
    |some b=>
     cases b
     ·exact det_ext
     ·exact det_rd
  case builtin b=>
   cases b<;>(try simp only[])<;>try exact det_ext
   case len=>
    split<;>try exact det_no _ _
    split
    ·split<;>first|exact det_ret _ _ _|exact det_no _ _
    ·split
     ·split<;>first|exact det_rd|exact det_len
     ·split<;>first|exact det_rd|exact det_len
     ·exact det_len
    ·exact det_rd
    ·exact det_no _ _
   case max=>
    split<;>try exact det_no _ _
    split<;>first|exact det_ret _ _ _|exact det_no _ _
   case min=>
    split<;>try exact det_no _ _
    split<;>first|exact det_ret _ _ _|exact det_no _ _
   case append=>
    split
    rotate_left
    ·exact det_no _ _
    split
    ·exact det_ext
    simp only[setK_eq]
    split<;>try exact det_no _ _
    split<;>try exact det_no _ _
    refine det_ite (det_no _ _) ?_
    split<;>try exact det_no _ _
    split
    ·exact det_flag fun _=>det_and det_newK
    ·split<;>try exact det_no _ _
     exact det_ite (det_flag fun _=>det_and (det_eff _)) (det_no _ _)
    ·exact det_no _ _
 case makeFunc fn fst cap=>
  cases fn<;>simp only[forceL_eq]<;>try exact det_ext
  split
  ·exact det_ret _ _ _
  ·split<;>first|exact det_ret _ _ _|exact det_no _ _
theorem aCore_nomem {o:Oper} {E:Operand→V} (hn:Op.nomem T.fm o.op=true) {m2:List (Option Bk)} {K:V→List (Option Bk)→Prop}:aCore P T o E m K=aCore P T o E m2 fun v _=>K v m:=by
 unfold aCore
 cases ho:o.op<;>rw[ho] at hn<;>simp only[Op.nomem] at hn<;>try(cases hn;done)
 all_goals try rfl
 case convert s d x=>
  cases hF:T.fm (1000000+d) with
  |some b=>rw[hF] at hn;cases hn
  |none=>simp only[hF]
 case binOp op ty x y yt=>
  have hb:nilB y=false:=by simpa using hn
  simp only[hb]
 case makeFunc fn fst cap=>
  cases fn<;>first|rfl|cases hn
 case call c=>
  cases hc:c.callee<;>rw[hc] at hn<;>(try simp only[] at hn)<;>try(cases hn;done)
  case builtin b=>
   cases b<;>simp only[] at hn<;>first|(cases hn;done)|(simp only[hc])
theorem noeff_of_nomem {F:Nat→Option Bool} {o:Oper} (h:Op.nomem F o.op=true):Oper.noeff F o=true:=by
 unfold Oper.noeff
 cases ho:o.op<;>rw[ho] at h<;>(try simp only[Op.nomem] at h)<;>first|(cases h;done)|rfl|exact h|skip
 rename_i c
 cases hc:c.callee<;>rw[hc] at h<;>(try simp only[] at h)<;>try(cases h;done)
 rename_i b
 cases b<;>simp only[] at h<;>first|(cases h;done)|(simp[Op.noeff,hc])
end
end Go.Proofs.YtdccglkagfdooaaGreatDoor
namespace Go.Proofs.YtdccglkagfdooaaGreatDoor
open Go.RowKit
section
variable {P:Program} {T:Tab} {m m2:List (Option Bk)}
theorem up_set {d:Nat} {b:Bk} (h:m[d]?=some none):Up m (m.set d (some b)):=by
 intro n b' hn
 by_cases hd:d=n
 ·subst hd;rw[h] at hn;cases hn
 ·rw[List.getElem?_set_ne hd];exact hn
inductive LeL:List V→List V→Prop
 |nil:LeL [] []
 |same (v:V) {l l':List V} (h:LeL l l'):LeL (v::l) (v::l')
 |less (v:V) {l l':List V} (h:LeL l l'):LeL (.un::l) (v::l')
theorem LeL.get {l l':List V} (h:LeL l l'):l.length=l'.length∧∀(i:Nat) (v:V),l[i]?=some v→l'[i]?=some v∨v= .un:=by
 induction h with
 |nil=>exact⟨rfl,fun i v h=> .inl h⟩
 |same v _ ih=>
  refine⟨by simp[ih.1],fun i u hu=>?_⟩
  cases i with
  |zero=>exact .inl hu
  |succ i=>exact ih.2 i u hu
 |less v _ ih=>
  refine⟨by simp[ih.1],fun i u hu=>?_⟩
  cases i with
  |zero=>simp at hu;exact .inr hu.symm
  |succ i=>exact ih.2 i u hu
def LeV (a b:V):Prop:=a=b∨a= .un∨∃cs cs',a= .ag cs∧b= .ag cs'∧LeL cs cs'
theorem LeV.rel {N:Names} {S:Sets} {w:World} {a b:V} {u:Value} (h:LeV a b) (hr:RelV N S w b u):RelV N S w a u:=by
 rcases h with rfl|rfl|⟨cs,cs',rfl,rfl,h⟩
 ·exact hr
 ·exact .un _
 ·cases hr with
  |ag _ us hl hc=>
   obtain⟨h1,h2⟩:=h.get
   refine .ag _ us (by rw[h1];exact hl) fun i v hv=>?_
   rcases h2 i v hv with h3|rfl
   ·exact hc i v h3
   ·exact .un _
theorem pass1_up (h:Up m m2) (v:V):v.pass1 m=v.pass1 m2∨v.pass1 m= .un:=by
 cases v<;>simp only[V.pass1]<;>try exact .inl trivial
 ·rename_i n k
  cases hm:m[n]? with
  |none=>exact .inr rfl
  |some x=>
   cases x with
   |none=>exact .inr rfl
   |some b=>rw[h n b hm];exact .inl rfl
 ·rename_i n k s lo hi
  cases hm:m[n]? with
  |none=>exact .inr rfl
  |some x=>
   cases x with
   |none=>exact .inr rfl
   |some b=>rw[h n b hm];exact .inl rfl
theorem pass_up (h:Up m m2) (v:V):LeV (v.pass m) (v.pass m2):=by
 unfold V.pass
 split
 ·rename_i cs
  refine .inr (.inr ⟨_,_,rfl,rfl,?_⟩)
  induction cs with
  |nil=>exact .nil
  |cons c cs ih=>
   simp only[List.map_cons]
   rcases pass1_up h c with e|e
   ·rw[e];exact .same _ ih
   ·rw[e];exact .less _ ih
 ·rcases pass1_up h v with e|e
  ·exact .inl e
  ·exact .inr (.inl e)
theorem zL_up:∀{l l':List V} (ns:List Nat),LeL l l'→LeL (zL l ns) (zL l' ns)
 |_,_,[],h=>by
  have e:∀l:List V,zL l []=l:=fun l=>by cases l<;>rfl
  rw[e,e];exact h
 |_,_,n::ns,.nil=> .nil
 |_,_,n::ns,.same v h=> .same _ (zL_up ns h)
 |_,_,n::ns,.less v h=> .less _ (zL_up ns h)
theorem z_up {a b:V} (ns:List Nat) (h:LeV a b):LeV (a.z ns) (b.z ns):=by
 rcases h with rfl|rfl|⟨cs,cs',rfl,rfl,h⟩
 ·exact .inl rfl
 ·refine .inr (.inl ?_)
  cases ns<;>rfl
 ·exact .inr (.inr ⟨_,_,rfl,rfl,zL_up ns h⟩)
inductive LeA:List V→List V→Prop
 |nil:LeA [] []
 |cons {a b:V} {l l':List V} (h1:LeV a b) (h:LeA l l'):LeA (a::l) (b::l')
theorem LeA.refl:∀l:List V,LeA l l
 |[]=> .nil
 |_::l=> .cons (.inl rfl) (LeA.refl l)
theorem LeA.app {a b c d:List V} (h1:LeA a b) (h2:LeA c d):LeA (a++c) (b++d):=by
 induction h1 with
 |nil=>exact h2
 |cons h _ ih=>exact .cons h ih
theorem LeA.rel {N:Names} {S:Sets} {w:World} {a b:List V} {us:List Value} (h:LeA a b) (hr:RelL N S w b us):RelL N S w a us:=by
 induction h generalizing us with
 |nil=>exact hr
 |cons h1 _ ih=>
  obtain⟨h2,h3⟩:=hr
  cases us with
  |nil=>cases h2
  |cons u us=>
   obtain⟨h4,h5⟩:=ih (us:=us) ⟨by simpa using h2,fun i v hv=>by simpa using h3 (i+1) v (by simpa using hv)⟩
   refine⟨by simp[h4],fun i v hv=>?_⟩
   cases i with
   |zero=>simp at hv;subst hv;exact h1.rel (by simpa using h3 0 _ rfl)
   |succ i=>simpa using h5 i v (by simpa using hv)
theorem passA_up (h:Up m m2) (E:Operand→V) (l:List Operand):∀tys:List TypeId,LeA (passA T m E l tys) (passA T m2 E l tys):=by
 induction l with
 |nil=>intro tys;exact LeA.refl _
 |cons x l ih=>
  intro tys
  cases tys with
  |nil=>exact .cons (pass_up h _) (ih _)
  |cons ty tys=>exact .cons (z_up _ (pass_up h _)) (ih _)
theorem DCalls.le {f:FuncId} {args args':List V} {res:V} (h:DCalls P f args res) (hl:LeA args args'):DCalls P f args' res:=
 ⟨h.1,fun w vs hi hv=>h.2 w vs hi (hl.rel hv)⟩
theorem callK_up {f:FuncId} {args args':List V} {K:V→List (Option Bk)→Prop} (hl:LeA args args') (h:callK P f args m fun v _=>K v m2):callK P f args' m2 K:=by
 obtain⟨res,h1,h2⟩:=h
 exact⟨res,h1.le hl,h2⟩
theorem rdK_up (hup:Up m m2) {o:Oper} {E:Operand→V} {K:V→List (Option Bk)→Prop} (h:rdK P o E m fun v _=>K v m2):rdK P o E m2 K:=by
 obtain⟨v,h1,h2⟩:=h
 exact⟨v,fun m3 hu=>h1 m3 fun n b hb=>hu n b (hup n b hb),h2⟩
theorem isAs_up (hup:Up m m2) {n k:Nat} (h:isAs m n k=true):isAs m2 n k=true:=by
 unfold isAs at*
 split at h
 ·rename_i hm;rw[hup _ _ hm];exact h
 ·cases h
theorem lenK_up (hup:Up m m2) {v:V} {K:V→List (Option Bk)→Prop} (h:lenK v m fun v _=>K v m2):lenK v m2 K:=by
 unfold lenK at h⊢
 split at h<;>try exact h.elim
 ·exact h
 ·exact h
 ·split at h<;>try exact h.elim
  rename_i hm
  rw[hup _ _ hm]
  exact h
 ·split at h<;>try exact h.elim
  rename_i hm
  rw[hup _ _ hm]
  exact h
theorem lenK_ow (hup:Up m m2) {n k:Nat} {K:V→List (Option Bk)→Prop} (h:lenK (.ow n k) m K):isAs m2 n k=false:=by
 simp only[lenK] at h
 split at h<;>try exact h.elim
 rename_i hm
 unfold isAs
 rw[hup _ _ hm]
theorem lenK_vw (hup:Up m m2) {n k sz lo hi:Nat} {K:V→List (Option Bk)→Prop} (h:lenK (.vw n k sz lo hi) m K):isAs m2 n k=false:=by
 simp only[lenK] at h
 split at h<;>try exact h.elim
 rename_i hm
 unfold isAs
 rw[hup _ _ hm]
theorem aCore_up (hup:Up m m2) {o:Oper} {E:Operand→V} (hn:Oper.noeff T.fm o=true) {K:V→List (Option Bk)→Prop} (h:aCore P T o E m fun v _=>K v m2):aCore P T o E m2 K:=by
 cases hno:Op.nomem T.fm o.op with
 |true=>rw[aCore_nomem hno (m:=m2) (m2:=m)];exact h
 |false=>
 unfold aCore at h⊢
 unfold Oper.noeff at hn
 cases ho:o.op<;>rw[ho] at hn hno<;>simp only[ho] at h⊢ <;>simp only[Op.noeff,Op.nomem] at hn hno<;>try(first|(exact absurd hn (by decide))|(exact absurd hno (by decide)))
 case lookup=>
  cases hF:T.fm (6000000+o.dst.getD 0) with
  |none=>rw[hF] at hn;cases hn
  |some b=>
   simp only[hF] at h⊢
   exact rdK_up hup h
 case convert s d x=>rw[hn] at hno;cases hno
 case binOp op ty x y yt=>
  have hb:nilB y=true:=by simpa using hno
  simp only[hb] at h⊢
  split at h<;>first|exact rdK_up hup h|exact h
 case load ty x=>
  cases hF:T.fm (4000000+ty) with
  |some b=>simp only[hF] at hn;cases hn
  |none=>
  simp only[hF] at h⊢
  split at h<;>try exact h.elim
  split at h<;>try exact h.elim
  ·split at h<;>try exact h.elim
   rename_i hm
   rw[hup _ _ hm]
   exact h
  ·exact h
  ·split at h<;>try exact h.elim
   ·rename_i hm
    rw[hup _ _ hm]
    exact h
   ·rename_i hm
    rw[hup _ _ hm]
    exact rdK_up hup h
  all_goals exact h
 case fieldAddr s x f=>
  split at h<;>try exact h.elim
  split at h<;>try exact h.elim
  split at h<;>try exact h.elim
  split at h<;>try exact h.elim
  split at h<;>try exact h.elim
  ·rename_i e1 _ _ e2;rw[if_neg (by assumption)];exact h
  ·rw[if_neg (by assumption)];exact h
  ·rw[if_neg (by assumption)]
   split at h<;>try exact h.elim
   ·rename_i hm
    rw[hup _ _ hm]
    exact h
   ·rename_i hm
    rw[hup _ _ hm]
    exact h
  ·rw[if_neg (by assumption)];exact h
 case indexAddr ty x i=>
  split at h<;>try exact h.elim
  split at h<;>try exact h.elim
  ·exact h
  ·split at h<;>try exact h.elim
   ·rename_i hm
    rw[hup _ _ hm]
    exact h
   ·rename_i hm
    rw[hup _ _ hm]
    exact rdK_up hup h
  ·split at h<;>try exact h.elim
   ·rename_i hm
    rw[hup _ _ hm]
    exact h
   ·rename_i hm
    rw[hup _ _ hm]
    exact rdK_up hup h
  ·exact h
 case slice ty x lo hi mx=>
  cases mx
  rotate_left
  ·cases hn
  dsimp only at h⊢
  split at h<;>try exact h.elim
  ·exact h
  ·split at h<;>try exact h.elim
   ·exact h
   ·split at h<;>try exact h.elim
    ·rename_i hm
     rw[hup _ _ hm]
     exact h
    ·rename_i hm
     rw[hup _ _ hm]
     exact rdK_up hup h
   ·split at h<;>try exact h.elim
    rename_i hm
    rw[hup _ _ hm]
    exact h
 case makeFunc fn fst cap=>
  cases fn<;>first|(cases hno;done)|(cases hn;done)
 case call c=>
  cases hc:c.callee<;>rw[hc] at hn hno<;>simp only[hc] at h⊢ <;>try(cases hn;done)
  case value f=>
   cases f<;>(try simp only[] at h⊢)<;>try(cases hn;done)
   rename_i f
   cases hF:T.fm f with
   |some b=>
    simp only[hF] at hn
    subst hn
    simp only[hF] at h⊢
    exact rdK_up hup h
   |none=>
    simp only[hF] at h⊢
    rw[passL_eq] at h⊢
    exact callK_up (passA_up hup _ _ _) h
  case builtin b=>
   cases b<;>simp only[] at h hn hno⊢ <;>try(first|exact h.elim|(exact absurd hn (by decide))|(exact absurd hno (by decide)))
   split at h<;>try exact h.elim
   split at h<;>try exact h.elim
   ·exact h
   ·split at h
    ·rename_i n k _
     cases hA:isAs m n k with
     |true=>rw[hA] at h;rw[isAs_up hup hA];exact rdK_up hup h
     |false=>rw[hA] at h;rw[lenK_ow hup h];exact lenK_up hup h
    ·rename_i n k sz lo hi _
     cases hA:isAs m n k with
     |true=>rw[hA] at h;rw[isAs_up hup hA];exact rdK_up hup h
     |false=>rw[hA] at h;rw[lenK_vw hup h];exact lenK_up hup h
    ·exact lenK_up hup h
   ·exact rdK_up hup h
theorem elemsD_any {sz:Nat} {E:Operand→V} (ps:List (Nat×Operand)):∀(xs:List (List D)) (f:Bool) (F:List (List D)→Bool→Prop),elemsD sz E xs f ps F→∃ys g,F ys g:=by
 induction ps with
 |nil=>intro xs f F h;exact⟨xs,f,h⟩
 |cons p ps ih=>
  intro xs f F h
  obtain⟨i,x⟩:=p
  simp only[elemsD,forceD_eq,setK_eq] at h
  split at h
  ·split at h
   ·split at h<;>exact ih _ _ _ h
   ·exact h.elim
  ·exact h.elim
theorem aCore_fresh {o:Oper} {E:Operand→V} (hf:Op.fresh T.fm o.op=true) {v:V} {m':List (Option Bk)} (h:aCore P T o E m fun v1 m1=>v1=v∧m1=m'):Up m m':=by
 have key:∀{dst:Option Tmp} {b:Bk} {g:Nat→V},(newK dst b g m fun v1 m1=>v1=v∧m1=m')→Up m m':=by
  intro dst b g h
  unfold newK at h
  split at h
  ·exact h.elim
  ·split at h
   ·rename_i hd
    rw[setK_eq] at h
    rw[←h.2]
    exact up_set hd
   ·exact h.elim
 unfold aCore at h
 cases ho:o.op<;>rw[ho] at hf<;>simp only[ho] at h<;>simp only[Op.fresh] at hf<;>try(cases hf;done)
 case alloc ty=>
  split at h
  ·split at h<;>exact key h
  ·exact h.elim
 case box ty x=>
  simp only[forceL_eq] at h
  split at h
  ·exact h.elim
  ·split at h<;>exact key h
 case buildSlice ty n ps=>
  rw[Option.isNone_iff_eq_none] at hf
  simp only[hf] at h
  split at h<;>try exact h.elim
  split at h<;>try exact h.elim
  split at h<;>try exact h.elim
  obtain⟨ys,g,h⟩:=elemsD_any _ _ _ _ h
  exact key h
end
end Go.Proofs.YtdccglkagfdooaaGreatDoor
