/- Texts joined by pack.py: XSxYv XStA XSyYB XSyP0 -/
import Derived.Test.YtjmabkpcahmnpaaGreatDoorRz12
import Derived.Test.YtjmabkpcahmnpaaGreatDoorRz14
import Derived.Test.YtjmabkpcahmnpaaGreatDoorRz15
set_option maxHeartbeats 4000000
set_option maxRecDepth 100000
namespace Go.Proofs.YtjmabkpcahmnpaaGreatDoor
open Go.RowKit
def kN (n:Nat) (K:Nat→Prop):Prop:=
 match n with
 |0=>K 0
 |1=>K 1
 |2=>K 2
 |3=>K 3
 |4=>K 4
 |5=>K 5
 |6=>K 6
 |7=>K 7
 |8=>K 8
 |9=>K 9
 |10=>K 10
 |11=>K 11
 |12=>K 12
 |13=>K 13
 |14=>K 14
 |15=>K 15
 |16=>K 16
 |17=>K 17
 |18=>K 18
 |19=>K 19
 |n=>K n
theorem kN_eq (n:Nat) (K:Nat→Prop):kN n K=K n:=by unfold kN;split<;>rfl
def V.kv (v:V) (K:V→Prop):Prop:=
 match v with
 | .ow n k=>kN k fun k=>K (.ow n k)
 | .oq n k s i o=>kN k fun k=>K (.oq n k s i o)
 | .vw n k s lo hi=>kN k fun k=>K (.vw n k s lo hi)
 |v=>K v
theorem V.kv_eq (v:V) (K:V→Prop):v.kv K=K v:=by unfold V.kv;split<;>first|rfl|rw[kN_eq]
def forceLv:List V→(List V→Prop)→Prop
 |[],K=>K []
 |v::l,K=>v.kv fun v=>forceLv l fun l=>K (v::l)
theorem forceLv_eq:∀(l:List V) (K:List V→Prop),forceLv l K=K l
 |[],_=>rfl
 |v::l,K=>by unfold forceLv;rw[V.kv_eq,forceLv_eq l]
def V.kw (v:V) (K:V→Prop):Prop:=
 match v with
 | .ag cs=>forceLv cs fun cs=>K (.ag cs)
 | .tu cs=>forceLv cs fun cs=>K (.tu cs)
 |v=>v.kv K
theorem V.kw_eq (v:V) (K:V→Prop):v.kw K=K v:=by
 unfold V.kw
 split
 ·rw[forceLv_eq]
 ·rw[forceLv_eq]
 ·rw[V.kv_eq]
def forceMv:List (Option Bk)→(List (Option Bk)→Prop)→Prop
 |[],K=>K []
 |none::l,K=>forceMv l fun l=>K (none::l)
 |some (.box cs bt)::l,K=>forceLv cs fun cs=>forceMv l fun l=>K (some (.box cs bt)::l)
 |some (.row k e s f xs)::l,K=>kN k fun k=>forceMv l fun l=>K (some (.row k e s f xs)::l)
 |some (.fz k e bs)::l,K=>kN k fun k=>forceMv l fun l=>K (some (.fz k e bs)::l)
 |some (.asr k A outs)::l,K=>kN k fun k=>forceLv outs fun outs=>forceMv l fun l=>K (some (.asr k A outs)::l)
theorem forceMv_eq:∀(l:List (Option Bk)) (K:List (Option Bk)→Prop),forceMv l K=K l
 |[],_=>rfl
 |none::l,K=>by unfold forceMv;rw[forceMv_eq l]
 |some (.box cs bt)::l,K=>by unfold forceMv;rw[forceLv_eq,forceMv_eq l]
 |some (.row k e s f xs)::l,K=>by unfold forceMv;rw[kN_eq,forceMv_eq l]
 |some (.fz k e bs)::l,K=>by unfold forceMv;rw[kN_eq,forceMv_eq l]
 |some (.asr k A outs)::l,K=>by unfold forceMv;rw[kN_eq,forceLv_eq,forceMv_eq l]
section
variable {P:Program} {T:Tab} {st:Bool}
theorem mcallV {o:Oper} {E:Operand→V} {c:Call} {f:FuncId} {pre post av:List V} {m m1:List (Option Bk)} {ρ φ:List Nat} {gf:Bool} {m0 m2:List Bk} {args0:List V} {res:V} {K:V→List (Option Bk)→Prop} (hM:MCallsG st P f args0 m0 res m2)
  (hK:(res.co3 st (ρ++φ) m1 gf).k fun v=>v.kw fun v=>forceM (putM (fun n b=>b.co st (ρ++φ) m1 gf n) (ρ++φ) m2 m1) fun m'=>forceMv m' fun m'=>K v m')
  (ln:Bool:=false) (ho:o.op= .call c:=by exact rfl) (hc:calleeV E c=some (f,pre,post):=by exact rfl) (hz:frzB ln m (pre++zA T E c.args.toList c.argTypes.toList++post)=some (av,m1):=by exact rfl)
  (_hr:(reach m1 64 (av.flatMap V.nm3) []).reverse=ρ:=by exact rfl) (hg:(av.all V.fl&&flM m1 ρ)=gf:=by exact rfl) (hab:abM ρ m1 ρ=some m0:=by exact rfl) (ha0:av.map (V.ab ρ m1)=args0:=by exact rfl)
  (hchk:(distinctB (ρ++φ)&&(freeB m1 φ&&(kindB m1 ρ m2&&Nat.beq (ρ.length+φ.length) m2.length)))=true:=by exact rfl):
  ∃v m',OpTr P o E m v m'∧v.k fun v=>forceM m' fun m'=>K v m':=by
 refine mcall (T:=T) hM ?_ ln ho hc hz _hr hg hab ha0 hchk
 rw[k_eq] at hK⊢
 rw[V.kw_eq,forceM_eq,forceMv_eq] at hK
 rw[forceM_eq]
 exact hK
end
section
variable {P:Program} {T:Tab} {m m2:List (Option Bk)} {ρ:List Nat}
theorem idx_nin:∀{l:List Nat} {n k:Nat},n∉l→idx l n k=none
 |[],_,_,_=>rfl
 |a::l,n,k,h=>by
  simp only[List.mem_cons,not_or] at h
  unfold idx
  split
  ·rename_i e;exact absurd (Nat.eq_of_beq_eq_true e).symm h.1
  ·exact idx_nin h.2
theorem ab1_up (hup:Up m m2) (hρ:∀n∈ρ,∃b,m[n]?=some (some b)) (v:V):v.ab1 ρ m2=v.ab1 ρ m:=by
 cases v<;>simp only[V.ab1]
 ·rename_i n k
  by_cases hn:n∈ρ
  ·obtain⟨b,hb⟩:=hρ n hn
   rw[hup _ _ hb,hb]
  ·rw[idx_nin hn]
   have h:∀x:Option (Option Bk),(match x with
    |some (some (.row k' _ _ _ _))=>match decide (k=k'),(none:Option Nat) with
     |true,some i=>V.ow i 0
     |_,_=> .un
    |some (some (.asr k' _ _))=>match decide (k=k'),(none:Option Nat) with
     |true,some i=>V.ow i 0
     |_,_=> .un
    |_=> .un)= .un:=by
    intro x
    split<;>first|rfl|(rename_i k' _ _ _ _;cases decide (k=k')<;>rfl)|(rename_i k' _ _;cases decide (k=k')<;>rfl)
   exact(h _).trans (h _).symm
 ·rename_i n k s lo hi
  by_cases hn:n∈ρ
  ·obtain⟨b,hb⟩:=hρ n hn
   rw[hup _ _ hb,hb]
  ·rw[idx_nin hn]
   have h:∀x:Option (Option Bk),(match x with
    |some (some (.row k' _ sz _ _))=>match decide (k=k'∧s=sz),(none:Option Nat) with
     |true,some i=>V.vw i 0 s lo hi
     |_,_=> .un
    |_=> .un)= .un:=by
    intro x
    split<;>first|rfl|(rename_i k' _ sz _ _;cases decide (k=k'∧s=sz)<;>rfl)
   exact(h _).trans (h _).symm
theorem ab_up (hup:Up m m2) (hρ:∀n∈ρ,∃b,m[n]?=some (some b)):V.ab ρ m2=V.ab ρ m:=by
 have h1:V.ab1 ρ m2=V.ab1 ρ m:=funext fun v=>ab1_up hup hρ v
 funext v
 cases v<;>simp only[V.ab,h1]
theorem abM_up (hup:Up m m2) (hρ:∀n∈ρ,∃b,m[n]?=some (some b)):∀{l:List Nat},(∀n∈l,∃b,m[n]?=some (some b))→abM ρ m2 l=abM ρ m l
 |[],_=>rfl
 |n::l,hl=>by
  obtain⟨b,hb⟩:=hl n (by simp)
  have ih:=abM_up hup hρ (l:=l) fun x hx=>hl x (by simp[hx])
  simp only[abM,ih,hup _ _ hb,hb]
  have e:b.ab ρ m2=b.ab ρ m:=by cases b<;>simp only[Bk.ab,ab_up hup hρ]
  cases abM ρ m l with
  |none=>rfl
  |some bs=>exact congrArg (fun x=>some (x::bs)) e
theorem flM_up (hup:Up m m2):∀{l:List Nat},(∀n∈l,∃b,m[n]?=some (some b))→flM m2 l=flM m l
 |[],_=>rfl
 |n::l,hl=>by
  obtain⟨b,hb⟩:=hl n (by simp)
  have ih:=flM_up hup (l:=l) fun x hx=>hl x (by simp[hx])
  unfold flM at ih⊢
  simp only[List.all_cons,ih,hup _ _ hb,hb]
theorem kindB_up (hup:Up m m2):∀{l:List Nat} {bs:List Bk},(∀n∈l,∃b,m[n]?=some (some b))→kindB m2 l bs=kindB m l bs
 |[],bs,_=>by cases bs<;>rfl
 |n::l,[],hl=>rfl
 |n::l,b::bs,hl=>by
  obtain⟨b',hb⟩:=hl n (by simp)
  have ih:=kindB_up hup (l:=l) (bs:=bs) fun x hx=>hl x (by simp[hx])
  unfold kindB
  rw[hup _ _ hb,hb,ih]
theorem verOf_up (hup:Up m m2) {st:Bool} {n:Nat} (h:∃b,m[n]?=some (some b)):verOf st m2 n=verOf st m n:=by
 obtain⟨b,hb⟩:=h
 unfold verOf
 rw[hup _ _ hb,hb]
theorem co1_up (hup:Up m m2) (hρ:∀n∈ρ,∃b,m[n]?=some (some b)) {st g:Bool}:V.co1 st ρ m2 g=V.co1 st ρ m g:=by
 funext v
 cases v<;>simp only[V.co1]
 all_goals
  split<;>first|rfl|(rename_i n _ hn;rw[verOf_up hup (hρ n (List.mem_of_getElem? hn))])|(rename_i n hn;rw[verOf_up hup (hρ n (List.mem_of_getElem? hn))])
theorem co2_up (hup:Up m m2) (hρ:∀n∈ρ,∃b,m[n]?=some (some b)) {st g:Bool}:V.co2 st ρ m2 g=V.co2 st ρ m g:=by
 funext v
 cases v<;>simp only[V.co2,co1_up hup hρ]
theorem co3_up (hup:Up m m2) (hρ:∀n∈ρ,∃b,m[n]?=some (some b)) {st g:Bool}:V.co3 st ρ m2 g=V.co3 st ρ m g:=by
 funext v
 cases v<;>simp only[V.co3,co2_up hup hρ]
theorem bco_up (hup:Up m m2) (hρ:∀n∈ρ,∃b,m[n]?=some (some b)) {st g:Bool} {n:Nat} (hn:n∈ρ) (b:Bk):b.co st ρ m2 g n=b.co st ρ m g n:=by
 cases b<;>simp only[Bk.co,co2_up hup hρ,verOf_up hup (hρ n hn)]
def sameAt (F:Nat→Bk→Bk):List Nat→List Bk→List (Option Bk)→Prop
 |n::l,b::bs,m=>m[n]?=some (some (F n b))∧sameAt F l bs m
 |[],[],_=>True
 |_,_,_=>False
theorem putM_same {F F':Nat→Bk→Bk} (hup:Up m m2):∀{l:List Nat} {bs:List Bk},(∀n∈l,∀b,F' n b=F n b)→sameAt F l bs m→putM F' l bs m2=m2
 |[],[],_,_=>rfl
 |[],_::_,_,h=>h.elim
 |_::_,[],_,h=>h.elim
 |n::l,b::bs,hF,h=>by
  have h1:=hup _ _ h.1
  have h2:m2.set n (some (F' n b))=m2:=by
   rw[hF n (by simp) b]
   refine List.ext_getElem? fun j=>?_
   rw[List.getElem?_set]
   split
   ·rename_i e
    subst e
    rw[h1]
    split
    ·rfl
    ·rename_i hl
     rw[List.getElem?_eq_none (by omega)] at h1;cases h1
   ·rfl
  unfold putM
  rw[h2]
  exact putM_same hup (fun x hx=>hF x (by simp[hx])) h.2
theorem op_mcallC {o:Oper} {E:Operand→V} {c:Call} {f:FuncId} {pre post:List V} {ρ:List Nat} {gf:Bool} {m0:List Bk} {args0:List V} {res:V} (ho:o.op= .call c) (hc:calleeV E c=some (f,pre,post))
  (hg:((pre++zA T E c.args.toList c.argTypes.toList++post).all V.fl&&flM m ρ)=gf) (hab:abM ρ m ρ=some m0) (ha0:(pre++zA T E c.args.toList c.argTypes.toList++post).map (V.ab ρ m)=args0) (hM:MCallsG true P f args0 m0 res m0)
  (hchk:(distinctB ρ&&(kindB m ρ m0&&Nat.beq ρ.length m0.length))=true) (hs:sameAt (fun n b=>b.co true ρ m gf n) ρ m0 m):
  OpRc P o E m (res.co3 true ρ m gf):=by
 intro m2 hup
 have hρ:=abM_mem hab
 simp only[Bool.and_eq_true] at hchk
 obtain⟨h1,h2,h3⟩:=hchk
 have key:=op_mcall (T:=T) (m:=m2) (m1:=m2) (ρ:=ρ) (φ:=[]) (ln:=true) (st:=true) ho hc rfl (gf:=gf) (by rw[flM_up hup hρ];exact hg) (by rw[abM_up hup hρ hρ];exact hab) (by rw[ab_up hup hρ];exact ha0) hM (by
  rw[List.append_nil,kindB_up hup hρ]
  simp only[Bool.and_eq_true]
  exact⟨h1,rfl,h2,h3⟩)
 rw[List.append_nil,co3_up hup hρ,putM_same hup (fun n hn b=>bco_up hup hρ hn b) hs] at key
 exact key
theorem mcallC {o:Oper} {E:Operand→V} {c:Call} {f:FuncId} {pre post:List V} {ρ:List Nat} {gf:Bool} {m0:List Bk} {args0:List V} {res:V} {K:V→List (Option Bk)→Prop} (hM:MCallsG true P f args0 m0 res m0)
  (hK:(res.co3 true ρ m gf).k fun v=>K v m) (ho:o.op= .call c:=by exact rfl) (hc:calleeV E c=some (f,pre,post):=by exact rfl)
  (hg:((pre++zA T E c.args.toList c.argTypes.toList++post).all V.fl&&flM m ρ)=gf:=by exact rfl) (hab:abM ρ m ρ=some m0:=by exact rfl) (ha0:(pre++zA T E c.args.toList c.argTypes.toList++post).map (V.ab ρ m)=args0:=by exact rfl)
  (hchk:(distinctB ρ&&(kindB m ρ m0&&Nat.beq ρ.length m0.length))=true:=by exact rfl) (hs:sameAt (fun n b=>b.co true ρ m gf n) ρ m0 m:=by repeat' (first|exact trivial|refine And.intro rfl ?_)):
  rdK P o E m K:=
 ⟨_,op_mcallC (T:=T) ho hc hg hab ha0 hM hchk hs,hK⟩
end
end Go.Proofs.YtjmabkpcahmnpaaGreatDoor
namespace Go.Proofs.YtjmabkpcahmnpaaGreatDoor
open Go.RowKit
theorem at_tr {P:Program} {o:Oper} {E:Operand→V} {m m':List (Option Bk)} {v:V} {K:V→List (Option Bk)→Prop} (h:OpTr P o E m v m') (hK:v.k fun v=>forceM m' fun m'=>K v m'):∃v m',OpTr P o E m v m'∧v.k fun v=>forceM m' fun m'=>K v m':=⟨v,m',h,hK⟩
theorem at_rd {P:Program} {o:Oper} {E:Operand→V} {m:List (Option Bk)} {v:V} {K:V→List (Option Bk)→Prop} (h:OpRd P o E m v) (hK:v.k fun v=>K v m):rdK P o E m K:=⟨v,h.rc,hK⟩
abbrev intC (n:Int):Cl:= .d (.cv (.int .i64 n))
def bM (l:List (Bs×Int)):List (ByteArray×Cl):=l.map fun e=>(mk e.1,intC e.2)
theorem getE_bM:∀(l:List (Bs×Int)) (t:Bs),getE (bM l) (mk t)=(getB l t).map intC
 |[],_=>rfl
 |(k,x)::l,t=>by
  simp only[bM,List.map_cons,getE,getB]
  by_cases h:k=t
  ·rw[if_pos (by rw[h]),if_pos h];rfl
  ·rw[if_neg (fun e=>h (mk_inj e)),if_neg h];exact getE_bM l t
theorem putE_bM:∀(l:List (Bs×Int)) (t:Bs) (x:Int),putE (bM l) (mk t) (intC x)=bM (putB l t x)
 |[],_,_=>rfl
 |(k,y)::l,t,x=>by
  simp only[bM,List.map_cons,putE,putB]
  by_cases h:k=t
  ·rw[if_pos (by rw[h]),if_pos h,h];rfl
  ·rw[if_neg (fun e=>h (mk_inj e)),if_neg h]
   simp only[List.map_cons]
   exact congrArg _ (putE_bM l t x)
theorem delE_bM:∀(l:List (Bs×Int)) (t:Bs),delE (bM l) (mk t)=bM (delB l t)
 |[],_=>rfl
 |(k,y)::l,t=>by
  simp only[bM,List.map_cons,delE,delB]
  by_cases h:k=t
  ·rw[if_pos (by rw[h]),if_pos h]
  ·rw[if_neg (fun e=>h (mk_inj e)),if_neg h]
   simp only[List.map_cons]
   exact congrArg _ (delE_bM l t)
abbrev bMap (W:List (Bs×Int)):Bk:= .asr 0 (mapC (bM W)) []
section
variable {o:Oper} {E:Operand→V} {m:List (Option Bk)} {n k:Nat} {x i y:Operand} {W:List (Bs×Int)} {t:Bs} {v:Int}
theorem look_b (ho:o.op= .lookup 165 x i true) (hx:E x= .ow n k) (hi:E i=bstr t) (hm:m[n]?=some (some (.asr k (mapC (bM W)) []))):OpRd Tryz.prog o E m (.tu [int ((getB W t).getD 0),boo (getB W t).isSome]):=
 rd_look (z:= .int .i64 0) ho Tryz.underlying165 Tryz.underlying9 (by kernel_rfl) hx hi hm (by rw[getE_bM];cases getB W t<;>rfl)
theorem put_b (ho:o.op= .mapUpdate 165 x i y) (hx:E x= .ow n k) (hi:E i=bstr t) (hy:E y=int v) (hm:m[n]?=some (some (.asr k (mapC (bM W)) []))):OpTr Tryz.prog o E m .un (m.set n (some (.asr k (mapC (bM (putB W t v))) []))):=by
 have:=ot_updD (P:=Tryz.prog) (d:= .cv (.int .i64 v)) (f:=true) ho Tryz.underlying165 Tryz.underlying9 hx hi (by rw[hy];rfl) hm
 rwa [putE_bM] at this
theorem ins_b (ho:o.op= .insert 165 x i y) (hx:E x= .ow n k) (hi:E i=bstr t) (hy:E y=int v) (hm:m[n]?=some (some (.asr k (mapC (bM W)) []))):OpTr Tryz.prog o E m .un (m.set n (some (.asr k (mapC (bM (putB W t v))) []))):=by
 have:=ot_insD (P:=Tryz.prog) (d:= .cv (.int .i64 v)) (f:=true) ho Tryz.underlying165 Tryz.underlying9 hx hi (by rw[hy];rfl) hm
 rwa [putE_bM] at this
theorem del_b (ho:o.op= .call {callee:= .builtin .delete,args:= #[x,i],argTypes:= #[165,9]}) (hx:E x= .ow n k) (hi:E i=bstr t) (hm:m[n]?=some (some (.asr k (mapC (bM W)) []))):OpTr Tryz.prog o E m .un (m.set n (some (.asr k (mapC (bM (delB W t))) []))):=by
 have:=ot_delete (P:=Tryz.prog) ho Tryz.underlying165 Tryz.underlying9 hx hi hm
 rwa [delE_bM] at this
end
theorem x_arity (W:List (Bs×Int)) (t:Bs):MCallsG true Tryz.prog 93 [.ow 0 0,bstr t] [bMap W] (.tu [int ((getB W t).getD 0),boo (getB W t).isSome]) [bMap W]:=by
 refine msxx [] Tryz.func93 (by kernel_rfl) (by kernel_rfl) (by rfl) ?_
 conv=>whnf
 refine at_tr (ot_rd (look_b rfl rfl rfl rfl)) ?_
 exact⟨⟨rfl,rfl,rfl⟩,rfl⟩
theorem x_built (t:Bs):DCalls Tryz.prog 145 [bstr t] (.tu [int ((getB builtT t).getD 0),boo (getB builtT t).isSome]):=by
 refine sxm [(93,false)] Tryz.func145 (by kernel_rfl) ?_
 conv=>whnf
 refine at_tr (ot_makeMap rfl rfl rfl) ?_
 conv=>whnf
 refine at_tr (ins_b (W:=[]) rfl rfl rfl rfl rfl) ?_
 repeat' ((conv=>whnf);refine at_tr (ins_b rfl rfl rfl rfl rfl) ?_)
 conv=>whnf
 refine mcall (T:=TT) (φ:=[]) (x_arity builtT t) ?_ (ln:=true)
 (conv=>whnf)<;>rfl
theorem x_hostop (t:Bs):DCalls Tryz.prog 64 [bstr t] (.tu [int ((getB hostT t).getD 0),boo (getB hostT t).isSome]):=by
 refine sxm [(93,false)] Tryz.func64 (by kernel_rfl) ?_
 conv=>whnf
 refine at_tr (ot_makeMap rfl rfl rfl) ?_
 conv=>whnf
 refine at_tr (ins_b (W:=[]) rfl rfl rfl rfl rfl) ?_
 repeat' ((conv=>whnf);refine at_tr (ins_b rfl rfl rfl rfl rfl) ?_)
 conv=>whnf
 refine mcall (T:=TT) (φ:=[]) (x_arity hostT t) ?_ (ln:=true)
 (conv=>whnf)<;>rfl
abbrev scB (p:Pg) (nx:Int) (a b c:Nat):Bk:= .box [.sl false 5 (p.nodes.map ndD),.sl false 3 (p.funcs.map fcD),.ow a 0,int nx,.ow b 0,.ow c 0]
abbrev slR (l:List Int):Bk:= .row 0 3 1 false (l.map intD)
abbrev erR (l:List Int):Bk:= .row 0 37 1 false (l.map intD)
abbrev scN (p:Pg) (vis:List (Bs×Int)) (nx:Int) (sl er:List Int):List Bk:=[scB p nx 1 2 3,bMap vis,slR sl,erR er]
abbrev scM (p:Pg) (s:Scp):List Bk:=scN p s.vis s.nx s.sl s.er
theorem put_int (l:List Int) (i:Nat) (v:Int) (h:i<l.length):(l.map intD).set ((i:Nat):Int).toNat (List.take 0 (intD l[i])++[D.cv (.int .i64 v)]++List.drop (0+[D.cv (.int .i64 v)].length) (intD l[i]))=(l.set i v).map intD:=by
 rw[List.map_set,Int.toNat_natCast];rfl
theorem letS_eq (i:Nat) (t:Bs) (vis:List (Bs×Int)) (nx:Int) (sl er:List Int):letS i t ⟨vis,nx,sl,er⟩=match getB vis t with
  |some _=>⟨vis,IntKind.i64.wrap (nx+1),sl.set i nx,er.set i 6⟩
  |none=>if nx=32 then⟨vis,IntKind.i64.wrap (nx+1),sl.set i nx,er.set i 3⟩ else⟨putB vis t nx,IntKind.i64.wrap (nx+1),sl.set i nx,er⟩:=by
 unfold letS
 cases getB vis t<;>rfl
theorem x_let (p:Pg) (vis:List (Bs×Int)) (nx:Int) (sl er:List Int) (i:Nat) (t:Bs) (h1:i<sl.length) (h2:i<er.length):
  MCallsG true Tryz.prog 148 [.bx 0 0,int i,bstr t] (scN p vis nx sl er) (.tu []) (scM p (letS i t ⟨vis,nx,sl,er⟩)):=by
 have hs:=letS_eq i t vis nx sl er
 refine msxx [] Tryz.func148 (by kernel_rfl) (by kernel_rfl) (by rfl) ?_
 conv=>whnf
 refine⟨Int.natCast_nonneg i,by rw[List.length_map,Int.toNat_natCast];exact h1,?_⟩
 conv=>whnf
 refine⟨_,get_map intD h1,Nat.le_refl _,?_⟩
 rw[put_int sl i nx h1]
 conv=>whnf
 refine at_tr (ot_rd (look_b rfl rfl rfl rfl)) ?_
 conv=>whnf
 rintro(_|_) g1
 ·have g1:getB vis t=none:=by simpa using g1
  rw[g1] at hs
  dsimp only at hs
  conv=>whnf
  rintro(_|_) g2
  ·have g2:nx≠32:=by simpa using g2
   rw[if_neg g2] at hs
   rw[hs]
   conv=>whnf
   refine at_tr (put_b rfl rfl rfl rfl rfl) ?_
   conv=>whnf
   exact⟨⟨rfl,rfl,rfl⟩,rfl⟩
  ·have g2:nx=32:=by simpa using g2
   rw[if_pos g2] at hs
   rw[hs]
   conv=>whnf
   refine⟨Int.natCast_nonneg i,by rw[List.length_map,Int.toNat_natCast];exact h2,?_⟩
   conv=>whnf
   refine⟨_,get_map intD h2,Nat.le_refl _,?_⟩
   rw[put_int er i 3 h2]
   conv=>whnf
   exact⟨⟨rfl,rfl,rfl⟩,rfl⟩
 ·obtain⟨v,g1⟩:∃v,getB vis t=some v:=by
   cases e:getB vis t with
   |none=>rw[e] at g1;cases g1
   |some v=>exact⟨v,rfl⟩
  rw[g1] at hs
  dsimp only at hs
  rw[hs]
  conv=>whnf
  refine⟨Int.natCast_nonneg i,by rw[List.length_map,Int.toNat_natCast];exact h2,?_⟩
  conv=>whnf
  refine⟨_,get_map intD h2,Nat.le_refl _,?_⟩
  rw[put_int er i 6 h2]
  conv=>whnf
  exact⟨⟨rfl,rfl,rfl⟩,rfl⟩
end Go.Proofs.YtjmabkpcahmnpaaGreatDoor
namespace Go.Proofs.YtjmabkpcahmnpaaGreatDoor
open Go.RowKit
def fdM:List (Nat×Bool):=[(179,false),(174,false)]
def findN (x:Bs):List Fc→Nat→Int
 |[],_=> -1
 |s::l,i=>if s.name==x then i else findN x l (i+1)
theorem findN_cons (x:Bs) (s:Fc) (l:List Fc) (i:Nat):findN x (s::l) i=if s.name==x then(i:Int) else findN x l (i+1):=rfl
theorem x_fnd1 (f:Fc) (x:Bs):MCalls Tryz.prog 179 [.ag [bstr f.name,.sl false 1 (f.params.map strD),int f.body],.bx 0 0] [.box [bstr x]] (boo (sEq (mk f.name) (mk x))) [.box [bstr x]]:=by
 refine msx Tryz.func179 (by kernel_rfl) (by kernel_rfl) ?_
 exact⟨rfl,rfl,rfl⟩
theorem x_indexFc (l:List Fc) (x:Bs) (hl:l.length≤8796093022207):
  MCalls Tryz.prog 174 [.sl false 3 (l.map fcD),.fn 179 0 [.bx 0 0]] [.box [bstr x]] (int (findN x l 0)) [.box [bstr x]]:=by
 refine msxm fdM Tryz.func174 (by kernel_rfl) (by kernel_rfl) ?_
 conv=>whnf
 refine⟨[],Nat,fun k=>[(8,int k)],fun _=>[],fun k=>k≤l.length∧findN x (l.drop k) k=findN x l 0,fun k=>l.length - k,0,⟨by simp,rfl⟩,?_,?_⟩
 ·refine⟨rfl,?_,?_⟩<;>repeat' (first|exact trivial|exact rfl|refine and_rfl ?_|refine and_two ?_ ?_)
 rintro k ⟨hk,hf⟩
 conv=>whnf
 rintro(_|_) h1
 ·have h1:l.length≤k:=by simp at h1;omega
  rw[List.drop_eq_nil_of_le h1] at hf
  exact⟨rfl,rfl,by rw[←hf];rfl⟩
 have h1:k<l.length:=by simp at h1;omega
 rw[List.drop_eq_getElem_cons h1,findN_cons] at hf
 conv=>whnf
 refine⟨by omega,_,get_map fcD h1,?_⟩
 conv=>whnf
 refine mcall (T:=TM fdM) (φ:=[]) (x_fnd1 l[k] x) ?_
 conv=>whnf
 rintro(_|_) h2
 ·rw[sEq_mk] at h2
  rw[h2,if_neg (by simp)] at hf
  conv=>whnf
  refine⟨k+1,⟨h1,hf⟩,by dsimp only;omega,?_⟩
  refine⟨rfl,?_,?_⟩<;>repeat' (first|exact trivial|exact rfl|refine and_rfl ?_|refine and_val (wrap_succ (by omega)) ?_|refine and_two ?_ ?_)
 ·rw[sEq_mk] at h2
  rw[h2,if_pos rfl] at hf
  exact⟨rfl,rfl,by rw[←hf];rfl⟩
theorem x_sfind (p:Pg) (x:Bs) (hl:p.funcs.length≤8796093022207):DCalls Tryz.prog 146 [p.V,bstr x] (int (findN x p.funcs 0)):=by
 refine sxm fdM Tryz.func146 (by kernel_rfl) ?_
 conv=>whnf
 refine mcall (T:=TM fdM) (φ:=[]) (x_indexFc p.funcs x hl) ?_
 rfl
end Go.Proofs.YtjmabkpcahmnpaaGreatDoor
namespace Go.Proofs.YtjmabkpcahmnpaaGreatDoor
structure Eats (r r1:List Tok):Prop where
 lt:r1.length<r.length
 suf:r1<:+r
theorem Eats.trans {a b c:List Tok} (h:Eats a b) (k:Eats b c):Eats a c:=⟨Nat.lt_trans k.lt h.lt,k.suf.trans h.suf⟩
theorem Eats.tail {a b:List Tok} (h:Eats a b):Eats a b.tail:=⟨by have:=h.lt;simp;omega,(List.tail_suffix b).trans h.suf⟩
theorem Eats.of_tail {r:List Tok} (h:r≠[]):Eats r r.tail:=by
 cases r with
 |nil=>exact absurd rfl h
 |cons t r=>exact⟨by simp,List.tail_suffix _⟩
theorem isTk_ne {k:Int} {s:Bs} {r:List Tok} (h:isTk k s r=true):r≠[]:=by rintro rfl;cases h
theorem Eats.of_tk {k:Int} {s:Bs} {r:List Tok} (h:isTk k s r=true):Eats r r.tail:= .of_tail (isTk_ne h)
def EatsP (p:Pars):Prop:=∀{r ns i r1 ns1},p r ns= .ok (i,r1,ns1)→Eats r r1
theorem mustT_eats {e k:Int} {s:Bs} {r r1:List Tok} (h:mustT e k s r= .ok r1):Eats r r1:=by
 unfold mustT at h
 split at h
 ·rename_i hk;cases h;exact .of_tk hk
 ·cases h
theorem mustK_eats {e k:Int} {r r1:List Tok} {s:Bs} (h:mustK e k r= .ok (s,r1)):Eats r r1:=by
 unfold mustK at h
 split at h
 ·rename_i hk;cases h;exact .of_tail hk.2
 ·cases h
theorem addN_ok {n:Nd} {r r1:List Tok} {ns ns1:List Nd} {i:Int} (h:addN n r ns= .ok (i,r1,ns1)):r1=r∧ns1=ns++[n]∧i=(ns.length:Int):=by
 unfold addN at h;cases h;exact⟨rfl,rfl,rfl⟩
section
variable {e:Int} {E:Pars} (hE:EatsP E)
include hE
theorem listF_eats {fin:Bs}:∀(f:Nat) {l:List Int} {r:List Tok} {ns:List Nd} {l1:List Int} {r1:List Tok} {ns1:List Nd},listF e fin E f l r ns= .ok (l1,r1,ns1)→Eats r r1
 |0,l,r,ns,l1,r1,ns1,h=>by cases h
 |f+1,l,r,ns,l1,r1,ns1,h=>by
  simp only[listF] at h
  split at h
  ·cases h
  ·rename_i i r2 ns2 h2
   have h3:=hE h2
   split at h
   ·cases h;exact h3.tail
   ·split at h
    ·rename_i hc
     exact(h3.trans (.of_tk hc)).trans (listF_eats f h)
    ·cases h
theorem listP_eats {fin:Bs} {r r1:List Tok} {ns ns1:List Nd} {l:List Int} (h:listP e fin E r ns= .ok (l,r1,ns1)):Eats r r1:=by
 unfold listP at h
 split at h
 ·rename_i hk;cases h;exact .of_tk hk
 ·exact listF_eats hE _ h
theorem keyF_eats:∀(f:Nat) {ks:List Bs} {l:List Int} {r:List Tok} {ns:List Nd} {i:Int} {r1:List Tok} {ns1:List Nd},keyF e E f ks l r ns= .ok (i,r1,ns1)→Eats r r1
 |0,ks,l,r,ns,i,r1,ns1,h=>by cases h
 |f+1,ks,l,r,ns,i,r1,ns1,h=>by
  simp only[keyF] at h
  split at h
  rotate_left
  ·cases h
  rename_i hk
  split at h
  ·cases h
  rename_i r2 h2
  split at h
  ·cases h
  rename_i j r3 ns3 h3
  have h4:=((Eats.of_tail hk.2.1).trans (mustT_eats h2)).trans (hE h3)
  split at h
  ·obtain⟨rfl,_⟩:=addN_ok h
   exact h4.tail
  ·split at h
   ·rename_i hc
    exact(h4.trans (.of_tk hc)).trans (keyF_eats f h)
   ·cases h
theorem keyP_eats {r r1:List Tok} {ns ns1:List Nd} {i:Int} (h:keyP e E r ns= .ok (i,r1,ns1)):Eats r r1:=by
 unfold keyP at h
 split at h
 ·rename_i hk
  obtain⟨rfl,_⟩:=addN_ok h
  exact .of_tk hk
 ·exact keyF_eats hE _ h
theorem primP_eats:EatsP (primP e E):=by
 intro r ns i r1 ns1 h
 unfold primP at h
 cases r with
 |nil=>cases h
 |cons t r=>
  have h0:Eats (t::r) r:= .of_tail (by simp)
  have add:∀{n:Nd} {r':List Tok} {ns':List Nd},Eats (t::r) r'→addN n r' ns'= .ok (i,r1,ns1)→Eats (t::r) r1:=fun h1 h2=>by
   obtain⟨rfl,_⟩:=addN_ok h2;exact h1
  dsimp only at h
  split at h
  ·exact add h0 h
  split at h
  ·exact add h0 h
  split at h
  ·exact add h0 h
  split at h
  ·exact add h0 h
  split at h
  ·exact add h0 h
  split at h
  ·split at h
   ·rename_i hk
    split at h
    ·cases h
    ·rename_i h2
     exact add ((h0.trans (.of_tk hk)).trans (listP_eats hE h2)) h
   ·exact add h0 h
  split at h
  ·split at h
   ·cases h
   ·rename_i h2
    split at h
    ·cases h
    ·rename_i h3
     exact add ((h0.trans (mustT_eats h2)).trans (listP_eats hE h3)) h
  split at h
  ·split at h
   ·cases h
   ·rename_i h2
    exact add (h0.trans (listP_eats hE h2)) h
  split at h
  ·exact h0.trans (keyP_eats hE h)
  split at h
  ·split at h
   ·cases h
   ·rename_i h2
    split at h
    ·cases h
    ·rename_i h3
     cases h
     exact(h0.trans (hE h2)).trans (mustT_eats h3)
  ·cases h
theorem postF_eats:∀(f:Nat) {i:Int} {r:List Tok} {ns:List Nd} {j:Int} {r1:List Tok} {ns1:List Nd},postF e E f i r ns= .ok (j,r1,ns1)→r1=r∨Eats r r1
 |0,i,r,ns,j,r1,ns1,h=>by cases h;exact .inl rfl
 |f+1,i,r,ns,j,r1,ns1,h=>by
  simp only[postF] at h
  split at h
  ·rename_i hk
   split at h
   ·cases h
   rename_i h2
   split at h
   ·cases h
   rename_i h3
   have h4:=((Eats.of_tk hk).trans (hE h2)).trans (mustT_eats h3)
   rcases postF_eats f h with rfl|h5
   ·exact .inr h4
   ·exact .inr (h4.trans h5)
  ·cases h;exact .inl rfl
theorem postP_eats:EatsP (postP e E):=by
 intro r ns i r1 ns1 h
 unfold postP at h
 split at h
 ·cases h
 ·rename_i h2
  rcases postF_eats hE _ h with rfl|h3
  ·exact primP_eats hE h2
  ·exact(primP_eats hE h2).trans h3
theorem unaryP_eats:EatsP (unaryP e E):=by
 intro r
 induction r with
 |nil=>intro ns i r1 ns1 h;exact postP_eats hE h
 |cons t r ih=>
  intro ns i r1 ns1 h
  simp only[unaryP] at h
  split at h
  ·split at h
   ·cases h
   ·rename_i h2
    obtain⟨rfl,_⟩:=addN_ok h
    exact(Eats.of_tail (r:=t::r) (by simp)).trans (ih h2)
  ·exact postP_eats hE h
end
theorem chainF_eats {k:Int} {ops:List Bs} {O:Pars} (hO:EatsP O):∀(f:Nat) {i:Int} {r:List Tok} {ns:List Nd} {j:Int} {r1:List Tok} {ns1:List Nd},chainF k ops O f i r ns= .ok (j,r1,ns1)→r1=r∨Eats r r1
 |0,i,r,ns,j,r1,ns1,h=>by cases h;exact .inl rfl
 |f+1,i,r,ns,j,r1,ns1,h=>by
  simp only[chainF] at h
  split at h
  ·rename_i hk
   split at h
   ·cases h
   rename_i h2
   have h4:=(Eats.of_tail hk.2.2).trans (hO h2)
   rcases chainF_eats hO f h with rfl|h5
   ·exact .inr h4
   ·exact .inr (h4.trans h5)
  ·cases h;exact .inl rfl
theorem chainP_eats {k:Int} {ops:List Bs} {O:Pars} (hO:EatsP O):EatsP (chainP k ops O):=by
 intro r ns i r1 ns1 h
 unfold chainP at h
 split at h
 ·cases h
 ·rename_i h2
  rcases chainF_eats hO _ h with rfl|h3
  ·exact hO h2
  ·exact(hO h2).trans h3
section
variable {e:Int} {E:Pars} (hE:EatsP E)
include hE
theorem termP_eats:EatsP (termP e E):=chainP_eats (unaryP_eats hE)
theorem sumP_eats:EatsP (sumP e E):=chainP_eats (termP_eats hE)
theorem cmpP_eats:EatsP (cmpP e E):=by
 intro r ns i r1 ns1 h
 unfold cmpP at h
 split at h
 ·cases h
 ·rename_i h2
  have h3:=sumP_eats hE h2
  split at h
  ·rename_i hk
   split at h
   ·cases h
   ·rename_i h4
    obtain⟨rfl,_⟩:=addN_ok h
    exact(h3.trans (.of_tail hk.2.2)).trans (sumP_eats hE h4)
  ·cases h;exact h3
theorem notP_eats:EatsP (notP e E):=by
 intro r
 induction r with
 |nil=>intro ns i r1 ns1 h;exact cmpP_eats hE h
 |cons t r ih=>
  intro ns i r1 ns1 h
  simp only[notP] at h
  split at h
  ·split at h
   ·cases h
   ·rename_i h2
    obtain⟨rfl,_⟩:=addN_ok h
    exact(Eats.of_tail (r:=t::r) (by simp)).trans (ih h2)
  ·exact cmpP_eats hE h
theorem andP_eats:EatsP (andP e E):=chainP_eats (notP_eats hE)
theorem orP_eats:EatsP (orP e E):=chainP_eats (andP_eats hE)
end
theorem exprP_eats {e:Int}:∀f,EatsP (exprP e f)
 |0=>fun h=>by cases h
 |f+1=>orP_eats (exprP_eats f)
theorem valueP_eats {e:Int} {f:Nat} {kind:Int} {text:Bs}:EatsP (valueP e f kind text):=by
 intro r ns i r1 ns1 h
 unfold valueP at h
 split at h
 ·cases h
 ·rename_i h2
  split at h
  ·cases h
  ·rename_i h3
   obtain⟨rfl,_⟩:=addN_ok h
   exact(exprP_eats f h2).trans (mustT_eats h3)
theorem stmtP_eats {e:Int} {f:Nat} {Bl:Pars} (hB:EatsP Bl):EatsP (stmtP e f Bl):=by
 intro r ns i r1 ns1 h
 unfold stmtP at h
 split at h
 ·rename_i hk
  split at h
  ·cases h
  rename_i h2
  split at h
  ·cases h
  rename_i h3
  exact(((Eats.of_tk hk).trans (mustK_eats h2)).trans (mustT_eats h3)).trans (valueP_eats h)
 split at h
 ·rename_i hk
  split at h
  ·cases h
  rename_i h2
  split at h
  ·cases h
  rename_i h3
  have h4:=((Eats.of_tk hk).trans (exprP_eats f h2)).trans (hB h3)
  split at h
  ·rename_i hk2
   split at h
   ·cases h
   rename_i h5
   obtain⟨rfl,_⟩:=addN_ok h
   exact(h4.trans (.of_tk hk2)).trans (hB h5)
  ·obtain⟨rfl,_⟩:=addN_ok h
   exact h4
 split at h
 ·rename_i hk
  split at h
  ·cases h
  rename_i h2
  split at h
  ·cases h
  rename_i h3
  obtain⟨rfl,_⟩:=addN_ok h
  exact((Eats.of_tk hk).trans (exprP_eats f h2)).trans (hB h3)
 split at h
 ·rename_i hk
  exact(Eats.of_tk hk).trans (valueP_eats h)
 split at h
 ·rename_i hk
  cases r with
  |nil=>cases hk
  |cons t r=>
   simp only[assigns,Bool.and_eq_true] at hk
   exact((Eats.of_tail (r:=t::r) (by simp)).trans (.of_tk hk.2)).trans (valueP_eats h)
 ·exact valueP_eats h
theorem stmtsF_eats {e:Int} {S:Pars} (hS:EatsP S):∀(g:Nat) {l:List Int} {r:List Tok} {ns:List Nd} {i:Int} {r1:List Tok} {ns1:List Nd},stmtsF e S g l r ns= .ok (i,r1,ns1)→Eats r r1
 |0,l,r,ns,i,r1,ns1,h=>by cases h
 |g+1,l,r,ns,i,r1,ns1,h=>by
  simp only[stmtsF] at h
  split at h
  ·rename_i hk
   obtain⟨rfl,_⟩:=addN_ok h
   exact .of_tk hk
  ·split at h
   ·cases h
   ·rename_i h2
    exact(hS h2).trans (stmtsF_eats hS g h)
theorem blockP_eats {e:Int}:∀f,EatsP (blockP e f)
 |0=>fun h=>by cases h
 |f+1=>fun h=>by
  simp only[blockP] at h
  split at h
  ·cases h
  ·rename_i h2
   exact(mustT_eats h2).trans (stmtsF_eats (stmtP_eats (blockP_eats f)) _ h)
theorem parF_eats {e:Int}:∀(f:Nat) {l:List Bs} {r:List Tok} {l1:List Bs} {r1:List Tok},parF e f l r= .ok (l1,r1)→Eats r r1
 |0,l,r,l1,r1,h=>by cases h
 |f+1,l,r,l1,r1,h=>by
  simp only[parF] at h
  split at h
  ·cases h
  ·rename_i h2
   split at h
   ·rename_i hk
    cases h
    exact(mustK_eats h2).trans (.of_tk hk)
   ·split at h
    ·rename_i hk
     exact((mustK_eats h2).trans (.of_tk hk)).trans (parF_eats f h)
    ·cases h
theorem parP_eats {e:Int} {r:List Tok} {l1:List Bs} {r1:List Tok} (h:parP e r= .ok (l1,r1)):Eats r r1:=by
 unfold parP at h
 split at h
 ·rename_i hk;cases h;exact .of_tk hk
 ·exact parF_eats _ h
theorem funcP_eats {e:Int} {f:Nat} {r:List Tok} {ns:List Nd} {x:Fc} {r1:List Tok} {ns1:List Nd} (h:funcP e f r ns= .ok (x,r1,ns1)):Eats r r1:=by
 unfold funcP at h
 split at h
 ·cases h
 rename_i h1
 split at h
 ·cases h
 rename_i h2
 split at h
 ·cases h
 rename_i h3
 split at h
 ·cases h
 rename_i h4
 split at h
 ·cases h
 rename_i h5
 cases h
 exact((((mustT_eats h1).trans (mustK_eats h2)).trans (mustT_eats h3)).trans (parP_eats h4)).trans (blockP_eats f h5)
end Go.Proofs.YtjmabkpcahmnpaaGreatDoor
