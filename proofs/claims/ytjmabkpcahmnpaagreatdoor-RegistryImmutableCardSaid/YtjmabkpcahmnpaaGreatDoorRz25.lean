/- Texts joined by pack.py: XRgL -/
import Derived.Test.YtjmabkpcahmnpaaGreatDoorRz23
import Derived.Test.YtjmabkpcahmnpaaGreatDoorRz24
set_option maxHeartbeats 8000000
set_option maxRecDepth 100000
namespace Go.Proofs.YtjmabkpcahmnpaaGreatDoor
open Go.RowKit
theorem beq_no {a b:Nat} (h:a≠b):Nat.beq a b=false:=by
 cases h':Nat.beq a b with
 |false=>rfl
 |true=>exact absurd (Nat.eq_of_beq_eq_true h') h
theorem enters_fn {P:Program} {f:FuncId} {fn:Func} (hf:P.funcs[f]?=some fn) (hn:(fn.name== "runtime.NumGoroutine")=false) (hb:fn.body.isNone=false) (args:Array Value) (w:World):(callFunc f args).run P w= .ok (.enter f args) w:=by
 have hn':¬fn.name= "runtime.NumGoroutine" :=by simpa using hn
 have hb':¬fn.body=none:=by intro e;rw[e] at hb;cases hb
 simp[callFunc,hf,hn',hb']
abbrev vrV (v:Vr):V:= .ag [bstr v.m.nm,int v.m.me,int v.m.st,.sl false 1 (v.m.ops.map strD),bstr v.m.src,int v.n,bstr v.dg,int v.at_,boo v.rt]
abbrev fBk:Nat:=38
theorem x_back (l:List Vr):MCallsG true Tryz.prog 27 [.ow 0 0] [vsR l] (.fn fBk 0 [.bx 1 0]) [vsR l,.box [.ow 0 0]]:=by
 refine msxx [] Tryz.func27 (by kernel_rfl) (by kernel_rfl) (by rfl) ?_
 conv=>whnf
 exact⟨⟨rfl,rfl,rfl⟩,rfl⟩
def latR (l:List Vr):Int×Int:=match l.reverse.find? (fun v=> !v.rt) with
 |some v=>(v.n,0)
 |none=>(0,5)
abbrev latM (F:Fns) (now:Int) (t:Bs) (l:List Vr) (b7:Option Bk) (r e:Int):List (Option Bk):=
 List.replicate 4 none++[some (.box [int r]),some (.box [int e]),none,b7]++List.replicate 8 none++[some (vsR l)]++List.replicate 10 none++[some (.box [.ow 28 0,int now]),some (.asr 0 (mapC (putE (vM F) (mk t) (.o 0))) [.ow 16 0])]++List.replicate 16 none++[some (.box [.ow 16 0])]++List.replicate 13 none
abbrev b7V (v:Vr):Option Bk:=some (.box [bstr v.m.nm,int v.m.me,int v.m.st,.sl false 1 (v.m.ops.map strD),bstr v.m.src,int v.n,bstr v.dg,int v.at_,boo v.rt])
abbrev latT:List V:=[.bx 27 0,.un,.un,.un,.bx 4 0,.bx 5 0]++List.replicate 11 .un++[.fn fBk 0 [.bx 45 0]]++List.replicate 9 .un
section
variable {B:Fr} {w0:World} {G:List (V×Value)} {A:Nat→Prop}
def BackHead (B:Fr) (w0:World) (G:List (V×Value)) (A:Nat→Prop) (fn:FuncId) (tm:Array Value) (p q:Tmp) (asg body:Code) (D lp:Nat) (l:List Vr) (mem:List (Option Bk)) (Ok:Nat→Prop) (k:Nat) (a:Act) (w:World):Prop:=
 Ok k∧k≤l.length∧
  ∃W1,Low B.keep B.ref W1∧(∃N S,Sat (outB B W1 G A []) w0 N S ([.cv (.func (.yield lp) #[] #[]),.bx 45 0,.un,int ((l.length:Int) - 1 - k)]++List.replicate 15 .un) mem a w)∧
  W1.heap[D]?=some (.deferred (some []))∧W1.heap[lp]?=some (.loop (lrec2 fn tm p q asg body D .ready none))
theorem back_in {n:Nat} (l:List Vr) (hl:l.length≤1000000) (F:Fns) (now:Int) (t:Bs)
  {fn:FuncId} {tm:Array Value} {p q:Tmp} {asg body:Code} {D lp:Nat} (hAD:A D) (hAl:A lp) (hne:D≠lp) (_hBD:¬B.keep D) (_hBl:¬B.keep lp) {Kr:List (Option Bk)→Prop} (Ok:Nat→Prop) (ok0:Ok 0)
  (hY:∀(G':List (V×Value)) (k:Nat) (h:l.length - 1 - k<l.length) (x:Value) (W:World),(∀q∈G,q∈G')→(∀q∈G',q∈G∨∀d,d≠45→q.1.noN d=true)→Ok k→k<l.length→(vrV (l[l.length - 1 - k]'h),x)∈G'→Mem B w0 G' A (latM F now t l none 0 0) W→
   W.heap[lp]?=some (.loop (lrec2 fn tm p q asg body D .ready none))→
   YieldAt (fen none) (n - 1) Tryz.prog lp #[.int .i64 ((l.length:Int) - 1 - k),x] W fun e w'=>∃m',Mem B w0 G' A m' w'∧(∀g,A g→g≠lp→w'.heap[g]?=W.heap[g]?)∧
   ((e= .returned (.bool true)∧(m'=(latM F now t l none 0 0)∧Ok (k+1))∧w'.heap[lp]?=some (.loop (lrec2 fn tm p q asg body D .ready none)))∨
    (e= .returned (.bool false)∧Kr m'∧w'.heap[lp]?=some (.loop (lrec2 fn tm p q asg body D .done (some .ret))))))
  {u1:Value} (g1:(V.bx 45 0,u1)∈G)
  {W:World} (hM:Mem B w0 G A (latM F now t l none 0 0) W) (hWD:W.heap[D]?=some (.deferred (some []))) (hWl:W.heap[lp]?=some (.loop (lrec2 fn tm p q asg body D .ready none))):
  CallsIn (fen none) n Tryz.prog fBk (#[.func (.yield lp) #[] #[]]++ #[u1]) W (IterPost2 B w0 G A fn tm p q asg body D lp (fun m'=>m'=(latM F now t l none 0 0)∧Ok l.length) Kr):=by
 have hll:(l.map vrD).length=l.length:=List.length_map _
 have hi:=hM.inv
 refine callsIn_of_wp_marks Tryz.func38 rfl trivial ?_ rfl
 have e0:((#[Value.func (.yield lp) #[] #[]]++ #[u1])++Array.replicate (Tryz.f38.ntmps - (#[Value.func (.yield lp) #[] #[]]++ #[u1]).size) undef).toList=[.func (.yield lp) #[] #[],u1]++List.replicate 17 undef:=by
  simp[Tryz.f38]
 generalize ha0:({tmps:=(#[Value.func (.yield lp) #[] #[]]++ #[u1])++Array.replicate (Tryz.f38.ntmps - (#[Value.func (.yield lp) #[] #[]]++ #[u1]).size) undef,defers:=[]}:Act)=a0
 have ea:a0.tmps.toList=[.func (.yield lp) #[] #[],u1]++List.replicate 17 undef:=by rw[←ha0];exact e0
 have ed:a0.defers=[]:=by rw[←ha0]
 obtain⟨N0,S0,hs0⟩:=hM.frame (t:=[.cv (.func (.yield lp) #[] #[]),.bx 45 0]++List.replicate 17 .un) (a:=a0) (fun N S hG=>by
  rw[ea]
  exact relV_cons (.cv _) (relV_cons (hG _ g1) (relL_un (by simp))))
 rw[ed] at hs0
 refine wpIn_seq (go_norm (t1:=[.cv (.func (.yield lp) #[] #[]),.bx 45 0,.un,int ((l.length:Int) - 1)]++List.replicate 15 .un) (m1:=(latM F now t l none 0 0)) tok mixed hs0 ?_ ?_)
 ·conv=>whnf
  rw[hll,wrap_in (by omega)]
  exact⟨rfl,by simp[fgt,List.replicate]⟩
 intro N S a w hs
 refine wpIn_block ?_
 refine wpIn_loop (fun a w=>∃k,BackHead B w0 G A fn tm p q asg body D lp l (latM F now t l none 0 0) Ok k a w) (fun a _=>cntI a 3) ?_ ?_
 ·refine⟨0,ok0,Nat.zero_le _,W,hM.low,⟨N,S,hs.forget ?_ fun _=>rfl⟩,hWD,hWl⟩
  simp[fgt,List.replicate]
 clear hs0 hs
 rintro a w ⟨k,hok,hk,W1,hlow,⟨N,S,hs⟩,hD1,hl1⟩
 have hcnt:cntI a 3=((l.length:Int) - 1 - k+1).toNat:=cntI_of hs rfl
 rw[hcnt]
 clear hcnt
 refine wpIn_seq (wpIn_seq (go_norm (t1:=[.cv (.func (.yield lp) #[] #[]),.bx 45 0,.un,int ((l.length:Int) - 1 - k),.un,.un,.un,.un,boo (decide (0≤(l.length:Int) - 1 - k))]++List.replicate 10 .un) (m1:=(latM F now t l none 0 0)) tok mixed hs ?_ ?_))
 ·conv=>whnf
  exact⟨rfl,by simp[fgt,List.replicate]⟩
 clear hs
 intro N S a w hs
 refine wpIn_cond_split (ev_of hs rfl) ?_ ?_
 rotate_left
 ·intro hlt
  simp at hlt
  have e:k=l.length:=by omega
  refine wpIn_exit ?_
  show LeavesInM _ _ _ _ _ _ _ _ _
  have hd:a.defers=[]:=hs.nodef
  rw[hd]
  exact⟨_,results_none rfl _ _ _,⟨_,rfl⟩,(latM F now t l none 0 0),Mem.back hlow hi hs hs.more.ghost,(hs.low.block D (.inr hAD)).trans hD1,.inl ⟨⟨rfl,by rw[←e];exact hok⟩,(hs.low.block lp (.inr hAl)).trans hl1⟩⟩
 intro hlt
 simp at hlt
 refine wpIn_skip ?_
 have hkl:k<l.length:=by omega
 have hj:l.length - 1 - k<l.length:=by omega
 have ej:(l.length:Int) - 1 - k=((l.length - 1 - k:Nat):Int):=by omega
 refine wpIn_seq (wpIn_block (wpIn_seq (wpIn_region_list ?_)))
 refine go_opsk 6 (t1:=[.cv (.func (.yield lp) #[] #[]),.bx 45 0,.un,int ((l.length:Int) - 1 - k)]++List.replicate 7 .un++[.cv (.func (.yield lp) #[] #[]),int ((l.length:Int) - 1 - k),.un,.un,.un,vrV l[l.length - 1 - k]]++List.replicate 2 .un) (m1:=(latM F now t l none 0 0)) tok hs ?_ ?_
 ·conv=>whnf
  refine⟨by omega,by rw[hll];omega,?_⟩
  conv=>whnf
  refine⟨_,get_mapi vrD ej hj,?_⟩
  conv=>whnf
  exact⟨rfl,by simp[fgt,List.replicate]⟩
 clear hs
 intro N S a w hs
 refine list_wanted rfl rfl ?_
 have hv:a.eval (.tmp 11)= .func (.yield lp) #[] #[]:=ev_of hs rfl
 have hx:a.eval (.tmp 12)= .int .i64 ((l.length:Int) - 1 - k):=ev_of hs rfl
 obtain⟨y,hy⟩:∃y,a.eval (.tmp 16)=y:=⟨_,rfl⟩
 have hyz:(vrV l[l.length - 1 - k],y)∈List.zip ([.cv (.func (.yield lp) #[] #[]),.bx 45 0,.un,int ((l.length:Int) - 1 - k)]++List.replicate 7 .un++[.cv (.func (.yield lp) #[] #[]),int ((l.length:Int) - 1 - k),.un,.un,.un,vrV l[l.length - 1 - k]]++List.replicate 2 .un) a.tmps.toList:=by
  have:=zip_mem (d:=16) hs.tmps.1 rfl
  rw[getD_toList] at this
  rw[←hy]
  exact this
 have hMk:Mem B w0 (G++List.zip ([.cv (.func (.yield lp) #[] #[]),.bx 45 0,.un,int ((l.length:Int) - 1 - k)]++List.replicate 7 .un++[.cv (.func (.yield lp) #[] #[]),int ((l.length:Int) - 1 - k),.un,.un,.un,vrV l[l.length - 1 - k]]++List.replicate 2 .un) a.tmps.toList) A (latM F now t l none 0 0) w:=Mem.back hlow hi hs fun q hq=>by
  rcases List.mem_append.1 hq with hq|hq
  ·exact hs.more.ghost q hq
  ·exact zip_of hs.tmps q hq
 refine yield_op2 rfl hv hx hy (hY _ k hj y w (fun q hq=>List.mem_append_left _ hq) ?_ hok hkl (List.mem_append_right _ hyz) hMk ((hs.low.block lp (.inr hAl)).trans hl1)) ?_
 ·intro q hq
  rcases List.mem_append.1 hq with hq|hq
  ·exact .inl hq
  ·refine .inr fun d h1=>?_
   have:=(List.of_mem_zip hq).1
   simp only[List.mem_append,List.mem_cons,List.mem_replicate,List.not_mem_nil,or_false] at this
   have e1:(Nat.beq 45 d)=false:=beq_no (Ne.symm h1)
   rcases this with(((h|h|h|h)|⟨_,h⟩)|h|h|h|h|h|h)|⟨_,h⟩<;>rw[h]<;>simp[V.noN,V.noN1,e1]
 rintro e w2 ⟨m',hM2,hA2,h⟩
 have hD2:w2.heap[D]?=some (.deferred (some [])):=(hA2 D hAD hne).trans ((hs.low.block D (.inr hAD)).trans hD1)
 have hda:a.defers=[]:=hs.nodef
 obtain⟨N2,S2,hs2⟩:=hM2.frame (a:=a) fun N S hG=>of_zip hs.tmps.1 fun q hq=>hG q (List.mem_append_right _ hq)
 rw[hda] at hs2
 have hs2:=hs2.fewer (G':=G) fun q hq=>List.mem_append_left _ hq
 have hlow2:=hM2.low
 clear hM2 hMk hs
 rcases h with⟨rfl,⟨rfl,hok2⟩,hl2⟩|⟨rfl,hkr,hl2⟩
 rotate_left
 ·refine⟨_,rfl,?_⟩
  have hs3:=hs2.put (v:= .kb false) (u:= .bool false) (.kb false) (some 17)
  refine go_opsn (t1:=List.replicate 18 .un++[boo true]) (m1:=m') tok hs3 ?_ ?_
  ·conv=>whnf
   exact⟨rfl,by simp[fgt,List.replicate]⟩
  intro N S a w hs
  refine wpIn_cond_true (ev_of hs rfl) (wpIn_ret ?_)
  show LeavesInM _ _ _ _ _ _ _ _ _
  have hd:a.defers=[]:=hs.nodef
  rw[hd]
  exact⟨_,results_none rfl _ _ _,⟨_,rfl⟩,m',Mem.back hlow2 hi hs hs.more.ghost,(hs.low.block D (.inr hAD)).trans hD2,.inr ⟨hkr,(hs.low.block lp (.inr hAl)).trans hl2⟩⟩
 refine⟨_,rfl,?_⟩
 have hs3:=hs2.put (v:= .kb true) (u:= .bool true) (.kb true) (some 17)
 refine go_opsn (t1:=[.cv (.func (.yield lp) #[] #[]),.bx 45 0,.un,int ((l.length:Int) - 1 - k)]++List.replicate 14 .un++[boo false]) (m1:=latM F now t l none 0 0) tok hs3 ?_ ?_
 ·conv=>whnf
  exact⟨rfl,by simp[fgt,List.replicate]⟩
 clear hs2 hs3
 intro N S a w hs
 refine wpIn_cond_false (ev_of hs rfl) (wpIn_skip ?_)
 refine go_norm (t1:=[.cv (.func (.yield lp) #[] #[]),.bx 45 0,.un,int ((l.length:Int) - 1 - (k+1:Nat))]++List.replicate 15 .un) (m1:=latM F now t l none 0 0) tok mixed hs ?_ ?_
 ·conv=>whnf
  rw[show IntKind.i64.wrap ((l.length:Int) - 1 - k - 1)=(l.length:Int) - 1 - (k+1:Nat) by rw[wrap_in (by omega)];omega]
  exact⟨rfl,by simp[fgt,List.replicate]⟩
 clear hs
 intro N S a w hs
 refine⟨⟨k+1,hok2,by omega,w2,hlow2,⟨N,S,hs⟩,hD2,hl2⟩,?_⟩
 rw[cntI_of hs rfl];omega
end
theorem latR_some (l:List Vr) (k:Nat) (h:k<l.length) (h1:∀j (hj:j<k),(l[l.length - 1 - j]'(by omega)).rt=true) (h2:(l[l.length - 1 - k]'(by omega)).rt=false):latR l=((l[l.length - 1 - k]'(by omega)).n,0):=by
 have e:l.reverse.find? (fun v=> !v.rt)=some (l[l.length - 1 - k]'(by omega)):=by
  rw[List.find?_eq_some_iff_getElem]
  refine⟨by simp[h2],k,by simpa using h,by rw[List.getElem_reverse],fun j hj=>?_⟩
  rw[List.getElem_reverse,h1 j hj];rfl
 unfold latR
 rw[e]
theorem latR_none (l:List Vr) (h1:∀j (hj:j<l.length),(l[l.length - 1 - j]'(by omega)).rt=true):latR l=(0,5):=by
 have e:l.reverse.find? (fun v=> !v.rt)=none:=by
  rw[List.find?_eq_none]
  intro v hv
  obtain⟨i,hi,rfl⟩:=List.getElem_of_mem (List.mem_reverse.1 hv)
  have:=h1 (l.length - 1 - i) (by omega)
  simp only[show l.length - 1 - (l.length - 1 - i)=i by omega] at this
  simp[this]
 unfold latR
 rw[e]
def ltM:List (Nat×Bool):=[(20,false),(27,false)]
theorem x_latest (F:Fns) (now:Int) (t:Bs) (l:List Vr) (hg:getB F t=some l) (hl:l.length≤1000000):
  MCalls Tryz.prog 17 [.bx 0 0,bstr t] (rgM F now) (.tu [int (latR l).1,int (latR l).2]) (rgM F now):=by
 have hsame:putB F t l=F:=putB_same hg
 refine⟨⟨_,Tryz.func17,by kernel_rfl,by kernel_rfl⟩,fun w vs ns So hmem hvs=>(callsIn_wide (n:=5)).1 ?_⟩
 refine callsIn_of_wp_marks (F:=fen none) Tryz.func17 rfl trivial ?_ rfl
 have hs:=sat_enterM hmem hvs Tryz.f17.ntmps (by show 2≤27;omega) (by show 2≤16;omega)
 obtain⟨b0,hb0⟩:∃b0,ns[0]?=some (.pointer (some ⟨b0,0,none⟩)):=by
  obtain⟨g,ty,us,h1,_⟩:=hmem.blk 0 _ rfl
  simp only[NamesOf,Option.map_eq_some_iff] at h1
  obtain⟨u,h2,h3⟩:=h1
  cases h3
  exact⟨g,h2⟩
 obtain⟨fs0,hb1⟩:∃fs,ns[1]?=some (.agg fs):=by
  obtain⟨fs,us,h1,_⟩:=hmem.blk 1 _ rfl
  simp only[NamesOf,Option.map_eq_some_iff] at h1
  obtain⟨u,h2,h3⟩:=h1
  cases h3
  exact⟨fs,h2⟩
 have hi:=hs.more.inv
 refine wpIn_seq (go_normM (t1:=[.bx 27 0,bstr t,.un,.un,.bx 4 0,.bx 5 0]++List.replicate 21 .un) (m1:=List.replicate 4 none++[some (.box [int 0]),some (.box [int 0])]++List.replicate 21 none++[some (.box [.ow 28 0,int now]),some (.asr 0 (mapC (vM F)) [])]++List.replicate 30 none) (tokM ltM) mixed hs ?_ ?_)
 ·conv=>whnf
  exact⟨rfl,by simp[fgt,List.replicate];exact⟨rfl,rfl⟩⟩
 clear hs
 intro N S a w1 hs
 refine wpIn_seq (wpIn_seq (go_normM (t1:=[.bx 27 0,bstr t,.un,.un,.bx 4 0,.bx 5 0,.un,.un,.un,.un,boo false]++List.replicate 16 .un) (m1:=List.replicate 4 none++[some (.box [int 0]),some (.box [int 0])]++List.replicate 21 none++[some (.box [.ow 28 0,int now]),some (.asr 0 (mapC (vM F)) [])]++List.replicate 30 none) (tokM ltM) mixed hs ?_ ?_))
 ·conv=>whnf
  refine mcallV (T:=TM ltM) (φ:=[]) (ρ:=[27,28]) (gf:=false) (x_rgmade F now) ?_ (ln:=true)
  conv=>whnf
  exact⟨rfl,by simp[fgt,List.replicate]⟩
 clear hs
 intro N S a w1 hs
 refine wpIn_cond_false (ev_of hs rfl) (wpIn_skip ?_)
 refine wpIn_seq (wpIn_seq (go_normM (t1:=latT) (m1:=latM F now t l none 0 0) (tokM ltM) mixed hs ?_ ?_))
 ·conv=>whnf
  refine at_tr (open_v (n:=28) (d:=16) rfl rfl rfl rfl rfl hg) ?_
  conv=>whnf
  refine mcallV (T:=TM ltM) (φ:=[45]) (ρ:=[16]) (gf:=false) (x_back l) ?_ (ln:=true)
  conv=>whnf
  exact⟨rfl,by simp[fgt,List.replicate]⟩
 clear hs
 intro N S a w2 hs
 refine wpIn_block ?_
 obtain⟨lb,hlb,hrl⟩:=fn_of hs (d:=17) rfl
 obtain⟨u1,rfl⟩:∃u1,lb= #[u1]:=by
  have:=hrl.1
  match h:lb.toList,this with
  |[a],_=>exact⟨a,by rw[←Array.toArray_toList (xs:=lb),h]⟩
 have hr0:RelV N S w2 (.bx 27 0) (.pointer (some ⟨b0,0,none⟩)):=by
  have:=(hs.lent 27 ⟨b0,0,none⟩ (by simp[frM,hb0])).2.2
  exact .bx _ _ _ this
 refine range_run2 (Kn:=fun m'=>m'=latM F now t l none 0 0∧∀j (hj:j<l.length),(l[l.length - 1 - j]'(by omega)).rt=true)
  (Kr:=fun m'=>∃b7,m'=latM F now t l b7 (latR l).1 (latR l).2) hs rfl (fun g h=>h) hlb (enters_fn Tryz.func38 (by kernel_rfl) (by kernel_rfl))
  (Gx:=[(.bx 45 0,u1),(.bx 27 0,.pointer (some ⟨b0,0,none⟩))]) (fun p hp=>by
   rcases List.mem_cons.1 hp with rfl|hp
   ·exact hrl.2 0 _ rfl
   ·rw[List.mem_singleton.1 hp];exact hr0) ?_ ?_
 ·rintro fn W A D lp hA hAD hAl hne hBD hBl hM hWD hWl
  refine back_in (Kr:=fun m'=>∃b7,m'=latM F now t l b7 (latR l).1 (latR l).2) l hl F now t hAD hAl hne hBD hBl (fun k=>∀j,j<k→∀(h:l.length - 1 - j<l.length),(l[l.length - 1 - j]'h).rt=true) (fun j hj=>by omega) ?_ (List.mem_append_right _ (by simp)) hM hWD hWl|>.mono ?_
  ·intro G' k h x W2 hG1 hG2 hok hk hx hM2 hl2
   have hGn:(G'.all fun p=>p.1.noN 7)=true:=by
    rw[List.all_eq_true]
    intro q hq
    rcases hG2 q hq with h|h
    ·rcases List.mem_append.1 h with h|h
     ·have:(latT.all (V.noN 7))=true:=rfl
      exact List.all_eq_true.1 this _ (List.of_mem_zip h).1
     ·rcases List.mem_cons.1 h with rfl|h
      ·rfl
      ·rw[List.mem_singleton.1 h];rfl
    ·exact h 7 (by decide)
   refine YieldAt.mono (round_run2 (n:=5 - 1 - 1) (tokM ltM) mixed (a:=a) (t:=latT) (vx:=int ((l.length:Int) - 1 - k)) (vy:=vrV (l[l.length - 1 - k]'h))
    (Kn:=fun m'=>(l[l.length - 1 - k]'h).rt=true∧m'=latM F now t l (b7V (l[l.length - 1 - k]'h)) 0 0) (Kr:=fun m'=>m'=latM F now t l (b7V (l[l.length - 1 - k]'h)) (latR l).1 (latR l).2)
    rfl rfl hAl hBl (fun q hq=>hG1 q (List.mem_append_left _ hq)) (.inr rfl) hx hs.tmps.1 hM2 hl2 ?_) ?_
   ·conv=>whnf
    rintro(_|_) h1
    ·have h1:(l[l.length - 1 - k]'h).rt=true:=by simpa using h1
     conv=>whnf
     exact⟨h1,rfl⟩
    ·have h1:(l[l.length - 1 - k]'h).rt=false:=by simpa using h1
     rw[latR_some l k hk (fun j hj=>hok j hj _) h1]
     conv=>whnf
     exact rfl
   ·rintro e w' ⟨m',hM4,hA4,h4⟩
    rcases h4 with⟨rfl,⟨hrt,rfl⟩,hl4⟩|⟨rfl,hkr,hl4⟩
    ·have hM5:=hM4.drop (n:=7) rfl hGn
     refine⟨_,hM5,hA4,.inl ⟨rfl,⟨rfl,fun j hj h=>?_⟩,hl4⟩⟩
     rcases Nat.lt_or_ge j k with hjk|hjk
     ·exact hok j hjk h
     ·obtain rfl:j=k:=by omega
      exact hrt
    ·exact⟨_,hM4,hA4,.inr ⟨rfl,⟨_,hkr⟩,hl4⟩⟩
  ·rintro e w' ⟨h1,m',h2,h3,h4⟩
   refine⟨h1,m',h2,h3,?_⟩
   rcases h4 with⟨⟨h4,h5⟩,h6⟩|h4
   ·exact .inl ⟨⟨h4,fun j hj=>h5 j hj (by omega)⟩,h6⟩
   ·exact .inr h4
 ·intro A D m' W hAD hBD hM hD
  have hda:a.defers=[]:=hs.nodef
  have hlow:=hM.low
  have hG:∀(k:Nat) (v:Value),ns[k]?=some v→(∃b,v= .pointer (some ⟨b,0,none⟩)∧((V.bx (27+k) 0,v):V×Value)∈latT.zip a.tmps.toList++[(.bx 45 0,u1),(.bx 27 0,.pointer (some ⟨b0,0,none⟩))])∨((∀p,v≠ .pointer p)∧k=1):=by
   intro k v hv
   match k,hv with
   |0,hv=>rw[hb0] at hv;cases hv;exact .inl ⟨b0,rfl,List.mem_append_right _ (by simp)⟩
   |1,hv=>rw[hb1] at hv;cases hv;exact .inr ⟨(fun p h=>by cases h),rfl⟩
   |k+2,hv=>
    have h1:=lt_of_get hv
    have h2:ns.length=2:=hmem.len
    omega
  constructor
  ·rintro⟨rfl,hk⟩
   have hc:latR l=(0,5):=latR_none l hk
   rw[hc]
   show Code.wpIn _ _ _ _ _ _ _
   obtain⟨N2,S2,hs2⟩:=hM.frame (t:=latT) (a:={a with defers:={target:= .collected D,args:= #[]}::a.defers}) fun N S hG=>of_zip hs.tmps.1 fun q hq=>hG q (List.mem_append_left _ hq)
   simp only[hda] at hs2⊢
   refine wpIn_seq (go_norm (t1:=[.bx 27 0,.un,.un,.un,.bx 4 0,.bx 5 0]++List.replicate 21 .un) (m1:=latM F now t l none 0 5) (tokM ltM) mixed hs2 ?_ ?_)
   ·conv=>whnf
    exact⟨rfl,by simp[fgt,List.replicate]⟩
   intro N3 S3 a3 w3 hs3
   refine wpIn_ret (endsM (sd:=fun vs=>vs.flatMap V.bn) (tokM ltM) hmem hAD hi hBD hlow hs3 hD rfl (by show 2≤16;omega) (fun k v hv=>(hG k v hv).imp id fun h=>⟨h.1,by rw[h.2];exact⟨_,_,_,rfl⟩⟩) ?_)
   conv=>whnf
   refine⟨_,GhM.gh (close_v (n:=28) (d:=16) (l':=l) hg rfl rfl),?_⟩
   rw[hsame]
   exact⟨rfl,rfl,rfl⟩
  ·rintro⟨b7,rfl⟩
   obtain⟨N2,S2,hs2⟩:=hM.frame (t:=latT) (a:={a with defers:={target:= .collected D,args:= #[]}::a.defers}) fun N S hG=>of_zip hs.tmps.1 fun q hq=>hG q (List.mem_append_left _ hq)
   simp only[hda] at hs2⊢
   refine endsM (sd:=fun vs=>vs.flatMap V.bn) (tokM ltM) hmem hAD hi hBD hlow hs2 hD rfl (by show 2≤16;omega) (fun k v hv=>(hG k v hv).imp id fun h=>⟨h.1,by rw[h.2];exact⟨_,_,_,rfl⟩⟩) ?_
   conv=>whnf
   refine⟨_,GhM.gh (close_v (n:=28) (d:=16) (l':=l) hg rfl rfl),?_⟩
   rw[hsame]
   exact⟨rfl,rfl,rfl⟩
end Go.Proofs.YtjmabkpcahmnpaaGreatDoor
