/- Texts joined by pack.py: XSxY -/
import Derived.Test.YtglndfgmlminpaaGreatDoorSx12
set_option maxHeartbeats 1000000
namespace Go.Proofs.YtglndfgmlminpaaGreatDoor
open Go.RowKit
section
variable {P:Program} {T:Tab} {B:Fr} {w0:World} {N:Names} {S:Sets} {t t':List V} {m m':List (Option Bk)} {a:Act} {w w':World} {ρ:List Nat} {st:Bool}
theorem co1_rel {N1 N':Names} {S1 S':Sets} {g:Bool} (hN:∀(i n:Nat) (v:Value),ρ[i]?=some n→N1 i=some (0,v)→N' n=some (verOf st m n,v)) (hS:∀f b,S1 f b→S' (f||g) b)
  (hbox:∀(i n:Nat) (q:Addr),ρ[i]?=some n→N1 i=some (0,.pointer (some q))→verOf st m n=0) (hz:∀i x v,N1 i=some (x,v)→x=0) {v:V} {u:Value} (h:RelV N1 S1 w v u):RelV N' S' w (v.co1 st ρ m g) u:=by
 cases h<;>simp only[V.co1]<;>try exact .un _
 ·exact .cv _
 ·exact .cv _
 ·rename_i f sz xs h
  exact .sl _ _ _ _ (h.mono (hS f) fun _ _=>rfl)
 ·rename_i f cells o b off hSb u hc
  exact .el _ _ _ _ _ (hS _ _ hSb) u fun j d hj=>⟨(hc j d hj).1,(hc j d hj).2.mono (hS f) fun _ _=>rfl⟩
 ·rename_i n o b hn
  split
  ·rename_i i hi
   have:=hN _ _ _ hi hn
   rw[hbox _ _ _ hi hn] at this
   exact .bx _ _ _ this
  ·exact .un _
 ·rename_i n k hu hn
  obtain⟨k',v,hn,hk,he⟩:=hn
  have h0:=hz _ _ _ hn
  subst h0
  split
  ·rename_i i _ hi
   exact .ow _ _ _ hu ⟨_,_,hN _ _ _ hi hn,Nat.le_refl _,fun _=>he rfl⟩
  ·exact .un _
theorem co2_rel {N1 N':Names} {S1 S':Sets} {g:Bool} (hN:∀(i n:Nat) (v:Value),ρ[i]?=some n→N1 i=some (0,v)→N' n=some (verOf st m n,v)) (hS:∀f b,S1 f b→S' (f||g) b)
  (hbox:∀(i n:Nat) (q:Addr),ρ[i]?=some n→N1 i=some (0,.pointer (some q))→verOf st m n=0) (hz:∀i x v,N1 i=some (x,v)→x=0) {v:V} {u:Value} (h:RelV N1 S1 w v u):RelV N' S' w (v.co2 st ρ m g) u:=by
 have list:∀{cs:List V} {i:Nat} {v:V} {us:Array Value},(∀i v,cs[i]?=some v→RelV N1 S1 w v (us.getD i undef))→(cs.map (V.co1 st ρ m g))[i]?=some v→RelV N' S' w v (us.getD i undef):=by
  intro cs i v us h hv
  rw[List.getElem?_map,Option.map_eq_some_iff] at hv
  obtain⟨v',hv',rfl⟩:=hv
  exact co1_rel hN hS hbox hz (h i v' hv')
 unfold V.co2
 split
 ·cases h with
  |ag _ us hl h=>exact .ag _ us (by simpa using hl) fun i v hv=>list h hv
 ·cases h with
  |fn _ _ _ us vs hn hl h=>exact .fn _ _ _ us vs hn (by simpa using hl) fun i v hv=>list h hv
 ·exact co1_rel hN hS hbox hz h
theorem co3_rel {N1 N':Names} {S1 S':Sets} {g:Bool} (hN:∀(i n:Nat) (v:Value),ρ[i]?=some n→N1 i=some (0,v)→N' n=some (verOf st m n,v)) (hS:∀f b,S1 f b→S' (f||g) b)
  (hbox:∀(i n:Nat) (q:Addr),ρ[i]?=some n→N1 i=some (0,.pointer (some q))→verOf st m n=0) (hz:∀i x v,N1 i=some (x,v)→x=0) {v:V} {u:Value} (h:RelV N1 S1 w v u):RelV N' S' w (v.co3 st ρ m g) u:=by
 unfold V.co3
 split
 ·cases h with
  |tu _ us hl h=>
   refine .tu _ us (by simpa using hl) fun i v hv=>?_
   rw[List.getElem?_map,Option.map_eq_some_iff] at hv
   obtain⟨v',hv',rfl⟩:=hv
   exact co2_rel hN hS hbox hz (h i v' hv')
 ·exact co2_rel hN hS hbox hz h
theorem op_mcall {o:Oper} {E:Operand→V} {c:Call} {f:FuncId} {pre post av:List V} {m m1:List (Option Bk)} {ρ φ:List Nat} {gf:Bool} {m0 m2:List Bk} {args0:List V} {res:V} (ho:o.op= .call c) (hc:calleeV E c=some (f,pre,post))
  {ln:Bool} (hz:frzB ln m (pre++zA T E c.args.toList c.argTypes.toList++post)=some (av,m1)) (hg:(av.all V.fl&&flM m1 ρ)=gf) (hab:abM ρ m1 ρ=some m0) (ha0:av.map (V.ab ρ m1)=args0) (hM:MCallsG st P f args0 m0 res m2)
  (hchk:(distinctB (ρ++φ)&&(freeB m1 φ&&(kindB m1 ρ m2&&Nat.beq (ρ.length+φ.length) m2.length)))=true):
  OpTr P o E m (res.co3 st (ρ++φ) m1 gf) (putM (fun n b=>b.co st (ρ++φ) m1 gf n) (ρ++φ) m2 m1):=by
 subst ha0
 intro B w0 N0 S0 t a w hs0 hx
 simp only[Bool.and_eq_true] at hchk
 obtain⟨hdist,hfree,hkind,hlen⟩:=hchk
 have hlen:=Nat.eq_of_beq_eq_true hlen
 obtain⟨us,hus,hcall⟩:=run_call (T:=T) ho hc hx hM.1
 obtain⟨N,S,hs,hav,_⟩:=frzB_sound hs0 hus hz
 have hρ:=abM_mem hab
 have hφ:=freeB_spec hfree
 have hfl:gf=true→av.all V.fl=true∧flM m1 ρ=true:=fun e=>by rw[e] at hg;simpa using hg
 have hdρ:distinctB ρ=true:=by
  have:∀(l l':List Nat),distinctB (l++l')=true→distinctB l=true:=by
   intro l
   induction l with
   |nil=>intro l' _;rfl
   |cons n l ih=>
    intro l' h
    simp only[List.cons_append,distinctB] at h⊢
    split at h
    ·cases h
    ·rename_i hh
     have h1:has l n=false:=by
      cases hb:has l n with
      |false=>rfl
      |true=>
       have hmem:∀(l:List Nat),has l n=true→has (l++l') n=true:=by
        intro l
        induction l with
        |nil=>intro h;cases h
        |cons x l ih=>
         intro h
         simp only[List.cons_append,has] at h⊢
         split
         ·rfl
         ·rename_i hx;rw[hx] at h;exact ih h
       rw[hmem l hb] at hh;cases hh
     rw[h1];exact ih l' h
  exact this ρ φ hdist
 have hmem:=abM_ok hs hdρ (gf:=gf) (fun e=>(hfl e).2) hab
 have hargs:RelL (NamesOf (valsOf N ρ)) (oldS (S gf)) w (av.map (V.ab ρ m1)) us:=⟨by simpa using hav.1,fun i v hv=>by
  rw[List.getElem?_map,Option.map_eq_some_iff] at hv
  obtain⟨v',hv',rfl⟩:=hv
  exact ab_rel hs (fun e=>List.all_eq_true.1 (hfl e).1 v' (List.mem_of_getElem? hv')) (hav.2 i v' hv')⟩
 refine hcall _ ((hM.2 w us (valsOf N ρ) (S gf) hmem hargs).mono ?_)
 rintro e w' ⟨v,ns',rfl,hok,hres,hlow,hnl,hptr,hnew,hst,hstay⟩
 refine⟨v,rfl,?_⟩
 have hlm:(ρ++φ).length=m2.length:=by simpa using hlen
 have hlt:∀n∈ρ++φ,n<m1.length:=fun n hn=>by
  rcases List.mem_append.1 hn with h|h
  ·obtain⟨b,hb⟩:=hρ n h;exact lt_of_get hb
  ·exact lt_of_get (hφ n h)
 obtain⟨hput1,hput2⟩:=putM_get (F:=fun n b=>b.co st (ρ++φ) m1 gf n) (l:=ρ++φ) (bs:=m2) (m:=m1) hdist hlt hlm
 have hφn:∀n∈φ,N n=none:=fun n hn=>hs.non n fun b hb=>by rw[hφ n hn] at hb;cases hb
 let N':Names:=fun n=>match idx (ρ++φ) n 0 with
  |some i=>(ns'[i]?).map fun v=>(verOf st m1 n,v)
  |none=>N n
 let S':Sets:=fun f g=>S f g∨(w.heap.size≤g∧g<w'.heap.size∧¬blks ns' g)
 have hN'in:∀{i n:Nat},(ρ++φ)[i]?=some n→N' n=(ns'[i]?).map fun v=>(verOf st m1 n,v):=by
  intro i n h
  have:=idx_of hdist 0 h
  simp only[Nat.zero_add] at this
  simp only[N',this]
 have hN'out:∀{n:Nat},n∉ρ++φ→N' n=N n:=by
  intro n h
  simp only[N']
  split
  ·rename_i i hi
   exact absurd (List.mem_of_getElem? (idx_spec hi).2) h
  ·rfl
 have hpos:∀{n:Nat},n∈ρ++φ→∃i:Nat,(ρ++φ)[i]?=some n:=fun h=>by
  obtain⟨i,hi,rfl⟩:=List.getElem_of_mem h
  exact⟨i,List.getElem?_eq_getElem hi⟩
 have hρi:∀{i n:Nat} {x:Nat} {v:Value},(ρ++φ)[i]?=some n→N n=some (x,v)→ρ[i]?=some n∧(valsOf N ρ)[i]?=some v:=by
  intro i n x v h hn
  rw[List.getElem?_append] at h
  split at h
  ·exact⟨h,valsOf_get h hn⟩
  ·have:=hφn n (List.mem_of_getElem? h)
   rw[this] at hn;cases hn
 have hkeep:∀g,g<w.heap.size→¬blks (valsOf N ρ) g→w'.heap[g]?=w.heap[g]?:=fun g h1 h2=>hlow.block g ⟨h1,h2⟩
 have hnb:∀f g,S f g→¬blks (valsOf N ρ) g:=fun f g hg hb=>by
  obtain⟨n,_,x,v,h1,h2⟩:=blks_valsOf hρ hs hb
  exact(hs.data f g hg).2 n x v h1 h2
 have hw:∀f g,S f g→w'.heap[g]?=w.heap[g]?:=fun f g hg=>hkeep g (hs.data f g hg).1 (hnb f g hg)
 have hver:∀{n k E sz:Nat} {f:Bool} {xs:List (List D)},m1[n]?=some (some (.row k E sz f xs))→verOf st m1 n=cond st k (k+1):=fun h=>by unfold verOf;rw[h];cases st<;>rfl
 have hverb:∀{n:Nat} {cs:List V} {bt:Option Nat},m1[n]?=some (some (.box cs bt))→verOf st m1 n=0:=fun h=>by simp[verOf,h]
 have hNN:NLe N N':=by
  intro n k v0 h0
  by_cases hn:n∈ρ++φ
  ·obtain⟨i,hi⟩:=hpos hn
   obtain⟨hi',hv0⟩:=hρi hi h0
   obtain⟨b,hb⟩:=hs.def_ h0
   have hH:=hs.blk n b hb
   cases b with
   |fz k E xs=>exact(kindB_fz hkind i n k E xs hi' hb).elim
   |box cs=>
    obtain⟨g,ty,us',e1,_⟩:=hH
    rw[h0] at e1;cases e1
    refine .inl ?_
    rw[hN'in hi,hptr i _ hv0,hverb hb];rfl
   |row k2 E sz f xs=>
    obtain⟨v2,us',e1,e2,_⟩:=hH
    rw[h0] at e1;cases e1
    obtain⟨A,c',hsl⟩:=own_parts e2
    have hlt':=lt_of_get hv0
    obtain⟨v3,hv3⟩:∃v3,ns'[i]?=some v3:=⟨_,List.getElem?_eq_getElem (by omega)⟩
    have h9:=hver hb
    cases st with
    |true=>exact .inl (by rw[hN'in hi,hst rfl i _ hv0,h9];rfl)
    |false=>exact .inr ⟨⟨_,_,_,hsl⟩,k+1,v3,by rw[hN'in hi,hv3,h9];rfl,by omega⟩
  ·exact .inl ((hN'out hn).trans h0)
 have hSS:∀f g,S f g→S' f g:=fun f g h=> .inl h
 have hSg:∀f g,newS (S gf) w w' ns' f g→S' (f||gf) g:=by
  intro f g ⟨h1,h2,h3⟩
  rcases h3 with h3|⟨rfl,h3⟩
  ·exact .inr ⟨h3,h1,h2⟩
  ·exact .inl (by simpa using h3)
 have hco:∀(i n:Nat) (v:Value),(ρ++φ)[i]?=some n→NamesOf ns' i=some (0,v)→N' n=some (verOf st m1 n,v):=by
  intro i n v hi hv
  simp only[NamesOf,Option.map_eq_some_iff] at hv
  obtain⟨v',hv',he⟩:=hv
  cases he
  rw[hN'in hi,hv'];rfl
 have hz0:∀i x v,NamesOf ns' i=some (x,v)→x=0:=by
  intro i x v hv
  simp only[NamesOf,Option.map_eq_some_iff] at hv
  obtain⟨v',_,he⟩:=hv
  cases he;rfl
 have hns:∀{i:Nat} {v:Value},ns'[i]?=some v→NamesOf ns' i=some (0,v):=fun h=>by simp[NamesOf,h]
 have hbox:∀(i n:Nat) (q:Addr),(ρ++φ)[i]?=some n→NamesOf ns' i=some (0,.pointer (some q))→verOf st m1 n=0:=by
  intro i n q hi hv
  simp only[NamesOf,Option.map_eq_some_iff] at hv
  obtain⟨v',hv',he⟩:=hv
  cases he
  rw[List.getElem?_append] at hi
  split at hi
  ·obtain⟨b,hb⟩:=hρ n (List.mem_of_getElem? hi)
   cases b with
   |fz k E xs=>exact(kindB_fz hkind i n k E xs hi hb).elim
   |box cs=>exact hverb hb
   |row k E sz f xs=>
    have hlt':=lt_of_get hv'
    obtain⟨b2,hb2⟩:∃b2,m2[i]?=some b2:=⟨_,List.getElem?_eq_getElem (by rw[←hok.len];exact hlt')⟩
    have hH:=hok.blk i b2 hb2
    cases b2 with
    |fz k2 E2 xs2=>
     obtain⟨g3,cap3,us3,fr3,e1,_⟩:=hH
     rw[hns hv'] at e1;cases e1
    |box cs=>exact(kindB_spec hkind i n k E sz f xs cs _ hi hb hb2).elim
    |row k2 E2 sz2 f2 xs2=>
     obtain⟨v3,us3,e1,e2,_⟩:=hH
     rw[hns hv'] at e1;cases e1
     obtain⟨A,c',hsl⟩:=own_parts e2
     cases hsl
  ·have:=hφ n (List.mem_of_getElem? hi)
   simp[verOf,this]
 have hblk':∀{n x:Nat} {v:Value} {g:Nat},n∈ρ++φ→N' n=some (x,v)→atOf v=some g→blks ns' g:=by
  intro n x v g hn h1 h2
  obtain⟨i,hi⟩:=hpos hn
  rw[hN'in hi,Option.map_eq_some_iff] at h1
  obtain⟨v',hv',he⟩:=h1
  cases he
  exact⟨v,List.mem_of_getElem? hv',h2⟩
 have hother:∀{n x:Nat} {v:Value} {g:Nat},n∉ρ++φ→N n=some (x,v)→atOf v=some g→g<w.heap.size∧¬blks (valsOf N ρ) g∧¬blks ns' g:=by
  intro n x v g hn h1 h2
  have h3:=(hs.own n x v g h1 h2).2
  have h4:¬blks (valsOf N ρ) g:=fun hb=>by
   obtain⟨n',hn',x',v',h5,h6⟩:=blks_valsOf hρ hs hb
   have:=hs.apart n n' _ _ _ _ g h1 h5 h2 h6
   subst this;exact hn (List.mem_append_left _ hn')
  refine⟨h3,h4,fun hb=>?_⟩
  rcases hnew g hb with h|h
  ·exact h4 h
  ·omega
 have hrow0:gf=true→∀{i n:Nat} {k E sz:Nat} {f:Bool} {xs:List (List D)} {v:Value},ρ[i]?=some n→m1[n]?=some (some (.row k E sz f xs))→f=true:=by
  intro e i n k E sz f xs v hi hm
  have:=List.all_eq_true.1 (hfl e).2 n (List.mem_of_getElem? hi)
  simpa[hm,Bk.fl] using this
 have hrowB:gf=true→∀{i:Nat} {A:Option Addr} {l c':Nat} {g:Nat},ns'[i]?=some (.slice A l c')→atOf (.slice A l c')=some g→w0.heap.size≤g:=by
  intro e i A l c' g hv hg'
  rcases hnew g ⟨_,List.mem_of_getElem? hv,hg'⟩ with hb|hb
  ·obtain⟨u,hu,hug⟩:=hb
   obtain⟨j,hj,rfl⟩:=List.getElem_of_mem hu
   obtain⟨n,x,h1,h2⟩:=vals_named hs hρ (List.getElem?_eq_getElem hj)
   obtain⟨b,hb⟩:=hρ n (List.mem_of_getElem? h1)
   have hH:=hs.blk n b hb
   cases b with
   |fz k E xs=>exact(kindB_fz hkind j n k E xs h1 hb).elim
   |box cs=>
    obtain⟨g0,ty,us',e1,_⟩:=hH
    rw[h2] at e1
    have e3:(valsOf N ρ)[j]= .pointer (some ⟨g0,0,none⟩):=by simpa using congrArg (fun o:Option (Nat×Value)=>o.map (·.2)) e1
    have h4:=hptr j ⟨g0,0,none⟩ (by rw[List.getElem?_eq_getElem hj,e3])
    rw[e3] at hug
    have:=hok.apart i j _ _ g hv h4 hg' hug
    subst this
    rw[hv] at h4;cases h4
   |row k E sz f xs=>
    have hf:=hrow0 e (v:=default) h1 hb
    subst hf
    exact row_new hs hb h2 g hug
  ·exact Nat.le_trans hs.size hb
 refine⟨N',S',⟨?_,hs.nodef,hs.tmps.mono hNN hSS hw,?_,?_,?_,?_,?_,?_,?_,?_,?_,hs.more.mono hlow.size (fun _ _ h=>h.mono hNN hSS hw) hs.base fun f g h=>h.imp id fun h=> .inl h.1,fun n og hn=>?_⟩,co3_rel hco hSg hbox hz0 hres⟩
 rotate_right
 ·obtain⟨c1,x,v1,c2,c3⟩:=hs.stay n og hn
  refine⟨c1,?_⟩
  by_cases hin:n∈ρ++φ
  ·have hinρ:n∈ρ:=by
    rcases List.mem_append.1 hin with h|h
    ·exact h
    ·rw[hφn n h] at c2;cases c2
   obtain⟨j,hj⟩:=List.getElem?_of_mem hinρ
   have hjl:=lt_of_get hj
   have hv1:(valsOf N ρ)[j]?=some v1:=valsOf_get hj c2
   have hjl':j<ns'.length:=Nat.lt_of_lt_of_le (lt_of_get hv1) hnl
   have hj2:(ρ++φ)[j]?=some n:=by rw[List.getElem?_append_left hjl];exact hj
   refine⟨verOf st m1 n,ns'[j],by rw[hN'in hj2,List.getElem?_eq_getElem hjl'];rfl,fun g hg=>?_⟩
   rcases hstay j v1 _ g hv1 (List.getElem?_eq_getElem hjl') hg with h|h
   ·exact c3 g h
   ·exact .inr (Nat.le_trans hs.size h)
  ·exact⟨x,v1,(hN'out hin).trans c2,c3⟩
 ·refine hs.low.trans (hlow.mono fun g hg=>⟨hs.base g hg,fun hb=>?_⟩)
  obtain⟨n,_,x,v,h1,h2⟩:=blks_valsOf hρ hs hb
  exact(hs.own n x v g h1 h2).1 hg
 ·intro j b hj
  by_cases hn:j∈ρ++φ
  ·obtain⟨i,hi⟩:=hpos hn
   obtain⟨b2,hb2⟩:∃b2,m2[i]?=some b2:=⟨_,List.getElem?_eq_getElem (by have:=lt_of_get hi;omega)⟩
   rw[hput1 i j b2 hi hb2] at hj
   cases hj
   have hH:=hok.blk i b2 hb2
   cases b2 with
   |fz k E xs=>
    obtain⟨g,cap,us',fr,e1,e2⟩:=hH
    have h0:=hz0 _ _ _ e1
    subst h0
    exact⟨g,cap,us',fr,hco i j _ hi e1,e2⟩
   |box cs=>
    obtain⟨g,ty,us',e1,e2,e3,e4⟩:=hH
    refine⟨g,ty,us',?_,e2,by simpa using e3,fun q v hv=>?_⟩
    ·rw[hco i j _ hi e1,hbox i j _ hi e1]
    ·rw[List.getElem?_map,Option.map_eq_some_iff] at hv
     obtain⟨v',hv',rfl⟩:=hv
     exact co2_rel hco hSg hbox hz0 (e4 q v' hv')
   |row k E sz f xs=>
    obtain⟨v3,us',e1,e2,e3,e4,e5,e6⟩:=hH
    have h0:=hz0 _ _ _ e1
    subst h0
    refine⟨v3,us',hco i j _ hi e1,e2,e3,e4,fun p q d hd=>?_,fun hfg g hg'=>?_⟩
    ·obtain⟨u,hu,hr⟩:=e5 p q d hd
     exact⟨u,hu,hr.mono (hSg f) fun _ _=>rfl⟩
    ·simp only[Bool.or_eq_true] at hfg
     rcases hfg with rfl|rfl
     ·exact Nat.le_trans hs.size (e6 rfl g hg')
     ·obtain⟨A,c',hsl⟩:=own_parts e2
      subst hsl
      have hv3:ns'[i]?=some (.slice A xs.length c'):=by
       simp only[NamesOf,Option.map_eq_some_iff] at e1
       obtain⟨v',hv',he⟩:=e1
       cases he;exact hv'
      exact hrowB rfl hv3 hg'
  ·rw[hput2 j hn] at hj
   refine(hs.blk j b hj).mono (hN'out hn) hNN hSS hw fun x v g h1 h2=>?_
   obtain⟨h3,h4,_⟩:=hother hn h1 h2
   exact hkeep g h3 h4
 ·intro j hj
  by_cases hn:j∈ρ++φ
  ·obtain⟨i,hi⟩:=hpos hn
   obtain⟨b2,hb2⟩:∃b2,m2[i]?=some b2:=⟨_,List.getElem?_eq_getElem (by have:=lt_of_get hi;omega)⟩
   exact absurd (hput1 i j b2 hi hb2) (hj _)
  ·rw[hN'out hn]
   exact hs.non j fun b hb=>hj b (by rw[hput2 j hn];exact hb)
 ·intro j k x y u v g h1 h2 h3 h4
  by_cases hj:j∈ρ++φ<;>by_cases hk:k∈ρ++φ
  ·obtain⟨i,hi⟩:=hpos hj
   obtain⟨i',hi'⟩:=hpos hk
   rw[hN'in hi,Option.map_eq_some_iff] at h1
   rw[hN'in hi',Option.map_eq_some_iff] at h2
   obtain⟨u',hu',he⟩:=h1
   obtain⟨v',hv',he'⟩:=h2
   cases he;cases he'
   have:=hok.apart i i' _ _ g hu' hv' h3 h4
   subst this
   rw[hi] at hi';cases hi';rfl
  ·rw[hN'out hk] at h2
   exact absurd (hblk' hj h1 h3) (hother hk h2 h4).2.2
  ·rw[hN'out hj] at h1
   exact absurd (hblk' hk h2 h4) (hother hj h1 h3).2.2
  ·rw[hN'out hj] at h1;rw[hN'out hk] at h2
   exact hs.apart j k x y u v g h1 h2 h3 h4
 ·intro f g hg
  rcases hg with hg|⟨hg1,hg2,hg3⟩
  ·refine⟨Nat.lt_of_lt_of_le (hs.data f g hg).1 hlow.size,fun k x v h1 h2=>?_⟩
   by_cases hk:k∈ρ++φ
   ·rcases hnew g (hblk' hk h1 h2) with h|h
    ·exact hnb f g hg h
    ·have:=(hs.data f g hg).1;omega
   ·rw[hN'out hk] at h1
    exact(hs.data f g hg).2 k x v h1 h2
  ·refine⟨hg2,fun k x v h1 h2=>?_⟩
   by_cases hk:k∈ρ++φ
   ·exact hg3 (hblk' hk h1 h2)
   ·rw[hN'out hk] at h1
    have:=(hs.own k x v g h1 h2).2;omega
 ·intro g hg
  rcases hg with hg|hg
  ·exact⟨.inl (hs.fresh g hg).1,(hs.fresh g hg).2⟩
  ·exact⟨.inr hg,Nat.le_trans hs.size hg.1⟩
 ·intro k x v g h1 h2
  by_cases hk:k∈ρ++φ
  ·have hb:=hblk' hk h1 h2
   refine⟨fun hkp=>?_,hok.lt g hb⟩
   rcases hnew g hb with h|h
   ·obtain⟨n,_,x',v',h3,h4⟩:=blks_valsOf hρ hs h
    exact(hs.own n x' v' g h3 h4).1 hkp
   ·have:=hs.base g hkp;omega
  ·rw[hN'out hk] at h1
   exact⟨(hs.own k x v g h1 h2).1,Nat.lt_of_lt_of_le (hs.own k x v g h1 h2).2 hlow.size⟩
 ·exact fun g hg=>Nat.lt_of_lt_of_le (hs.base g hg) hlow.size
 ·intro g hg
  rcases hg with hg|hg
  ·exact hs.old g hg
  ·exact .inl (Nat.le_trans hs.size hg.1)
 ·intro n g hn
  obtain⟨h1,h2,h3⟩:=hs.lent n g hn
  refine⟨h1,h2,?_⟩
  rcases hNN _ _ _ h3 with h|⟨⟨A,l,c',h⟩,_⟩
  ·exact h
  ·cases h
theorem mcall {o:Oper} {E:Operand→V} {c:Call} {f:FuncId} {pre post av:List V} {m m1:List (Option Bk)} {ρ φ:List Nat} {gf:Bool} {m0 m2:List Bk} {args0:List V} {res:V} {K:V→List (Option Bk)→Prop} (hM:MCallsG st P f args0 m0 res m2)
  (hK:(res.co3 st (ρ++φ) m1 gf).k fun v=>forceM (putM (fun n b=>b.co st (ρ++φ) m1 gf n) (ρ++φ) m2 m1) fun m'=>K v m')
  (ln:Bool:=false) (ho:o.op= .call c:=by exact rfl) (hc:calleeV E c=some (f,pre,post):=by exact rfl) (hz:frzB ln m (pre++zA T E c.args.toList c.argTypes.toList++post)=some (av,m1):=by exact rfl)
  (_hr:(reach m1 64 (av.flatMap V.nm3) []).reverse=ρ:=by exact rfl) (hg:(av.all V.fl&&flM m1 ρ)=gf:=by exact rfl) (hab:abM ρ m1 ρ=some m0:=by exact rfl) (ha0:av.map (V.ab ρ m1)=args0:=by exact rfl)
  (hchk:(distinctB (ρ++φ)&&(freeB m1 φ&&(kindB m1 ρ m2&&Nat.beq (ρ.length+φ.length) m2.length)))=true:=by exact rfl):
  ∃v m',OpTr P o E m v m'∧v.k fun v=>forceM m' fun m'=>K v m':=
 ⟨_,_,op_mcall (T:=T) ho hc hz hg hab ha0 hM hchk,hK⟩
end
end Go.Proofs.YtglndfgmlminpaaGreatDoor
