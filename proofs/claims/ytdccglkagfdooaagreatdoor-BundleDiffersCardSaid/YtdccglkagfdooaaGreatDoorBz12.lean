/- Texts joined by pack.py: XSxY XSxFy -/
import Derived.Test.YtdccglkagfdooaaGreatDoorBz11
set_option maxHeartbeats 1000000
namespace Go.Proofs.YtdccglkagfdooaaGreatDoor
open Go.RowKit
section
variable {P:Program} {T:Tab} {B:Fr} {w0:World} {N:Names} {S:Sets} {t t':List V} {m m':List (Option Bk)} {a:Act} {w w':World} {ρ:List Nat} {st:Bool}
theorem co1_rel {N1 N':Names} {S1 S':Sets} {g:Bool} (hN:∀(i n:Nat) (v:Value),ρ[i]?=some n→N1 i=some (0,v)→N' n=some (verOf st m n,v)) (hS:∀f b,S1 f b→S' (f||g) b)
  (hbox:∀(i n:Nat) (q:Addr),ρ[i]?=some n→N1 i=some (0,.pointer (some q))→verOf st m n=0) (hz:∀i x v,N1 i=some (x,v)→x=0) {v:V} {u:Value} (h:RelV N1 S1 w v u):RelV N' S' w (v.co1 st ρ m g) u:=by
 cases h<;>simp only[V.co1]<;>try exact .un _
 ·exact .cv _
 ·exact .cv _
 ·rename_i f sz xs h
  exact .sl _ _ _ _ (h.mono (hS f) fun _ _=>rfl)
 ·rename_i f cells o b off hSb u hc
  exact .el _ _ _ _ _ (hS _ _ hSb) u fun j d hj=>⟨(hc j d hj).1,(hc j d hj).2.mono (hS f) fun _ _=>rfl⟩
 ·rename_i n o b hn
  split
  ·rename_i i hi
   have:=hN _ _ _ hi hn
   rw[hbox _ _ _ hi hn] at this
   exact .bx _ _ _ this
  ·exact .un _
 ·rename_i n k hu hn
  obtain⟨k',v,hn,hk,he⟩:=hn
  have h0:=hz _ _ _ hn
  subst h0
  split
  ·rename_i i _ hi
   exact .ow _ _ _ hu ⟨_,_,hN _ _ _ hi hn,Nat.le_refl _,fun _=>he rfl⟩
  ·exact .un _
 ·rename_i n k sz j o hu hn
  obtain⟨k',v,hn,hk,he⟩:=hn
  have h0:=hz _ _ _ hn
  subst h0
  split
  ·rename_i i _ hi
   exact .oq _ _ _ _ _ _ (by assumption) ⟨_,_,hN _ _ _ hi hn,Nat.le_refl _,fun _=>he rfl⟩
  ·exact .un _
 ·rename_i n k sz lo hi' hu hn
  obtain⟨k',v,hn,hk,he⟩:=hn
  have h0:=hz _ _ _ hn
  subst h0
  split
  ·rename_i i _ hi
   exact .vw _ _ _ _ _ _ (by assumption) ⟨_,_,hN _ _ _ hi hn,Nat.le_refl _,fun _=>he rfl⟩
  ·exact .un _
theorem co2_rel {N1 N':Names} {S1 S':Sets} {g:Bool} (hN:∀(i n:Nat) (v:Value),ρ[i]?=some n→N1 i=some (0,v)→N' n=some (verOf st m n,v)) (hS:∀f b,S1 f b→S' (f||g) b)
  (hbox:∀(i n:Nat) (q:Addr),ρ[i]?=some n→N1 i=some (0,.pointer (some q))→verOf st m n=0) (hz:∀i x v,N1 i=some (x,v)→x=0) {v:V} {u:Value} (h:RelV N1 S1 w v u):RelV N' S' w (v.co2 st ρ m g) u:=by
 have list:∀{cs:List V} {i:Nat} {v:V} {us:Array Value},(∀i v,cs[i]?=some v→RelV N1 S1 w v (us.getD i undef))→(cs.map (V.co1 st ρ m g))[i]?=some v→RelV N' S' w v (us.getD i undef):=by
  intro cs i v us h hv
  rw[List.getElem?_map,Option.map_eq_some_iff] at hv
  obtain⟨v',hv',rfl⟩:=hv
  exact co1_rel hN hS hbox hz (h i v' hv')
 unfold V.co2
 split
 ·cases h with
  |ag _ us hl h=>exact .ag _ us (by simpa using hl) fun i v hv=>list h hv
 ·cases h with
  |fn _ _ _ us vs hn hl h=>exact .fn _ _ _ us vs hn (by simpa using hl) fun i v hv=>list h hv
 ·exact co1_rel hN hS hbox hz h
theorem co3_rel {N1 N':Names} {S1 S':Sets} {g:Bool} (hN:∀(i n:Nat) (v:Value),ρ[i]?=some n→N1 i=some (0,v)→N' n=some (verOf st m n,v)) (hS:∀f b,S1 f b→S' (f||g) b)
  (hbox:∀(i n:Nat) (q:Addr),ρ[i]?=some n→N1 i=some (0,.pointer (some q))→verOf st m n=0) (hz:∀i x v,N1 i=some (x,v)→x=0) {v:V} {u:Value} (h:RelV N1 S1 w v u):RelV N' S' w (v.co3 st ρ m g) u:=by
 unfold V.co3
 split
 ·cases h with
  |tu _ us hl h=>
   refine .tu _ us (by simpa using hl) fun i v hv=>?_
   rw[List.getElem?_map,Option.map_eq_some_iff] at hv
   obtain⟨v',hv',rfl⟩:=hv
   exact co2_rel hN hS hbox hz (h i v' hv')
 ·exact co2_rel hN hS hbox hz h
theorem op_mcall {o:Oper} {E:Operand→V} {c:Call} {f:FuncId} {pre post av:List V} {m m1:List (Option Bk)} {ρ φ:List Nat} {gf:Bool} {m0 m2:List Bk} {args0:List V} {res:V} (ho:o.op= .call c) (hc:calleeV E c=some (f,pre,post))
  {ln:Bool} (hz:frzB ln m (pre++zA T E c.args.toList c.argTypes.toList++post)=some (av,m1)) (hg:(av.all V.fl&&flM m1 ρ)=gf) (hab:abM ρ m1 ρ=some m0) (ha0:av.map (V.ab ρ m1)=args0) (hM:MCallsG st P f args0 m0 res m2)
  (hchk:(distinctB (ρ++φ)&&(freeB m1 φ&&(kindB m1 ρ m2&&Nat.beq (ρ.length+φ.length) m2.length)))=true):
  OpTr P o E m (res.co3 st (ρ++φ) m1 gf) (putM (fun n b=>b.co st (ρ++φ) m1 gf n) (ρ++φ) m2 m1):=by
 subst ha0
 intro B w0 N0 S0 t a w hs0 hx
 simp only[Bool.and_eq_true] at hchk
 obtain⟨hdist,hfree,hkind,hlen⟩:=hchk
 have hlen:=Nat.eq_of_beq_eq_true hlen
 obtain⟨us,hus,hcall⟩:=run_call (T:=T) ho hc hx hM.1
 obtain⟨N,S,hs,hav,_⟩:=frzB_sound hs0 hus hz
 have hρ:=abM_mem hab
 have hφ:=freeB_spec hfree
 have hfl:gf=true→av.all V.fl=true∧flM m1 ρ=true:=fun e=>by rw[e] at hg;simpa using hg
 have hdρ:distinctB ρ=true:=by
  have:∀(l l':List Nat),distinctB (l++l')=true→distinctB l=true:=by
   intro l
   induction l with
   |nil=>intro l' _;rfl
   |cons n l ih=>
    intro l' h
    simp only[List.cons_append,distinctB] at h⊢
    split at h
    ·cases h
    ·rename_i hh
     have h1:has l n=false:=by
      cases hb:has l n with
      |false=>rfl
      |true=>
       have hmem:∀(l:List Nat),has l n=true→has (l++l') n=true:=by
        intro l
        induction l with
        |nil=>intro h;cases h
        |cons x l ih=>
         intro h
         simp only[List.cons_append,has] at h⊢
         split
         ·rfl
         ·rename_i hx;rw[hx] at h;exact ih h
       rw[hmem l hb] at hh;cases hh
     rw[h1];exact ih l' h
  exact this ρ φ hdist
 have hmem:=abM_ok hs hdρ (gf:=gf) (fun e=>(hfl e).2) hab
 have hargs:RelL (NamesOf (valsOf N ρ)) (oldS (S gf)) w (av.map (V.ab ρ m1)) us:=⟨by simpa using hav.1,fun i v hv=>by
  rw[List.getElem?_map,Option.map_eq_some_iff] at hv
  obtain⟨v',hv',rfl⟩:=hv
  exact ab_rel hs (fun e=>List.all_eq_true.1 (hfl e).1 v' (List.mem_of_getElem? hv')) (hav.2 i v' hv')⟩
 refine hcall _ ((hM.2 w us (valsOf N ρ) (S gf) hmem hargs).mono ?_)
 rintro e w' ⟨v,ns',rfl,hok,hres,hlow,hnl,hptr,hnew,hst,hstay⟩
 refine⟨v,rfl,?_⟩
 have hlm:(ρ++φ).length=m2.length:=by simpa using hlen
 have hlt:∀n∈ρ++φ,n<m1.length:=fun n hn=>by
  rcases List.mem_append.1 hn with h|h
  ·obtain⟨b,hb⟩:=hρ n h;exact lt_of_get hb
  ·exact lt_of_get (hφ n h)
 obtain⟨hput1,hput2⟩:=putM_get (F:=fun n b=>b.co st (ρ++φ) m1 gf n) (l:=ρ++φ) (bs:=m2) (m:=m1) hdist hlt hlm
 have hφn:∀n∈φ,N n=none:=fun n hn=>hs.non n fun b hb=>by rw[hφ n hn] at hb;cases hb
 let N':Names:=fun n=>match idx (ρ++φ) n 0 with
  |some i=>(ns'[i]?).map fun v=>(verOf st m1 n,v)
  |none=>N n
 let S':Sets:=fun f g=>S f g∨(w.heap.size≤g∧g<w'.heap.size∧¬blks ns' g)
 have hN'in:∀{i n:Nat},(ρ++φ)[i]?=some n→N' n=(ns'[i]?).map fun v=>(verOf st m1 n,v):=by
  intro i n h
  have:=idx_of hdist 0 h
  simp only[Nat.zero_add] at this
  simp only[N',this]
 have hN'out:∀{n:Nat},n∉ρ++φ→N' n=N n:=by
  intro n h
  simp only[N']
  split
  ·rename_i i hi
   exact absurd (List.mem_of_getElem? (idx_spec hi).2) h
  ·rfl
 have hpos:∀{n:Nat},n∈ρ++φ→∃i:Nat,(ρ++φ)[i]?=some n:=fun h=>by
  obtain⟨i,hi,rfl⟩:=List.getElem_of_mem h
  exact⟨i,List.getElem?_eq_getElem hi⟩
 have hρi:∀{i n:Nat} {x:Nat} {v:Value},(ρ++φ)[i]?=some n→N n=some (x,v)→ρ[i]?=some n∧(valsOf N ρ)[i]?=some v:=by
  intro i n x v h hn
  rw[List.getElem?_append] at h
  split at h
  ·exact⟨h,valsOf_get h hn⟩
  ·have:=hφn n (List.mem_of_getElem? h)
   rw[this] at hn;cases hn
 have hkeep:∀g,g<w.heap.size→¬blks (valsOf N ρ) g→w'.heap[g]?=w.heap[g]?:=fun g h1 h2=>hlow.block g ⟨h1,h2⟩
 have hnb:∀f g,S f g→¬blks (valsOf N ρ) g:=fun f g hg hb=>by
  obtain⟨n,_,x,v,h1,h2⟩:=blks_valsOf hρ hs hb
  exact(hs.data f g hg).2 n x v h1 h2
 have hw:∀f g,S f g→w'.heap[g]?=w.heap[g]?:=fun f g hg=>hkeep g (hs.data f g hg).1 (hnb f g hg)
 have hver:∀{n k E sz:Nat} {f:Bool} {xs:List (List D)},m1[n]?=some (some (.row k E sz f xs))→verOf st m1 n=cond st k (k+1):=fun h=>by unfold verOf;rw[h];cases st<;>rfl
 have hverA:∀{n k:Nat} {A:Asrt} {o:List V},m1[n]?=some (some (.asr k A o))→verOf st m1 n=cond st k (k+1):=fun h=>by unfold verOf;rw[h];cases st<;>rfl
 have hverb:∀{n:Nat} {cs:List V} {bt:Option Nat},m1[n]?=some (some (.box cs bt))→verOf st m1 n=0:=fun h=>by simp[verOf,h]
 have hNN:NLe N N':=by
  intro n k v0 h0
  by_cases hn:n∈ρ++φ
  ·obtain⟨i,hi⟩:=hpos hn
   obtain⟨hi',hv0⟩:=hρi hi h0
   obtain⟨b,hb⟩:=hs.def_ h0
   have hH:=hs.blk n b hb
   cases b with
   |fz k E xs=>exact(kindB_fz hkind i n k E xs hi' hb).elim
   |box cs=>
    obtain⟨g,ty,us',e1,_⟩:=hH
    rw[h0] at e1;cases e1
    refine .inl ?_
    rw[hN'in hi,hptr i _ hv0,hverb hb];rfl
   |row k2 E sz f xs=>
    obtain⟨v2,us',e1,e2,_⟩:=hH
    rw[h0] at e1;cases e1
    obtain⟨A,c',hsl⟩:=own_parts e2
    have hlt':=lt_of_get hv0
    obtain⟨v3,hv3⟩:∃v3,ns'[i]?=some v3:=⟨_,List.getElem?_eq_getElem (by omega)⟩
    have h9:=hver hb
    cases st with
    |true=>
     obtain⟨v4,hv4,hd4⟩:=hst rfl i _ hv0
     rcases hd4 with rfl|⟨us4,us5,h4,_⟩
     ·exact .inl (by rw[hN'in hi,hv4,h9];rfl)
     ·rw[hsl] at h4;cases h4
    |false=>exact .inr (.inl ⟨⟨_,_,_,hsl⟩,k+1,v3,by rw[hN'in hi,hv3,h9];rfl,by omega⟩)
   |asr k2 A outs=>
    obtain⟨fs,us',e1,_⟩:=hH
    rw[h0] at e1;cases e1
    have hlt':=lt_of_get hv0
    obtain⟨v3,hv3⟩:∃v3,ns'[i]?=some v3:=⟨_,List.getElem?_eq_getElem (by omega)⟩
    have h9:=hverA hb
    obtain⟨b2,hb2⟩:∃b2,m2[i]?=some b2:=⟨_,List.getElem?_eq_getElem (by rw[←hok.len];exact lt_of_get hv3)⟩
    obtain⟨k3,A3,o3,rfl⟩:=kindB_as hkind i n _ A outs b2 hi' hb hb2
    obtain⟨fs3,us3,e3,_⟩:=hok.blk i _ hb2
    have e4:v3= .agg fs3:=by simp[NamesOf,hv3] at e3;exact e3.2
    subst e4
    cases st with
    |true=>
     obtain⟨v4,hv4,hd4⟩:=hst rfl i _ hv0
     rcases hd4 with rfl|⟨us4,us5,h4,rfl,h5⟩
     ·exact .inl (by rw[hN'in hi,hv4,h9];rfl)
     ·cases h4
      exact .inr (.inr ⟨_,us5,k,rfl,by rw[hN'in hi,hv4,h9];rfl,.inr ⟨rfl,h5⟩⟩)
    |false=>exact .inr (.inr ⟨_,fs3,k+1,rfl,by rw[hN'in hi,hv3,h9];rfl,.inl (by omega)⟩)
  ·exact .inl ((hN'out hn).trans h0)
 have hSS:∀f g,S f g→S' f g:=fun f g h=> .inl h
 have hSg:∀f g,newS (S gf) w w' ns' f g→S' (f||gf) g:=by
  intro f g ⟨h1,h2,h3⟩
  rcases h3 with h3|⟨rfl,h3⟩
  ·exact .inr ⟨h3,h1,h2⟩
  ·exact .inl (by simpa using h3)
 have hco:∀(i n:Nat) (v:Value),(ρ++φ)[i]?=some n→NamesOf ns' i=some (0,v)→N' n=some (verOf st m1 n,v):=by
  intro i n v hi hv
  simp only[NamesOf,Option.map_eq_some_iff] at hv
  obtain⟨v',hv',he⟩:=hv
  cases he
  rw[hN'in hi,hv'];rfl
 have hz0:∀i x v,NamesOf ns' i=some (x,v)→x=0:=by
  intro i x v hv
  simp only[NamesOf,Option.map_eq_some_iff] at hv
  obtain⟨v',_,he⟩:=hv
  cases he;rfl
 have hns:∀{i:Nat} {v:Value},ns'[i]?=some v→NamesOf ns' i=some (0,v):=fun h=>by simp[NamesOf,h]
 have hbox:∀(i n:Nat) (q:Addr),(ρ++φ)[i]?=some n→NamesOf ns' i=some (0,.pointer (some q))→verOf st m1 n=0:=by
  intro i n q hi hv
  simp only[NamesOf,Option.map_eq_some_iff] at hv
  obtain⟨v',hv',he⟩:=hv
  cases he
  rw[List.getElem?_append] at hi
  split at hi
  ·obtain⟨b,hb⟩:=hρ n (List.mem_of_getElem? hi)
   cases b with
   |fz k E xs=>exact(kindB_fz hkind i n k E xs hi hb).elim
   |box cs=>exact hverb hb
   |asr k A outs=>
    obtain⟨b2,hb2⟩:∃b2,m2[i]?=some b2:=⟨_,List.getElem?_eq_getElem (by rw[←hok.len];exact lt_of_get hv')⟩
    obtain⟨k3,A3,o3,rfl⟩:=kindB_as hkind i n _ A outs b2 hi hb hb2
    obtain⟨fs3,us3,e3,_⟩:=hok.blk i _ hb2
    rw[hns hv'] at e3;cases e3
   |row k E sz f xs=>
    have hlt':=lt_of_get hv'
    obtain⟨b2,hb2⟩:∃b2,m2[i]?=some b2:=⟨_,List.getElem?_eq_getElem (by rw[←hok.len];exact hlt')⟩
    have hH:=hok.blk i b2 hb2
    cases b2 with
    |fz k2 E2 xs2=>
     obtain⟨g3,cap3,us3,fr3,e1,_⟩:=hH
     rw[hns hv'] at e1;cases e1
    |asr k3 A3 o3=>
     obtain⟨fs3,us3,e1,_⟩:=hH
     rw[hns hv'] at e1;cases e1
    |box cs=>exact(kindB_spec hkind i n k E sz f xs cs _ hi hb hb2).elim
    |row k2 E2 sz2 f2 xs2=>
     obtain⟨v3,us3,e1,e2,_⟩:=hH
     rw[hns hv'] at e1;cases e1
     obtain⟨A,c',hsl⟩:=own_parts e2
     cases hsl
  ·have:=hφ n (List.mem_of_getElem? hi)
   simp[verOf,this]
 have hblk':∀{n x:Nat} {v:Value} {g:Nat},n∈ρ++φ→N' n=some (x,v)→At v g→blks ns' g:=by
  intro n x v g hn h1 h2
  obtain⟨i,hi⟩:=hpos hn
  rw[hN'in hi,Option.map_eq_some_iff] at h1
  obtain⟨v',hv',he⟩:=h1
  cases he
  exact⟨v,List.mem_of_getElem? hv',h2⟩
 have hother:∀{n x:Nat} {v:Value} {g:Nat},n∉ρ++φ→N n=some (x,v)→At v g→g<w.heap.size∧¬blks (valsOf N ρ) g∧¬blks ns' g:=by
  intro n x v g hn h1 h2
  have h3:=(hs.own n x v g h1 h2).2
  have h4:¬blks (valsOf N ρ) g:=fun hb=>by
   obtain⟨n',hn',x',v',h5,h6⟩:=blks_valsOf hρ hs hb
   have:=hs.apart n n' _ _ _ _ g h1 h5 h2 h6
   subst this;exact hn (List.mem_append_left _ hn')
  refine⟨h3,h4,fun hb=>?_⟩
  rcases hnew g hb with h|h
  ·exact h4 h
  ·omega
 have hrow0:gf=true→∀{i n:Nat} {k E sz:Nat} {f:Bool} {xs:List (List D)} {v:Value},ρ[i]?=some n→m1[n]?=some (some (.row k E sz f xs))→f=true:=by
  intro e i n k E sz f xs v hi hm
  have:=List.all_eq_true.1 (hfl e).2 n (List.mem_of_getElem? hi)
  simpa[hm,Bk.fl] using this
 have hrowB:gf=true→∀{i:Nat} {A:Option Addr} {l c':Nat} {g:Nat},ns'[i]?=some (.slice A l c')→At (.slice A l c') g→w0.heap.size≤g:=by
  intro e i A l c' g hv hg'
  rcases hnew g ⟨_,List.mem_of_getElem? hv,hg'⟩ with hb|hb
  ·obtain⟨u,hu,hug⟩:=hb
   obtain⟨j,hj,rfl⟩:=List.getElem_of_mem hu
   obtain⟨n,x,h1,h2⟩:=vals_named hs hρ (List.getElem?_eq_getElem hj)
   obtain⟨b,hb⟩:=hρ n (List.mem_of_getElem? h1)
   have hH:=hs.blk n b hb
   cases b with
   |fz k E xs=>exact(kindB_fz hkind j n k E xs h1 hb).elim
   |box cs=>
    obtain⟨g0,ty,us',e1,_⟩:=hH
    rw[h2] at e1
    have e3:(valsOf N ρ)[j]= .pointer (some ⟨g0,0,none⟩):=by simpa using congrArg (fun o:Option (Nat×Value)=>o.map (·.2)) e1
    have h4:=hptr j ⟨g0,0,none⟩ (by rw[List.getElem?_eq_getElem hj,e3])
    rw[e3] at hug
    have:=hok.apart i j _ _ g hv h4 hg' hug
    subst this
    rw[hv] at h4;cases h4
   |asr k A outs=>
    have:=List.all_eq_true.1 (hfl e).2 n (List.mem_of_getElem? h1)
    simp[hb,Bk.fl] at this
   |row k E sz f xs=>
    have hf:=hrow0 e (v:=default) h1 hb
    subst hf
    exact row_new hs hb h2 g hug
  ·exact Nat.le_trans hs.size hb
 refine⟨N',S',⟨?_,hs.nodef,hs.tmps.mono hNN hSS hw,?_,?_,?_,?_,?_,?_,?_,?_,?_,hs.more.mono hlow.size (fun _ _ h=>h.mono hNN hSS hw) hs.base fun f g h=>h.imp id fun h=> .inl h.1,fun n og hn=>?_⟩,co3_rel hco hSg hbox hz0 hres⟩
 rotate_right
 ·obtain⟨c1,x,v1,c2,c3⟩:=hs.stay n og hn
  refine⟨c1,?_⟩
  by_cases hin:n∈ρ++φ
  ·have hinρ:n∈ρ:=by
    rcases List.mem_append.1 hin with h|h
    ·exact h
    ·rw[hφn n h] at c2;cases c2
   obtain⟨j,hj⟩:=List.getElem?_of_mem hinρ
   have hjl:=lt_of_get hj
   have hv1:(valsOf N ρ)[j]?=some v1:=valsOf_get hj c2
   have hjl':j<ns'.length:=Nat.lt_of_lt_of_le (lt_of_get hv1) hnl
   have hj2:(ρ++φ)[j]?=some n:=by rw[List.getElem?_append_left hjl];exact hj
   refine⟨verOf st m1 n,ns'[j],by rw[hN'in hj2,List.getElem?_eq_getElem hjl'];rfl,?_⟩
   rcases hstay j v1 _ hv1 (List.getElem?_eq_getElem hjl') with h|h
   ·exact .inl h
   ·rcases c3 with⟨us,rfl⟩|c3
    ·obtain⟨bb,hbb⟩:=hs.def_ c2
     obtain⟨k9,A9,o9,rfl⟩:=hs.as_of hbb c2
     obtain⟨b9,hb9⟩:∃b9,m2[j]?=some b9:=⟨_,List.getElem?_eq_getElem (by rw[←hok.len];exact hjl')⟩
     obtain⟨k8,A8,o8,rfl⟩:=kindB_as hkind j n k9 A9 o9 b9 hj hbb hb9
     obtain⟨fs,us9,e9,_⟩:=hok.blk j _ hb9
     simp only[NamesOf,List.getElem?_eq_getElem hjl',Option.map_some,Option.some.injEq,Prod.mk.injEq] at e9
     exact .inl ⟨_,e9.2⟩
    ·exact .inr fun g hg=>by
      rcases h g hg with h|h
      ·exact c3 g h
      ·exact .inr (Nat.le_trans hs.size h)
  ·exact⟨x,v1,(hN'out hin).trans c2,c3⟩
 ·refine hs.low.trans (hlow.mono fun g hg=>⟨hs.base g hg,fun hb=>?_⟩)
  obtain⟨n,_,x,v,h1,h2⟩:=blks_valsOf hρ hs hb
  exact(hs.own n x v g h1 h2).1 hg
 ·intro j b hj
  by_cases hn:j∈ρ++φ
  ·obtain⟨i,hi⟩:=hpos hn
   obtain⟨b2,hb2⟩:∃b2,m2[i]?=some b2:=⟨_,List.getElem?_eq_getElem (by have:=lt_of_get hi;omega)⟩
   rw[hput1 i j b2 hi hb2] at hj
   cases hj
   have hH:=hok.blk i b2 hb2
   cases b2 with
   |fz k E xs=>
    obtain⟨g,cap,us',fr,e1,e2⟩:=hH
    have h0:=hz0 _ _ _ e1
    subst h0
    exact⟨g,cap,us',fr,hco i j _ hi e1,e2⟩
   |asr k A outs=>
    obtain⟨fs,us',e1,e2,e3⟩:=hH
    have h0:=hz0 _ _ _ e1
    subst h0
    refine⟨fs,us',hco i j _ hi e1,⟨by simpa using e2.1,fun q v hv=>?_⟩,A.mono (fun g hg=>?_) (fun _ _=>rfl) (fun _ _=>rfl) e3⟩
    ·rw[List.getElem?_map,Option.map_eq_some_iff] at hv
     obtain⟨v',hv',rfl⟩:=hv
     exact co2_rel hco hSg hbox hz0 (e2.2 q v' hv')
    ·have hq:=hSg false g hg
     cases gf with
     |false=>exact hq
     |true=>
      obtain⟨h1,h2,h3⟩:=hg
      rcases h3 with h3|⟨_,h3⟩
      ·exact .inr ⟨h3,h1,h2⟩
      ·exact .inl (hs.fresh g h3).1
   |box cs=>
    obtain⟨g,ty,us',e1,e2,e3,e4⟩:=hH
    refine⟨g,ty,us',?_,e2,by simpa using e3,fun q v hv=>?_⟩
    ·rw[hco i j _ hi e1,hbox i j _ hi e1]
    ·rw[List.getElem?_map,Option.map_eq_some_iff] at hv
     obtain⟨v',hv',rfl⟩:=hv
     exact co2_rel hco hSg hbox hz0 (e4 q v' hv')
   |row k E sz f xs=>
    obtain⟨v3,us',e1,e2,e3,e4,e5,e6⟩:=hH
    have h0:=hz0 _ _ _ e1
    subst h0
    refine⟨v3,us',hco i j _ hi e1,e2,e3,e4,fun p q d hd=>?_,fun hfg g hg'=>?_⟩
    ·obtain⟨u,hu,hr⟩:=e5 p q d hd
     exact⟨u,hu,hr.mono (hSg f) fun _ _=>rfl⟩
    ·simp only[Bool.or_eq_true] at hfg
     rcases hfg with rfl|rfl
     ·exact Nat.le_trans hs.size (e6 rfl g hg')
     ·obtain⟨A,c',hsl⟩:=own_parts e2
      subst hsl
      have hv3:ns'[i]?=some (.slice A xs.length c'):=by
       simp only[NamesOf,Option.map_eq_some_iff] at e1
       obtain⟨v',hv',he⟩:=e1
       cases he;exact hv'
      exact hrowB rfl hv3 hg'
  ·rw[hput2 j hn] at hj
   refine(hs.blk j b hj).mono (hN'out hn) hNN hSS hw fun x v g h1 h2=>?_
   obtain⟨h3,h4,_⟩:=hother hn h1 h2
   exact hkeep g h3 h4
 ·intro j hj
  by_cases hn:j∈ρ++φ
  ·obtain⟨i,hi⟩:=hpos hn
   obtain⟨b2,hb2⟩:∃b2,m2[i]?=some b2:=⟨_,List.getElem?_eq_getElem (by have:=lt_of_get hi;omega)⟩
   exact absurd (hput1 i j b2 hi hb2) (hj _)
  ·rw[hN'out hn]
   exact hs.non j fun b hb=>hj b (by rw[hput2 j hn];exact hb)
 ·intro j k x y u v g h1 h2 h3 h4
  by_cases hj:j∈ρ++φ<;>by_cases hk:k∈ρ++φ
  ·obtain⟨i,hi⟩:=hpos hj
   obtain⟨i',hi'⟩:=hpos hk
   rw[hN'in hi,Option.map_eq_some_iff] at h1
   rw[hN'in hi',Option.map_eq_some_iff] at h2
   obtain⟨u',hu',he⟩:=h1
   obtain⟨v',hv',he'⟩:=h2
   cases he;cases he'
   have:=hok.apart i i' _ _ g hu' hv' h3 h4
   subst this
   rw[hi] at hi';cases hi';rfl
  ·rw[hN'out hk] at h2
   exact absurd (hblk' hj h1 h3) (hother hk h2 h4).2.2
  ·rw[hN'out hj] at h1
   exact absurd (hblk' hk h2 h4) (hother hj h1 h3).2.2
  ·rw[hN'out hj] at h1;rw[hN'out hk] at h2
   exact hs.apart j k x y u v g h1 h2 h3 h4
 ·intro f g hg
  rcases hg with hg|⟨hg1,hg2,hg3⟩
  ·refine⟨Nat.lt_of_lt_of_le (hs.data f g hg).1 hlow.size,fun k x v h1 h2=>?_⟩
   by_cases hk:k∈ρ++φ
   ·rcases hnew g (hblk' hk h1 h2) with h|h
    ·exact hnb f g hg h
    ·have:=(hs.data f g hg).1;omega
   ·rw[hN'out hk] at h1
    exact(hs.data f g hg).2 k x v h1 h2
  ·refine⟨hg2,fun k x v h1 h2=>?_⟩
   by_cases hk:k∈ρ++φ
   ·exact hg3 (hblk' hk h1 h2)
   ·rw[hN'out hk] at h1
    have:=(hs.own k x v g h1 h2).2;omega
 ·intro g hg
  rcases hg with hg|hg
  ·exact⟨.inl (hs.fresh g hg).1,(hs.fresh g hg).2⟩
  ·exact⟨.inr hg,Nat.le_trans hs.size hg.1⟩
 ·intro k x v g h1 h2
  by_cases hk:k∈ρ++φ
  ·have hb:=hblk' hk h1 h2
   refine⟨fun hkp=>?_,hok.lt g hb⟩
   rcases hnew g hb with h|h
   ·obtain⟨n,_,x',v',h3,h4⟩:=blks_valsOf hρ hs h
    exact(hs.own n x' v' g h3 h4).1 hkp
   ·have:=hs.base g hkp;omega
  ·rw[hN'out hk] at h1
   exact⟨(hs.own k x v g h1 h2).1,Nat.lt_of_lt_of_le (hs.own k x v g h1 h2).2 hlow.size⟩
 ·exact fun g hg=>Nat.lt_of_lt_of_le (hs.base g hg) hlow.size
 ·intro g hg
  rcases hg with hg|hg
  ·exact hs.old g hg
  ·exact .inl (Nat.le_trans hs.size hg.1)
 ·intro n g hn
  obtain⟨h1,h2,h3⟩:=hs.lent n g hn
  refine⟨h1,h2,?_⟩
  exact hNN.ptr h3
theorem mcall {o:Oper} {E:Operand→V} {c:Call} {f:FuncId} {pre post av:List V} {m m1:List (Option Bk)} {ρ φ:List Nat} {gf:Bool} {m0 m2:List Bk} {args0:List V} {res:V} {K:V→List (Option Bk)→Prop} (hM:MCallsG st P f args0 m0 res m2)
  (hK:(res.co3 st (ρ++φ) m1 gf).k fun v=>forceM (putM (fun n b=>b.co st (ρ++φ) m1 gf n) (ρ++φ) m2 m1) fun m'=>K v m')
  (ln:Bool:=false) (ho:o.op= .call c:=by exact rfl) (hc:calleeV E c=some (f,pre,post):=by exact rfl) (hz:frzB ln m (pre++zA T E c.args.toList c.argTypes.toList++post)=some (av,m1):=by exact rfl)
  (_hr:(reach m1 64 (av.flatMap V.nm3) []).reverse=ρ:=by exact rfl) (hg:(av.all V.fl&&flM m1 ρ)=gf:=by exact rfl) (hab:abM ρ m1 ρ=some m0:=by exact rfl) (ha0:av.map (V.ab ρ m1)=args0:=by exact rfl)
  (hchk:(distinctB (ρ++φ)&&(freeB m1 φ&&(kindB m1 ρ m2&&Nat.beq (ρ.length+φ.length) m2.length)))=true:=by exact rfl):
  ∃v m',OpTr P o E m v m'∧v.k fun v=>forceM m' fun m'=>K v m':=
 ⟨_,_,op_mcall (T:=T) ho hc hz hg hab ha0 hM hchk,hK⟩
end
end Go.Proofs.YtdccglkagfdooaaGreatDoor
namespace Go.Proofs.YtdccglkagfdooaaGreatDoor
open Go.RowKit
section
variable {P:Program} {T:Tab} {B:Fr} {w0:World} {N:Names} {S:Sets} {t:List V} {m:List (Option Bk)} {a:Act} {w:World}
def isRow:Option (Option Bk)→Bool
 |some (some (.row ..))=>true
 |some (some (.asr ..))=>true
 |_=>false
def V.rev1 (m:List (Option Bk)):V→V
 | .ow n k=>match isRow m[n]? with
  |true=>(match k with
   |0=> .ow n fixV
   |_=> .un)
  |false=> .ow n k
 | .oq n k s i o=>match isRow m[n]? with
  |true=> .un
  |false=> .oq n k s i o
 | .vw n k s lo hi=>match isRow m[n]? with
  |true=> .un
  |false=> .vw n k s lo hi
 | .ag _=> .un
 | .tu _=> .un
 | .fn _ _ _=> .un
 |v=>v
def V.rev (m:List (Option Bk)):V→V
 | .ag cs=> .ag (cs.map (V.rev1 m))
 | .fn f n cs=> .fn f n (cs.map (V.rev1 m))
 |v=>v.rev1 m
def Bk.rev (m:List (Option Bk)):Bk→Bk
 | .box cs bt=> .box (cs.map (V.rev m)) bt
 | .row _ E sz f xs=> .row fixV E sz f xs
 | .fz k E bs=> .fz k E bs
 | .asr _ A outs=> .asr fixV A (outs.map (V.rev m))
def revM (m:List (Option Bk)):List (Option Bk):=m.map (Option.map (Bk.rev m))
theorem revM_get {j:Nat} {b':Bk} (h:(revM m)[j]?=some (some b')):∃b,m[j]?=some (some b)∧b'=b.rev m:=by
 unfold revM at h
 rw[List.getElem?_map,Option.map_eq_some_iff] at h
 obtain⟨x,h1,h2⟩:=h
 cases x with
 |none=>cases h2
 |some b=>simp at h2;exact⟨b,h1,h2.symm⟩
def rows0 (m:List (Option Bk)):Bool:=m.all fun
 |some (.row k _ _ _ _)=>Nat.beq k 0
 |some (.asr k _ _)=>Nat.beq k 0
 |_=>true
theorem Sat.rev (hs:Sat B w0 N S t m a w) (h0:rows0 m=true) (hg:B.ghost=[]):
  ∃N',Sat B w0 N' S (t.map (V.rev m)) (revM m) a w∧(∀j x v,N j=some (x,v)→∃x',N' j=some (x',v)∧(isRow m[j]?=true→x'=fixV)):=by
 let N':Names:=fun j=>(N j).map fun p=>(match isRow m[j]? with|true=>fixV|false=>p.1,p.2)
 have hN:∀{j x v},N j=some (x,v)→N' j=some (match isRow m[j]? with|true=>fixV|false=>x,v):=fun {j x v} h=>by simp[N',h]
 have hN2:∀{j x v},N' j=some (x,v)→∃x0,N j=some (x0,v):=fun {j x v} h=>by
  simp only[N',Option.map_eq_some_iff] at h
  obtain⟨p,h1,h2⟩:=h
  cases h2
  exact⟨p.1,h1⟩
 have hrow0:∀{j},isRow m[j]?=true→∀{x v},N j=some (x,v)→x=0:=fun {j} hj {x v} hx=>by
  unfold isRow at hj
  split at hj
  ·rename_i k E sz f xs hm
   have:=List.all_eq_true.1 h0 _ (List.mem_of_getElem? hm)
   obtain rfl:=Nat.eq_of_beq_eq_true this
   obtain⟨v',us,h1,_⟩:=hs.blk j _ hm
   rw[hx] at h1;cases h1;rfl
  ·rename_i k A outs hm
   have:=List.all_eq_true.1 h0 _ (List.mem_of_getElem? hm)
   obtain rfl:=Nat.eq_of_beq_eq_true this
   obtain⟨v',us,h1,_⟩:=hs.blk j _ hm
   rw[hx] at h1;cases h1;rfl
  ·cases hj
 have hptr:∀{n:Nat} {p:Option Addr},N n=some (0,.pointer p)→N' n=some (0,.pointer p):=fun {n p} h=>by
  rw[hN h]
  cases hr:isRow m[n]? with
  |false=>rfl
  |true=>
   exfalso
   unfold isRow at hr
   split at hr
   ·rename_i k E sz f xs hm
    obtain⟨v',us,h1,h2,_⟩:=hs.blk n _ hm
    rw[h] at h1;cases h1
    obtain⟨A,c,h3⟩:=own_parts h2
    cases h3
   ·rename_i k A outs hm
    obtain⟨v',us,h1,h2,_⟩:=hs.blk n _ hm
    rw[h] at h1;cases h1
   ·cases hr
 have one:∀{v u},RelV N S w v u→RelV N' S w (v.rev1 m) u:=by
  intro v u h
  cases h with
  |un v=>exact .un _
  |cv v=>exact .cv _
  |kb b=>exact .kb _
  |sl f sz xs v h=>exact .sl _ _ _ _ h
  |el f cells o b off hS u hc=>exact .el _ _ _ _ _ hS _ hc
  |bx n o b hn=>exact .bx _ _ _ (hptr hn)
  |ow n k u hu hn=>
   obtain⟨k',v',g1,g2,g3⟩:=hn
   simp only[V.rev1]
   cases hr:isRow m[n]? with
   |true=>
    obtain rfl:=hrow0 hr g1
    obtain rfl:k=0:=Nat.le_zero.1 g2
    exact .ow _ _ _ hu ⟨fixV,v',by rw[hN g1,hr],Nat.le_refl _,fun _=>g3 rfl⟩
   |false=>exact .ow _ _ _ hu ⟨k',v',by rw[hN g1,hr],g2,g3⟩
  |oq n k sz i o u hu hn=>
   obtain⟨k',v',g1,g2,g3⟩:=hn
   simp only[V.rev1]
   cases hr:isRow m[n]? with
   |true=>exact .un _
   |false=>exact .oq _ _ _ _ _ _ hu ⟨k',v',by rw[hN g1,hr],g2,g3⟩
  |vw n k sz lo hi u hu hn=>
   obtain⟨k',v',g1,g2,g3⟩:=hn
   simp only[V.rev1]
   cases hr:isRow m[n]? with
   |true=>exact .un _
   |false=>exact .vw _ _ _ _ _ _ hu ⟨k',v',by rw[hN g1,hr],g2,g3⟩
  |ag cs us hl h=>exact .un _
  |tu cs us hl h=>exact .un _
  |fn f n cs us vs hn hl h=>exact .un _
  |ic t n b hn=>exact .ic _ _ _ (hptr hn)
 have rel:∀{v u},RelV N S w v u→RelV N' S w (v.rev m) u:=by
  intro v u h
  unfold V.rev
  split
  ·cases h with
   |ag _ us hl h=>
    refine .ag _ us (by simpa using hl) fun i v hv=>?_
    ·rw[List.getElem?_map,Option.map_eq_some_iff] at hv
     obtain⟨v',hv',rfl⟩:=hv
     exact one (h i v' hv')
  ·cases h with
   |fn _ _ _ us vs hn hl h=>
    refine .fn _ _ _ us vs hn (by simpa using hl) fun i v hv=>?_
    ·rw[List.getElem?_map,Option.map_eq_some_iff] at hv
     obtain⟨v',hv',rfl⟩:=hv
     exact one (h i v' hv')
  ·exact one h
 have list:∀{vs us},RelL N S w vs us→RelL N' S w (vs.map (V.rev m)) us:=fun {vs us} h=>⟨by simpa using h.1,fun i v hv=>by
  rw[List.getElem?_map,Option.map_eq_some_iff] at hv
  obtain⟨v',hv',rfl⟩:=hv
  exact rel (h.2 i v' hv')⟩
 refine⟨N',⟨hs.low,hs.nodef,list hs.tmps,fun j b' hj=>?_,fun j hj=>?_,fun j k x y u v g h1 h2 h3 h4=>?_,fun f g hfg=>⟨(hs.data f g hfg).1,fun j x v h1 h2=>?_⟩,hs.fresh,fun j x v g h1 h2=>?_,hs.base,hs.old,fun n g hn=>?_,⟨hs.more.size,fun p hp=>(by rw[hg] at hp;cases hp),hs.more.aside,hs.more.inv⟩,fun n og hn=>?_⟩,fun j x v h=>?_⟩
 ·obtain⟨b,h1,rfl⟩:=revM_get hj
  have hH:=hs.blk j b h1
  cases b with
  |box cs bt=>
   obtain⟨g,ty,us,g1,g2,g3,g4⟩:=hH
   refine⟨g,ty,us,hptr g1,g2,by simpa using g3,fun i v hv=>?_⟩
   rw[List.getElem?_map,Option.map_eq_some_iff] at hv
   obtain⟨v',hv',rfl⟩:=hv
   exact rel (g4 i v' hv')
  |row k E sz f xs=>
   obtain⟨v,us,g1,g2⟩:=hH
   refine⟨v,us,?_,g2⟩
   rw[hN g1,h1]
   rfl
  |fz k E bs=>
   obtain⟨g,cap,us,fr,g1,g2⟩:=hH
   refine⟨g,cap,us,fr,?_,g2⟩
   rw[hN g1,h1]
   rfl
  |asr k A outs=>
   obtain⟨fs,us,g1,g2,g3⟩:=hH
   refine⟨fs,us,?_,list g2,g3⟩
   rw[hN g1,h1]
   rfl
 ·have:N j=none:=hs.non j fun b hb=>by
   refine hj (b.rev m) ?_
   unfold revM
   rw[List.getElem?_map,hb]
   rfl
  simp[N',this]
 ·obtain⟨x0,h1⟩:=hN2 h1
  obtain⟨y0,h2⟩:=hN2 h2
  exact hs.apart j k x0 y0 u v g h1 h2 h3 h4
 ·obtain⟨x0,h1⟩:=hN2 h1
  exact(hs.data f g hfg).2 j x0 v h1 h2
 ·obtain⟨x0,h1⟩:=hN2 h1
  exact hs.own j x0 v g h1 h2
 ·obtain⟨h1,h2,h3⟩:=hs.lent n g hn
  exact⟨by simpa using h1,by simpa using h2,hptr h3⟩
 ·obtain⟨h1,x,v,h2,h3⟩:=hs.stay n og hn
  exact⟨by simpa using h1,_,v,hN h2,h3⟩
 ·exact⟨_,hN h,fun hr=>by rw[hr]⟩
def fixRows (n:Nat):List Bk→List (Option Bk)→Bool
 |[],_=>true
 | .row .. ::l,m=>(match m[n]? with
  |some (some (.row k _ _ _ _))=>Nat.beq k fixV
  |_=>false)&&fixRows (n+1) l m
 | .asr .. ::l,m=>(match m[n]? with
  |some (some (.asr k _ _))=>Nat.beq k fixV
  |_=>false)&&fixRows (n+1) l m
 | .box .. ::l,m=>fixRows (n+1) l m
 |_::_,_=>false
theorem fixRows_get:∀{l:List Bk} {n:Nat},fixRows n l m=true→∀(k:Nat) (b:Bk),l[k]?=some b→
  (∃cs bt,b= .box cs bt)∨(∃k0 E sz f xs E' sz' f' xs',b= .row k0 E sz f xs∧m[n+k]?=some (some (.row fixV E' sz' f' xs')))∨∃k0 A o A' o',b= .asr k0 A o∧m[n+k]?=some (some (.asr fixV A' o'))
 |[],n,h,k,b,hb=>by simp at hb
 | .box cs bt::l,n,h,k,b,hb=>by
  simp only[fixRows] at h
  cases k with
  |zero=>simp at hb;subst hb;exact .inl ⟨_,_,rfl⟩
  |succ k=>
   have:=fixRows_get h k b (by simpa using hb)
   rwa [show n+1+k=n+(k+1) by omega] at this
 | .row k0 E sz f xs::l,n,h,k,b,hb=>by
  simp only[fixRows,Bool.and_eq_true] at h
  cases k with
  |zero=>
   simp at hb;subst hb
   have h1:=h.1
   split at h1
   ·rename_i k1 E' sz' f' xs' hm
    obtain rfl:=Nat.eq_of_beq_eq_true h1
    exact .inr (.inl ⟨k0,E,sz,f,xs,E',sz',f',xs',rfl,hm⟩)
   ·cases h1
  |succ k=>
   have:=fixRows_get h.2 k b (by simpa using hb)
   rwa [show n+1+k=n+(k+1) by omega] at this
 | .asr k0 A o::l,n,h,k,b,hb=>by
  simp only[fixRows,Bool.and_eq_true] at h
  cases k with
  |zero=>
   simp at hb;subst hb
   have h1:=h.1
   split at h1
   ·rename_i k1 A' o' hm
    obtain rfl:=Nat.eq_of_beq_eq_true h1
    exact .inr (.inr ⟨k0,A,o,A',o',rfl,hm⟩)
   ·cases h1
  |succ k=>
   have:=fixRows_get h.2 k b (by simpa using hb)
   rwa [show n+1+k=n+(k+1) by omega] at this
 | .fz .. ::l,n,h,k,b,hb=>by simp[fixRows] at h
def DoneX (sd:List V→List Nat) (T:Tab) (fn:Func) (m0:List Bk) (res:V) (m':List Bk) (e:Ex) (st:St):Prop:=DoneM sd T fn m0.length res m' e st∧fixRows fn.ntmps m0 st.m=true
def enterX (fn:Func) (args:List V) (m:List Bk) (K:St→Prop):Prop:=
 forceAll ((args.map (V.sh fn.ntmps)++List.replicate (fn.ntmps - args.length) V.un).map (V.rev (inM fn.ntmps m))) fun t=>forceM (revM (inM fn.ntmps m)) fun m=>K ⟨t,m⟩
def BodyX (sd:List V→List Nat) (P:Program) (T:Tab) (fn:Func) (args:List V) (m:List Bk) (res:V) (m':List Bk):Prop:=
 match fn.body with
 |some c=>enterX fn args m fun st=>awp P T c st (DoneX sd T fn m res m')
 |none=>False
def rowV (n:Nat):List Bk→List V
 |[]=>[]
 |_::l=> .ow n fixV::rowV (n+1) l
theorem rowV_get:∀{l:List Bk} {n k:Nat} {v:V},(rowV n l)[k]?=some v→v= .ow (n+k) fixV∧k<l.length
 |[],n,k,v,h=>by simp[rowV] at h
 |b::l,n,k,v,h=>by
  cases k with
  |zero=>simp[rowV] at h;subst h;exact⟨rfl,by simp⟩
  |succ k=>
   have:=rowV_get (l:=l) (n:=n+1) (k:=k) (by simpa[rowV] using h)
   exact⟨by rw[this.1];congr 1;omega,by simpa using this.2⟩
theorem mcalls_x {sd:List V→List Nat} (hT:TOk P T) (hm:P.follows .mixedOrders=true) {f:FuncId} {fn:Func} (hf:P.funcs[f]?=some fn) (hn:(fn.name== "runtime.NumGoroutine")=false) {args:List V} {m0:List Bk} {res:V} {m1:List Bk}
  (h16:(decide (args.length≤fn.ntmps)&&decide (m0.length≤16))=true) (h0:rows0 (inM fn.ntmps m0)=true) (h:BodyX sd P T fn args m0 res m1):MCallsG true P f args m0 res m1:=by
 simp only[Bool.and_eq_true,decide_eq_true_eq] at h16
 unfold BodyX at h
 cases hb:fn.body with
 |none=>rw[hb] at h;exact h.elim
 |some c=>
  rw[hb] at h
  refine⟨⟨fn,hf,hn,by rw[hb];rfl⟩,fun w vs ns So hmem hvs=>?_⟩
  simp only[enterX,forceAll_eq,forceM_eq] at h
  obtain⟨N1,hs1,hN1⟩:=(sat_enterM hmem hvs fn.ntmps h16.1 h16.2).rev h0 rfl
  have hval:∀(k:Nat) (v:Value),ns[k]?=some v→baseN fn.ntmps ns (fn.ntmps+k)=some (0,v):=fun k v hk=>by
   unfold baseN
   rw[if_pos (by omega),show fn.ntmps+k - fn.ntmps=k by omega]
   simp[NamesOf,hk]
  have hrows:∀(k:Nat) (v:Value),ns[k]?=some v→isRow (inM fn.ntmps m0)[fn.ntmps+k]?=true→RelV N1 (oldS So) w (.ow (fn.ntmps+k) fixV) (hdv v):=fun k v hk hr=>by
   obtain⟨x',g1,g2⟩:=hN1 _ _ _ (hval k v hk)
   have g2:=g2 hr
   subst g2
   unfold isRow at hr
   split at hr
   ·rename_i k2 E sz f xs hm2
    obtain⟨j,b0,e1,e2,e3⟩:=inM_get hm2
    obtain rfl:j=k:=by omega
    cases b0<;>simp only[Bk.sh] at e3<;>cases e3
    obtain⟨v',us,c1,c2,_⟩:=hmem.blk j _ e2
    have:v'=v:=(by simpa[NamesOf,hk] using c1.symm:_∧v'=v).2
    subst this
    obtain⟨A,c,hv'⟩:=own_parts c2
    exact .ow _ _ _ (by rw[hv'];rfl) ⟨fixV,v',g1,Nat.le_refl _,fun _=>rfl⟩
   ·rename_i k2 A outs hm2
    obtain⟨j,b0,e1,e2,e3⟩:=inM_get hm2
    obtain rfl:j=k:=by omega
    cases b0<;>simp only[Bk.sh] at e3<;>cases e3
    obtain⟨fs,us,c1,c2,c3⟩:=hmem.blk j _ e2
    have:v= .agg fs:=(by simpa[NamesOf,hk] using c1:_∧v= .agg fs).2
    subst this
    exact .ow _ _ _ (A.one c3) ⟨fixV,_,g1,Nat.le_refl _,fun _=>rfl⟩
   ·cases hr
  let gs:List (V×Value):=((rowV fn.ntmps m0).zip (ns.map hdv)).filter fun p=>match p.1 with| .ow j _=>isRow (inM fn.ntmps m0)[j]?|_=>false
  have hgs:∀p∈gs,RelV N1 (oldS So) w p.1 p.2:=by
   intro p hp
   simp only[gs,List.mem_filter] at hp
   obtain⟨hp1,hp2⟩:=hp
   obtain⟨k,hk⟩:=List.getElem?_of_mem hp1
   rw[List.getElem?_zip_eq_some] at hk
   obtain⟨e1,_⟩:=rowV_get hk.1
   rw[e1] at hp2⊢
   have hk2:=hk.2
   rw[List.getElem?_map,Option.map_eq_some_iff] at hk2
   obtain⟨v,hv,hv2⟩:=hk2
   rw[←hv2]
   exact hrows k _ hv hp2
  have hs2:Sat {frM w ns So fn.ntmps with ghost:=gs} w N1 (oldS So) _ (revM (inM fn.ntmps m0)) _ w:=
   ⟨hs1.low,hs1.nodef,hs1.tmps,hs1.blk,hs1.non,hs1.apart,hs1.data,hs1.fresh,hs1.own,hs1.base,hs1.old,hs1.lent,⟨hs1.more.size,hgs,hs1.more.aside,hs1.more.inv⟩,hs1.stay⟩
  have hfr:FrOk {frM w ns So fn.ntmps with ghost:=gs}:=⟨by
   intro p hp
   simp only[gs,List.mem_filter] at hp
   obtain⟨k,hk⟩:=List.getElem?_of_mem hp.1
   rw[List.getElem?_zip_eq_some] at hk
   exact⟨_,(rowV_get hk.1).1⟩,rfl⟩
  refine calls_of_wp hf hb (Go.wp_mono (awp_sound (B:={frM w ns So fn.ntmps with ghost:=gs}) (w0:=w) hT hm hfr c _ _ w ⟨_,_,_,_,hs2,h⟩) ?_)
  have key:=doneM_ret (P:=P) (sd:=sd) (st:=true) (fn:=fn) (res:=res) (m1:=m1) hT hmem
  have fin:∀(a:Act) (w':World),OkSt {frM w ns So fn.ntmps with ghost:=gs} w (DoneX sd T fn m0 res m1 .ret) a w'→∃N S t m,Sat (frM w ns So fn.ntmps) w N S t m a w'∧DoneM sd T fn m0.length res m1 .ret ⟨t,m⟩∧(true=true→∀(k:Nat) (v:Value),ns[k]?=some v→∃x v',N (fn.ntmps+k)=some (x,v')∧SameHd v v'):=by
   rintro a w' ⟨N,S,t,m,hs,hd,hfix⟩
   have hs':Sat (frM w ns So fn.ntmps) w N S t m a w':=⟨hs.low,hs.nodef,hs.tmps,hs.blk,hs.non,hs.apart,hs.data,hs.fresh,hs.own,hs.base,hs.old,hs.lent,⟨hs.more.size,fun p hp=>(by cases hp),hs.more.aside,hs.more.inv⟩,hs.stay⟩
   refine⟨N,S,t,m,hs',hd,fun _ k v hk=>?_⟩
   have hkl:=lt_of_get hk
   rw[hmem.len] at hkl
   have hbk:=List.getElem?_eq_getElem hkl
   have hin:(inM fn.ntmps m0)[fn.ntmps+k]?=some (some (m0[k].sh fn.ntmps)):=by
    unfold inM
    rw[List.getElem?_append_left (by simp;omega),List.getElem?_append_right (by simp)]
    simp[hkl]
   have hmem2:isRow (inM fn.ntmps m0)[fn.ntmps+k]?=true→(V.ow (fn.ntmps+k) fixV,hdv v)∈gs:=fun hr=>by
    simp only[gs,List.mem_filter]
    refine⟨List.mem_of_getElem? (i:=k) ?_,hr⟩
    rw[List.getElem?_zip_eq_some]
    refine⟨?_,by rw[List.getElem?_map,hk];rfl⟩
    have:∀(l:List Bk) (n k:Nat),k<l.length→(rowV n l)[k]?=some (.ow (n+k) fixV):=by
     intro l
     induction l with
     |nil=>intro n k h;simp at h
     |cons b l ih=>
      intro n k h
      cases k with
      |zero=>simp[rowV]
      |succ k=>simp only[rowV,List.getElem?_cons_succ];rw[ih (n+1) k (by simpa using h)];congr 2;omega
    exact this m0 fn.ntmps k hkl
   rcases fixRows_get hfix k _ hbk with⟨cs,bt,hbx⟩|⟨k0,E,sz,f,xs,E',sz',f',xs',e,hm'⟩|⟨k0,A,o,A',o',e,hm'⟩
   ·obtain⟨g,ty,us,c1,_⟩:=hmem.blk k _ (hbk.trans (by rw[hbx]))
    have hv:v= .pointer (some ⟨g,0,none⟩):=by simpa[NamesOf,hk] using c1
    subst hv
    have:=(hs'.lent (fn.ntmps+k) ⟨g,0,none⟩ (by simp[frM,hk])).2.2
    exact⟨_,_,this,.inl rfl⟩
   ·have hg:=hs.more.ghost _ (hmem2 (by rw[hin,e];rfl))
    obtain⟨v',us',c1,c2,_⟩:=hs.blk _ _ hm'
    obtain⟨v0,us0,d1,d2,_⟩:=hmem.blk k _ (hbk.trans (by rw[e]))
    have hv0:v=v0:=(by simpa[NamesOf,hk] using d1:_∧v=v0).2
    subst hv0
    obtain⟨A0,c0,hv0⟩:=own_parts d2
    cases hg with
    |ow _ _ _ hu hx=>
     obtain⟨k',v2,g1,g2,g3⟩:=hx
     rw[c1] at g1;cases g1
     obtain⟨A,c,hv'⟩:=own_parts c2
     have hvv:v'=v:=by
      have:=g3 rfl
      rw[hv0,hv'] at this
      rw[hv0,hv']
      exact this.symm
     exact⟨fixV,v',c1,.inl hvv⟩
   ·have hg:=hs.more.ghost _ (hmem2 (by rw[hin,e];rfl))
    obtain⟨fs',us',c1,c2,_⟩:=hs.blk _ _ hm'
    obtain⟨fs0,us0,d1,d2,_⟩:=hmem.blk k _ (hbk.trans (by rw[e]))
    have hv0:v= .agg fs0:=(by simpa[NamesOf,hk] using d1:_∧v= .agg fs0).2
    subst hv0
    cases hg with
    |ow _ _ _ hu hx=>
     obtain⟨k',v2,g1,g2,g3⟩:=hx
     rw[c1] at g1;cases g1
     exact⟨fixV,_,c1,.inr ⟨fs0,fs',rfl,rfl,(g3 rfl).symm⟩⟩
  intro e a w' h
  cases e<;>simp only[QK] at h<;>first|exact h.elim|skip
  ·exact key a w' (fin a w' h)
  ·obtain⟨N,S,t,m,hs,h⟩:=h;exact h.1.elim
  ·exact key a w' (fin a w' h)
end
end Go.Proofs.YtdccglkagfdooaaGreatDoor
