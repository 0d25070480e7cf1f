/- Texts joined by pack.py: XSyP6 XSyP7 -/
import Derived.Test.YtdccglkagfdooaaGreatDoorBz20
namespace Go.Proofs.YtdccglkagfdooaaGreatDoor
theorem stop_sy {L:Int} {s:Bs} {r:List Tok} (h:binL s<L) (h1:s≠sLP) (h2:s≠sLB):Stop L (sy s::r):=by
 intro t ht
 simp only[List.head?_cons,Option.mem_some_iff] at ht
 subst ht
 refine⟨by simpa[opLv,tk] using h,?_,fun _=>?_⟩
 ·simp[isTk,tk,h1]
 ·simp[isTk,tk,h2]
theorem Begins.ne {L:Int} {w:List Tok} (h:Begins L w):w≠[]:=by obtain⟨t,l,rfl,_⟩:=h;simp
theorem Begins.mono {L L':Int} {w:List Tok} (h:Begins L w) (hl:L'≤L):Begins L' w:=by
 obtain⟨t,l,hw,hf⟩:=h;exact⟨t,l,hw,hf.mono hl⟩
theorem Begins.app {L:Int} {w r:List Tok} (h:Begins L w):Begins L (w++r):=by
 obtain⟨t,l,rfl,hf⟩:=h;exact⟨t,l++r,rfl,hf⟩
theorem Begins.noClose {L:Int} {w:List Tok} (h:Begins L w) {s:Bs} (hs:s=sRP∨s=sRB∨s=sRC∨s=sSc∨s=sEq1):isSym s w=false:=by
 obtain⟨t,l,rfl,hf⟩:=h;exact hf.noClose hs
theorem commaT_len:∀{ps:List (List Tok)},(∀p∈ps,p≠[])→ps.length≤(commaT ps).length
 |[],_=>by simp[commaT]
 |[p],h=>by
  have:=List.length_pos_iff.2 (h p (by simp))
  simp[commaT];omega
 |p::q::l,h=>by
  have h1:=List.length_pos_iff.2 (h p (by simp))
  have h2:=commaT_len (ps:=q::l) fun x hx=>h x (by simp[hx])
  simp only[commaT,List.length_append,List.length_cons] at h2⊢
  omega
structure Well (E:Pars) (T:Tr):Prop where
 rd:∀r,Stop 1 r→Rd1 E T T.tk r
 begins:Begins 1 T.tk
section
variable {e:Int} {E:Pars}
theorem paren_rd {T:Tr} (hT:Well E T) (r:List Tok):Rd1 (primP e E) T (sy sLP::(T.tk++[sy sRP])) r:=by
 intro ns
 have h1:=hT.rd (sy sRP::r) (stop_sy (by decide) (by decide) (by decide)) ns
 have e0:primP e E (sy sLP::(T.tk++[sy sRP])++r) ns=(match E (T.tk++sy sRP::r) ns with
   | .error o=> .error o
   | .ok (i,r2,ns2)=>match mustT e 5 sRP r2 with
    | .error o=> .error o
    | .ok r3=> .ok (i,r3,ns2)):=by
  rw[List.cons_append,List.append_assoc];rfl
 rw[e0,h1]
 rfl
theorem paren_begins (L:Int) (w:List Tok):Begins L (sy sLP::w):=⟨_,_,rfl,.inr (.inr (.inr (.inr (.inr (.inl ⟨rfl,.inl rfl⟩)))))⟩
theorem listF_good {fin:Bs} (hfin:fin=sRP∨fin=sRB) {r:List Tok}:∀(Ts:List Tr) (T:Tr),(∀X∈T::Ts,Well E X)→∀(f:Nat) (l:List Int) (ns:List Nd),Ts.length+1≤f→
  listF e fin E f l (commaT ((T::Ts).map Tr.tk)++sy fin::r) ns= .ok (l++Tr.roots ns.length (T::Ts),r,ns++Tr.flats ns.length (T::Ts))
 |[],T,hT,f,l,ns,hf=>by
  obtain⟨f,rfl⟩:∃g,f=g+1:=⟨f - 1,by simp at hf;omega⟩
  have h1:=(hT T (by simp)).rd (sy fin::r) (by rcases hfin with rfl|rfl<;>exact stop_sy (by decide) (by decide) (by decide)) ns
  simp only[List.map_cons,List.map_nil,commaT,listF,h1,isTk_hd,if_true,List.tail_cons,Tr.roots,Tr.flats,List.append_nil]
 |T2::Ts,T,hT,f,l,ns,hf=>by
  obtain⟨f,rfl⟩:∃g,f=g+1:=⟨f - 1,by simp at hf;omega⟩
  have h1:=(hT T (by simp)).rd (sy sCm::(commaT ((T2::Ts).map Tr.tk)++sy fin::r)) (stop_sy (by decide) (by decide) (by decide)) ns
  have h2:=listF_good hfin (r:=r) Ts T2 (fun X hX=>hT X (by simp[List.mem_cons.1 hX])) f (l++[((ns.length+T.size:Nat):Int) - 1]) (ns++T.flat ns.length) (by simp at hf⊢;omega)
  have hne:isSym fin (sy sCm::(commaT ((T2::Ts).map Tr.tk)++sy fin::r))=false:=by rcases hfin with rfl|rfl<;>rfl
  simp only[List.map_cons,commaT,List.append_assoc,List.cons_append] at h1 h2 hne⊢
  simp only[listF,h1,hne,Bool.false_eq_true,if_false,isTk_hd,if_true,List.tail_cons]
  rw[h2]
  simp only[Tr.roots,Tr.flats,List.length_append,Tr.flat_length,List.nil_append]
theorem listP_good {fin:Bs} (hfin:fin=sRP∨fin=sRB) {Ts:List Tr} (hT:∀X∈Ts,Well E X) (r:List Tok) (ns:List Nd):
  listP e fin E (commaT (Ts.map Tr.tk)++sy fin::r) ns= .ok (Tr.roots ns.length Ts,r,ns++Tr.flats ns.length Ts):=by
 cases Ts with
 |nil=>simp[commaT,listP,isTk_hd,Tr.roots,Tr.flats]
 |cons T Ts=>
  have hb:Begins 1 (commaT ((T::Ts).map Tr.tk)++sy fin::r):=by
   have:=(hT T (by simp)).begins
   cases Ts with
   |nil=>exact this.app
   |cons T2 Ts=>simp only[List.map_cons,commaT,List.append_assoc];exact this.app
  unfold listP
  rw[hb.noClose (by rcases hfin with rfl|rfl<;>simp)]
  have hlen:=commaT_len (ps:=(T::Ts).map Tr.tk) fun p hp=>by
   obtain⟨X,hX,rfl⟩:=List.mem_map.1 hp
   exact(hT X hX).begins.ne
  simp only[Bool.false_eq_true,if_false]
  rw[listF_good hfin Ts T hT _ _ _ (by simp only[List.length_append,List.length_map,List.length_cons] at hlen⊢;omega)]
  rfl
theorem keyF_good {r:List Tok} {a:Lab} (ha:a.kind=7∧a.text=[]∧a.val=0):∀(Ts:List Tr) (T:Tr) (ks:List Bs) (k:Bs),(∀X∈T::Ts,Well E X)→ks.length=Ts.length→∀(f:Nat) (ks0:List Bs) (Ts0:List Tr) (ns0:List Nd),Ts.length+1≤f→
  a.keys=ks0++k::ks→ascB (ks0++k::ks)=true→
  keyF e E f ks0 (Tr.roots ns0.length Ts0) (commaT (keysT (k::ks) ((T::Ts).map Tr.tk))++sy sRC::r) (ns0++Tr.flats ns0.length Ts0)= .ok (((ns0.length+(Tr.node a (Ts0++T::Ts)).size:Nat):Int) - 1,r,ns0++(Tr.node a (Ts0++T::Ts)).flat ns0.length):=by
 have asc:∀(ks0:List Bs) (k:Bs) (ks:List Bs),ascB (ks0++k::ks)=true→ks0=[]∨Op.bytesLess (ks0.getLastD []) k=true:=by
  intro ks0
  induction ks0 with
  |nil=>intro k ks _;exact .inl rfl
  |cons x ks0 ih=>
   intro k ks h
   right
   cases ks0 with
   |nil=>
    simp only[List.cons_append,List.nil_append,ascB,Bool.and_eq_true] at h
    exact h.1.2
   |cons y ks0=>
    simp only[List.cons_append,ascB,Bool.and_eq_true] at h
    rcases ih k ks (by simpa using h.2) with h'|h'
    ·cases h'
    ·simpa using h'
 obtain⟨ha1,ha2,ha3⟩:=ha
 intro Ts
 induction Ts with
 |nil=>
  intro T ks k hT hl f ks0 Ts0 ns0 hf hk hasc
  obtain⟨f,rfl⟩:∃g,f=g+1:=⟨f - 1,by simp at hf;omega⟩
  have hks:ks=[]:=List.length_eq_zero_iff.1 (by simpa using hl)
  subst hks
  have h1:=(hT T (by simp)).rd (sy sRC::r) (stop_sy (by decide) (by decide) (by decide)) (ns0++Tr.flats ns0.length Ts0)
  have hc:pKind (tk 4 k::sy sCl::(T.tk++sy sRC::r))=4∧(tk 4 k::sy sCl::(T.tk++sy sRC::r))≠[]∧(ks0=[]∨Op.bytesLess (ks0.getLastD []) (pText (tk 4 k::sy sCl::(T.tk++sy sRC::r)))=true):=⟨rfl,by simp,asc ks0 k [] hasc⟩
  simp only[List.map_cons,List.map_nil,keysT,commaT,List.cons_append]
  simp only[keyF,if_pos hc]
  simp only[List.tail_cons,mustT,isTk_hd,if_true,h1,pText]
  have:=addN_tree (a:=a) (ns:=ns0) (Ts:=Ts0++[T]) (r:=r) (l:=Tr.roots ns0.length Ts0++[(((ns0++Tr.flats ns0.length Ts0).length+T.size:Nat):Int) - 1]) (by simp[Tr.roots_append,Tr.roots,Tr.flats_length])
  rw[ha1,ha2,ha3,hk] at this
  rw[←this]
  simp only[Tr.flats_append,Tr.flats,List.append_nil,List.length_append,Tr.flats_length,List.append_assoc,tk]
 |cons T2 Ts ih=>
  intro T ks k hT hl f ks0 Ts0 ns0 hf hk hasc
  obtain⟨f,rfl⟩:∃g,f=g+1:=⟨f - 1,by simp at hf;omega⟩
  obtain⟨k2,ks,rfl⟩:∃k2 ks',ks=k2::ks':=by
   cases ks with
   |nil=>simp at hl
   |cons k2 ks=>exact⟨k2,ks,rfl⟩
  have h1:=(hT T (by simp)).rd (sy sCm::(commaT (keysT (k2::ks) ((T2::Ts).map Tr.tk))++sy sRC::r)) (stop_sy (by decide) (by decide) (by decide)) (ns0++Tr.flats ns0.length Ts0)
  have h2:=ih T2 ks k2 (fun X hX=>hT X (by simp[List.mem_cons.1 hX])) (by simpa using hl) f (ks0++[k]) (Ts0++[T]) ns0 (by simp at hf⊢;omega) (by simpa using hk) (by simpa using hasc)
  have hc:∀q,pKind (tk 4 k::q)=4∧(tk 4 k::q)≠[]∧(ks0=[]∨Op.bytesLess (ks0.getLastD []) (pText (tk 4 k::q))=true):=fun q=>⟨rfl,by simp,asc ks0 k _ hasc⟩
  have hne:∀q,isSym sRC (sy sCm::q)=false:=fun _=>rfl
  simp only[List.map_cons,keysT,commaT,List.append_assoc,List.cons_append,List.nil_append] at h1 h2⊢
  simp only[keyF,if_pos (hc _)]
  simp only[List.tail_cons,mustT,isTk_hd,if_true,h1,pText,hne,Bool.false_eq_true,if_false]
  rw[←h2]
  simp only[Tr.roots_append,Tr.roots,Tr.flats_append,Tr.flats,List.append_nil,List.length_append,Tr.flats_length,tk]
theorem keyP_good {r:List Tok} {a:Lab} (ha:a.kind=7∧a.text=[]∧a.val=0) {Ts:List Tr} (hT:∀X∈Ts,Well E X) (hl:a.keys.length=Ts.length) (hasc:ascB a.keys=true) (ns:List Nd):
  keyP e E (commaT (keysT a.keys (Ts.map Tr.tk))++sy sRC::r) ns= .ok (((ns.length+(Tr.node a Ts).size:Nat):Int) - 1,r,ns++(Tr.node a Ts).flat ns.length):=by
 cases Ts with
 |nil=>
  have hk:a.keys=[]:=List.length_eq_zero_iff.1 (by simpa using hl)
  have:=addN_tree (a:=a) (ns:=ns) (Ts:=[]) (r:=r) (l:=[]) rfl
  obtain⟨ha1,ha2,ha3⟩:=ha
  rw[ha1,ha2,ha3,hk] at this
  simp only[Tr.flats,List.append_nil] at this
  simp only[hk,keysT,List.map_nil,commaT,List.nil_append,keyP,isTk_hd,if_true,List.tail_cons]
  exact this
 |cons T Ts=>
  obtain⟨k,ks,hk⟩:∃k ks,a.keys=k::ks:=by
   cases hk:a.keys with
   |nil=>rw[hk] at hl;simp at hl
   |cons k ks=>exact⟨k,ks,rfl⟩
  have hb:isSym sRC (commaT (keysT (k::ks) ((T::Ts).map Tr.tk))++sy sRC::r)=false:=by
   simp only[List.map_cons,keysT]
   cases hq:keysT ks (Ts.map Tr.tk)<;>rfl
  unfold keyP
  rw[hk,hb]
  simp only[Bool.false_eq_true,if_false]
  have hlen:Ts.length+1≤(commaT (keysT (k::ks) ((T::Ts).map Tr.tk))++sy sRC::r).length:=by
   have h1:∀(ks:List Bs) (ps:List (List Tok)),ks.length=ps.length→(keysT ks ps).length=ps.length∧∀p∈keysT ks ps,p≠[]:=by
    intro ks
    induction ks with
    |nil=>intro ps h;cases ps with
     |nil=>exact⟨rfl,fun p h=>by cases h⟩
     |cons=>simp at h
    |cons k ks ih=>
     intro ps h
     cases ps with
     |nil=>simp at h
     |cons p ps=>
      obtain⟨h2,h3⟩:=ih ps (by simpa using h)
      refine⟨by simp[keysT,h2],fun q hq=>?_⟩
      simp only[keysT,List.mem_cons] at hq
      rcases hq with rfl|hq
      ·simp
      ·exact h3 q hq
   obtain⟨h2,h3⟩:=h1 (k::ks) ((T::Ts).map Tr.tk) (by rw[←hk,hl];simp)
   have:=commaT_len h3
   rw[h2] at this
   simp only[List.length_append,List.length_map,List.length_cons] at this⊢
   omega
  have:=keyF_good (e:=e) (E:=E) (r:=r) ha Ts T ks k hT (by rw[hk] at hl;simpa using hl) _ [] [] ns hlen (by simpa using hk) (by rw[hk] at hasc;simpa using hasc)
  simpa[Tr.roots,Tr.flats] using this
end
end Go.Proofs.YtdccglkagfdooaaGreatDoor
namespace Go.Proofs.YtdccglkagfdooaaGreatDoor
theorem fields_facts {a:Lab} {n:Nat} (h:fieldsB a n=true):(a.kind≠7→a.keys=[])∧(a.kind≠2→a.kind≠3→a.val=0):=by
 unfold fieldsB at h
 split at h
 ·cases h
 ·rename_i h1
  simp only[not_or,not_and,Classical.not_not] at h1
  exact⟨h1.1,h1.2⟩
theorem wf_parts {a:Lab} {ts:List Tr} (h:(Tr.node a ts).wf=true):fieldsB a ts.length=true∧countB a.kind ts.length=true∧Tr.wfs a.kind 0 ts=true:=by
 simp only[Tr.wf,Bool.and_eq_true] at h
 exact⟨h.1.1,h.1.2,h.2⟩
theorem wfs_mem {k:Int}:∀{ts:List Tr} {j:Nat},Tr.wfs k j ts=true→∀(i:Nat) (T:Tr),ts[i]?=some T→T.wf=true∧fitsB k (j+i) T.kind=true
 |[],j,_,i,T,h=>by simp at h
 |t::ts,j,h,i,T,hi=>by
  simp only[Tr.wfs,Bool.and_eq_true] at h
  cases i with
  |zero=>simp at hi;subst hi;exact⟨h.1.2,h.1.1⟩
  |succ i=>
   have:=wfs_mem h.2 i T (by simpa using hi)
   rw[show j+1+i=j+(i+1) by omega] at this
   exact this
theorem wfs_expr {k:Int} (hk:k≠19∧k≠15∧k≠16) {ts:List Tr} (h:Tr.wfs k 0 ts=true):∀T∈ts,T.wf=true∧exprK T.kind=true:=by
 intro T hT
 obtain⟨i,hi⟩:=List.getElem?_of_mem hT
 obtain⟨h1,h2⟩:=wfs_mem h i T hi
 simp only[fitsB,if_neg hk.1] at h2
 rw[if_neg (by rintro⟨h|h,_⟩;exact hk.2.1 h;exact hk.2.2 h)] at h2
 exact⟨h1,h2⟩
theorem exprK_cases {k:Int} (h:exprK k=true):k=1∨k=2∨k=3∨k=4∨k=5∨k=6∨k=7∨k=8∨k=9∨k=10∨k=11∨k=12:=by
 simp only[exprK,Bool.and_eq_true,decide_eq_true_eq] at h
 omega
theorem len0 {ts:List Tr} (h:ts.length=0):ts=[]:=List.length_eq_zero_iff.1 h
theorem len1 {ts:List Tr} (h:ts.length=1):∃a,ts=[a]:=List.length_eq_one_iff.1 h
theorem len2 {ts:List Tr} (h:ts.length=2):∃a b,ts=[a,b]:=by
 match ts,h with
 |[a,b],_=>exact⟨a,b,rfl⟩
section
variable {e:Int} {E:Pars}
theorem one_tree {a:Lab} {r:List Tok} {ns:List Nd}:addN ⟨a.kind,a.text,a.val,a.keys,[]⟩ r ns= .ok (((ns.length+(Tr.node a []).size:Nat):Int) - 1,r,ns++(Tr.node a []).flat ns.length):=by
 have:=addN_tree (a:=a) (ns:=ns) (Ts:=[]) (r:=r) (l:=[]) rfl
 simpa[Tr.flats] using this
theorem prim_good {a:Lab} {ts:List Tr} (hw:(Tr.node a ts).wf=true) (hk:exprK a.kind=true) (h8:a.kind≠8) (h9:a.kind≠9) (h10:a.kind≠10) (hT:∀X∈ts,Well E X):(∀r,Stop 9 r→Rd1 (primP e E) (.node a ts) (Tr.node a ts).tk r)∧Begins 9 (Tr.node a ts).tk:=by
 obtain⟨hf,hc,_⟩:=wf_parts hw
 obtain⟨hkeys,hval⟩:=fields_facts hf
 obtain⟨kind,text,val,keys⟩:=a
 simp only at hk h8 h9 h10 hf hc hkeys hval
 have noLP:∀r,Stop 9 r→isSym sLP r=false:=fun r hr=>by
  cases r with
  |nil=>rfl
  |cons t r=>exact(hr t rfl).2.1
 have hl:=Tr.tkl_eq ts
 rcases exprK_cases hk with rfl|rfl|rfl|rfl|rfl|rfl|rfl|rfl|rfl|rfl|rfl|rfl
 ·obtain rfl:=hkeys (by decide);obtain rfl:=hval (by decide) (by decide)
  obtain rfl:ts=[]:=len0 (by simpa[countB] using hc)
  obtain rfl:text=[]:=by simpa[fieldsB] using hf
  exact⟨fun r hr ns=>one_tree (a:=⟨1,[],0,[]⟩),⟨_,_,rfl,.inr (.inr (.inr (.inr (.inl ⟨rfl,.inl rfl⟩))))⟩⟩
 ·obtain rfl:=hkeys (by decide)
  obtain rfl:ts=[]:=len0 (by simpa[countB] using hc)
  obtain⟨rfl,hv⟩:text=[]∧(val=0∨val=1):=by simpa[fieldsB] using hf
  rcases hv with rfl|rfl
  ·exact⟨fun r hr ns=>one_tree (a:=⟨2,[],0,[]⟩),⟨_,_,rfl,.inr (.inr (.inr (.inr (.inl ⟨rfl,.inr (.inr rfl)⟩))))⟩⟩
  ·exact⟨fun r hr ns=>one_tree (a:=⟨2,[],1,[]⟩),⟨_,_,rfl,.inr (.inr (.inr (.inr (.inl ⟨rfl,.inr (.inl rfl)⟩))))⟩⟩
 ·obtain rfl:=hkeys (by decide)
  obtain rfl:ts=[]:=len0 (by simpa[countB] using hc)
  obtain⟨⟨rfl,_⟩,_⟩:(text=[]∧0≤val)∧val≤1000000000000:=by simpa[fieldsB] using hf
  exact⟨fun r hr ns=>one_tree (a:=⟨3,[],val,[]⟩),⟨_,_,rfl,.inr (.inl rfl)⟩⟩
 ·obtain rfl:=hkeys (by decide);obtain rfl:=hval (by decide) (by decide)
  obtain rfl:ts=[]:=len0 (by simpa[countB] using hc)
  exact⟨fun r hr ns=>one_tree (a:=⟨4,text,0,[]⟩),⟨_,_,rfl,.inr (.inr (.inl rfl))⟩⟩
 ·obtain rfl:=hkeys (by decide);obtain rfl:=hval (by decide) (by decide)
  obtain rfl:ts=[]:=len0 (by simpa[countB] using hc)
  refine⟨fun r hr ns=>?_,⟨_,_,rfl,.inl rfl⟩⟩
  have e1:primP e E ((Tr.node ⟨5,text,0,[]⟩ []).tk++r) ns=(if isSym sLP r then(match listP e sRP E r.tail ns with
    | .error o=> .error o
    | .ok (l,r2,ns2)=>addN (ndM 11 text 0 l) r2 ns2) else addN (ndM 5 text 0 []) r ns):=rfl
  rw[e1,noLP r hr]
  exact one_tree (a:=⟨5,text,0,[]⟩)
 ·obtain rfl:=hkeys (by decide);obtain rfl:=hval (by decide) (by decide)
  obtain rfl:text=[]:=by simpa[fieldsB] using hf
  refine⟨fun r hr ns=>?_,⟨_,_,rfl,.inr (.inr (.inr (.inr (.inr (.inl ⟨rfl,.inr (.inl rfl)⟩)))))⟩⟩
  have e1:primP e E ((Tr.node ⟨6,[],0,[]⟩ ts).tk++r) ns=(match listP e sRB E (commaT (Tr.tkl ts)++[sy sRB]++r) ns with
    | .error o=> .error o
    | .ok (l,r2,ns2)=>addN (ndM 6 [] 0 l) r2 ns2):=rfl
  rw[e1,hl,List.append_assoc,List.singleton_append,listP_good (.inr rfl) hT]
  exact addN_tree (a:=⟨6,[],0,[]⟩) rfl
 ·obtain rfl:=hval (by decide) (by decide)
  obtain⟨⟨rfl,h2⟩,h3⟩:(text=[]∧keys.length=ts.length)∧ascB keys=true:=by simpa[fieldsB] using hf
  refine⟨fun r hr ns=>?_,⟨_,_,rfl,.inr (.inr (.inr (.inr (.inr (.inl ⟨rfl,.inr (.inr rfl)⟩)))))⟩⟩
  have e1:primP e E ((Tr.node ⟨7,[],0,keys⟩ ts).tk++r) ns=keyP e E (commaT (keysT keys (Tr.tkl ts))++[sy sRC]++r) ns:=rfl
  rw[e1,hl,List.append_assoc,List.singleton_append]
  exact keyP_good (a:=⟨7,[],0,keys⟩) ⟨rfl,rfl,rfl⟩ hT h2 h3 ns
 ·exact absurd rfl h8
 ·exact absurd rfl h9
 ·exact absurd rfl h10
 ·obtain rfl:=hkeys (by decide);obtain rfl:=hval (by decide) (by decide)
  refine⟨fun r hr ns=>?_,⟨_,_,rfl,.inl rfl⟩⟩
  have e1:primP e E ((Tr.node ⟨11,text,0,[]⟩ ts).tk++r) ns=(match listP e sRP E (commaT (Tr.tkl ts)++[sy sRP]++r) ns with
    | .error o=> .error o
    | .ok (l,r2,ns2)=>addN (ndM 11 text 0 l) r2 ns2):=rfl
  rw[e1,hl,List.append_assoc,List.singleton_append,listP_good (.inl rfl) hT]
  exact addN_tree (a:=⟨11,text,0,[]⟩) rfl
 ·obtain rfl:=hkeys (by decide);obtain rfl:=hval (by decide) (by decide)
  refine⟨fun r hr ns=>?_,⟨_,_,rfl,.inr (.inr (.inr (.inl rfl)))⟩⟩
  have e1:primP e E ((Tr.node ⟨12,text,0,[]⟩ ts).tk++r) ns=(match listP e sRP E (commaT (Tr.tkl ts)++[sy sRP]++r) ns with
    | .error o=> .error o
    | .ok (l,r2,ns2)=>addN (ndM 12 text 0 l) r2 ns2):=rfl
  rw[e1,hl,List.append_assoc,List.singleton_append,listP_good (.inl rfl) hT]
  exact addN_tree (a:=⟨12,text,0,[]⟩) rfl
def IsCh (M:Nat) (kk:Int) (ops:List Bs):Prop:=(M=1∧kk=2∧ops=[wOr])∨(M=2∧kk=2∧ops=[wAnd])∨(M=5∧kk=5∧ops=opAdd)∨(M=6∧kk=5∧ops=opMul)
theorem IsCh.eq {M:Nat} {kk:Int} {ops:List Bs} (h:IsCh M kk ops):PL e E M=chainP kk ops (PL e E (M+1)):=by
 rcases h with⟨rfl,rfl,rfl⟩|⟨rfl,rfl,rfl⟩|⟨rfl,rfl,rfl⟩|⟨rfl,rfl,rfl⟩<;>rfl
theorem IsCh.stop {M:Nat} {kk:Int} {ops:List Bs} (h:IsCh M kk ops) {r:List Tok} (hs:Stop (M:Int) r):¬(pKind r=kk∧ops.contains (pText r)=true∧r≠[]):=by
 rcases h with⟨rfl,rfl,rfl⟩|⟨rfl,rfl,rfl⟩|⟨rfl,rfl,rfl⟩|⟨rfl,rfl,rfl⟩
 ·exact stop_no hs (.inr rfl) fun s h=>by rw[binL_or.1 h];decide
 ·exact stop_no hs (.inr rfl) fun s h=>by rw[binL_and.1 h];decide
 ·exact stop_no hs (.inl rfl) fun s h=>by rw[binL_add.1 h];decide
 ·exact stop_no hs (.inl rfl) fun s h=>by rw[binL_mul.1 h];decide
structure Good (e:Int) (E:Pars) (T:Tr):Prop where
 ex:∃M:Nat,T.level=(M:Int)∧1≤M∧M≤9∧Begins (M:Int) T.tk∧(∀r,Stop (M:Int) r→Rd1 (PL e E M) T T.tk r)∧
  (∀kk ops,IsCh M kk ops→∀r ns,Stop ((M+1:Nat):Int) r→chainP kk ops (PL e E (M+1)) (T.tk++r) ns=chainF kk ops (PL e E (M+1)) r.length (((ns.length+T.size:Nat):Int) - 1) r (ns++T.flat ns.length))∧
  (M=8→∀r ns,Stop 9 r→postP e E (T.tk++r) ns=postF e E r.length (((ns.length+T.size:Nat):Int) - 1) r (ns++T.flat ns.length))
theorem q_good (hC:EatsP E) {A:Tr} (hA:Good e E A) (hw:Well E A) (L:Nat) (h1:1≤L) (h9:L≤9):(∀r,Stop (L:Int) r→Rd1 (PL e E L) A (qT A.level L A.tk) r)∧Begins (L:Int) (qT A.level L A.tk):=by
 obtain⟨M,hM,hM1,hM9,hb,hr,_⟩:=hA.ex
 unfold qT
 rw[hM]
 by_cases hlt:(M:Int)<(L:Int)
 ·rw[if_pos hlt]
  exact⟨fun r hs=>lifts' hC h1 h9 (Nat.le_refl 9) hs (paren_rd hw r) (paren_begins _ _),paren_begins _ _⟩
 ·rw[if_neg hlt]
  exact⟨fun r hs=>lifts' hC h1 (by omega) hM9 hs (hr r (hs.mono (by omega))) hb,hb.mono (by omega)⟩
theorem q_chain (hC:EatsP E) {A:Tr} (hA:Good e E A) (hw:Well E A) {L:Nat} {kk:Int} {ops:List Bs} (hI:IsCh L kk ops) (r:List Tok) (ns:List Nd) (hs:Stop ((L+1:Nat):Int) r):
  chainP kk ops (PL e E (L+1)) (qT A.level L A.tk++r) ns=chainF kk ops (PL e E (L+1)) r.length (((ns.length+A.size:Nat):Int) - 1) r (ns++A.flat ns.length):=by
 have hL:1≤L+1∧L+1≤9:=by
  rcases hI with⟨rfl,_⟩|⟨rfl,_⟩|⟨rfl,_⟩|⟨rfl,_⟩<;>omega
 obtain⟨M,hM,hM1,hM9,hb,hr,hch,_⟩:=hA.ex
 unfold qT
 rw[hM]
 by_cases hlt:(M:Int)<(L:Int)
 ·rw[if_pos hlt]
  exact chain_from (PL_eats hC _) (lifts' hC hL.1 hL.2 (Nat.le_refl 9) hs (paren_rd hw r) (paren_begins _ _)) ns
 ·rw[if_neg hlt]
  rcases Nat.lt_or_ge L M with h|h
  ·exact chain_from (PL_eats hC _) (lifts' hC hL.1 (by omega) hM9 hs (hr r (hs.mono (by omega))) hb) ns
  ·obtain rfl:L=M:=by omega
   exact hch kk ops hI r ns hs
theorem q_post {A:Tr} (hA:Good e E A) (hw:Well E A) (r:List Tok) (ns:List Nd) (hs:Stop 9 r):
  postP e E (qT A.level 8 A.tk++r) ns=postF e E r.length (((ns.length+A.size:Nat):Int) - 1) r (ns++A.flat ns.length):=by
 obtain⟨M,hM,hM1,hM9,hb,hr,_,hp⟩:=hA.ex
 have fin:∀w,Rd1 (primP e E) A w r→postP e E (w++r) ns=postF e E r.length (((ns.length+A.size:Nat):Int) - 1) r (ns++A.flat ns.length):=fun w h=>by
  unfold postP
  rw[h ns]
 unfold qT
 rw[hM]
 by_cases hlt:(M:Int)<8
 ·rw[if_pos hlt]
  exact fin _ (paren_rd hw r)
 ·rw[if_neg hlt]
  rcases Nat.lt_or_ge 8 M with h|h
  ·obtain rfl:M=9:=by omega
   exact fin _ (hr r hs)
  ·obtain rfl:M=8:=by omega
   exact hp rfl r ns hs
end
theorem qT_begins {L:Nat} {lv:Int} {p:List Tok} {M:Nat} (hlv:lv=(M:Int)) (hp:Begins (M:Int) p):Begins (L:Int) (qT lv L p):=by
 unfold qT
 split
 ·exact paren_begins _ _
 ·rename_i h;exact hp.mono (by omega)
theorem stop_op {L:Int} {op:Bs} {k:Int} (hk:k=opK op) (h0:0<binL op) (h:binL op<L) (r:List Tok):Stop L (tk k op::r):=by
 intro t ht
 simp only[List.head?_cons,Option.mem_some_iff] at ht
 subst ht
 have h1:op≠sLP:=by rintro rfl;revert h0;decide
 have h2:op≠sLB:=by rintro rfl;revert h0;decide
 refine⟨?_,?_,fun _=>?_⟩
 ·unfold opLv
  rw[if_pos (by subst hk;unfold opK;split<;>simp[tk])]
  exact h
 ·simp[isTk,tk,h1]
 ·simp[isTk,tk,h2]
theorem main_good {e:Int} {E:Pars} (hC:EatsP E) {h:Nat} (hE:∀T:Tr,T.wf=true→exprK T.kind=true→T.ht≤h→Well E T):∀(n:Nat) (T:Tr),T.size≤n→T.wf=true→exprK T.kind=true→T.ht≤h+1→Good e E T:=by
 intro n
 induction n with
 |zero=>intro T hn;have:=T.size_pos;omega
 |succ n ih=>
  intro T hn hw hk hh
  obtain⟨a,ts⟩:=T
  obtain⟨hf,hc,hws⟩:=wf_parts hw
  have hk':exprK a.kind=true:=hk
  have hkk:a.kind≠19∧a.kind≠15∧a.kind≠16:=by
   simp only[exprK,Bool.and_eq_true,decide_eq_true_eq] at hk'
   omega
  have hkids:=wfs_expr hkk hws
  have hth:Tr.hts ts≤h:=by simp only[Tr.ht] at hh;omega
  have hwell:∀X∈ts,Well E X:=fun X hX=>hE X (hkids X hX).1 (hkids X hX).2 (by have:=Tr.ht_mem hX;omega)
  have hsz:∀X∈ts,X.size≤n:=fun X hX=>by
   have:∀(l:List Tr),X∈l→X.size≤Tr.sizes l:=by
    intro l
    induction l with
    |nil=>intro h;cases h
    |cons y l ih=>
     intro h
     simp only[Tr.sizes]
     rcases List.mem_cons.1 h with rfl|h
     ·omega
     ·have:=ih h;omega
   have:=this ts hX
   simp only[Tr.size] at hn
   omega
  have hgood:∀X∈ts,Good e E X:=fun X hX=>ih X (hsz X hX) (hkids X hX).1 (hkids X hX).2 (by have:=Tr.ht_mem hX;omega)
  obtain⟨hkeys,hval⟩:=fields_facts hf
  by_cases h9:a.kind=9
  ·-- operators
   obtain⟨kind,text,val,keys⟩:=a
   simp only at h9
   subst h9
   obtain rfl:=hkeys (by simp)
   obtain rfl:=hval (by simp) (by simp)
   obtain⟨A,B,rfl⟩:=len2 (ts:=ts) (by simpa[countB] using hc)
   have hb0:0<binL text:=by simpa[fieldsB] using hf
   have gA:=hgood A (by simp)
   have gB:=hgood B (by simp)
   have wA:=hwell A (by simp)
   have wB:=hwell B (by simp)
   have hlev:(Tr.node ⟨9,text,0,[]⟩ [A,B]).level=binL text:=rfl
   have htk:(Tr.node ⟨9,text,0,[]⟩ [A,B]).tk=qT A.level (if binL text=4 then 5 else binL text) A.tk++tk (opK text) text::qT B.level (binL text+1) B.tk:=rfl
   have chain:∀(L:Nat) (kk:Int) (ops:List Bs),IsCh L kk ops→binL text=(L:Int)→opK text=kk→ops.contains text=true→Good e E (Tr.node ⟨9,text,0,[]⟩ [A,B]):=by
    intro L kk ops hI hL hkk hops
    have hL6:1≤L∧L≤6∧L≠4:=by
     rcases hI with⟨rfl,_⟩|⟨rfl,_⟩|⟨rfl,_⟩|⟨rfl,_⟩<;>omega
    have htk':(Tr.node ⟨9,text,0,[]⟩ [A,B]).tk=qT A.level L A.tk++tk kk text::qT B.level ((L+1:Nat):Int) B.tk:=by
     rw[htk,hL,hkk,if_neg (by omega)];rfl
    have hch:∀r ns,Stop ((L+1:Nat):Int) r→chainP kk ops (PL e E (L+1)) ((Tr.node ⟨9,text,0,[]⟩ [A,B]).tk++r) ns=chainF kk ops (PL e E (L+1)) r.length (((ns.length+(Tr.node ⟨9,text,0,[]⟩ [A,B]).size:Nat):Int) - 1) r (ns++(Tr.node ⟨9,text,0,[]⟩ [A,B]).flat ns.length):=by
     intro r ns hs
     rw[htk',List.append_assoc,List.cons_append]
     refine chain_step (PL_eats hC _) hops (fun r'=>?_) ((q_good hC gB wB (L+1) (by omega) (by omega)).1 r hs)
     exact q_chain hC gA wA hI _ ns (stop_op hkk.symm hb0 (by omega) r')
    refine⟨L,by rw[hlev,hL],hL6.1,by omega,?_,fun r hs=>?_,fun kk' ops' hI' r ns hs=>?_,fun h8=>by omega⟩
    ·rw[htk']
     exact(q_good hC gA wA L hL6.1 (by omega)).2.app
    ·intro ns
     rw[hI.eq,hch r ns (hs.mono (by omega)),chainF_stop (hI.stop hs)]
    ·have:kk'=kk∧ops'=ops:=by
      rcases hI with⟨rfl,rfl,rfl⟩|⟨rfl,rfl,rfl⟩|⟨rfl,rfl,rfl⟩|⟨rfl,rfl,rfl⟩<;>rcases hI' with⟨h,rfl,rfl⟩|⟨h,rfl,rfl⟩|⟨h,rfl,rfl⟩|⟨h,rfl,rfl⟩<;>first|exact⟨rfl,rfl⟩|omega
     obtain⟨rfl,rfl⟩:=this
     exact hch r ns hs
   rcases binL_cases text with h0|h1|h2|h4|h5|h6
   ·omega
   ·exact chain 1 2 [wOr] (.inl ⟨rfl,rfl,rfl⟩) h1 (by rw[opK_lv,if_pos (.inl h1)]) (binL_or.2 h1)
   ·exact chain 2 2 [wAnd] (.inr (.inl ⟨rfl,rfl,rfl⟩)) h2 (by rw[opK_lv,if_pos (.inr h2)]) (binL_and.2 h2)
   ·-- comparisons
    have hop:opK text=5:=by rw[opK_lv,if_neg (by omega)]
    have htk':(Tr.node ⟨9,text,0,[]⟩ [A,B]).tk=qT A.level ((5:Nat):Int) A.tk++tk 5 text::qT B.level ((5:Nat):Int) B.tk:=by
     rw[htk,h4,hop];rfl
    obtain⟨rA,bA⟩:=q_good hC gA wA 5 (by omega) (by omega)
    obtain⟨rB,bB⟩:=q_good hC gB wB 5 (by omega) (by omega)
    refine⟨4,by rw[hlev,h4];rfl,by omega,by omega,?_,fun r hs ns=>?_,fun kk ops hI=>?_,fun h=>by omega⟩
    ·rw[htk'];exact(bA.mono (by decide)).app
    ·rw[htk',List.append_assoc,List.cons_append]
     have e1:=rA (tk 5 text::(qT B.level ((5:Nat):Int) B.tk++r)) (stop_op hop.symm hb0 (by omega) _) ns
     have e2:=rB r (hs.mono (by decide)) (ns++A.flat ns.length)
     show cmpP e E _ ns=_
     unfold cmpP
     rw[show sumP e E (qT A.level ((5:Nat):Int) A.tk++tk 5 text::(qT B.level ((5:Nat):Int) B.tk++r)) ns=_ from e1]
     have hcond:pKind (tk 5 text::(qT B.level ((5:Nat):Int) B.tk++r))=5∧opCmp.contains (pText (tk 5 text::(qT B.level ((5:Nat):Int) B.tk++r)))=true∧(tk 5 text::(qT B.level ((5:Nat):Int) B.tk++r))≠[]:=⟨rfl,binL_cmp.2 h4,by simp⟩
     simp only[if_pos hcond,List.tail_cons]
     rw[show sumP e E (qT B.level ((5:Nat):Int) B.tk++r) (ns++A.flat ns.length)=_ from e2]
     have:=addN_tree (a:=⟨9,text,0,[]⟩) (ns:=ns) (Ts:=[A,B]) (r:=r) (l:=[((ns.length+A.size:Nat):Int) - 1,(((ns++A.flat ns.length).length+B.size:Nat):Int) - 1]) (by simp[Tr.roots,Tr.flat_length])
     rw[←this]
     simp only[Tr.flats,List.append_nil,List.append_assoc,List.length_append,Tr.flat_length,ndM,pText,tk]
    ·rcases hI with⟨h,_⟩|⟨h,_⟩|⟨h,_⟩|⟨h,_⟩<;>omega
   ·exact chain 5 5 opAdd (.inr (.inr (.inl ⟨rfl,rfl,rfl⟩))) h5 (by rw[opK_lv,if_neg (by omega)]) (binL_add.2 h5)
   ·exact chain 6 5 opMul (.inr (.inr (.inr ⟨rfl,rfl,rfl⟩))) h6 (by rw[opK_lv,if_neg (by omega)]) (binL_mul.2 h6)
  by_cases h8:a.kind=8
  ·obtain⟨kind,text,val,keys⟩:=a
   simp only at h8
   subst h8
   obtain rfl:=hkeys (by simp)
   obtain rfl:=hval (by simp) (by simp)
   obtain⟨A,rfl⟩:=len1 (ts:=ts) (by simpa[countB] using hc)
   have gA:=hgood A (by simp)
   have wA:=hwell A (by simp)
   rcases(show text=sMi∨text=wNot by simpa[fieldsB] using hf) with rfl|rfl
   ·obtain⟨rA,bA⟩:=q_good hC gA wA 7 (by omega) (by omega)
    refine⟨7,rfl,by omega,by omega,⟨_,_,rfl,.inr (.inr (.inr (.inr (.inr (.inr (.inl ⟨rfl,rfl,by decide⟩))))))⟩,fun r hs ns=>?_,fun kk ops hI=>?_,fun h=>by omega⟩
    ·have e2:=rA r hs ns
     have e1:PL e E 7 ((Tr.node ⟨8,sMi,0,[]⟩ [A]).tk++r) ns=(match unaryP e E (qT A.level ((7:Nat):Int) A.tk++r) ns with
       | .error o=> .error o
       | .ok (i,r2,ns2)=>addN (ndM 8 sMi 0 [i]) r2 ns2):=rfl
     rw[e1,show unaryP e E (qT A.level ((7:Nat):Int) A.tk++r) ns=_ from e2]
     have:=addN_tree (a:=⟨8,sMi,0,[]⟩) (ns:=ns) (Ts:=[A]) (r:=r) (l:=[((ns.length+A.size:Nat):Int) - 1]) (by simp[Tr.roots])
     rw[←this]
     simp only[Tr.flats,List.append_nil,ndM]
    ·rcases hI with⟨h,_⟩|⟨h,_⟩|⟨h,_⟩|⟨h,_⟩<;>omega
   ·obtain⟨rA,bA⟩:=q_good hC gA wA 3 (by omega) (by omega)
    refine⟨3,rfl,by omega,by omega,⟨_,_,rfl,.inr (.inr (.inr (.inr (.inr (.inr (.inr ⟨rfl,rfl,by decide⟩))))))⟩,fun r hs ns=>?_,fun kk ops hI=>?_,fun h=>by omega⟩
    ·have e2:=rA r hs ns
     have e1:PL e E 3 ((Tr.node ⟨8,wNot,0,[]⟩ [A]).tk++r) ns=(match notP e E (qT A.level ((3:Nat):Int) A.tk++r) ns with
       | .error o=> .error o
       | .ok (i,r2,ns2)=>addN (ndM 8 wNot 0 [i]) r2 ns2):=rfl
     rw[e1,show notP e E (qT A.level ((3:Nat):Int) A.tk++r) ns=_ from e2]
     have:=addN_tree (a:=⟨8,wNot,0,[]⟩) (ns:=ns) (Ts:=[A]) (r:=r) (l:=[((ns.length+A.size:Nat):Int) - 1]) (by simp[Tr.roots])
     rw[←this]
     simp only[Tr.flats,List.append_nil,ndM]
    ·rcases hI with⟨h,_⟩|⟨h,_⟩|⟨h,_⟩|⟨h,_⟩<;>omega
  by_cases h10:a.kind=10
  ·obtain⟨kind,text,val,keys⟩:=a
   simp only at h10
   subst h10
   obtain rfl:=hkeys (by simp)
   obtain rfl:=hval (by simp) (by simp)
   obtain rfl:text=[]:=by simpa[fieldsB] using hf
   obtain⟨A,B,rfl⟩:=len2 (ts:=ts) (by simpa[countB] using hc)
   have gA:=hgood A (by simp)
   have wA:=hwell A (by simp)
   have wB:=hwell B (by simp)
   have htk:(Tr.node ⟨10,[],0,[]⟩ [A,B]).tk=qT A.level ((8:Nat):Int) A.tk++sy sLB::(B.tk++[sy sRB]):=rfl
   obtain⟨M,hM,_,_,hbA,_⟩:=gA.ex
   have hp:∀r ns,Stop 9 r→postP e E ((Tr.node ⟨10,[],0,[]⟩ [A,B]).tk++r) ns=postF e E r.length (((ns.length+(Tr.node ⟨10,[],0,[]⟩ [A,B]).size:Nat):Int) - 1) r (ns++(Tr.node ⟨10,[],0,[]⟩ [A,B]).flat ns.length):=by
    intro r ns hs
    rw[htk,List.append_assoc,List.cons_append,List.append_assoc,List.singleton_append]
    have hsB:Stop 9 (sy sLB::(B.tk++sy sRB::r)):=by
     intro t ht
     simp only[List.head?_cons,Option.mem_some_iff] at ht
     subst ht
     exact⟨by decide,rfl,fun h=>by omega⟩
    rw[show qT A.level ((8:Nat):Int) A.tk=qT A.level 8 A.tk from rfl,q_post gA wA _ ns hsB]
    have e2:=wB.rd (sy sRB::r) (stop_sy (by decide) (by decide) (by decide)) (ns++A.flat ns.length)
    have e1:postF e E (sy sLB::(B.tk++sy sRB::r)).length (((ns.length+A.size:Nat):Int) - 1) (sy sLB::(B.tk++sy sRB::r)) (ns++A.flat ns.length)=(match E (B.tk++sy sRB::r) (ns++A.flat ns.length) with
      | .error o=> .error o
      | .ok (k,r1,ns1)=>match mustT e 5 sRB r1 with
       | .error o=> .error o
       | .ok r2=>postF e E (B.tk++sy sRB::r).length (ns1.length:Int) r2 (ns1++[ndM 10 [] 0 [((ns.length+A.size:Nat):Int) - 1,k]])):=rfl
    rw[e1,e2]
    simp only[mustT,isTk_hd,if_true,List.tail_cons]
    rw[postF_fuel hC _ r.length _ _ _ (by simp only[List.length_append,List.length_cons];omega) (Nat.le_refl _)]
    congr 1
    ·simp only[List.length_append,Tr.flat_length,Tr.size,Tr.sizes]
     omega
    ·simp only[Tr.flat,Tr.flats,Tr.roots,List.length_append,Tr.flat_length,List.append_nil,List.append_assoc,ndM]
   refine⟨8,rfl,by omega,by omega,?_,fun r hs ns=>?_,fun kk ops hI=>?_,fun _=>hp⟩
   ·rw[htk];exact(qT_begins hM hbA).app
   ·show postP e E _ ns=_
    rw[hp r ns (hs.mono (by decide)),postF_stop]
    cases r with
    |nil=>rfl
    |cons t r=>exact(hs t rfl).2.2 (by decide)
   ·rcases hI with⟨h,_⟩|⟨h,_⟩|⟨h,_⟩|⟨h,_⟩<;>omega
  ·obtain⟨h1,h2⟩:=prim_good (e:=e) hw hk' h8 h9 h10 hwell
   refine⟨9,?_,by omega,by omega,h2,h1,fun kk ops hI=>?_,fun h=>by omega⟩
   ·have:(Tr.node a ts).level=if a.kind=9 then binL a.text else if a.kind=8 then(if a.text=wNot then 3 else 7) else if a.kind=10 then 8 else 9:=rfl
    rw[this,if_neg h9,if_neg h8,if_neg h10];rfl
   ·rcases hI with⟨h,_⟩|⟨h,_⟩|⟨h,_⟩|⟨h,_⟩<;>omega
theorem expr_good {e:Int}:∀(f:Nat) (T:Tr),T.wf=true→exprK T.kind=true→T.ht≤f→Well (exprP e f) T
 |0,T,_,_,h=>by cases T;simp[Tr.ht] at h
 |f+1,T,hw,hk,h=>by
  obtain⟨M,hM,h1,h9,hb,hr,_⟩:=(main_good (e:=e) (exprP_eats f) (expr_good f) T.size T (Nat.le_refl _) hw hk h).ex
  exact⟨fun r hs=>lifts' (exprP_eats f) (Nat.le_refl 1) h1 h9 hs (hr r (hs.mono (by omega))) hb,hb.mono (by omega)⟩
end Go.Proofs.YtdccglkagfdooaaGreatDoor
