/- Texts joined by pack.py: XSxJ XSxK -/
import Derived.Test.YtdccglkagfdooaaGreatDoorBz5
set_option maxHeartbeats 1000000
namespace Go.Proofs.YtdccglkagfdooaaGreatDoor
open Go.RowKit
section
variable {P:Program} {T:Tab} {B:Fr} {w0:World} {N:Names} {S:Sets} {t:List V} {m:List (Option Bk)} {a:Act} {w:World}
theorem arr1 {α:Type} {c:Array α} {x:α} (h:c.toList=[x]):c= #[x]:=by
 apply Array.ext';simpa using h
theorem arr2 {α:Type} {c:Array α} {x y:α} (h:c.toList=[x,y]):c= #[x,y]:=by
 apply Array.ext';simpa using h
theorem len_sound (_hT:TOk P T) (hs:Sat B w0 N S t m a w) {ty e oty:Nat} (hsl:P.underlying ty=some (.slice e)) {v:V} {u:Value} (h:RelV N S w v u) {K:V→List (Option Bk)→Prop} (hK:lenK v m K):
  ∃n:Nat,(Builtin.len_ #[ty] oty #[u]).run P w= .ok (goInt n) w∧K (.cv (.int .i64 (n:Nat))) m:=by
 have run:∀{A:Option Addr} {n cap:Nat},(Builtin.len_ #[ty] oty #[.slice A n cap]).run P w= .ok (goInt n) w:=by
  intro A n cap;simp[Builtin.len_,run_underlying hsl]
 unfold lenK at hK
 split at hK
 ·cases h;exact⟨0,run,hK⟩
 ·rename_i f sz xs
  cases h
  rename_i h
  cases h with
  |nil=>exact⟨0,run,hK⟩
  |sl=>exact⟨xs.length,run,hK⟩
 ·rename_i n k
  cases h
  rename_i hu hn
  obtain⟨k',v,hn,hk,he⟩:=hn
  split at hK
  ·rename_i k2 E sz f xs hm
   split at hK
   ·rename_i hkk
    subst hkk
    obtain⟨rfl,h1,h2,h3⟩:=row_cells hs hm hn
    rw[(row_hdv hs hm hn).1] at he
    have:=he rfl
    subst this
    rcases h3 with⟨rfl,rfl⟩|⟨g,cap,us,rfl,_⟩
    ·exact⟨0,run,hK⟩
    ·exact⟨xs.length,run,hK⟩
   ·cases hK
  ·cases hK
 ·rename_i n k s lo hi
  cases h
  rename_i hu hn
  obtain⟨k',v,hn,hk,he⟩:=hn
  split at hK
  ·rename_i k2 E sz f xs hm
   split at hK
   ·rename_i hkk
    subst hkk
    obtain⟨rfl,_⟩:=row_cells hs hm hn
    rw[(row_hdv hs hm hn).1] at he
    obtain⟨A,len,cap,A',_,_,_,rfl,_⟩:=he rfl
    exact⟨hi - lo,run,hK⟩
   ·cases hK
  ·cases hK
 ·cases hK
theorem ok_len (hT:TOk P T) (hs:Sat B w0 N S t m a w) {o:Oper} {c:Call} (ho:o.op= .call c) (hc:c.callee= .builtin .len) {K:V→List (Option Bk)→Prop}
  (h:match c.args.toList,c.argTypes.toList with
   |[x],[ty]=>match T ty with
    |some ⟨_,_,_,_,.string⟩=>match evN t x with
     | .cv (.string s)=>K (.cv (.int .i64 (s.size:Nat))) m
     |_=>False
    |some ⟨_,_,_,_,.slice _⟩=>(match evN t x with
     | .ow n k=>(match isAs m n k with
      |true=>rdK P o (evN t) m K
      |false=>lenK (.ow n k) m K)
     | .vw n k sz lo hi=>(match isAs m n k with
      |true=>rdK P o (evN t) m K
      |false=>lenK (.vw n k sz lo hi) m K)
     |v=>lenK v m K)
    |some ⟨_,_,_,_,.map⟩=>rdK P o (evN t) m K
    |_=>False
   |_,_=>False):OpOk P o a w (Post B w0 t a K):=by
 split at h
 rotate_left
 ·cases h
 rename_i x ty h1 h2
 have e1:=arr1 h1
 have e2:=arr1 h2
 have hx:=hs.evN x
 have fin:∀{n:Nat},(Builtin.len_ #[ty] o.type #[a.eval x]).run P w= .ok (goInt n) w→K (.cv (.int .i64 (n:Nat))) m→OpOk P o a w (Post B w0 t a K):=by
  intro n hr hK
  refine opOk_val (u:=goInt n) (w':=w) ?_ (Post.same hs (.cv _) hK)
  unfold execOp
  simp only[ho]
  simp[resolve,hc,e1,e2,invoke,builtin,hr]
 split at h
 ·rename_i hti
  split at h
  ·rename_i s hev
   rw[hev] at hx
   generalize hu:a.eval x=u at hx fin
   cases hx
   exact fin (by simp[Builtin.len_,run_underlying (hT.kd_string hti rfl)]) h
  ·cases h
 ·rename_i e hti
  have key:lenK (evN t x) m K∨rdK P o (evN t) m K:=by
   generalize hev:evN t x=v at h
   cases v with
   |ow n k=>
    dsimp only at h
    split at h
    ·exact .inr h
    ·exact .inl h
   |vw n k sz lo hi=>
    dsimp only at h
    split at h
    ·exact .inr h
    ·exact .inl h
   |_=>exact .inl h
  rcases key with h|h
  ·obtain⟨n,h3,h4⟩:=len_sound (oty:=o.type) hT hs (hT.kd_slice hti rfl) hx h
   exact fin h3 h4
  ·exact ok_rd hs h
 ·exact ok_rd hs h
 ·cases h
theorem ok_max (hs:Sat B w0 N S t m a w) {o:Oper} {c:Call} (ho:o.op= .call c) (hc:c.callee= .builtin .max) {K:V→List (Option Bk)→Prop}
  (h:match c.args.toList with
   |[x,y]=>match evN t x,evN t y with
    | .cv (.int k a),.cv (.int _ b)=>K (.cv (.int k (if b>a then b else a))) m
    |_,_=>False
   |_=>False):OpOk P o a w (Post B w0 t a K):=by
 split at h
 rotate_left
 ·cases h
 rename_i x y h1
 have e1:=arr2 h1
 have hx:=hs.evN x
 have hy:=hs.evN y
 split at h
 rotate_left
 ·cases h
 rename_i k p k' q hp hq
 rw[hp] at hx;rw[hq] at hy
 generalize hu:a.eval x=u at hx
 generalize hv:a.eval y=v at hy
 cases hx;cases hy
 refine opOk_val (u:= .int k (if q>p then q else p)) (w':=w) ?_ (Post.same hs (.cv _) h)
 unfold execOp
 simp only[ho]
 simp[resolve,hc,e1,hu,hv,invoke,builtin,Builtin.max_,Builtin.max2]
theorem ok_min (hs:Sat B w0 N S t m a w) {o:Oper} {c:Call} (ho:o.op= .call c) (hc:c.callee= .builtin .min) {K:V→List (Option Bk)→Prop}
  (h:match c.args.toList with
   |[x,y]=>match evN t x,evN t y with
    | .cv (.int k a),.cv (.int _ b)=>K (.cv (.int k (if b<a then b else a))) m
    |_,_=>False
   |_=>False):OpOk P o a w (Post B w0 t a K):=by
 split at h
 rotate_left
 ·cases h
 rename_i x y h1
 have e1:=arr2 h1
 have hx:=hs.evN x
 have hy:=hs.evN y
 split at h
 rotate_left
 ·cases h
 rename_i k p k' q hp hq
 rw[hp] at hx;rw[hq] at hy
 generalize hu:a.eval x=u at hx
 generalize hv:a.eval y=v at hy
 cases hx;cases hy
 refine opOk_val (u:= .int k (if q<p then q else p)) (w':=w) ?_ (Post.same hs (.cv _) h)
 unfold execOp
 simp only[ho]
 simp[resolve,hc,e1,hu,hv,invoke,builtin,Builtin.min_,Builtin.min2]
theorem src_spec (hs:Sat B w0 N S t m a w) {v:V} {u:Value} (h:RelV N S w v u) {sz:Nat} (h0:0<sz) {ys:List (List D)} {fr:Bool} (he:v.elems m sz=some (ys,fr)) {fo:Bool} (hfl:fo=true→fr=true∨Flat ys):
  (∀x∈ys,x.length=sz)∧((∃cap,u= .slice none 0 cap∧ys=[])∨∃ad cap,u= .slice (some ad) ys.length cap∧∃news:List Value,news.length=ys.length*sz∧(∀j u,news[j]?=some u→w.cell? (ad.add j)=some u)∧(∀u∈news,u.oneCell'=true)∧
   ∀i j d,(ys[i]?.bind fun x=>x[j]?)=some d→∃u,news[i*sz+j]?=some u∧RelD (S fo) w d u):=by
 have mk:∀{g p cap:Nat} {S':Nat→Prop} {f:Nat→Nat→Value} {ys:List (List D)},(∀x∈ys,x.length=sz)→(∀i j d,(ys[i]?.bind fun x=>x[j]?)=some d→w.cell? ⟨g,p+i*sz+j,none⟩=some (f i j)∧RelD S' w d (f i j)∧RelD (S fo) w d (f i j))→
   ∃ad cap',(Value.slice (some ⟨g,p,none⟩) ys.length cap)= .slice (some ad) ys.length cap'∧∃news:List Value,news.length=ys.length*sz∧(∀j u,news[j]?=some u→w.cell? (ad.add j)=some u)∧(∀u∈news,u.oneCell'=true)∧
   ∀i j d,(ys[i]?.bind fun x=>x[j]?)=some d→∃u,news[i*sz+j]?=some u∧RelD (S fo) w d u:=by
  intro g p cap S' f ys hx hc
  have hget:∀q,q<ys.length*sz→∃d,(ys[q / sz]?.bind fun x=>x[q % sz]?)=some d:=by
   intro q hq
   have h1:q / sz<ys.length:=Nat.div_lt_of_lt_mul (by rw[Nat.mul_comm];exact hq)
   have h2:q % sz<sz:=Nat.mod_lt _ h0
   rw[List.getElem?_eq_getElem h1]
   simp only[Option.bind_some]
   rw[List.getElem?_eq_getElem (by rw[hx _ (List.getElem_mem h1)];exact h2)]
   exact⟨_,rfl⟩
  have hdm:∀q,q / sz*sz+q % sz=q:=fun q=>by rw[Nat.mul_comm];exact Nat.div_add_mod q sz
  refine⟨⟨g,p,none⟩,cap,rfl,(List.range (ys.length*sz)).map (fun q=>f (q / sz) (q % sz)),by simp,fun q u hq=>?_,fun u hu=>?_,fun i j d hd=>?_⟩
  ·rw[List.getElem?_map,Option.map_eq_some_iff] at hq
   obtain⟨q',hq',rfl⟩:=hq
   have hlt:=lt_of_get hq'
   simp only[List.length_range] at hlt
   rw[List.getElem?_range hlt] at hq'
   cases hq'
   obtain⟨d,hd⟩:=hget q hlt
   have:=(hc _ _ d hd).1
   rw[add_mk,←this,Nat.add_assoc,hdm]
  ·simp only[List.mem_map,List.mem_range] at hu
   obtain⟨q,hq,rfl⟩:=hu
   obtain⟨d,hd⟩:=hget q hq
   exact(hc _ _ d hd).2.1.one
  ·have hij:i<ys.length∧j<sz:=by
    cases hi':ys[i]? with
    |none=>rw[hi'] at hd;cases hd
    |some c=>
     rw[hi'] at hd
     have a2:=lt_of_get (show c[j]?=some d from hd)
     rw[hx c (List.mem_of_getElem? hi')] at a2
     exact⟨lt_of_get hi',a2⟩
   have hlt:i*sz+j<ys.length*sz:=by
    calc i*sz+j<i*sz+sz:=by omega
     _=(i+1)*sz:=by rw[Nat.add_mul];omega
     _≤ys.length*sz:=Nat.mul_le_mul_right _ hij.1
   have e1:(i*sz+j) / sz=i:=by
    rw[Nat.add_comm,Nat.add_mul_div_right _ _ h0,Nat.div_eq_of_lt hij.2,Nat.zero_add]
   have e2:(i*sz+j) % sz=j:=by
    rw[Nat.add_comm,Nat.add_mul_mod_self_right];exact Nat.mod_eq_of_lt hij.2
   refine⟨f i j,?_,(hc i j d hd).2.2⟩
   rw[List.getElem?_map,List.getElem?_range hlt,Option.map_some,e1,e2]
 have conv:∀{i j:Nat} {d:D} {u:Value},(ys[i]?.bind fun x=>x[j]?)=some d→RelD (S fr) w d u→RelD (S fo) w d u:=by
  intro i j d u hd hr
  have hTF:∀b,S true b→S false b:=fun b hb=>(hs.fresh b hb).1
  cases hfo:fo with
  |false=>
   cases hfr:fr with
   |false=>rw[hfr] at hr;exact hr
   |true=>rw[hfr] at hr;exact hr.mono hTF fun _ _=>rfl
  |true=>
   rcases hfl hfo with h|h
   ·rw[h] at hr;exact hr
   ·cases hi':ys[i]? with
    |none=>rw[hi'] at hd;cases hd
    |some c=>
     rw[hi'] at hd
     obtain⟨v,rfl⟩:=h c (List.mem_of_getElem? hi') d (List.mem_of_getElem? hd)
     exact hr.flat
 cases h<;>simp only[V.elems] at he<;>try(cases he;done)
 ·split at he
  ·rename_i hv
   cases he
   cases hv
   exact⟨by simp,.inl ⟨0,rfl,rfl⟩⟩
  all_goals(first|cases he|skip)
  all_goals(rename_i hv;cases hv)
 ·rename_i f s xs h
  split at he
  ·rename_i hss
   subst hss
   cases he
   cases h with
   |nil sz A cap=>
    refine⟨by simp,?_⟩
    cases A with
    |none=>exact .inl ⟨cap,rfl,rfl⟩
    |some ad=>exact .inr ⟨ad,cap,rfl,[],by simp,by simp,by simp,by simp⟩
   |sl _ _ b p cap u hS hx hcap hc hd=>
    refine⟨hx,.inr (mk (S':=S fr) (f:=u) hx fun i j d h=>⟨hc i j d h,hd i j d h,conv h (hd i j d h)⟩)⟩
  ·cases he
 ·rename_i n k hu hn
  obtain⟨k',v,hn,hk,hev⟩:=hn
  split at he
  ·rename_i k2 E s f xs hm
   split at he
   ·rename_i hkk
    obtain⟨rfl,rfl⟩:=hkk
    cases he
    obtain⟨rfl,h1,h2,h3⟩:=row_cells hs hm hn
    rw[(row_hdv hs hm hn).1] at hev
    have:=hev rfl
    subst this
    refine⟨h1,?_⟩
    rcases h3 with⟨rfl,rfl⟩|⟨g,cap,us,rfl,h4,h5,_,_,h6⟩
    ·exact .inl ⟨0,rfl,rfl⟩
    ·refine .inr (mk (S':=S fr) (f:=fun i j=>us.getD (i*s+j) undef) h1 fun i j d hd=>?_)
     obtain⟨h7,h8⟩:=h6 i j d hd
     refine⟨?_,h8,conv hd h8⟩
     rw[Nat.zero_add,cell_of_row w g _ us E _ h4]
     simp[Array.getD_eq_getD_getElem?,h7]
   ·cases he
  ·cases he
 ·rename_i n k s lo hi hu hn
  obtain⟨k',v,hn,hk,hev⟩:=hn
  split at he
  ·rename_i k2 E s f xs hm
   split at he
   ·rename_i hkk
    obtain⟨rfl,rfl,rfl⟩:=hkk
    cases he
    obtain⟨rfl,h1,h2,h3⟩:=row_cells hs hm hn
    rw[(row_hdv hs hm hn).1] at hev
    obtain⟨A,len,cap,A',e1,e2,e3,e4,e5⟩:=hev rfl
    subst e4
    have hx:∀y∈(xs.take hi).drop lo,y.length=s:=fun y hy=>h1 y (List.mem_of_mem_take (List.mem_of_mem_drop hy))
    refine⟨hx,?_⟩
    have hlen:((xs.take hi).drop lo).length=min hi xs.length - lo:=by rw[List.length_drop,List.length_take]
    rcases Nat.eq_or_lt_of_le e2 with e|hlt
    ·have e6:(xs.take hi).drop lo=[]:=by apply List.drop_eq_nil_of_le;rw[List.length_take];omega
     rw[e6,show hi - lo=0 by omega]
     cases A' with
     |none=>exact .inl ⟨_,rfl,rfl⟩
     |some ad=>exact .inr ⟨ad,_,rfl,[],by simp,by simp,by simp,by simp⟩
    rcases h3 with⟨h3,_⟩|⟨g,cap',us,h3,h4,h5,_,_,h6⟩
    ·rw[e1] at h3;cases h3;omega
    rw[e1] at h3;cases h3
    rw[e5 (.inl hlt)]
    simp only[Option.map_some,add_mk]
    rw[show hi - lo=((xs.take hi).drop lo).length by omega]
    refine .inr (mk (S':=S fr) (f:=fun i j=>us.getD ((lo+i)*s+j) undef) hx fun i j d hd=>?_)
    have hd':(xs[lo+i]?.bind fun x=>x[j]?)=some d:=by
     rw[List.getElem?_drop,List.getElem?_take] at hd
     split at hd
     ·exact hd
     ·cases hd
    obtain⟨h7,h8⟩:=h6 _ j d hd'
    refine⟨?_,h8,conv hd h8⟩
    rw[cell_of_row w g _ us E _ h4,show 0+lo*s+i*s+j=(lo+i)*s+j by rw[Nat.add_mul];omega]
    simp[Array.getD_eq_getD_getElem?,h7]
   ·cases he
  ·cases he
theorem append_run {base ty oty e sz bytes:Nat} {fo:Bool} {i:TypeInfo} {z:Value} (ht:P.underlying ty=some (.slice e)) (hi:P.info? e=some i) (hz:i.zero=some z)
  (hsize:i.size=sz) (hby:i.bytes=bytes) (hzs:z.cells.size=sz) (hsz:0<sz) {v:Value} {n:Nat} {xs:List Value} (hown:w.ownsRow base e sz v n xs)
  {ys:List (List D)} {u:Value} (hu:(∃cap,u= .slice none 0 cap∧ys=[])∨∃ad cap,u= .slice (some ad) ys.length cap∧∃news:List Value,news.length=ys.length*sz∧(∀j u,news[j]?=some u→w.cell? (ad.add j)=some u)∧(∀u∈news,u.oneCell'=true)∧
   ∀i j d,(ys[i]?.bind fun x=>x[j]?)=some d→∃u,news[i*sz+j]?=some u∧RelD (S fo) w d u)
  (h63:n+ys.length≤maxLen) (hbytes:(n+ys.length)*bytes≤140737488355328) (hbase:base≤w.heap.size):
  ∃v' w' news,(Builtin.append_ #[ty,ty] oty #[v,u]).run P w= .ok v' w'∧w'.ownsRow base e sz v' (n+ys.length) (xs++news)∧w.grownBy w' v.ownBlock∧
   (∀g,At v' g→w.heap.size≤g∨At v g)∧
   (∀i j d,(ys[i]?.bind fun x=>x[j]?)=some d→∃u,news[i*sz+j]?=some u∧RelD (S fo) w d u)∧v'.oneCell'=true∧∃A l c,v'= .slice A l c:=by
 have hsl:∃A c,v= .slice A n c:=own_parts hown
 rcases hu with⟨cap,rfl,rfl⟩|⟨ad,cap,rfl,news,h1,h2,h3,h4⟩
 ·obtain⟨A,c,rfl⟩:=hsl
  refine⟨_,w,[],?_,by simpa using hown,⟨rfl,rfl,rfl,Nat.le_refl _,fun _ _ _=>rfl⟩,fun g hg=> .inr hg,by simp,rfl,_,_,_,rfl⟩
  have hle:n+0≤c:=by
   rcases hown.2 with⟨h,h'⟩|⟨g,cap',cu,e1,_,_,e4,_⟩
   ·omega
   ·cases e1;omega
  cases A<;>simp[Builtin.append_,run_underlying ht,sizeOf,typeInfo,hi,Builtin.lenOf,Builtin.firstCells,storeCells]<;>omega
 ·obtain⟨v',w',hr,hown',hgr,_⟩:=run_append_own (P:=P) w base ty oty e i z sz bytes ht hi hz hsize hby hzs hsz v n xs hown ad ys.length cap news h1 h2 h3 h63 hbytes hbase
  refine⟨v',w',news,hr,hown',hgr,?_,h4,?_,?_⟩
  ·intro g hg
   rcases hown.2 with⟨rfl,rfl⟩|⟨g0,cap0,cu,rfl,hbg,hg0,hnc,hcm,hcs,htake⟩
   ·have hown2:w.ownsRow w.heap.size e sz (.slice none 0 0) 0 []:=World.ownsRow_nil w _ e sz
    have hx:xs=[]:=List.eq_nil_of_length_eq_zero (by simpa using hown.1)
    subst hx
    obtain⟨v2,w2,hr2,hown2',_⟩:=run_append_own (P:=P) w w.heap.size ty oty e i z sz bytes ht hi hz hsize hby hzs hsz _ 0 [] hown2 ad ys.length cap news h1 h2 h3 h63 hbytes (Nat.le_refl _)
    rw[hr] at hr2;cases hr2
    rcases hown2'.2 with⟨rfl,_⟩|⟨g1,cap1,cu1,rfl,hb1,_⟩
    ·simp[At,at1] at hg
    ·simp[At,at1] at hg;subst hg;exact .inl hb1
   ·by_cases hroom:n+ys.length≤cap0
    ·have hfit:n*i.size+news.length≤cu.size:=by rw[h1,hcs,hsize,←Nat.add_mul];exact Nat.mul_le_mul_right _ hroom
     have hr2:=run_append_room (P:=P) w ty oty e i ht hi g0 n cap0 cu hg0 ad ys.length cap news (by rw[hsize];exact h1) h2 h3 hroom hfit
     rw[hr] at hr2;cases hr2
     exact .inr hg
    ·have hsmall:n+ys.length≤9223372036854775807:=by simp only[maxLen] at h63;omega
     have holds:∀j u,xs[j]?=some u→w.cell? ((⟨g0,0,none⟩:Addr).add j)=some u:=hown.cells (g:=g0) rfl
     have hr2:=run_append_grow (P:=P) w ty oty e i z ht hi hz ⟨g0,0,none⟩ n cap0 xs (by rw[hsize];exact hown.1) holds ad ys.length cap news (by rw[hsize];exact h1) h2 (by omega) (by omega) (growslice_fits (by omega) (by rw[hby];exact hbytes))
     rw[hr] at hr2;cases hr2
     simp[At,at1] at hg;subst hg;exact .inl (Nat.le_refl _)
  ·obtain⟨A,c,rfl⟩:=own_parts hown';rfl
  ·obtain⟨A,c,rfl⟩:=own_parts hown';exact⟨_,_,_,rfl⟩
end
end Go.Proofs.YtdccglkagfdooaaGreatDoor
namespace Go.Proofs.YtdccglkagfdooaaGreatDoor
open Go.RowKit
section
variable {P:Program} {T:Tab} {B:Fr} {w0:World} {N:Names} {S:Sets} {t:List V} {m:List (Option Bk)} {a:Act} {w:World}
theorem at_own {v:Value} (h:∃A l c,v= .slice A l c) {g:Nat}:v.ownBlock=some g↔At v g:=by
 obtain⟨A,l,c,rfl⟩:=h
 cases A
 ·simp[At,at1,Value.ownBlock]
 ·exact Iff.rfl
theorem flagK_eq {f fr:Bool} {ys:List (List D)} {K:Bool→Prop} (h:flagK f fr ys K):(f=true→fr=true∨Flat ys)∧K f:=by
 unfold flagK at h
 cases f<;>cases fr<;>simp only at h
 ·exact⟨(fun e=>by cases e),h⟩
 ·exact⟨(fun e=>by cases e),h⟩
 ·exact⟨fun _=> .inr h.1,h.2⟩
 ·exact⟨fun _=> .inl rfl,h⟩
theorem ok_append (hT:TOk P T) (hs:Sat B w0 N S t m a w) {o:Oper} {c:Call} (ho:o.op= .call c) (hc:c.callee= .builtin .append) {K:V→List (Option Bk)→Prop}
  (h:match c.args.toList,c.argTypes.toList with
   |[x,y],[ty,ty']=>match T ty,decide (ty=ty') with
    |some ⟨_,_,_,_,.slice e⟩,true=>match T e with
     |some i=>if i.size=0∨i.bytes=0 then False else
      match(evN t y).elems m i.size with
      |some (ys,fr)=>
       (match evN t x with
       | .cv (.slice none 0 0)=>flagK true fr ys fun f=>ys.length*i.bytes≤140737488355328∧newK o.dst (.row 0 e i.size f ys) (.ow · 0) m K
       | .ow n k=>match m[n]? with
        |some (some (.row k' e' s f xs))=>if k=k'∧e'=e∧s=i.size then flagK f fr ys fun f=>(xs.length+ys.length)*i.bytes≤140737488355328∧setK m n (some (.row (k+1) e' s f (xs++ys))) fun m'=>K (.ow n (k+1)) m' else False
        |_=>False
       |_=>False)
      |none=>False
     |none=>False
    |_,_=>False
   |_,_=>False):OpOk P o a w (Post B w0 t a K):=by
 split at h
 rotate_left
 ·cases h
 rename_i x y ty ty' h1 h2
 have e1:=arr2 h1
 have e2:=arr2 h2
 have hx:=hs.evN x
 have hy:=hs.evN y
 split at h
 rotate_left
 ·cases h
 rename_i e hti hde
 simp only[decide_eq_true_eq] at hde
 subst hde
 have hsl:=hT.kd_slice hti rfl
 split at h
 rotate_left
 ·cases h
 rename_i i hie
 split at h
 ·cases h
 rename_i hc0
 simp only[not_or] at hc0
 have h0:0<i.size:=by omega
 obtain⟨j,hj,hsz,hby,⟨z,hz,hzc⟩,_⟩:=hT.get _ _ hie
 obtain⟨_,hzl,_⟩:=hT.ok hie
 have hzs:z.cells.size=i.size:=by rw[←hzl,←hzc];simp
 split at h
 rotate_left
 ·cases h
 rename_i ys fr hel
 have fin:∀{v':Value} {w':World},(Builtin.append_ #[ty,ty] o.type #[a.eval x,a.eval y]).run P w= .ok v' w'→Post B w0 t a K v' w'→OpOk P o a w (Post B w0 t a K):=by
  intro v' w' hr hK
  refine opOk_val (u:=v') (w':=w') ?_ hK
  unfold execOp
  simp only[ho]
  simp[resolve,hc,e1,e2,invoke,builtin,hr]
 split at h
 ·rename_i hev
  rw[hev] at hx
  generalize hu:a.eval x=u at hx fin
  cases hx
  obtain⟨hfl,hbytes,h⟩:=flagK_eq h
  obtain⟨hyx,hyu⟩:=src_spec hs hy h0 hel hfl
  have hlen:ys.length≤140737488355328:=Nat.le_trans (Nat.le_mul_of_pos_right _ (by omega)) hbytes
  obtain⟨v',w',news,hr,hown,hgr,hat,hnews,hv1,hvs⟩:=append_run (oty:=o.type) hsl hj hz hsz hby hzs h0 (World.ownsRow_nil w 0 e i.size) hyu (by simp only[maxLen];omega) (by rw[Nat.zero_add];exact hbytes) (Nat.zero_le _)
  simp only[Nat.zero_add,List.nil_append] at hown
  unfold newK at h
  split at h
  ·cases h
  rename_i d hdst
  split at h
  rotate_left
  ·cases h
  rename_i hd
  rw[setK_eq] at h
  have hnone:N d=none:=hs.non d fun b' h=>by rw[hd] at h;cases h
  obtain⟨N',g1,g2,g3⟩:=hs.set (w':=w') (d:=d) (k:=0) (v:=v') (b:= .row 0 e i.size true ys) (lt_of_get hd) (fun k0 v0 h=>by rw[hnone] at h;cases h)
   (hs.low.grown hgr hs.base (fun k hk=>by simp[Value.ownBlock] at hk)) hgr.size (fun g hg _=>hgr.block g hg (by simp[Value.ownBlock]))
   (fun g hg=>by
    have hlt:=hown.lt g ((at_own hvs).2 hg)
    refine⟨hlt.2,?_⟩
    rcases hat g hg with h|h
    ·exact .inl h
    ·simp[At,at1] at h)
   (fun N' g1 g2 g3=>⟨v',news,g1,hown,hyx,h0,fun i' j' d' hd'=>(by
    obtain⟨u,hu1,hu2⟩:=hnews i' j' d' hd'
    exact⟨u,hu1,g3 _ _ _ hu2⟩),fun _ g hg=>by
    rcases hat g hg with h|h
    ·exact Nat.le_trans hs.size h
    ·simp[At,at1] at h⟩)
  exact fin hr ⟨N',S,_,_,g3,.ow d 0 _ hv1 ⟨0,v',g1,Nat.le_refl _,fun _=>by obtain⟨A,l,c,rfl⟩:=hvs;rfl⟩,h⟩
 ·rename_i n k hev
  rw[hev] at hx
  generalize hu:a.eval x=u at hx fin
  cases hx
  rename_i hu1 hn
  obtain⟨k0,v,hn,hk,he⟩:=hn
  split at h
  rotate_left
  ·cases h
  rename_i k' e' s f xs hm
  split at h
  rotate_left
  ·cases h
  rename_i hkk
  obtain⟨rfl,rfl,rfl⟩:=hkk
  obtain⟨hfl,hbytes,h⟩:=flagK_eq h
  obtain⟨hyx,hyu⟩:=src_spec hs hy h0 hel hfl
  rw[setK_eq] at h
  obtain⟨v2,us,b1,b2,b3,b4,b5,b6⟩:=hs.blk n _ hm
  rw[hn] at b1;cases b1
  rw[(row_hdv hs hm hn).1] at he
  have:=he rfl
  subst this
  have hlen:xs.length+ys.length≤140737488355328:=Nat.le_trans (Nat.le_mul_of_pos_right _ (by omega)) hbytes
  obtain⟨v',w',news,hr,hown,hgr,hat,hnews,hv1,hvs⟩:=append_run (oty:=o.type) hsl hj hz hsz hby hzs h0 b2 hyu (by simp only[maxLen];omega) hbytes (Nat.zero_le _)
  have hvs0:∃A l c,u= .slice A l c:=by obtain⟨A,c,h⟩:=own_parts b2;exact⟨_,_,_,h⟩
  obtain⟨N',g1,g2,g3⟩:=hs.set (w':=w') (d:=n) (k:=k+1) (v:=v') (b:= .row (k+1) e' i.size f (xs++ys)) (lt_of_get hm)
   (fun k0 v0 h=>by rw[hn] at h;cases h;exact .inr (.inl ⟨hvs0,by omega⟩))
   (hs.low.grown hgr hs.base (fun q hq=>(hs.own n _ _ q hn ((at_own hvs0).1 hq)).1)) hgr.size (fun g hg hk=>hgr.block g hg (fun e=>hk _ _ hn ((at_own hvs0).1 e.symm)))
   (fun g hg=>by
    have hlt:=hown.lt g ((at_own hvs).2 hg)
    refine⟨hlt.2,?_⟩
    rcases hat g hg with h|h
    ·exact .inl h
    ·exact .inr ⟨_,_,hn,h⟩)
   (fun N' g1 g2 g3=>⟨v',us++news,g1,by rw[List.length_append];exact hown,(fun x hx=>by
     rcases List.mem_append.1 hx with hx|hx
     ·exact b3 x hx
     ·exact hyx x hx),h0,(fun i' j' d' hd'=>by
    rw[List.getElem?_append] at hd'
    have hul:us.length=xs.length*i.size:=b2.1
    split at hd'
    ·rename_i hlt
     obtain⟨u,hu1,hu2⟩:=b5 i' j' d' hd'
     refine⟨u,?_,g3 _ _ _ hu2⟩
     rw[List.getElem?_append_left (lt_of_get hu1)];exact hu1
    ·rename_i hlt
     obtain⟨u,hu1,hu2⟩:=hnews _ j' d' hd'
     refine⟨u,?_,g3 _ _ _ hu2⟩
     have:xs.length*i.size≤i'*i.size:=Nat.mul_le_mul_right _ (by omega)
     rw[List.getElem?_append_right (by omega),hul,←hu1]
     congr 1
     rw[Nat.sub_mul];omega),fun e g hg=>by
    rcases hat g hg with h|h
    ·exact Nat.le_trans hs.size h
    ·exact b6 e g h⟩)
  exact fin hr ⟨N',S,_,_,g3,.ow n (k+1) _ hv1 ⟨k+1,v',g1,Nat.le_refl _,fun _=>by obtain⟨A,l,c,rfl⟩:=hvs;rfl⟩,h⟩
 ·cases h
theorem ok_pick (hs:Sat B w0 N S t m a w) {o:Oper} {c x y:Operand} (ho:o.op= .pick c x y) {K:V→List (Option Bk)→Prop}
  (h:match evN t c with
  | .cv (.bool b)=>∀b',b=b'→K (match b' with|true=>evN t x|false=>evN t y) m
  |_=>False):OpOk P o a w (Post B w0 t a K):=by
 have hc:=hs.evN c
 split at h
 rotate_left
 ·cases h
 rename_i b hev
 rw[hev] at hc
 generalize hu:a.eval c=u at hc
 cases hc
 have h:=h b rfl
 refine opOk_val (u:=if b then a.eval x else a.eval y) (w':=w) ?_ (Post.same hs ?_ h)
 ·unfold execOp
  simp only[ho,hu]
  simp[asBool]
 ·cases b
  ·exact hs.evN y
  ·exact hs.evN x
theorem consts_spec {E:Operand→V}:∀{l:List Operand} {cs:List Value},consts E l=some cs→cs.length=l.length∧∀(i:Nat) (x:Operand),l[i]?=some x→∃c,cs[i]?=some c∧E x= .cv c
 |[],cs,h=>by cases h;exact⟨rfl,fun i x hx=>by simp at hx⟩
 |y::l,cs,h=>by
  simp only[consts] at h
  split at h
  ·rename_i v vs h1 h2
   cases h
   obtain⟨e1,e2⟩:=consts_spec h2
   refine⟨by simp[e1],fun i x hx=>?_⟩
   cases i with
   |zero=>simp at hx;subst hx;exact⟨v,by simp,h1⟩
   |succ i=>simpa using e2 i x (by simpa using hx)
  ·cases h
theorem ok_makeFunc (hs:Sat B w0 N S t m a w) {o:Oper} {f:FuncId} {fst cap:Array Operand} (ho:o.op= .makeFunc (.func f) fst cap) {K:V→List (Option Bk)→Prop}
  (h:match consts (evN t) (fst.toList++cap.toList) with
  |some cs=>K (.cv (.func (.func f) (cs.take fst.size).toArray (cs.drop fst.size).toArray)) m
  |none=>match allOne ((fst.toList++cap.toList).map (evN t)) with
   |true=>forceL ((fst.toList++cap.toList).map (evN t)) fun cs=>K (.fn f fst.size cs) m
   |false=>False):OpOk P o a w (Post B w0 t a K):=by
 have fin:∀v:V,RelV N S w v (.func (.func f) (fst.map a.eval) (cap.map a.eval))→K v m→OpOk P o a w (Post B w0 t a K):=by
  intro v hv hK
  refine opOk_val (u:= .func (.func f) (fst.map a.eval) (cap.map a.eval)) (w':=w) ?_ (Post.same hs hv hK)
  unfold execOp
  simp only[ho]
  refine run_v ?_
  simp[Instr.makeFunc]
 split at h
 ·rename_i cs hc
  obtain⟨e1,e2⟩:=consts_spec hc
  refine fin _ ?_ h
  have key:∀(i:Nat) (x:Operand),(fst.toList++cap.toList)[i]?=some x→cs[i]?=some (a.eval x):=by
   intro i x hx
   obtain⟨c,h1,h2⟩:=e2 i x hx
   have hr:=hs.evN x
   rw[h2] at hr
   generalize hu:a.eval x=u at hr
   cases hr
   exact h1
  have hl:cs=(fst.toList++cap.toList).map a.eval:=by
   refine List.ext_getElem? fun i=>?_
   rw[List.getElem?_map]
   cases hx:(fst.toList++cap.toList)[i]? with
   |none=>
    rw[Option.map_none,List.getElem?_eq_none]
    have:(fst.toList++cap.toList).length≤i:=by
     rcases Nat.lt_or_ge i (fst.toList++cap.toList).length with h|h
     ·rw[List.getElem?_eq_getElem h] at hx;cases hx
     ·exact h
    omega
   |some x=>rw[key i x hx];rfl
  have h1:(cs.take fst.size).toArray=fst.map a.eval:=by
   apply Array.ext'
   rw[hl];simp
  have h2:(cs.drop fst.size).toArray=cap.map a.eval:=by
   apply Array.ext'
   rw[hl];simp
  rw[h1,h2];exact .cv _
 ·split at h
  ·rw[forceL_eq] at h
   refine fin _ (.fn _ _ _ _ _ (by simp) (by simp) fun i v hv=>?_) h
   rw[List.getElem?_map,Option.map_eq_some_iff] at hv
   obtain⟨x,hx,rfl⟩:=hv
   have e:(fst.map a.eval++cap.map a.eval).getD i undef=a.eval x:=by
    have h3:(fst.map a.eval++cap.map a.eval).toList[i]?=some (a.eval x):=by
     simp only[Array.toList_append,Array.toList_map,←List.map_append,List.getElem?_map,hx,Option.map_some]
    exact getD_of_get h3
   rw[e];exact hs.evN x
  ·exact h.elim
theorem aCore_sound (hT:TOk P T) (hs:Sat B w0 N S t m a w) {o:Oper} {K:V→List (Option Bk)→Prop} (h:aCore P T o (evN t) m K):OpOk P o a w (Post B w0 t a K):=by
 unfold aCore at h
 split at h
 ·exact ok_move hs (.inl (by assumption)) h
 ·exact ok_move hs (.inr (by assumption)) h
 ·exact ok_pick hs (by assumption) h
 ·exact ok_alloc hT hs (by assumption) h
 ·exact ok_box (F:=T.fm) hs (by assumption) h
 ·exact ok_load hT hs (by assumption) h
 ·exact ok_store hT hs (by assumption) h
 ·exact ok_fieldAddr hT hs (by assumption) h
 ·exact ok_field hT hs (by assumption) h
 ·exact ok_indexAddr hT hs (by assumption) h
 ·exact ok_makeInterface hT hs (by assumption) h
 ·exact ok_nilCheck hs (by assumption) h
 ·exact ok_index hT hs (by assumption) h
 ·split at h
  ·exact ok_ext hs h
  ·exact ok_slice hT hs (by assumption) h
 ·exact ok_binOp hT hs (by assumption) h
 ·exact ok_unOp hs (by assumption) h
 ·split at h
  ·exact ok_ext hs h
  ·exact ok_convert hT hs (by assumption) h
 ·exact ok_extract hs (by assumption) h
 ·exact ok_build hT hs (by assumption) h
 ·split at h
  ·exact ok_ext hs h
  ·exact ok_buildSlice hT hs (by assumption) h
 ·rename_i c ho
  split at h
  ·rename_i f hc
   split at h
   ·exact ok_call hs ho hc h
   ·exact ok_ext hs h
   ·exact ok_rd hs h
  ·rename_i i hc
   split at h
   ·rename_i f fst cap hev
    split at h
    ·exact ok_callv hs ho hc (by rw[hev];exact h)
    ·exact ok_ext hs h
   ·rename_i f n cs hev
    split at h
    ·exact ok_callv hs ho hc (by rw[hev];exact h)
    ·exact ok_ext hs h
   ·exact h.elim
  ·exact ok_len hT hs ho (by assumption) h
  ·exact ok_max hs ho (by assumption) h
  ·exact ok_min hs ho (by assumption) h
  ·rename_i hc
   split at h
   ·rename_i x y ty ty' h1 h2
    split at h
    ·exact ok_ext hs h
    ·exact ok_append hT hs ho hc (by rw[h1,h2];exact h)
   ·exact h.elim
  ·exact ok_ext hs h
 ·exact ok_makeFunc hs (by assumption) h
 ·split at h
  ·exact ok_rd hs h
  ·exact ok_ext hs h
 ·exact ok_ext hs h
end
end Go.Proofs.YtdccglkagfdooaaGreatDoor
