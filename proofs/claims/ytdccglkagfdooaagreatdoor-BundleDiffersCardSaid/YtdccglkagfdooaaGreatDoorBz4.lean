/- Texts joined by pack.py: XSxG -/
import Derived.Test.YtdccglkagfdooaaGreatDoorBz3
namespace Go.Proofs.YtdccglkagfdooaaGreatDoor
open Go.RowKit
section
variable {P:Program} {T:Tab} {B:Fr} {w0:World} {N:Names} {S:Sets} {t:List V} {m:List (Option Bk)} {a:Act} {w:World}
theorem part_sound (hT:TOk P T) {ty:Nat} {i:TI} (ht:T ty=some i) {cs:List V} {us:Array Value} {off:Nat} (hl:cs.length=us.size) (hc:∀j v,cs[j]?=some v→RelV N S w v (us.getD j undef))
  {K:V→Prop} (h:loadK i cs off K):∃u v,(part ty us off).run P w= .ok u w∧RelV N S w v u∧K v:=by
 unfold loadK at h
 split at h
 ·rename_i hag
  split at h
  ·rename_i hle
   rw[k_eq] at h
   refine⟨.agg (us.extract off (off+i.size)),_,by simp[part,hT.agg ht,hag,hT.size ht],?_,h⟩
   refine .ag _ _ (by simp;omega) fun j v hv=>?_
   rw[List.getElem?_take] at hv
   split at hv
   ·rename_i hj
    rw[List.getElem?_drop] at hv
    have:=hc _ v hv
    have hlt:=lt_of_get hv
    have e:(us.extract off (off+i.size)).getD j undef=us.getD (off+j) undef:=by
     simp only[Array.getD_eq_getD_getElem?,Array.getElem?_extract]
     rw[if_pos (by omega)]
    rw[e];exact this
   ·cases hv
  ·cases h
 ·rename_i hag
  split at h
  ·rename_i v hv
   rw[k_eq] at h
   have hlt:=lt_of_get hv
   have hr:=hc off v hv
   have:us[off]?=some (us.getD off undef):=by simp[Array.getD_eq_getD_getElem?,show off<us.size by omega]
   generalize us.getD off undef=z at this hr
   exact⟨z,v,by simp[part,hT.agg ht,hag,this],hr,h⟩
  ·cases h
theorem ok_field (hT:TOk P T) (hs:Sat B w0 N S t m a w) {o:Oper} {s f:Nat} {x:Operand} (ho:o.op= .field s x f) {K:V→List (Option Bk)→Prop}
  (h:match T s with
  |some ⟨_,_,_,_,.struct fs⟩=>match fs[f]? with
   |some (off,ty)=>
    match T ty with
    |some i=>match evN t x with
     | .ag cs=>loadK i cs off fun v=>K v m
     |_=>False
    |none=>False
   |none=>False
  |_=>False):OpOk P o a w (Post B w0 t a K):=by
 have hx:=hs.evN x
 split at h
 rotate_left
 ·cases h
 rename_i fs hi
 split at h
 rotate_left
 ·cases h
 rename_i off ty hf
 split at h
 rotate_left
 ·cases h
 rename_i i hti
 split at h
 rotate_left
 ·cases h
 rename_i cs hev
 rw[hev] at hx
 generalize hu:a.eval x=u at hx
 cases hx
 rename_i us hl hc
 obtain⟨gs,hgs,hmap⟩:=hT.kd_struct hi rfl
 obtain⟨fd,hfd,rfl,rfl⟩:=fields_get hmap hf
 obtain⟨u,v,h1,h2,h3⟩:=part_sound hT hti hl hc h
 refine opOk_val (u:=u) (w':=w) ?_ (Post.same hs h2 h3)
 unfold execOp
 simp only[ho]
 refine run_v ?_
 rw[hu]
 simp[Instr.field,run_underlying hgs,hfd,asAgg,h1]
theorem ok_nilCheck (hs:Sat B w0 N S t m a w) {o:Oper} {x:Operand} (ho:o.op= .nilCheck x) {K:V→List (Option Bk)→Prop}
  (h:match evN t x with
  | .bx n o=>K (.bx n o) m
  | .el f cs o=>K (.el f cs o) m
  | .oq n k sz j o=>K (.oq n k sz j o) m
  |_=>False):OpOk P o a w (Post B w0 t a K):=by
 have hx:=hs.evN x
 split at h
 ·rename_i n o' hev
  rw[hev] at hx
  generalize hu:a.eval x=u at hx
  cases hx
  rename_i b hn
  refine opOk_val (u:= .pointer (some ⟨b,o',none⟩)) (w':=w) ?_ (Post.same hs (.bx _ _ _ hn) h)
  unfold execOp
  simp only[ho,hu]
  simp
 ·rename_i f cs o' hev
  rw[hev] at hx
  generalize hu:a.eval x=u at hx
  cases hx
  rename_i b off u' hS hc
  refine opOk_val (u:= .pointer (some ⟨b,off+o',none⟩)) (w':=w) ?_ (Post.same hs (.el _ _ _ _ _ hS _ hc) h)
  unfold execOp
  simp only[ho,hu]
  simp
 ·rename_i n k sz j o' hev
  rw[hev] at hx
  generalize hu:a.eval x=u at hx
  cases hx
  rename_i hp hn
  cases u<;>simp[isPtr] at hp
  rename_i q
  cases q with
  |none=>simp at hp
  |some q=>
   refine opOk_val (u:= .pointer (some q)) (w':=w) ?_ (Post.same hs (.oq _ _ _ _ _ _ rfl hn) h)
   unfold execOp
   simp only[ho,hu]
   simp
 ·cases h
theorem ok_makeInterface (hT:TOk P T) (hs:Sat B w0 N S t m a w) {o:Oper} {ty:Nat} {x:Operand} (ho:o.op= .makeInterface ty x) {K:V→List (Option Bk)→Prop}
  (h:match T ty,evN t x with
  |some ⟨_,_,_,_,.ptr _⟩,.bx n 0=>K (.ic ty n) m
  |some ⟨_,_,_,_,.struct _⟩,.ag [.cv c]=>K (.cv (.iface ty (.agg #[c]))) m
  |_,_=>False):OpOk P o a w (Post B w0 t a K):=by
 have hx:=hs.evN x
 split at h
 ·rename_i n hti hev
  have hu0:∃e,P.underlying ty=some (.pointer e):=by
   obtain⟨d,hd,hk,_⟩:=hT.und hti
   cases d<;>simp_all [kdOf]
  obtain⟨e0,hu0⟩:=hu0
  rw[hev] at hx
  generalize hu:a.eval x=u at hx
  cases hx
  rename_i b hn
  refine opOk_val (u:= .iface ty (.pointer (some ⟨b,0,none⟩))) (w':=w) ?_ (Post.same hs (.ic _ _ _ hn) h)
  unfold execOp
  simp only[ho]
  refine run_v ?_
  rw[hu]
  simp[Instr.makeInterface,run_underlying hu0]
 ·rename_i c hti hev
  have hu0:∃fs,P.underlying ty=some (.struct fs):=by
   obtain⟨d,hd,hk,_⟩:=hT.und hti
   cases d<;>simp_all [kdOf]
  obtain⟨fs,hu0⟩:=hu0
  rw[hev] at hx
  generalize hu:a.eval x=u at hx
  cases hx
  rename_i us hl hr
  have h0:=hr 0 _ rfl
  obtain⟨u0,rfl⟩:∃u0,us= #[u0]:=by
   have h1:us.toList.length=1:=by simpa using hl.symm
   obtain⟨z,hz⟩:=List.length_eq_one_iff.1 h1
   exact⟨z,by apply Array.ext';simpa using hz⟩
  have e0:u0=c:=by
   generalize hz:(#[u0]:Array Value).getD 0 undef=z at h0
   cases h0
   simpa using hz
  subst e0
  refine opOk_val (u:= .iface ty (.agg #[u0])) (w':=w) ?_ (Post.same hs (.cv _) h)
  unfold execOp
  simp only[ho]
  refine run_v ?_
  rw[hu]
  simp[Instr.makeInterface,run_underlying hu0]
 ·cases h
theorem ok_indexAddr (hT:TOk P T) (hs:Sat B w0 N S t m a w) {o:Oper} {ty:Nat} {x i:Operand} (ho:o.op= .indexAddr ty x i) {K:V→List (Option Bk)→Prop}
  (h:match T ty with
  |some ⟨_,_,_,_,.slice e⟩=>match evN t x,evN t i with
   | .sl f sz xs,.cv (.int _ j)=>if sizeOk T e sz&&sz !=0 then 0≤j∧∃cells,xs[j.toNat]?=some cells∧forceD cells fun cells=>K (.el f cells 0) m else False
   | .ow n k,.cv (.int _ j)=>match m[n]? with
    |some (some (.row k' _ sz _ xs))=>if k=k'∧sizeOk T e sz=true∧sz≠0 then 0≤j∧j.toNat<xs.length∧K (.oq n k sz j.toNat 0) m else False
    |some (some (.asr ..))=>rdK P o (evN t) m K
    |_=>False
   | .vw n k s lo hi,.cv (.int _ j)=>match m[n]? with
    |some (some (.row k' _ sz _ _))=>if k=k'∧s=sz∧sizeOk T e sz=true∧sz≠0 then 0≤j∧j.toNat<hi - lo∧K (.oq n k sz (lo+j.toNat) 0) m else False
    |some (some (.asr ..))=>rdK P o (evN t) m K
    |_=>False
   |_,_=>False
  |some ⟨_,_,_,_,.array n e⟩=>match evN t x,evN t i with
   | .el f cs off,.cv (.int _ j)=>if sizeOk T e 1 then 0≤j∧j.toNat<n∧∃d,cs[off+j.toNat]?=some d∧K (.el f [d] 0) m else False
   | .bx b off,.cv (.int _ j)=>if sizeOk T e 1 then 0≤j∧j.toNat<n∧K (.bx b (off+j.toNat)) m else False
   | .cv (.pointer (some ⟨g,off,none⟩)),.cv (.int _ j)=>match T e with
    |some ie=>0≤j∧j.toNat<n∧K (.cv (.pointer (some ⟨g,off+j.toNat*ie.size,none⟩))) m
    |none=>False
   |_,_=>False
  |_=>False):OpOk P o a w (Post B w0 t a K):=by
 have hx:=hs.evN x
 have hi':=hs.evN i
 split at h
 rotate_left
 ·rename_i n e hti
  have har:=hT.kd_array hti rfl
  split at h
  rotate_left
  ·rename_i b off k j hev hei
   rw[hev] at hx;rw[hei] at hi'
   split at h
   rotate_left
   ·cases h
   rename_i hsz
   obtain⟨hj,hjn,h⟩:=h
   generalize hu:a.eval x=u at hx
   generalize hv:a.eval i=v at hi'
   cases hi'
   cases hx
   rename_i g hn
   unfold sizeOk at hsz
   split at hsz
   rotate_left
   ·cases hsz
   rename_i ie hie
   simp only[beq_iff_eq] at hsz
   refine opOk_val (u:= .pointer (some ⟨g,off+j.toNat,none⟩)) (w':=w) ?_ (Post.same hs (.bx _ _ _ hn) h)
   unfold execOp
   simp only[ho]
   refine run_v ?_
   rw[hu,hv]
   have hc2:0≤j∧j<(n:Int):=⟨hj,by omega⟩
   simp[Instr.indexAt,Instr.sureAddr,run_underlying har,asIntOf,hc2,hT.size hie,hsz,add_mk]
  ·rename_i g off k j hev hei
   rw[hev] at hx;rw[hei] at hi'
   split at h
   rotate_left
   ·cases h
   rename_i ie hie
   obtain⟨hj,hjn,h⟩:=h
   generalize hu:a.eval x=u at hx
   generalize hv:a.eval i=v at hi'
   cases hi'
   cases hx
   refine opOk_val (u:= .pointer (some ⟨g,off+j.toNat*ie.size,none⟩)) (w':=w) ?_ (Post.same hs (.cv _) h)
   unfold execOp
   simp only[ho]
   refine run_v ?_
   rw[hu,hv]
   have hc2:0≤j∧j<(n:Int):=⟨hj,by omega⟩
   simp[Instr.indexAt,Instr.sureAddr,run_underlying har,asIntOf,hc2,hT.size hie,add_mk]
  ·cases h
  rename_i f cs off k j hev hei
  rw[hev] at hx;rw[hei] at hi'
  split at h
  rotate_left
  ·cases h
  rename_i hsz
  obtain⟨hj,hjn,d,hd,h⟩:=h
  generalize hu:a.eval x=u at hx
  generalize hv:a.eval i=v at hi'
  cases hi'
  cases hx
  rename_i b off' u' hS hc
  unfold sizeOk at hsz
  split at hsz
  rotate_left
  ·cases hsz
  rename_i ie hie
  simp only[beq_iff_eq] at hsz
  refine opOk_val (u:= .pointer (some ⟨b,off'+(off+j.toNat),none⟩)) (w':=w) ?_ (Post.same hs (.el f [d] 0 b (off'+(off+j.toNat)) hS (fun _=>u' (off+j.toNat)) fun q d' hq=>?_) h)
  ·unfold execOp
   simp only[ho]
   refine run_v ?_
   rw[hu,hv]
   have hc2:0≤j∧j<(n:Int):=⟨hj,by omega⟩
   simp[Instr.indexAt,Instr.sureAddr,run_underlying har,asIntOf,hc2,hT.size hie,hsz,add_mk,Nat.add_assoc]
  ·cases q with
   |zero=>simp at hq;subst hq;simpa using hc _ _ hd
   |succ q=>simp at hq
 ·cases h
 rename_i e hti
 have hsl:=hT.kd_slice hti rfl
 have fin:∀{g p sz len cap:Nat} {k:IntKind} {j:Int} {v:V},sizeOk T e sz=true→a.eval x= .slice (some ⟨g,p,none⟩) len cap→a.eval i= .int k j→0≤j→j.toNat<len→RelV N S w v (.pointer (some ⟨g,p+j.toNat*sz,none⟩))→K v m→OpOk P o a w (Post B w0 t a K):=by
  intro g p sz len cap k j v hsz hx hi hj hlt hv hK
  unfold sizeOk at hsz
  split at hsz
  ·rename_i ie hie
   simp only[beq_iff_eq] at hsz
   subst hsz
   refine opOk_val (u:= .pointer (some ⟨g,p+j.toNat*ie.size,none⟩)) (w':=w) ?_ (Post.same hs hv hK)
   unfold execOp
   simp only[ho]
   refine run_v ?_
   rw[hx,hi]
   have hc:0≤j∧j<(len:Int):=⟨hj,by omega⟩
   simp[Instr.indexAt,run_underlying hsl,asIntOf,hc,hT.size hie,add_mk]
  ·cases hsz
 split at h
 ·rename_i f sz xs k j hev hei
  rw[hev] at hx;rw[hei] at hi'
  split at h
  rotate_left
  ·cases h
  rename_i hsz
  simp only[Bool.and_eq_true] at hsz
  obtain⟨hj,cells,hcl,h⟩:=h
  rw[forceD_eq] at h
  generalize hu:a.eval x=u at hx
  generalize hv:a.eval i=v at hi'
  cases hi'
  cases hx
  rename_i hr
  have hlt:=lt_of_get hcl
  cases hr with
  |nil=>simp at hcl
  |sl _ _ b o' cap u hS hx hcap hc hd=>
   refine fin hsz.1 hu hv hj hlt (.el f cells 0 b (o'+j.toNat*sz) hS (u j.toNat) fun q d hq=>⟨?_,hd j.toNat q d (by rw[hcl];exact hq)⟩) h
   exact hc j.toNat q d (by rw[hcl];exact hq)
 ·rename_i n k j' j hev hei
  rw[hev] at hx;rw[hei] at hi'
  split at h
  rotate_left
  ·exact ok_rd hs h
  ·cases h
  rename_i k2 E sz f xs hm
  split at h
  rotate_left
  ·cases h
  rename_i hsz
  obtain⟨rfl,hsz,_⟩:=hsz
  obtain⟨hj,hlt,h⟩:=h
  generalize hu:a.eval x=u at hx
  generalize hv:a.eval i=v at hi'
  cases hi'
  cases hx
  rename_i hu1 hn
  obtain⟨k',v,hn,hk,he⟩:=hn
  obtain⟨rfl,h1,h2,h3⟩:=row_cells hs hm hn
  rcases h3 with⟨_,h3⟩|⟨g',cap',us,h3,h4,_⟩
  ·subst h3;simp at hlt
  have:=he rfl
  rw[(row_hdv hs hm hn).1] at this
  subst this
  subst h3
  refine fin hsz hu hv hj hlt (.oq n k' sz _ 0 _ rfl ⟨k',_,hn,Nat.le_refl _,fun _=>⟨g',xs.length,cap',rfl,?_⟩⟩) h
  simp
 ·rename_i n k s lo hi j' j hev hei
  rw[hev] at hx;rw[hei] at hi'
  split at h
  rotate_left
  ·exact ok_rd hs h
  ·cases h
  rename_i k2 E sz f xs hm
  split at h
  rotate_left
  ·cases h
  rename_i hsz
  obtain⟨rfl,rfl,hsz,_⟩:=hsz
  obtain⟨hj,hlt,h⟩:=h
  generalize hu:a.eval x=u at hx
  generalize hv:a.eval i=v at hi'
  cases hi'
  cases hx
  rename_i hu1 hn
  obtain⟨k',v,hn,hk,he⟩:=hn
  obtain⟨rfl,h1,h2,h3⟩:=row_cells hs hm hn
  have hdq:=(row_hdv hs hm hn).1
  rw[hdq] at he
  obtain⟨A,len,cap,A',e1,e2,e3,e4,e5⟩:=he rfl
  rcases h3 with⟨h3,_⟩|⟨g',cap',us,h3,h4,_⟩
  ·exfalso
   rw[h3] at e1;cases e1
   clear he
   omega
  rw[h3] at e1;cases e1
  subst e4
  clear he
  rw[e5 (by omega)] at hu
  simp only[Option.map_some,add_mk] at hu
  refine fin hsz hu hv hj hlt (.oq n k' s _ 0 _ rfl ⟨k',_,hn,Nat.le_refl _,fun _=>⟨g',_,_,hdq.trans h3,?_⟩⟩) h
  rw[Nat.add_mul];simp
 ·cases h
theorem ok_index (hT:TOk P T) (hs:Sat B w0 N S t m a w) {o:Oper} {ty:Nat} {x i:Operand} (ho:o.op= .index ty x i) {K:V→List (Option Bk)→Prop}
  (h:match T ty with
  |some ⟨_,_,_,_,.string⟩=>match evN t x,evN t i with
   | .cv (.string s),.cv (.int _ j)=>0≤j∧∃b:UInt8,s[j.toNat]?=some b∧K (.cv (.int .u8 (b.toNat:Nat))) m
   |_,_=>False
  |some ⟨_,_,_,_,.array n e⟩=>match T e with
   |some ie=>if ie.size=1∧ie.agg=false then(match evN t x,evN t i with
    | .ag cs,.cv (.int _ j)=>0≤j∧j.toNat<n∧∃v,cs[j.toNat]?=some v∧v.k fun v=>K v m
    |_,_=>False) else False
   |none=>False
  |_=>False):OpOk P o a w (Post B w0 t a K):=by
 have hx:=hs.evN x
 have hi:=hs.evN i
 split at h
 rotate_left
 ·rename_i n e hti
  split at h
  rotate_left
  ·cases h
  rename_i ie hie
  split at h
  rotate_left
  ·cases h
  rename_i hsz
  have hst:=hT.kd_array hti rfl
  split at h
  rotate_left
  ·cases h
  rename_i cs k j hev hei
  rw[hev] at hx;rw[hei] at hi
  obtain⟨h0,hj,v,hv,h⟩:=h
  rw[k_eq] at h
  generalize hu:a.eval x=u at hx
  generalize hv2:a.eval i=z at hi
  cases hi
  cases hx
  rename_i us hl hr
  have hlt:=lt_of_get hv
  refine opOk_val (u:=us.getD j.toNat undef) (w':=w) ?_ (Post.same hs (hr _ _ hv) h)
  unfold execOp
  simp only[ho]
  refine run_v ?_
  rw[hu,hv2]
  have h1:j<(n:Int):=by omega
  have e1:us[j.toNat]?=some (us.getD j.toNat undef):=by
   rw[Array.getD_eq_getD_getElem?,Array.getElem?_eq_getElem (by omega)];rfl
  have hag:=hT.agg hie w
  rw[hsz.2] at hag
  have hss:=hT.size hie w
  rw[hsz.1] at hss
  generalize us.getD j.toNat undef=y at e1
  simp[Instr.index,run_underlying hst,asIntOf,h0,h1,hss,part,hag,e1]
 ·cases h
 rename_i hti
 have hst:=hT.kd_string hti rfl
 split at h
 rotate_left
 ·cases h
 rename_i s k j hev hei
 rw[hev] at hx;rw[hei] at hi
 obtain⟨hj,b,hb,h⟩:=h
 generalize hu:a.eval x=u at hx
 generalize hv:a.eval i=v at hi
 cases hi
 cases hx
 refine opOk_val (u:= .int .u8 (b.toNat:Nat)) (w':=w) ?_ (Post.same hs (.cv _) h)
 unfold execOp
 simp only[ho]
 refine run_v ?_
 rw[hu,hv]
 simp[Instr.index,run_underlying hst,asIntOf,hj,hb]
theorem optInt_spec (hs:Sat B w0 N S t m a w) {d:Int} {x:Option Operand} {l:Int} (h:optInt (evN t) d x=some l):(x=none∧l=d)∨∃y k,x=some y∧a.eval y= .int k l:=by
 unfold optInt at h
 split at h
 ·cases h;exact .inl ⟨rfl,rfl⟩
 ·rename_i y
  split at h
  ·rename_i k n hev
   cases h
   have:=hs.evN y
   rw[hev] at this
   generalize hu:a.eval y=u at this
   cases this
   exact .inr ⟨y,k,rfl,hu⟩
  ·cases h
theorem sliceBounds_run (hs:Sat B w0 N S t m a w) {b:Bool} {len cap:Nat} {lo hi:Option Operand} {l h:Int} (h1:optInt (evN t) 0 lo=some l) (h2:optInt (evN t) (len:Nat) hi=some h)
  (h0:0≤l) (hlh:l≤h) (hle:h≤(cap:Nat)):(Instr.sliceBounds b len cap (lo.map a.eval) (hi.map a.eval) none).run P w= .ok (l.toNat,h.toNat,cap) w:=by
 have hbound:∀{k:IntKind} {i:Int} {y:Nat} {c:BoundsCode},0≤i→i≤(y:Int)→(Instr.sliceBound (.int k i) y c).run P w= .ok i.toNat w:=by
  intro k i y c a1 a2
  simp[Instr.sliceBound,asIntOf,a1,a2]
 have hh0:0≤h:=by omega
 have hl':l≤(h.toNat:Int):=by omega
 rcases optInt_spec hs h1 with⟨rfl,rfl⟩|⟨y,k,rfl,hy⟩<;>rcases optInt_spec hs h2 with⟨rfl,rfl⟩|⟨y',k',rfl,hy'⟩
 ·simp[Instr.sliceBounds]
 ·simp[Instr.sliceBounds,hy',hbound hh0 hle]
 ·simp[Instr.sliceBounds,hy,hbound h0 (show l≤((len:Nat):Int) by omega)]
 ·simp[Instr.sliceBounds,hy,hy',hbound hh0 hle,hbound h0 hl']
theorem ok_slice (hT:TOk P T) (hs:Sat B w0 N S t m a w) {o:Oper} {ty:Nat} {x:Operand} {lo hi mx:Option Operand} (ho:o.op= .slice ty x lo hi mx) {K:V→List (Option Bk)→Prop}
  (h:match(generalizing:=false) T ty,mx with
  |some ⟨_,_,_,_,.string⟩,none=>match evN t x with
   | .cv (.string s)=>match optInt (evN t) 0 lo,optInt (evN t) (s.size:Nat) hi with
    |some l,some h=>0≤l∧l≤h∧h≤(s.size:Nat)∧K (.cv (.string (s.extract l.toNat h.toNat))) m
    |_,_=>False
   |_=>False
  |some ⟨_,_,_,_,.slice e⟩,none=>match evN t x with
   | .sl f sz xs=>if sizeOk T e sz then
     match optInt (evN t) 0 lo,optInt (evN t) (xs.length:Nat) hi with
     |some l,some h=>0≤l∧l≤h∧h≤(xs.length:Nat)∧K (.sl f sz ((xs.take h.toNat).drop l.toNat)) m
     |_,_=>False
    else False
   | .ow n k=>match m[n]? with
    | some (some (.row k' _ sz _ xs))=>if k=k'∧sizeOk T e sz=true then
      match optInt (evN t) 0 lo,optInt (evN t) (xs.length:Nat) hi with
      |some l,some h=>0≤l∧l≤h∧h≤(xs.length:Nat)∧K (.vw n k sz l.toNat h.toNat) m
      |_,_=>False
     else False
    |some (some (.asr ..))=>rdK P o (evN t) m K
    |_=>False
   | .vw n k s lo' hi'=>match m[n]? with
    | some (some (.row k' _ sz _ _))=>if k=k'∧s=sz∧sizeOk T e sz=true then
      match optInt (evN t) 0 lo,optInt (evN t) ((hi' - lo':Nat):Int) hi with
      |some l,some h=>0≤l∧l≤h∧h≤((hi' - lo':Nat):Int)∧K (.vw n k s (lo'+l.toNat) (lo'+h.toNat)) m
      |_,_=>False
     else False
    |_=>False
   |_=>False
  |_,_=>False):OpOk P o a w (Post B w0 t a K):=by
 have hx:=hs.evN x
 obtain rfl:mx=none:=by
  cases mx with
  |none=>rfl
  |some _=>
   exfalso;revert h
   cases T ty with
   |none=>simp
   |some i=>obtain⟨_,_,_,_,kd⟩:=i;cases kd<;>simp
 cases hti:T ty with
 |none=>rw[hti] at h;exact h.elim
 |some i=>
 obtain⟨size',bytes',agg',zero',kd⟩:=i
 cases kd<;>simp only[hti] at h
 rotate_left 2
 ·have hst:=hT.kd_string hti rfl
  split at h
  rotate_left
  ·cases h
  rename_i s hev
  rw[hev] at hx
  generalize hu:a.eval x=u at hx
  cases hx
  split at h
  rotate_left
  ·cases h
  rename_i l h' hl hh
  obtain⟨h0,h1,h2,h⟩:=h
  refine opOk_val (u:= .string (s.extract l.toNat h'.toNat)) (w':=w) ?_ (Post.same hs (.cv _) h)
  unfold execOp
  simp only[ho]
  refine run_v ?_
  rw[hu]
  simp[Instr.sliceAt,run_underlying hst,Instr.slice,sliceBounds_run hs hl hh h0 h1 h2]
 ·rename_i e
  have hsl:=hT.kd_slice hti rfl
  have run:∀{A:Option Addr} {len cap sz:Nat} {l h':Int} {v:V},a.eval x= .slice A len cap→sizeOk T e sz=true→optInt (evN t) 0 lo=some l→optInt (evN t) (len:Nat) hi=some h'→0≤l→l≤h'→h'≤(len:Nat)→len≤cap→
    RelV N S w v (.slice (if cap=l.toNat then A else A.map (·.add (l.toNat*sz))) (h'.toNat - l.toNat) (cap - l.toNat))→K v m→OpOk P o a w (Post B w0 t a K):=by
   intro A len cap sz l h' v hu hsz hl hh h0 h1 h2 hc hv hK
   unfold sizeOk at hsz
   split at hsz
   rotate_left
   ·cases hsz
   rename_i ie hie
   simp only[beq_iff_eq] at hsz
   subst hsz
   refine opOk_val (w':=w) ?_ (Post.same hs hv hK)
   unfold execOp
   simp only[ho]
   refine run_v ?_
   rw[hu]
   simp[Instr.sliceAt,run_underlying hsl,Instr.slice,sliceBounds_run hs hl hh h0 h1 (Int.le_trans h2 (Int.ofNat_le.2 hc)),hT.size hie]
  split at h
  rotate_left
  ·rename_i n k hev
   rw[hev] at hx
   split at h
   rotate_left
   ·exact ok_rd hs h
   ·cases h
   rename_i k2 E sz f xs hm
   split at h
   rotate_left
   ·cases h
   rename_i hkk
   obtain⟨rfl,hsz⟩:=hkk
   split at h
   rotate_left
   ·cases h
   rename_i l h' hl hh
   obtain⟨h0,h1,h2,h⟩:=h
   generalize hu:a.eval x=u at hx
   cases hx
   rename_i hu1 hn
   obtain⟨k',v,hn,hk,he⟩:=hn
   obtain⟨rfl,h3,h4,h5⟩:=row_cells hs hm hn
   have:=he rfl
   rw[(row_hdv hs hm hn).1] at this
   subst this
   rcases h5 with⟨rfl,rfl⟩|⟨g,cap,us,rfl,h6,h7,_⟩
   ·refine run hu hsz hl hh h0 h1 h2 (Nat.le_refl _) (.vw _ _ _ _ _ _ rfl ⟨_,_,hn,Nat.le_refl _,fun _=>⟨_,_,_,_,rfl,by omega,by simp at h2⊢;omega,rfl,fun hlt=>?_⟩⟩) h
    split<;>rfl
   ·refine run hu hsz hl hh h0 h1 h2 h7 (.vw _ _ _ _ _ _ rfl ⟨_,_,hn,Nat.le_refl _,fun _=>⟨_,_,_,_,rfl,by omega,by omega,rfl,fun hlt=>?_⟩⟩) h
    split
    ·rename_i hc0
     rcases hlt with hlt|hlt
     ·omega
     ·rw[hlt];simp[add_mk]
    ·rfl
  ·rename_i n k s lo' hi' hev
   rw[hev] at hx
   split at h
   rotate_left
   ·cases h
   rename_i k2 E sz f xs hm
   split at h
   rotate_left
   ·cases h
   rename_i hkk
   obtain⟨rfl,rfl,hsz⟩:=hkk
   split at h
   rotate_left
   ·cases h
   rename_i l h' hl hh
   obtain⟨h0,h1,h2,h⟩:=h
   generalize hu:a.eval x=u at hx
   cases hx
   rename_i hu1 hn
   obtain⟨k',v,hn,hk,he⟩:=hn
   obtain⟨rfl,h3,h4,h5⟩:=row_cells hs hm hn
   have hdq:=(row_hdv hs hm hn).1
   rw[hdq] at he
   obtain⟨A,len,cap,A',e1,e2,e3,e4,e5⟩:=he rfl
   clear he
   subst e4
   have hcap:len≤cap∧(A=none∨∃g,A=some ⟨g,0,none⟩):=by
    rcases h5 with⟨e6,_⟩|⟨g,cap',us,e6,_,h7,_⟩
    ·rw[e1] at e6;cases e6;exact⟨Nat.le_refl _,.inl rfl⟩
    ·rw[e1] at e6;cases e6;exact⟨h7,.inr ⟨g,rfl⟩⟩
   refine run hu hsz hl hh h0 h1 h2 (by omega) (.vw _ _ _ _ _ _ rfl ⟨_,_,hn,Nat.le_refl _,fun _=>⟨_,_,_,_,hdq.trans e1,by omega,by omega,by rw[show h'.toNat - l.toNat=lo'+h'.toNat - (lo'+l.toNat) by omega,show cap - lo' - l.toNat=cap - (lo'+l.toNat) by omega],fun hlt=>?_⟩⟩) h
   by_cases hc0:cap - lo'=l.toNat
   ·rw[if_pos hc0,e5 (by omega)]
    rcases hcap.2 with rfl|⟨g,rfl⟩
    ·rfl
    ·rcases hlt with hlt|hlt
     ·omega
     ·have h1:l.toNat=0:=by omega
      rw[h1];simp[add_mk]
   ·rw[if_neg hc0,e5 (by omega)]
    rcases hcap.2 with rfl|⟨g,rfl⟩
    ·rfl
    ·simp only[Option.map_some,add_mk,Nat.add_mul,Nat.add_assoc]
  ·cases h
  rename_i f sz xs hev
  rw[hev] at hx
  generalize hu:a.eval x=u at hx
  cases hx
  rename_i hr
  split at h
  rotate_left
  ·cases h
  rename_i hsz
  split at h
  rotate_left
  ·cases h
  rename_i l h' hl hh
  obtain⟨h0,h1,h2,h⟩:=h
  have fin:∀{A:Option Addr} {cap:Nat},u= .slice A xs.length cap→xs.length≤cap→RelD (S f) w (.sl sz ((xs.take h'.toNat).drop l.toNat)) (.slice (if cap=l.toNat then A else A.map (·.add (l.toNat*sz))) (h'.toNat - l.toNat) (cap - l.toNat))→OpOk P o a w (Post B w0 t a K):=by
   intro A cap e1 e2 e3
   subst e1
   exact run hu hsz hl hh h0 h1 h2 e2 (.sl _ _ _ _ e3) h
  cases hr with
  |nil _ A cap=>
   have e1:l.toNat=0:=by simp at h2;omega
   have e2:h'.toNat=0:=by simp at h2;omega
   refine fin rfl (Nat.zero_le _) ?_
   rw[e1,e2]
   exact .nil _ _ _
  |sl _ _ b o' cap u hS hx hcap hc hd=>
   refine fin rfl hcap ?_
   have hh:h'.toNat≤xs.length:=by omega
   by_cases hz:h'.toNat≤l.toNat
   ·have e1:(xs.take h'.toNat).drop l.toNat=[]:=by
     apply List.drop_eq_nil_of_le;rw[List.length_take];omega
    rw[e1,show h'.toNat - l.toNat=0 by omega]
    exact .nil _ _ _
   ·rw[if_neg (by omega)]
    have hlen:((xs.take h'.toNat).drop l.toNat).length=h'.toNat - l.toNat:=by
     rw[List.length_drop,List.length_take];omega
    have hget:∀i,((xs.take h'.toNat).drop l.toNat)[i]?=if l.toNat+i<h'.toNat then xs[l.toNat+i]? else none:=by
     intro i;rw[List.getElem?_drop,List.getElem?_take]
    simp only[Option.map_some,add_mk]
    rw[←hlen]
    refine .sl _ _ b _ _ (fun i j=>u (l.toNat+i) j) hS (fun y hy=>hx y (List.mem_of_mem_take (List.mem_of_mem_drop hy))) (by omega) (fun i j d hd'=>?_) (fun i j d hd'=>?_)
    ·rw[hget i] at hd'
     split at hd'
     ·have:=hc (l.toNat+i) j d hd'
      rw[←this];congr 2;rw[Nat.add_mul];omega
     ·cases hd'
    ·rw[hget i] at hd'
     split at hd'
     ·exact hd _ _ _ hd'
     ·cases hd'
end
end Go.Proofs.YtdccglkagfdooaaGreatDoor
