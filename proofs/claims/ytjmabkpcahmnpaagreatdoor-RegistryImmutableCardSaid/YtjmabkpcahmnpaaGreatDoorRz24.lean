/- Texts joined by pack.py: XSxRA XSxRB XSxRM -/
import Derived.Test.YtjmabkpcahmnpaaGreatDoorRz23
import Derived.RangeFuncLeaves
namespace Go.Proofs.YtjmabkpcahmnpaaGreatDoor
open Go.RowKit
def outB (B:Fr) (w:World) (G:List (V×Value)) (A:Nat→Prop) (ds:List Deferred):Fr:=
 {keep:=fun g=>B.keep g∨A g,old:=B.old,lent:=fun _=>none,ref:=w,ghost:=G,aside:=A,defers:=ds}
structure Mem (B:Fr) (w0:World) (G:List (V×Value)) (A:Nat→Prop) (m:List (Option Bk)) (w:World):Prop where
 low:Low B.keep B.ref w
 inv:GI B
 sat:∃N S,Sat (outB B w G A []) w0 N S [] m {tmps:= #[],defers:=[]} w
def V.noN1 (n:Nat):V→Bool
 | .bx k _| .ic _ k| .ow k _| .oq k _ _ _ _| .vw k _ _ _ _=> !(Nat.beq k n)
 | .ag _| .tu _| .fn _ _ _=>false
 |_=>true
def V.noN (n:Nat):V→Bool
 | .ag cs| .tu cs| .fn _ _ cs=>cs.all (V.noN1 n)
 |v=>v.noN1 n
def Bk.noN (n:Nat):Bk→Bool
 | .box cs _=>cs.all (V.noN n)
 | .row .. =>true
 | .fz .. =>true
 | .asr _ _ outs=>outs.all (V.noN n)
def noM (n:Nat) (m:List (Option Bk)):Bool:=m.all fun
 |some b=>b.noN n
 |none=>true
section
variable {P:Program} {T:Tab} {B:Fr} {w0:World} {N:Names} {S:Sets} {t t':List V} {m m':List (Option Bk)} {a:Act} {w w1:World} {G G':List (V×Value)} {A:Nat→Prop} {ds:List Deferred}
theorem GI.out (h:GI B) (hl:Low B.keep B.ref w):GI (outB B w G A ds):=⟨h.now hl,fun g hg=> .inl (h.2 g hg)⟩
theorem zip_of {us:List Value} (h:RelL N S w t us):∀p∈t.zip us,RelV N S w p.1 p.2:=by
 intro p hp
 obtain⟨i,hi⟩:=List.getElem?_of_mem hp
 rw[List.getElem?_zip_eq_some] at hi
 have:=h.2 i _ hi.1
 rw[List.getD_eq_getElem?_getD,hi.2] at this
 exact this
theorem of_zip {us:List Value} (hl:t.length=us.length) (h:∀p∈t.zip us,RelV N S w p.1 p.2):RelL N S w t us:=by
 refine⟨hl,fun i v hv=>?_⟩
 have hlt:i<us.length:=by rw[←hl];exact lt_of_get hv
 have:=h (v,us[i]) (List.mem_of_getElem? (i:=i) (by rw[List.getElem?_zip_eq_some];exact⟨hv,List.getElem?_eq_getElem hlt⟩))
 rw[List.getD_eq_getElem?_getD,List.getElem?_eq_getElem hlt]
 exact this
theorem Mem.frame (h:Mem B w0 G A m w) (ht:∀N S,(∀p∈G,RelV N S w p.1 p.2)→RelL N S w t a.tmps.toList):∃N S,Sat (outB B w G A a.defers) w0 N S t m a w:=by
 obtain⟨h0,hi,N,S,hs⟩:=h
 exact⟨N,S,hs.low,rfl,ht N S hs.more.ghost,hs.blk,hs.non,hs.apart,hs.data,hs.fresh,hs.own,hs.base,hs.old,(fun _ _ h=>by cases h),⟨hs.more.size,hs.more.ghost,hs.more.aside,hs.more.inv⟩,(fun _ _ h=>by cases h)⟩
theorem Mem.back (h0:Low B.keep B.ref w1) (hi:GI B) (hs:Sat (outB B w1 G A ds) w0 N S t m a w) (hG:∀p∈G',RelV N S w p.1 p.2):Mem B w0 G' A m w:=
 ⟨h0.trans (hs.low.mono fun g h=> .inl h),hi,N,S,Low.refl _ _,rfl,⟨rfl,fun i v h=>by simp at h⟩,hs.blk,hs.non,hs.apart,hs.data,hs.fresh,hs.own,hs.base,hs.old,(fun _ _ h=>by cases h),⟨hs.more.size,hG,hs.more.aside,hi.out (h0.trans (hs.low.mono fun g h=> .inl h))⟩,(fun _ _ h=>by cases h)⟩
theorem Mem.put {l:Nat} {o:Obj} (hA:A l) (hB:¬B.keep l) (h:Mem B w0 G A m w):Mem B w0 G A m (w.putObj l o):=by
 obtain⟨h0,hi,N,S,hs⟩:=h
 have hw:∀f g,S f g→(w.putObj l o).heap[g]?=w.heap[g]?:=fun f g hg=>World.putObj_heap_other (fun e=>by subst e;exact(hs.more.aside _ hA).2 f hg)
 have hsz:(w.putObj l o).heap.size=w.heap.size:=World.putObj_size
 refine⟨h0.trans ⟨rfl,rfl,rfl,by rw[hsz];exact Nat.le_refl _,fun k hk=>World.putObj_heap_other (fun e=>hB (by rw[←e];exact hk))⟩,hi,N,S,Low.refl _ _,rfl,⟨rfl,fun i v h=>by simp at h⟩,
  fun k b hk=>(hs.blk k b hk).mono rfl (NLe.refl _) (fun _ _ h=>h) hw fun x v g h1 h2=>World.putObj_heap_other (fun e=>by subst e;exact(hs.own k x v _ h1 h2).1 (.inr hA)),
  hs.non,hs.apart,fun f g hg=>⟨by rw[hsz];exact(hs.data f g hg).1,(hs.data f g hg).2⟩,hs.fresh,fun k x v g h1 h2=>⟨(hs.own k x v g h1 h2).1,by rw[hsz];exact(hs.own k x v g h1 h2).2⟩,
  fun g hg=>by rw[hsz];exact hs.base g hg,hs.old,(fun _ _ h=>by cases h),⟨by rw[hsz];exact hs.more.size,fun p hp=>(hs.more.ghost p hp).mono (NLe.refl _) (fun _ _ h=>h) hw,hs.more.aside,hi.out (h0.trans ⟨rfl,rfl,rfl,by rw[hsz];exact Nat.le_refl _,fun k hk=>World.putObj_heap_other (fun e=>hB (by rw[←e];exact hk))⟩)⟩,(fun _ _ h=>by cases h)⟩
theorem Sat.leave (hs:Sat B w0 N S t m a w) (_hg:B.ghost=[]) (_ha:∀g,¬B.aside g) (o1 o2:Obj) {Gx:List (V×Value)} (hGx:∀p∈Gx,RelV N S w p.1 p.2):
  Mem B w0 (t.zip a.tmps.toList++Gx) (fun g=>g=w.heap.size∨g=w.heap.size+1) m ((w.alloc o1).alloc o2):=by
 have hold:∀g,g<w.heap.size→((w.alloc o1).alloc o2).heap[g]?=w.heap[g]?:=fun g hg=>(Below.heap_alloc _ _ _ (by simp;omega)).trans (Below.heap_alloc _ _ _ hg)
 have hsz:((w.alloc o1).alloc o2).heap.size=w.heap.size+2:=by simp
 have hw:∀f g,S f g→((w.alloc o1).alloc o2).heap[g]?=w.heap[g]?:=fun f g hg=>hold g (hs.data f g hg).1
 have hlo:Low B.keep B.ref ((w.alloc o1).alloc o2):=hs.low.trans ⟨rfl,rfl,rfl,by rw[hsz];omega,fun k hk=>hold k (hs.base k hk)⟩
 refine⟨hlo,hs.more.inv,N,S,Low.refl _ _,rfl,⟨rfl,fun i v h=>by simp at h⟩,
  fun k b hk=>(hs.blk k b hk).mono rfl (NLe.refl _) (fun _ _ h=>h) hw fun x v g h1 h2=>hold g (hs.own k x v g h1 h2).2,
  hs.non,hs.apart,fun f g hg=>⟨by rw[hsz];have:=(hs.data f g hg).1;omega,(hs.data f g hg).2⟩,hs.fresh,fun k x v g h1 h2=>⟨?_,by rw[hsz];have:=(hs.own k x v g h1 h2).2;omega⟩,
  fun g hg=>?_,hs.old,(fun _ _ h=>by cases h),⟨by rw[hsz];have:=hs.more.size;omega,fun p hp=>((List.mem_append.1 hp).elim (zip_of hs.tmps p) (hGx p)).mono (NLe.refl _) (fun _ _ h=>h) hw,fun g hg=>⟨.inr hg,fun f hf=>?_⟩,GI.out hs.more.inv hlo⟩,(fun _ _ h=>by cases h)⟩
 ·have:=(hs.own k x v g h1 h2).2
  rintro(h|h|h)
  ·exact(hs.own k x v g h1 h2).1 h
  ·omega
  ·omega
 ·rw[hsz]
  rcases hg with h|h|h
  ·have:=hs.base g h;omega
  ·omega
  ·omega
 ·have:=(hs.data f g hf).1
  rcases hg with h|h<;>omega
theorem noN_rel {n:Nat} {N':Names} (hN:∀k,k≠n→N' k=N k) {v:V} {u:Value} (hv:v.noN n=true) (h:RelV N S w v u):RelV N' S w v u:=by
 have one:∀{v:V} {u:Value},v.noN1 n=true→RelV N S w v u→RelV N' S w v u:=by
  intro v u hv h
  have ne:∀{k:Nat},(!(Nat.beq k n))=true→k≠n:=by
   intro k hk e
   subst e
   simp at hk
  cases h<;>simp only[V.noN1] at hv<;>first|(cases hv;done)|skip
  ·exact .un _
  ·exact .cv _
  ·exact .kb _
  ·exact .sl _ _ _ _ (by assumption)
  ·rename_i hS hc _;exact .el _ _ _ _ _ (by assumption) _ (by assumption)
  ·exact .bx _ _ _ (by rw[hN _ (ne hv)];assumption)
  ·exact .ow _ _ _ (by assumption) (by rw[hN _ (ne hv)];assumption)
  ·exact .oq _ _ _ _ _ _ (by assumption) (by rw[hN _ (ne hv)];assumption)
  ·exact .vw _ _ _ _ _ _ (by assumption) (by rw[hN _ (ne hv)];assumption)
  ·exact .ic _ _ _ (by rw[hN _ (ne hv)];assumption)
 unfold V.noN at hv
 split at hv
 ·cases h with
  |ag _ us hl h=>exact .ag _ us hl fun i v hv'=>one (List.all_eq_true.1 hv v (List.mem_of_getElem? hv')) (h i v hv')
 ·cases h with
  |tu _ us hl h=>exact .tu _ us hl fun i v hv'=>one (List.all_eq_true.1 hv v (List.mem_of_getElem? hv')) (h i v hv')
 ·cases h with
  |fn _ _ _ us vs hn hl h=>exact .fn _ _ _ us vs hn hl fun i v hv'=>one (List.all_eq_true.1 hv v (List.mem_of_getElem? hv')) (h i v hv')
 ·exact one hv h
theorem noM_get {n:Nat} (h:noM n m=true) {k:Nat} {b:Bk} (hk:m[k]?=some (some b)):b.noN n=true:=by
 have:=List.all_eq_true.1 h _ (List.mem_of_getElem? hk)
 exact this
theorem Mem.drop {n:Nat} (hm:noM n m=true) (hG:(G.all fun p=>p.1.noN n)=true) (h:Mem B w0 G A m w):Mem B w0 G A (m.set n none) w:=by
 obtain⟨h0,hi,N,S,hs⟩:=h
 let N':Names:=fun k=>if k=n then none else N k
 have hN:∀k,k≠n→N' k=N k:=fun k hk=>by simp[N',hk]
 have hN2:∀k x v,N' k=some (x,v)→N k=some (x,v):=by
  intro k x v h
  by_cases hk:k=n
  ·simp[N',hk] at h
  ·rw[hN k hk] at h;exact h
 have hget:∀k b,(m.set n none)[k]?=some (some b)→k≠n∧m[k]?=some (some b):=by
  intro k b h
  rw[List.getElem?_set] at h
  split at h
  ·split at h<;>cases h
  ·rename_i hne;exact⟨fun e=>hne e.symm,h⟩
 refine⟨h0,hi,N',S,Low.refl _ _,rfl,⟨rfl,fun i v h=>by simp at h⟩,fun k b hk=>?_,fun k hk=>?_,?_,?_,hs.fresh,?_,hs.base,hs.old,(fun _ _ h=>by cases h),⟨hs.more.size,fun p hp=>noN_rel hN (List.all_eq_true.1 hG p hp) (hs.more.ghost p hp),hs.more.aside,hs.more.inv⟩,(fun _ _ h=>by cases h)⟩
 ·obtain⟨hne,hk'⟩:=hget k b hk
  have hb:=noM_get hm hk'
  have hH:=hs.blk k b hk'
  cases b with
  |box cs=>
   obtain⟨g,ty,us,h1,h2,h3,h4⟩:=hH
   exact⟨g,ty,us,(hN k hne).trans h1,h2,h3,fun i v hv=>noN_rel hN (List.all_eq_true.1 hb v (List.mem_of_getElem? hv)) (h4 i v hv)⟩
  |row k2 E sz f xs=>
   obtain⟨v,us,h1,h2⟩:=hH
   exact⟨v,us,(hN k hne).trans h1,h2⟩
  |fz=>
   obtain⟨g,cap,us,fr,h1,h2⟩:=hH
   exact⟨g,cap,us,fr,(hN k hne).trans h1,h2⟩
  |asr k2 A2 outs=>
   obtain⟨fs,us,h1,h2,h3⟩:=hH
   exact⟨fs,us,(hN k hne).trans h1,⟨h2.1,fun i v hv=>noN_rel hN (List.all_eq_true.1 hb v (List.mem_of_getElem? hv)) (h2.2 i v hv)⟩,h3⟩
 ·by_cases hkn:k=n
  ·simp[N',hkn]
  ·rw[hN k hkn]
   exact hs.non k fun b hb=>hk b (by rw[List.getElem?_set_ne (Ne.symm hkn)];exact hb)
 ·intro j k x y u v g h1 h2
  exact hs.apart j k x y u v g (hN2 _ _ _ h1) (hN2 _ _ _ h2)
 ·intro f g hg
  exact⟨(hs.data f g hg).1,fun k x v h1=>(hs.data f g hg).2 k x v (hN2 _ _ _ h1)⟩
 ·intro k x v g h1
  exact hs.own k x v g (hN2 _ _ _ h1)
end
end Go.Proofs.YtjmabkpcahmnpaaGreatDoor
namespace Go.Proofs.YtjmabkpcahmnpaaGreatDoor
open Go.RowKit
section
variable {P:Program} {T:Tab} {B:Fr} {w0:World} {N:Names} {S:Sets} {t t1:List V} {m m1:List (Option Bk)} {a:Act} {w:World} {r:Option Nat} {n:Nat} {Q:Exit→Act→World→Prop} {ops:Array Oper}
theorem relL_un {k:Nat} {us:List Value} (h:us.length=k):RelL N S w (List.replicate k .un) us:=
 ⟨by simp[h],fun i v hv=>by
  rw[List.getElem?_replicate] at hv
  split at hv
  ·cases hv;exact .un _
  ·cases hv⟩
theorem tmp_of (hs:Sat B w0 N S t m a w) {d:Nat} {v:Value} (hb:t[d]?=some (.cv v)):a.tmps[d]?=some v:=by
 have hr:=hs.tmps.2 d _ hb
 have hlt:=lt_of_get hb
 rw[getD_toList] at hr
 have e:a.tmps.toList.length=a.tmps.size:=by simp
 have hlt2:d<a.tmps.size:=by rw[←e,←hs.tmps.1];exact hlt
 have hget:a.tmps[d]?=some (a.tmps.getD d undef):=by simp[Array.getD_eq_getD_getElem?,hlt2]
 generalize a.tmps.getD d undef=z at hr hget
 cases hr
 exact hget
theorem ev_of (hs:Sat B w0 N S t m a w) {d:Nat} {v:Value} (hb:t[d]?=some (.cv v)):a.eval (.tmp d)=v:=by
 simp[Act.eval,Array.getD_eq_getD_getElem?,tmp_of hs hb]
def fgt:List V→List V→Prop
 |[],[]=>True
 |_::l,.un::l'=>fgt l l'
 |v::l,v'::l'=>v=v'∧fgt l l'
 |_,_=>False
theorem fgt_get:∀{t t1:List V},fgt t t1→t1.length=t.length∧∀(i:Nat) (v:V),t1[i]?=some v→t[i]?=some v∨v= .un
 |[],[],_=>⟨rfl,fun i v h=>by simp at h⟩
 |[],_::_,h=>h.elim
 |_::_,[],h=>by simp[fgt] at h
 |x::l,y::l',h=>by
  have key:(x=y∨y= .un)∧fgt l l':=by
   cases y<;>first|exact⟨.inr rfl,h⟩|exact⟨.inl h.1,h.2⟩
  obtain⟨h1,h2⟩:=fgt_get key.2
  refine⟨by simp[h1],fun i v hv=>?_⟩
  cases i with
  |zero=>
   simp at hv;subst hv
   rcases key.1 with rfl|h
   ·exact .inl rfl
   ·exact .inr h
  |succ i=>simpa using h2 i v (by simpa using hv)
theorem Sat.forget (hs:Sat B w0 N S t m a w) (h:fgt t t1) (hB:∀n,B.lent n=none):Sat B w0 N S t1 m a w:=by
 obtain⟨h1,h2⟩:=fgt_get h
 refine⟨hs.low,hs.nodef,⟨by rw[h1];exact hs.tmps.1,fun i v hv=>?_⟩,hs.blk,hs.non,hs.apart,hs.data,hs.fresh,hs.own,hs.base,hs.old,fun n g h=>(by rw[hB n] at h;cases h),hs.more,fun n og hn=>by rw[h1];exact hs.stay n og hn⟩
 rcases h2 i v hv with h|rfl
 ·exact hs.tmps.2 i v h
 ·exact .un _
def Fin (t:List V) (m:List (Option Bk)):Ex→St→Prop:=fun e st=>match e with
 | .normal=>st.m=m∧fgt st.t t
 |_=>False
theorem go_norm (hT:TOk P T) (hm:P.follows .mixedOrders=true) {c:Code} (hs:Sat B w0 N S t m a w) (h:awp P T c ⟨t,m⟩ (Fin t1 m1)) (hQ:∀N S a w,Sat B w0 N S t1 m1 a w→Q .normal a w) (hp:plainC T.fm c=true:=by rfl) (hB:∀n,B.lent n=none:=by intro n;rfl):c.wpIn (fen r) n P Q a w:=by
 refine wpIn_mono (awp_in hT hm c _ a w hp ⟨N,S,t,m,hs,h⟩) ?_
 rintro e a w h
 cases e<;>simp only[QK] at h<;>try exact h.elim
 ·obtain⟨N,S,t2,m2,hs,h1,h2⟩:=h
  cases h1
  exact hQ N S a w (hs.forget h2 hB)
 ·obtain⟨N,S,t2,m2,hs,h⟩:=h;exact h.elim
 ·obtain⟨N,S,t2,m2,hs,h⟩:=h;exact h.elim
theorem go_ops (hT:TOk P T) {os rest:List Oper} (hs:Sat B w0 N S t m a w) (h:awpOps P T ops os ⟨t,m⟩ (Fin t1 m1 .normal)) (hQ:∀N S a w,Sat B w0 N S t1 m1 a w→wpListIn (fen r) n P ops Q rest a w) (hd:os.all opNoDefer=true:=by rfl) (hB:∀n,B.lent n=none:=by intro n;rfl):
  wpListIn (fen r) n P ops Q (os++rest) a w:=by
 refine ops_rnd hT rest ?_ os hd a w ⟨N,S,t,m,hs,h⟩
 rintro a w ⟨N,S,t2,m2,hs,h1,h2⟩
 cases h1
 exact hQ N S a w (hs.forget h2 hB)
theorem go_opsk (k:Nat) {l:List Oper} (hT:TOk P T) (hs:Sat B w0 N S t m a w) (h:awpOps P T ops (l.take k) ⟨t,m⟩ (Fin t1 m1 .normal)) (hQ:∀N S a w,Sat B w0 N S t1 m1 a w→wpListIn (fen r) n P ops Q (l.drop k) a w) (hd:(l.take k).all opNoDefer=true:=by rfl) (hB:∀n,B.lent n=none:=by intro n;rfl):
  wpListIn (fen r) n P ops Q l a w:=by
 have:=go_ops (r:=r) (n:=n) (rest:=l.drop k) hT hs h hQ hd hB
 rwa [List.take_append_drop] at this
theorem go_opsn {l:List Oper} (hT:TOk P T) (hs:Sat B w0 N S t m a w) (h:awpOps P T ops l ⟨t,m⟩ (Fin t1 m1 .normal)) (hQ:∀N S a w,Sat B w0 N S t1 m1 a w→Q .normal a w) (hd:l.all opNoDefer=true:=by rfl) (hB:∀n,B.lent n=none:=by intro n;rfl):
  wpListIn (fen r) n P ops Q l a w:=by
 have:=go_ops (r:=r) (n:=n) (rest:=[]) (Q:=Q) hT hs h (fun N S a w h=>hQ N S a w h) hd hB
 rwa [List.append_nil] at this
theorem Sat.fewer {w1:World} {G G':List (V×Value)} {A:Nat→Prop} {ds:List Deferred} (hs:Sat (outB B w1 G A ds) w0 N S t m a w) (h:∀q∈G',q∈G):Sat (outB B w1 G' A ds) w0 N S t m a w:=
 ⟨hs.low,hs.nodef,hs.tmps,hs.blk,hs.non,hs.apart,hs.data,hs.fresh,hs.own,hs.base,hs.old,hs.lent,⟨hs.more.size,fun q hq=>hs.more.ghost q (h q hq),hs.more.aside,hs.more.inv⟩,hs.stay⟩
theorem fn_of (hs:Sat B w0 N S t m a w) {d g:Nat} {cs:List V} (hb:t[d]?=some (.fn g 0 cs)):∃lb:Array Value,a.eval (.tmp d)= .func (.func g) #[] lb∧RelL N S w cs lb.toList:=by
 have:=hs.ev (.tmp d)
 have e:ev t (.tmp d)= .fn g 0 cs:=by simp[ev,List.getD_eq_getElem?_getD,hb]
 rw[e] at this
 generalize a.eval (.tmp d)=z at this
 cases this with
 |fn _ _ _ us vs hn hl h=>
  have hu:us= #[]:=by simpa using hn.symm
  subst hu
  refine⟨vs,rfl,by simpa using hl,fun i v hv=>?_⟩
  have:=h i v hv
  simpa[←getD_toList] using this
theorem _root_.Go.YieldAt.mono {F:Fence} {n:Nat} {P:Program} {l:Nat} {args:Array Value} {w:World} {R R':Ending→World→Prop} (h:YieldAt F n P l args w R) (hr:∀e w',R e w'→R' e w'):YieldAt F n P l args w R':=by
 obtain⟨fn,tm,asg,body,h1,h2⟩:=h
 exact⟨fn,tm,asg,body,h1,RoundIn.mono h2 hr⟩
theorem list_wanted {F:Fence} {o:Oper} {l rest:List Oper} (hl:l=o::rest) (hw:Region.wanted o (yielded ops a.tmps)=true) (h:o.wpIn F n P a w (wpListIn F n P ops Q rest) Q):wpListIn F n P ops Q l a w:=by
 subst hl
 unfold wpListIn
 rw[if_pos hw]
 exact h
end
end Go.Proofs.YtjmabkpcahmnpaaGreatDoor
namespace Go.Proofs.YtjmabkpcahmnpaaGreatDoor
open Go.RowKit
section
variable {P:Program} {T:Tab} {B:Fr} {w0:World} {N:Names} {S:Sets} {t t' t1:List V} {m m' m1:List (Option Bk)} {a:Act} {w w1:World} {G G':List (V×Value)} {A:Nat→Prop} {ds:List Deferred} {r:Option Nat} {n:Nat}
abbrev lrec2 (fn:FuncId) (tm:Array Value) (p q:Tmp) (asg body:Code) (D:Nat) (s:LoopState) (j:Option Code):Loop:=
 {state:=s,pending:=j,fn,tmps:=tm,params:= #[p,q],assign:=asg,body,defers:=D}
theorem round_run2 (hT:TOk P T) (hmx:P.follows .mixedOrders=true) {fn:FuncId} {p q:Tmp} {asg body:Code} {D l:Nat} {x y:Value} {vx vy:V}
  (hpa:plainC T.fm asg=true) (hpb:plainC T.fm body=true) (hA:A l) (hB:¬B.keep l) (hGt:∀q∈t.zip a.tmps.toList,q∈G) (hGx:(vx,x)∈G∨vx= .cv x) (hGy:(vy,y)∈G) (hlen:t.length=a.tmps.toList.length)
  (hM:Mem B w0 G A m w) (hl:w.heap[l]?=some (.loop (lrec2 fn a.tmps p q asg body D .ready none))) {Kn Kr:List (Option Bk)→Prop}
  (hbody:awp P T asg ⟨(t.set p vx).set q vy,m⟩ (fun e st=>match e with
   | .normal=>awp P T body st (fun e st=>match e with
    | .normal=>Kn st.m
    | .ret=>Kr st.m
    | .exit _=>False)
   |_=>False)):
  YieldAt (fen none) n P l #[x,y] w fun e w'=>∃m',Mem B w0 G A m' w'∧(∀g,A g→g≠l→w'.heap[g]?=w.heap[g]?)∧
   ((e= .returned (.bool true)∧Kn m'∧w'.heap[l]?=some (.loop (lrec2 fn a.tmps p q asg body D .ready none)))∨
    (e= .returned (.bool false)∧Kr m'∧w'.heap[l]?=some (.loop (lrec2 fn a.tmps p q asg body D .done (some .ret))))):=by
 have hy:=run_yield (P:=P) (args:= #[x,y]) hl rfl
 refine⟨_,_,_,_,hy,roundIn_of_wpIn trivial ?_⟩
 have e1:(((lrec2 fn a.tmps p q asg body D .ready none).params.zip #[x,y]).foldl (fun tmps (t,a)=>tmps.setIfInBounds t a) (lrec2 fn a.tmps p q asg body D .ready none).tmps)=(a.tmps.setIfInBounds p x).setIfInBounds q y:=by simp
 rw[e1]
 obtain⟨N1,S1,hs1⟩:=hM.frame (t:=t) (a:={tmps:=a.tmps,defers:=[]}) (fun N S hG=>of_zip hlen fun q hq=>hG q (hGt q hq))
 have hs2:=(hs1.put (v:=vx) (u:=x) (hGx.elim (fun h=>hs1.more.ghost _ h) fun h=>by rw[h];exact .cv _) (some p)).put (v:=vy) (u:=y) (hs1.more.ghost _ hGy) (some q)
 refine wpIn_mono (awp_in (r:=some l) hT hmx asg _ _ w hpa ⟨N1,S1,_,_,hs2,hbody⟩) ?_
 rintro e a1 w1 h
 cases e<;>simp only[QK,Exit.then] at h⊢ <;>try(obtain⟨N,S,t1,m1,hs,h⟩:=h;exact h.elim)
 ·obtain⟨N2,S2,t1,m1,hs,h⟩:=h
  have hlA:∀g,A g→w1.heap[g]?=w.heap[g]?:=fun g hg=>hs.low.block g (.inr hg)
  refine⟨_,run_beginRound ((hlA l hA).trans hl) rfl,?_⟩
  have hM1:Mem B w0 (G++t1.zip a1.tmps.toList) A m1 w1:=Mem.back hM.low hM.inv hs fun q hq=>by
   rcases List.mem_append.1 hq with hq|hq
   ·exact hs.more.ghost q hq
   ·exact zip_of hs.tmps q hq
  have hM2:=hM1.put (l:=l) (o:= .loop {(lrec2 fn a.tmps p q asg body D .ready none) with state:= .busy}) hA hB
  have hd1:a1.defers=[]:=hs.nodef
  obtain⟨N3,S3,hs3⟩:=hM2.frame (t:=t1) (a:=a1) (fun N S hG=>of_zip hs.tmps.1 fun q hq=>hG q (List.mem_append_right _ hq))
  rw[hd1] at hs3
  refine wpIn_mono (awp_in (r:=some l) hT hmx body _ _ _ hpb ⟨N3,S3,_,_,hs3,h⟩) ?_
  have hl2:(w1.putObj l (.loop {(lrec2 fn a.tmps p q asg body D .ready none) with state:= .busy})).heap[l]?=some (.loop {(lrec2 fn a.tmps p q asg body D .ready none) with state:= .busy}):=
   World.putObj_heap_same (Array.getElem?_eq_some_iff.1 ((hlA l hA).trans hl)).1
  have fin:∀{N4 S4 t4 m4 a4 w4} (j:Option Code),Sat (outB B (w1.putObj l (.loop {(lrec2 fn a.tmps p q asg body D .ready none) with state:= .busy})) (G++t1.zip a1.tmps.toList) A []) w0 N4 S4 t4 m4 a4 w4→
    (Instr.endRound l j).run P w4= .ok (.bool j.isNone) (w4.putObj l (.loop (lrec2 fn a.tmps p q asg body D (if j.isNone then .ready else .done) j)))∧
    Mem B w0 G A m4 (w4.putObj l (.loop (lrec2 fn a.tmps p q asg body D (if j.isNone then .ready else .done) j)))∧
    (∀g,A g→g≠l→(w4.putObj l (.loop (lrec2 fn a.tmps p q asg body D (if j.isNone then .ready else .done) j))).heap[g]?=w.heap[g]?)∧
    (w4.putObj l (.loop (lrec2 fn a.tmps p q asg body D (if j.isNone then .ready else .done) j))).heap[l]?=some (.loop (lrec2 fn a.tmps p q asg body D (if j.isNone then .ready else .done) j)):=by
   intro N4 S4 t4 m4 a4 w4 j hs4
   have hA4:∀g,A g→w4.heap[g]?=(w1.putObj l (.loop {(lrec2 fn a.tmps p q asg body D .ready none) with state:= .busy})).heap[g]?:=fun g hg=>hs4.low.block g (.inr hg)
   have hl4:=(hA4 l hA).trans hl2
   refine⟨run_endRound j hl4,(Mem.back hM2.low hM2.inv hs4 fun q hq=>hs4.more.ghost q (List.mem_append_left _ hq)).put hA hB,fun g hg hne=>?_,World.putObj_heap_same (Array.getElem?_eq_some_iff.1 hl4).1⟩
   rw[World.putObj_heap_other hne,hA4 g hg,World.putObj_heap_other hne,hlA g hg]
  rintro e a4 w4 h4
  cases e<;>simp only[QK,roundPost] at h4⊢ <;>try(obtain⟨N,S,t1,m1,hs,h⟩:=h4;exact h.elim)
  ·obtain⟨N4,S4,t4,m4,hs4,h4⟩:=h4
   obtain⟨f1,f2,f3,f4⟩:=fin none hs4
   exact⟨_,_,f1,m4,f2,f3,.inl ⟨rfl,h4,f4⟩⟩
  ·obtain⟨N4,S4,t4,m4,hs4,h4⟩:=h4
   obtain⟨f1,f2,f3,f4⟩:=fin (some .ret) hs4
   exact⟨_,_,f1,m4,f2,f3,.inr ⟨rfl,h4,f4⟩⟩
def IterPost2 (B:Fr) (w0:World) (G:List (V×Value)) (A:Nat→Prop) (fn:FuncId) (tm:Array Value) (p q:Tmp) (asg body:Code) (D l:Nat) (Kn Kr:List (Option Bk)→Prop):Ending→World→Prop:=fun e w'=>
 (∃v,e= .returned v)∧∃m',Mem B w0 G A m' w'∧w'.heap[D]?=some (.deferred (some []))∧
  ((Kn m'∧w'.heap[l]?=some (.loop (lrec2 fn tm p q asg body D .ready none)))∨(Kr m'∧w'.heap[l]?=some (.loop (lrec2 fn tm p q asg body D .done (some .ret)))))
theorem range_run2 {g:Operand} {p q:Tmp} {asg body:Code} {gf:FuncId} {lb:Array Value} {Q:Exit→Act→World→Prop} (hs:Sat B w0 N S t m a w) (hg:B.ghost=[]) (ha:∀g,¬B.aside g)
  (hev:a.eval g= .func (.func gf) #[] lb) (eg:∀args w,(callFunc gf args).run P w= .ok (.enter gf args) w) {Gx:List (V×Value)} (hGx:∀p∈Gx,RelV N S w p.1 p.2) {Kn Kr:List (Option Bk)→Prop}
  (hit:∀(fn:FuncId) (W:World) (A:Nat→Prop) (D l:Nat),A=(fun g=>g=w.heap.size∨g=w.heap.size+1)→A D→A l→D≠l→¬B.keep D→¬B.keep l→Mem B w0 (t.zip a.tmps.toList++Gx) A m W→
   W.heap[D]?=some (.deferred (some []))→W.heap[l]?=some (.loop (lrec2 fn a.tmps p q asg body D .ready none))→
   CallsIn (fen none) (n - 1) P gf (#[.func (.yield l) #[] #[]]++lb) W (IterPost2 B w0 (t.zip a.tmps.toList++Gx) A fn a.tmps p q asg body D l Kn Kr))
  (hQ:∀(A:Nat→Prop) (D:Nat) (m':List (Option Bk)) (W:World),A D→¬B.keep D→Mem B w0 (t.zip a.tmps.toList++Gx) A m' W→W.heap[D]?=some (.deferred (some []))→
   (Kn m'→Q .normal {a with defers:={target:= .collected D,args:= #[]}::a.defers} W)∧(Kr m'→Q .ret {a with defers:={target:= .collected D,args:= #[]}::a.defers} W)):
  (Code.rangeFunc g #[p,q] asg body).wpIn (fen none) n P Q a w:=by
 refine wpIn_rangeFunc ?_
 intro fn _
 obtain⟨W1,hW1⟩:∃W1,(w.alloc (.deferred (some []))).alloc (.loop (lrec2 fn a.tmps p q asg body w.heap.size .ready none))=W1:=⟨_,rfl⟩
 have hM:Mem B w0 (t.zip a.tmps.toList++Gx) (fun g=>g=w.heap.size∨g=w.heap.size+1) m W1:=by rw[←hW1];exact hs.leave hg ha _ _ hGx
 have hL1:W1.heap[w.heap.size+1]?=some (.loop (lrec2 fn a.tmps p q asg body w.heap.size .ready none)):=by
  rw[←hW1];have:=World.alloc_heap_new (w.alloc (.deferred (some []))) (.loop (lrec2 fn a.tmps p q asg body w.heap.size .ready none));rwa [World.size_alloc] at this
 have hK1:W1.heap[w.heap.size]?=some (.deferred (some [])):=by
  rw[←hW1];exact(Below.heap_alloc _ _ _ (by simp)).trans (World.alloc_heap_new w _)
 have hkD:¬B.keep w.heap.size:=fun h=>by have:=hs.base _ h;omega
 have hkl:¬B.keep (w.heap.size+1):=fun h=>by have:=hs.base _ h;omega
 refine⟨w.heap.size+1,[{target:= .collected w.heap.size,args:= #[]}],W1,{target:= .fn (.func gf) lb,args:= #[.func (.yield (w.heap.size+1)) #[] #[]]},W1,gf,
  #[.func (.yield (w.heap.size+1)) #[] #[]]++lb,W1,?_,?_,?_,?_,fun h=>by simp[Fence.wide] at h,?_⟩
 ·rw[←hW1];exact run_enterLoop_outer _ _ _ _ _
 ·simp only[resolve,hev]
  simp[go_sem]
 ·intro f' hf';trivial
 ·simp[invoke,go_sem,eg]
 ·refine CallsIn.mono (hit fn W1 _ w.heap.size (w.heap.size+1) rfl (.inl rfl) (.inr rfl) (by omega) hkD hkl hM hK1 hL1) ?_
  rintro e W2 ⟨⟨v,rfl⟩,m',hM2,hD2,h⟩
  have hD3:∀o,(W2.putObj (w.heap.size+1) o).heap[w.heap.size]?=some (.deferred (some [])):=fun o=>(World.putObj_heap_other (by omega)).trans hD2
  rcases h with⟨hk,hl2⟩|⟨hk,hl2⟩
  ·exact⟨none,_,run_endLoop hl2 (by simp),(hQ _ w.heap.size m' _ (.inl rfl) hkD (hM2.put (.inr rfl) hkl) (hD3 _)).1 hk⟩
  ·exact⟨some .ret,_,run_endLoop hl2 (by simp),wpIn_ret ((hQ _ w.heap.size m' _ (.inl rfl) hkD (hM2.put (.inr rfl) hkl) (hD3 _)).2 hk)⟩
theorem Sat.forgetM (hs:Sat B w0 N S t m a w) (h:fgt t t1):Sat B w0 N S t1 m a w:=by
 obtain⟨h1,h2⟩:=fgt_get h
 refine⟨hs.low,hs.nodef,⟨by rw[h1];exact hs.tmps.1,fun i v hv=>?_⟩,hs.blk,hs.non,hs.apart,hs.data,hs.fresh,hs.own,hs.base,hs.old,fun n g h=>by rw[h1];exact hs.lent n g h,hs.more,fun n og hn=>by rw[h1];exact hs.stay n og hn⟩
 rcases h2 i v hv with h|rfl
 ·exact hs.tmps.2 i v h
 ·exact .un _
theorem go_normM {Q:Exit→Act→World→Prop} (hT:TOk P T) (hm:P.follows .mixedOrders=true) {c:Code} (hs:Sat B w0 N S t m a w) (h:awp P T c ⟨t,m⟩ (Fin t1 m1)) (hQ:∀N S a w,Sat B w0 N S t1 m1 a w→Q .normal a w) (hp:plainC T.fm c=true:=by rfl):c.wpIn (fen r) n P Q a w:=by
 refine wpIn_mono (awp_in hT hm c _ a w hp ⟨N,S,t,m,hs,h⟩) ?_
 rintro e a w h
 cases e<;>simp only[QK] at h<;>try exact h.elim
 ·obtain⟨N,S,t2,m2,hs,h1,h2⟩:=h
  cases h1
  exact hQ N S a w (hs.forgetM h2)
 ·obtain⟨N,S,t2,m2,hs,h⟩:=h;exact h.elim
 ·obtain⟨N,S,t2,m2,hs,h⟩:=h;exact h.elim
theorem yield_op2 {Q:Exit→Act→World→Prop} {o:Oper} {f y1 y2:Operand} {tys:Array TypeId} {l:Nat} {v1 v2:Value} {next:Act→World→Prop} (hop:o.op= .call {callee:= .value f,args:= #[y1,y2],argTypes:=tys}) (hf:a.eval f= .func (.yield l) #[] #[]) (hv1:a.eval y1=v1) (hv2:a.eval y2=v2)
  {R:Ending→World→Prop} (hY:YieldAt (fen none) (n - 1) P l #[v1,v2] w R) (hN:∀e w',R e w'→∃u,e= .returned u∧next (a.put o.dst u) w'):o.wpIn (fen none) n P a w next Q:=by
 obtain⟨fn,tm,asg,body,h1,h2⟩:=hY
 refine⟨fun _ _=>trivial,?_⟩
 have e:(o.semAt (fen none).round a.eval).run P w= .ok (.round l fn tm asg body) w:=by
  show(execOp a.eval o).run P w=_
  generalize a.eval=ρ at hf hv1 hv2⊢
  unfold execOp
  rw[hop]
  simp[go_sem,hf,hv1,hv2,h1]
 rw[e]
 refine⟨fun h=>by simp[Fence.wide] at h,RoundIn.mono h2 fun e w' h=>?_⟩
 obtain⟨u,rfl,hn⟩:=hN e w' h
 exact hn
theorem zip_mem {us:List Value} {d:Nat} {v:V} (hl:t.length=us.length) (h:t[d]?=some v):(v,us.getD d undef)∈t.zip us:=by
 have h1:=lt_of_get h
 have h2:us[d]?=some us[d]:=List.getElem?_eq_getElem (by omega)
 rw[List.getD_eq_getElem?_getD,h2]
 exact List.mem_of_getElem? (i:=d) (by rw[List.getElem?_zip_eq_some];exact⟨h,h2⟩)
def cntI (a:Act) (d:Nat):Nat:=match a.tmps[d]? with
 |some (.int _ n)=>(n+1).toNat
 |_=>0
theorem cntI_of (hs:Sat B w0 N S t m a w) {d:Nat} {i:Int} (hb:t[d]?=some (.cv (.int .i64 i))):cntI a d=(i+1).toNat:=by
 simp[cntI,tmp_of hs hb]
abbrev MPost (w:World) (ns:List Value) (So:Nat→Prop) (res:V) (m':List Bk):Ending→World→Prop:=fun e w'=>
 ∃v ns',e= .returned v∧MemOk w.heap.size (newS So w w' ns') w' ns' m'∧RelV (NamesOf ns') (newS So w w' ns') w' res v∧
   Low (fun g=>g<w.heap.size∧¬blks ns g) w w'∧ns.length≤ns'.length∧(∀(k:Nat) (a:Addr),ns[k]?=some (.pointer (some a))→ns'[k]?=some (.pointer (some a)))∧(∀g,blks ns' g→blks ns g∨w.heap.size≤g)∧(false=true→∀(k:Nat) (v:Value),ns[k]?=some v→∃v',ns'[k]?=some v'∧SameHd v v')∧
   (∀(k:Nat) (v v':Value),ns[k]?=some v→ns'[k]?=some v'→(∃us,v'= .agg us)∨∀g,At v' g→At v g∨w.heap.size≤g)
theorem endsM (hT:TOk P T) {sd:List V→List Nat} {fn:Func} {m0 m2:List Bk} {res:V} {ns:List Value} {So:Nat→Prop} (hmem:MemOk w0.heap.size (oldS So) w0 ns m0) {W1:World} {D:Nat} (hA:A D) (hi:GI (frM w0 ns So fn.ntmps)) (hB:¬(frM w0 ns So fn.ntmps).keep D) (hlow:Low (frM w0 ns So fn.ntmps).keep w0 W1)
  (hs:Sat (outB (frM w0 ns So fn.ntmps) W1 G A [{target:= .collected D,args:= #[]}]) w0 N S t m a w) (hD:W1.heap[D]?=some (.deferred (some []))) (ht:t.length=fn.ntmps) (h16:m0.length≤16)
  (hG:∀(k:Nat) (v:Value),ns[k]?=some v→(∃b,v= .pointer (some ⟨b,0,none⟩)∧((V.bx (fn.ntmps+k) 0,v):V×Value)∈G)∨((∀p,v≠ .pointer p)∧∃x A outs,m[fn.ntmps+k]?=some (some (.asr x A outs))))
  (h:DoneG sd T fn m0.length res m2 .ret ⟨t,m⟩):
  LeavesInM (fen none) n P fn a.tmps (MPost w0 ns So res m2) a.defers .returning w:=by
 have hd:a.defers=[{target:= .collected D,args:= #[]}]:=hs.nodef
 have hD2:w.heap[D]?=some (.deferred (some [])):=(hs.low.block D (.inr hA)).trans hD
 have hM:=(Mem.back (G':=G++t.zip a.tmps.toList) hlow hi hs (fun q hq=>by
  rcases List.mem_append.1 hq with hq|hq
  ·exact hs.more.ghost q hq
  ·exact zip_of hs.tmps q hq)).put (l:=D) (o:= .deferred none) hA hB
 obtain⟨N2,S2,hs2⟩:=hM.frame (t:=t) (a:={a with defers:=[]}) fun N S hG=>of_zip hs.tmps.1 fun q hq=>hG q (List.mem_append_right _ hq)
 have hlen:ns.length=m0.length:=hmem.len
 have hs3:Sat (frM w0 ns So fn.ntmps) w0 N2 S2 t m {a with defers:=[]} (w.putObj D (.deferred none)):=by
  refine⟨hM.low,rfl,hs2.tmps,hs2.blk,hs2.non,hs2.apart,hs2.data,hs2.fresh,fun k x v g h1 h2=>⟨fun hk=>(hs2.own k x v g h1 h2).1 (.inl hk),(hs2.own k x v g h1 h2).2⟩,fun g hg=>hs2.base g (.inl hg),hs2.old,fun k g hk=>?_,⟨hs2.more.size,(fun p h=>by cases h),(fun g h=>h.elim),hi⟩,fun k og hk=>?_⟩
  ·simp only[frM] at hk
   split at hk
   rotate_left
   ·cases hk
   rename_i hle
   split at hk
   rotate_left
   ·cases hk
   rename_i ad hv
   cases hk
   have hlt:=lt_of_get hv
   rw[ht]
   refine⟨hle,by omega,?_⟩
   rcases hG _ _ hv with⟨b,hb,hg⟩|⟨h1,_⟩
   ·have:=hs2.more.ghost _ (List.mem_append_left _ hg)
    rw[show fn.ntmps+(k - fn.ntmps)=k by omega] at this
    cases hb
    cases this with
    |bx _ _ _ hn=>exact hn
   ·exact absurd rfl (h1 _)
  ·simp only[frM] at hk
   split at hk
   rotate_left
   ·cases hk
   rename_i hle
   rw[Option.map_eq_some_iff] at hk
   obtain⟨v,hv,rfl⟩:=hk
   have hlt:=lt_of_get hv
   rw[ht]
   refine⟨.inr ⟨hle,by omega⟩,?_⟩
   rcases hG _ _ hv with⟨b,rfl,hg⟩|⟨_,x,A2,outs,hk⟩
   ·have:=hs2.more.ghost _ (List.mem_append_left _ hg)
    rw[show fn.ntmps+(k - fn.ntmps)=k by omega] at this
    cases this with
    |bx _ _ _ hn=>exact⟨0,_,hn,.inr fun g hg=> .inl hg⟩
   ·rw[show fn.ntmps+(k - fn.ntmps)=k by omega] at hk
    obtain⟨fs,us,h1,_⟩:=hs2.blk k _ hk
    exact⟨_,_,h1,.inl ⟨_,rfl⟩⟩
 obtain⟨⟨t2,m3⟩,hgh,h⟩:=h
 obtain⟨N4,S4,hs4⟩:=hgh _ _ _ _ _ _ hs3
 obtain⟨_,v,h1,h2⟩:=doneM_ret (P:=P) (sd:=sd) (st:=false) (fn:=fn) (res:=res) (m1:=m2) hT hmem {a with defers:=[]} _ ⟨N4,S4,t2,m3,hs4,h,fun e=>by cases e⟩
 rw[hd]
 exact⟨by simp,.inl ⟨D,_,rfl,run_takeDeferred hD2,v,h1,h2⟩⟩
end
end Go.Proofs.YtjmabkpcahmnpaaGreatDoor
