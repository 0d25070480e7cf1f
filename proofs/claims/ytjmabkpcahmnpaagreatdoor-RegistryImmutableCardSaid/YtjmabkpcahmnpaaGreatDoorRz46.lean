/- Texts joined by pack.py: XRgH XRgY XSxR XRgR XRgK -/
import Derived.Test.YtjmabkpcahmnpaaGreatDoorRz29
import Derived.Test.YtjmabkpcahmnpaaGreatDoorRz33
import Derived.Test.YtjmabkpcahmnpaaGreatDoorRz45
import Derived.Test.YtjmabkpcahmnpaaGreatDoorRz28
import Derived.Test.YtjmabkpcahmnpaaGreatDoorRz13
import Derived.ChangeArms
import Derived.SizedLaws
import Derived.DataReads
import Derived.WideShapes
import Derived.Test.YtjmabkpcahmnpaaGreatDoorRz0
import Derived.Test.YtjmabkpcahmnpaaGreatDoorRows
import Derived.LaidLaws
import Derived.Stop.LaidErr
import Derived.Lib.LaidTab
set_option maxHeartbeats 1000000
set_option maxRecDepth 100000
namespace Go.Proofs.YtjmabkpcahmnpaaGreatDoor
open Go.RowKit
def mfD (m:Mf):Bs×Int:=digP (mfE m) m
structure MfIn (m:Mf):Prop where
 ok:MfOk m
 me: -9223372036854775808≤m.me∧m.me≤9223372036854775807
 st: -9223372036854775808≤m.st∧m.st≤9223372036854775807
 joined:(Lib.join m.ops [44]).length≤140737488355328
theorem packB_le:∀(l:List Bs) (acc:Bs),(packB l acc).1.length≤acc.length+4002*l.length
 |[],acc=>by simp[packB]
 |f::l,acc=>by
  unfold packB
  split
  ·simp
  ·have:=packB_le l (acc++[UInt8.ofNat (f.length / 256),UInt8.ofNat f.length]++f)
   simp at this⊢
   omega
theorem encP_le (ck:Int) (m:Mf):(encP ck m).1.length≤281474976710656:=by
 unfold encP
 split
 ·simp
 ·unfold packP
  split
  ·simp
  ·have:=packB_le (encL m) [UInt8.ofNat (encL m).length]
   have h:(encL m).length=5:=rfl
   have h2:(packB (encL m) [UInt8.ofNat (encL m).length]).1.length≤20011:=by rw[h] at this;exact this
   exact Nat.le_trans h2 (by decide)
theorem x_mdigest (m:Mf) (hm:MfIn m):DCalls Tryz.prog 23 [m.V] (.tu [bstr (mfD m).1,int (mfD m).2]):=
 x_digest m (mfE m) (x_encode m (mfE m) (x_mcheck m hm.ok) hm.me hm.st (by have:=hm.ok.ops;omega) hm.joined) (encP_le _ _)
structure FnsOk (F:Fns):Prop where
 few:F.length≤32
 ne:∀t l,getB F t=some l→l≠[]
 fewV:∀t l,getB F t=some l→l.length≤32
 ops:∀t l,getB F t=some l→∀v∈l,v.m.ops.length≤1000000
abbrev pubR (F:Fns) (now:Int) (m:Mf) (nw:Int):(Int×Int)×Fns×Int:=pubP F now m nw (mfE m) (mfD m)
theorem x_publish (F:Fns) (now:Int) (m:Mf) (hm:MfIn m) (nw:Int) (hF:FnsOk F):
  MCalls Tryz.prog 10 [.bx 0 0,mfL m,int nw] (rgM F now) (.tu [int (pubR F now m nw).1.1,int (pubR F now m nw).1.2]) (rgM (pubR F now m nw).2.1 (pubR F now m nw).2.2):=by
 have hc:=x_mcheck m hm.ok
 have hd:=x_mdigest m hm
 cases hg:getB F m.nm with
 |none=>exact x_pubU F now m hm.ok.ops nw (mfE m) (mfD m).1 (mfD m).2 hg hc (fun _=>hd) (by have:=hF.few;omega) _ rfl
 |some l=>
  have h1:=hF.ne _ _ hg
  have h2:=hF.fewV _ _ hg
  have h3:0<l.length:=List.length_pos_iff.2 h1
  exact x_pubK F now m hm.ok.ops nw (mfE m) (mfD m).1 (mfD m).2 l hg hc (fun _=>hd) (l.length - 1) (by omega) h2 (hF.ops _ _ hg) _ rfl
end Go.Proofs.YtjmabkpcahmnpaaGreatDoor
namespace Go.Proofs.YtjmabkpcahmnpaaGreatDoor
open Go.RowKit
theorem join_le (sep:Bs):∀(l:List Bs),(∀s∈l,s.length≤100)→(Lib.join l sep).length≤l.length*(100+sep.length)
 |[],_=>by simp[Lib.join]
 |[a],h=>by have:=h a (by simp);simp[Lib.join];omega
 |a::b::l,h=>by
  have h1:=h a (by simp)
  have h2:=join_le sep (b::l) fun s hs=>h s (by simp at hs⊢;exact .inr hs)
  have e:Lib.join (a::b::l) sep=a++sep++Lib.join (b::l) sep:=by simp[Lib.join]
  rw[e]
  simp only[List.length_append,List.length_cons] at h2⊢
  rw[Nat.add_mul (l.length+1) 1]
  omega
theorem mf_in {m:Mf} (hs:smM m=true) (hr:MfRg m):MfIn m:=by
 simp only[smM,Bool.and_eq_true,decide_eq_true_eq,List.all_eq_true,smS] at hs
 obtain⟨h1,h2,h3,h4⟩:=hs
 have:=join_le [44] m.ops h4
 simp only[List.length_singleton] at this
 exact⟨⟨by omega,by omega,by omega⟩,hr.me,hr.st,by omega⟩
theorem pubs:PubOk mfE mfD:=fun F now m nw hs hr hG=>
 x_publish F now m (mf_in hs hr) nw ⟨hG.few,fun t l h=>(hG.rows t l h).1,fun t l h=>(hG.rows t l h).2.1,fun t l h v hv=>by
  obtain⟨i,hi⟩:=List.getElem?_of_mem hv
  exact((hG.rows t l h).2.2 i v hi).ops⟩
theorem aw_eA:mfE mA=0:=by kernel_rfl
theorem aw_eB:mfE mB=0:=by kernel_rfl
theorem aw_dA:(mfD mA).2=0:=by kernel_rfl
theorem aw_dB:(mfD mB).2=0:=by kernel_rfl
theorem x_awakeR:DCalls Tryz.prog 7 [] (boo true):=x_awake pubs aw_eA aw_eB aw_dA aw_dB
end Go.Proofs.YtjmabkpcahmnpaaGreatDoor
namespace Go.Proofs.YtjmabkpcahmnpaaGreatDoor
open Go.RowKit
def szOf (T:Tab) (e:Nat):Nat:=match T e with|some i=>i.size|none=>0
def byOf (T:Tab) (e:Nat):Nat:=match T e with|some i=>i.bytes|none=>0
def DOkL (p:Nat→List D→Prop):List (Nat×Nat)→List D→Prop
 |[],ds=>ds=[]
 |f::fs,ds=>∃a b,ds=a++b∧p f.2 a∧DOkL p fs b
def DOk (T:Tab):Nat→Nat→List D→Prop
 |0,_,_=>False
 |n+1,ty,ds=>match T ty with
  |none=>False
  |some i=>match i.kd with
   | .int k=>∃z,ds=[.cv (.int k z)]∧(Lit.int k z).wf=true
   | .bool=>∃b,ds=[.cv (.bool b)]
   | .string=>∃s:ByteArray,ds=[.cv (.string s)]∧s.size≤reachBytes
   | .slice e=>∃xs,ds=[.sl (szOf T e) xs]∧xs.length*byOf T e≤reachBytes∧xs.length≤maxLen∧∀x∈xs,DOk T n e x
   | .struct fs=>DOkL (DOk T n) fs ds
   |_=>False
def contig (T:Tab):Nat→List (Nat×Nat)→Option Nat
 |o,[]=>some o
 |o,(off,ty)::fs=>if off=o then(match T ty with|some i=>contig T (o+i.size) fs|none=>none) else none
def okT (T:Tab):Nat→Nat→Bool
 |0,_=>false
 |n+1,ty=>match T ty with
  |none=>false
  |some i=>match i.kd with
   | .int _| .bool| .string=>i.size==1
   | .slice e=>i.size==1&&(szOf T e !=0&&okT T n e)
   | .struct fs=>contig T 0 fs==some i.size&&fs.all fun f=>okT T n f.2
   |_=>false
section
variable {P:Program} {T:Tab} {H:Type} {enc:TypeId×Value→H} {w:World} {spare:Nat→Bool} {held:Bool}
theorem TOk.cells (hT:TOk P T) {ty:Nat} {i:TI} (h:T ty=some i):P.cellsOf ty=i.size∧P.bytesOf ty=i.bytes:=by
 obtain⟨j,h1,h2,h3,_⟩:=hT.get ty i h
 simp[Program.cellsOf,Program.bytesOf,h1,h2,h3]
theorem TOk.szOf (hT:TOk P T) {ty:Nat} (h:szOf T ty≠0):P.cellsOf ty=szOf T ty∧P.bytesOf ty=byOf T ty:=by
 unfold Go.Proofs.YtjmabkpcahmnpaaGreatDoor.szOf at h⊢
 unfold byOf
 cases hi:T ty with
 |none=>rw[hi] at h;exact absurd rfl h
 |some i=>exact hT.cells hi
theorem get_of_cells? {a:Addr} {n:Nat} {cs:List Value} (h:w.cells? 0 a n=some cs):cs.length=n∧∀j u,cs[j]?=some u→w.cell? (a.add j)=some u:=by
 unfold World.cells? at h
 rw[if_pos (Nat.zero_le _)] at h
 have hl:=mapM_some_length h
 simp at hl
 refine⟨hl,fun j u hu=>?_⟩
 have hj:j<n:=by have:=lt_of_get hu;omega
 have:=mapM_some_get h j j (by simp[hj])
 rw[this,hu]
theorem weights_sl {e:TypeId} {d:DataW H}:∀{l:List (DataW H)},d∈l→∀n∈d.weights P e,n∈DataW.weightsAll P e l
 |x::l,hd,n,hn=>by
  simp only[DataW.weightsAll,List.mem_append]
  rcases List.mem_cons.1 hd with rfl|hd
  ·exact .inl hn
  ·exact .inr (weights_sl hd n hn)
theorem cells_one {v:Value} (h:v.oneCell'=true):v.cells= #[v]:=by
 cases v<;>simp_all [Value.oneCell',Value.cells]
theorem trod_read (hT:TOk P T):∀(n ty fuel:Nat) (cs:List Value) (x:DataW H×List MemPlace),okT T n ty=true→DataW.trod enc P w 0 spare held fuel ty cs=some x→(∀q∈x.1.weights P ty,q≤reachBytes)→
  ∃ds,DOk T n ty ds∧ds.length=cs.length∧∀(i:Nat) (d:D),ds[i]?=some d→∃u:Value,cs[i]?=some u∧RelD (fun b=>b<w.heap.size) w d u:=by
 intro n
 induction n with
 |zero=>intro ty fuel cs x h;cases h
 |succ n ih=>
  intro ty fuel cs x hok h hw
  simp only[okT] at hok
  cases hi:T ty with
  |none=>rw[hi] at hok;cases hok
  |some i=>
  rw[hi] at hok
  obtain⟨size,bytes,agg,zero,kd⟩:=i
  have one:∀{d:D} {u:Value},RelD (fun b=>b<w.heap.size) w d u→∀(i:Nat) (d':D),[d][i]?=some d'→∃u':Value,[u][i]?=some u'∧RelD (fun b=>b<w.heap.size) w d' u':=by
   intro d u hr i d' hd
   cases i with
   |zero=>simp at hd;subst hd;exact⟨u,rfl,hr⟩
   |succ i=>simp at hd
  cases kd with
  |int k=>
   obtain⟨z,rfl,_,hz⟩:=DataW.trod_int (hT.kd_int hi rfl) h
   exact⟨[.cv (.int k z)],by simp only[DOk,hi];exact⟨z,rfl,hz⟩,rfl,one (.cv _ rfl)⟩
  |bool=>
   obtain⟨b,rfl,_⟩:=DataW.trod_bool (hT.kd_bool hi rfl) h
   exact⟨[.cv (.bool b)],by simp only[DOk,hi];exact⟨b,rfl⟩,rfl,one (.cv _ rfl)⟩
  |string=>
   obtain⟨s,rfl,rfl,_⟩:=DataW.trod_string (hT.kd_string hi rfl) h
   have:=hw s.data.toList.length (by simp[DataW.weights])
   exact⟨[.cv (.string s)],by simp only[DOk,hi];exact⟨s,rfl,by simpa using this⟩,rfl,one (.cv _ rfl)⟩
  |slice e=>
   simp only[Bool.and_eq_true,bne_iff_ne,ne_eq] at hok
   obtain⟨_,hsz,hoke⟩:=hok
   obtain⟨hc,hb⟩:=hT.szOf hsz
   have hu:=hT.kd_slice hi rfl
   rcases DataW.trod_slice hu h with⟨rfl,rfl⟩|⟨a,len,cap,elems,rest,m,rfl,rfl,rfl,_,hlc,hcm,hlen,hel,_,_⟩
   ·exact⟨[.sl (szOf T e) []],by simp only[DOk,hi];exact⟨[],rfl,by simp,by simp,by simp⟩,rfl,one (.nil _ _ _)⟩
   ·rw[hc] at hel
    have helem:∀i,i<len→∃(ds:List D) (us:List Value),w.cells? 0 (a.add (i*szOf T e)) (szOf T e)=some us∧DOk T n e ds∧ds.length=us.length∧∀(j:Nat) (d:D),ds[j]?=some d→∃u:Value,us[j]?=some u∧RelD (fun b=>b<w.heap.size) w d u:=by
     intro i hlt
     have h1:=hel i hlt
     have hi':i<elems.length:=by omega
     rw[List.getElem?_eq_getElem hi',Option.bind_eq_some_iff] at h1
     obtain⟨us,h2,h3⟩:=h1
     obtain⟨ds,h4,h5,h6⟩:=ih e m us _ hoke h3 fun q hq=>hw q (by
      simp only[DataW.weights,hu,List.mem_cons,List.mem_append]
      exact .inr (.inl (weights_sl (List.mem_map.2 ⟨_,List.getElem_mem hi',rfl⟩) q hq)))
     exact⟨ds,us,h2,h4,h5,h6⟩
    let dsF:Nat→List D:=fun i=>if hlt:i<len then Classical.choose (helem i hlt) else []
    have hF:∀i,i<len→∃us:List Value,w.cells? 0 (a.add (i*szOf T e)) (szOf T e)=some us∧DOk T n e (dsF i)∧(dsF i).length=us.length∧∀(j:Nat) (d:D),(dsF i)[j]?=some d→∃u:Value,us[j]?=some u∧RelD (fun b=>b<w.heap.size) w d u:=by
     intro i hlt
     have:=Classical.choose_spec (helem i hlt)
     simp only[dsF,hlt,dif_pos]
     exact this
    refine⟨[.sl (szOf T e) ((List.range len).map dsF)],?_,rfl,one ?_⟩
    ·simp only[DOk,hi]
     refine⟨_,rfl,?_,by simp;omega,fun x hx=>?_⟩
     ·have:=hw ((elems.length+rest.length)*P.bytesOf e) (by simp[DataW.weights,hu])
      rw[hb] at this
      simp only[List.length_map,List.length_range]
      refine Nat.le_trans (Nat.mul_le_mul_right _ ?_) this
      omega
     ·obtain⟨i,hi',rfl⟩:=List.mem_map.1 hx
      exact(hF i (by simpa using hi')).choose_spec.2.1
    ·by_cases h0:len=0
     ·subst h0;exact .nil _ _ _
     have hcell:∀(i j:Nat) (d:D),i<len→(dsF i)[j]?=some d→∃u:Value,w.cell? ((a.add (i*szOf T e)).add j)=some u∧RelD (fun b=>b<w.heap.size) w d u:=by
      intro i j d hlt hd
      obtain⟨us,h1,h2,h3,h4⟩:=hF i hlt
      obtain⟨u,h5,h6⟩:=h4 j d hd
      exact⟨u,(get_of_cells? h1).2 j u h5,h6⟩
     have hlenF:∀i,i<len→(dsF i).length=szOf T e:=fun i hlt=>by
      obtain⟨us,h1,h2,h3,h4⟩:=hF i hlt
      rw[h3,(get_of_cells? h1).1]
     obtain⟨b,o,spot⟩:=a
     obtain⟨u0,h1,_⟩:=hcell 0 0 _ (by omega) (List.getElem?_eq_getElem (by rw[hlenF 0 (by omega)];omega))
     have hspot:spot=none:=by
      have:=World.cell?_spot h1
      unfold Addr.add at this
      split at this<;>split at this<;>simp_all
     subst hspot
     have hlt:=World.block_lt_of_cell? w _ h1
     simp only[add_mk] at hlt hcell
     have hl:((List.range len).map dsF).length=len:=by simp
     have hget:∀(i j:Nat) (d:D),(((List.range len).map dsF)[i]?.bind fun x=>x[j]?)=some d→i<len∧(dsF i)[j]?=some d:=by
      intro i j d hd
      rcases Nat.lt_or_ge i len with h'|h'
      ·simp[h'] at hd;exact⟨h',hd⟩
      ·simp[h'] at hd
     suffices hs:RelD (fun b=>b<w.heap.size) w (.sl (szOf T e) ((List.range len).map dsF)) (.slice (some ⟨b,o,none⟩) ((List.range len).map dsF).length cap) by rw[hl] at hs;exact hs
     refine RelD.sl (S:=fun b=>b<w.heap.size) _ _ b o cap (fun i j=>(w.cell? ⟨b,o+i*szOf T e+j,none⟩).getD undef) hlt (fun x hx=>?_) (by rw[hl];exact hlc) (fun i j d hd=>?_) (fun i j d hd=>?_)
     ·obtain⟨i,hi',rfl⟩:=List.mem_map.1 hx
      exact hlenF i (by simpa using hi')
     ·obtain⟨h2,h3⟩:=hget i j d hd
      obtain⟨u,h4,_⟩:=hcell i j d h2 h3
      rw[h4];rfl
     ·obtain⟨h2,h3⟩:=hget i j d hd
      obtain⟨u,h4,h5⟩:=hcell i j d h2 h3
      rw[h4];exact h5
  |struct fs=>
   simp only[Bool.and_eq_true,beq_iff_eq,List.all_eq_true] at hok
   obtain⟨hcon,hall⟩:=hok
   obtain⟨gs,hu,hgs⟩:=hT.kd_struct hi rfl
   obtain⟨xs,m,rfl,rfl,hl,hxl,hf⟩:=DataW.trod_struct hu h
   rw[(hT.cells hi).1] at hl
   replace hl:cs.length=size:=hl
   have key:∀(l:List (Nat×Nat)) (k o:Nat),fs.drop k=l→contig T o l=some size→∃ds,DOkL (DOk T n) l ds∧o+ds.length=size∧∀(i:Nat) (d:D),ds[i]?=some d→∃u:Value,cs[o+i]?=some u∧RelD (fun b=>b<w.heap.size) w d u:=by
    intro l
    induction l with
    |nil=>
     intro k o _ hc
     simp only[contig,Option.some.injEq] at hc
     exact⟨[],rfl,by simp[hc],by simp⟩
    |cons f l ihl=>
     intro k o hk hc
     obtain⟨off,fty⟩:=f
     simp only[contig] at hc
     split at hc
     rotate_left
     ·cases hc
     rename_i hoff
     subst hoff
     cases hft:T fty with
     |none=>rw[hft] at hc;cases hc
     |some fi=>
     rw[hft] at hc
     have hkf:fs[k]?=some (off,fty):=by
      have:=congrArg (fun l=>l[0]?) hk
      simpa using this
     have hg:∃g,gs[k]?=some g∧g.offset=off∧g.type=fty:=by
      rw[←hgs,List.getElem?_map,Option.map_eq_some_iff] at hkf
      obtain⟨g,hg,e⟩:=hkf
      simp only[Prod.mk.injEq] at e
      exact⟨g,by simpa using hg,e.1,e.2⟩
     obtain⟨g,hg,rfl,rfl⟩:=hg
     have h1:=hf k g hg
     have hlt:k<xs.length:=by
      have:k<gs.size:=(Array.getElem?_eq_some_iff.1 hg).1
      omega
     rw[List.getElem?_eq_getElem hlt,(hT.cells hft).1] at h1
     obtain⟨da,h2,h3,h4⟩:=ih g.type m _ _ (hall _ (List.mem_of_getElem? hkf)) h1 fun q hq=>hw q (by
      simp only[DataW.weights,hu]
      refine DataW.weights_mem_each (j:=k) (t:=g.type) (d:=xs[k].1) ?_ ?_ q hq
      ·rw[List.getElem?_map];simp[hg]
      ·simp[hlt])
     obtain⟨db,h5,h6,h7⟩:=ihl (k+1) (g.offset+fi.size) (by
      have:=congrArg (List.drop 1) hk
      simpa[List.drop_drop,Nat.add_comm] using this) hc
     have hla:da.length=fi.size:=by
      rw[h3,List.length_take,List.length_drop];omega
     refine⟨da++db,⟨da,db,rfl,h2,h5⟩,by simp;omega,fun i d hd=>?_⟩
     rw[List.getElem?_append] at hd
     split at hd
     ·rename_i hlt'
      obtain⟨u,h8,h9⟩:=h4 i d hd
      rw[List.getElem?_take,if_pos (by omega),List.getElem?_drop] at h8
      exact⟨u,h8,h9⟩
     ·rename_i hge
      obtain⟨u,h8,h9⟩:=h7 _ d hd
      refine⟨u,?_,h9⟩
      rw[←h8];congr 1;omega
   obtain⟨ds,h1,h2,h3⟩:=key fs 0 0 rfl hcon
   exact⟨ds,by simp only[DOk,hi];exact h1,by omega,fun i d hd=>by simpa using h3 i d hd⟩
  |_=>cases hok
def dV:List D→V
 |[d]=>d.v true
 |_=> .un
def vOf (T:Tab) (ty:Nat) (ds:List D):V:=
 match T ty with
 |some i=>if i.agg then .ag (ds.map (D.v true)) else dV ds
 |none=> .un
open Go.WideShapes in
theorem read_arg (hT:TOk P T) {n ty:Nat} (hok:okT T n ty=true) {r:Reach} {b0:Nat} {v:Value} {d:DataW H} {ps:List MemPlace} (hval:Value.okWide P w r b0 ty v)
  (h:DataW.Trod enc P w 0 spare held ty v d ps) (hw:∀q∈d.weights P ty,q≤reachBytes):∃ds,DOk T n ty ds∧RelV (fun _=>none) (fun _ b=>b<w.heap.size) w (vOf T ty ds) v:=by
 obtain⟨fuel,h⟩:=h
 obtain⟨ds,h1,h2,h3⟩:=trod_read hT n ty fuel _ _ hok h hw
 refine⟨ds,h1,?_⟩
 cases n with
 |zero=>cases hok
 |succ n=>
 simp only[okT] at hok
 unfold vOf
 cases hi:T ty with
 |none=>rw[hi] at hok;cases hok
 |some i=>
 rw[hi] at hok
 have hagg:=(hT.ok hi).1
 have one:i.agg=false→v.cells= #[v]→RelV (fun _=>none) (fun _ b=>b<w.heap.size) w (if i.agg then .ag (ds.map (D.v true)) else dV ds) v:=by
  intro e1 e2
  rw[e2] at h2 h3
  rw[e1]
  match ds,h2,h3 with
  |[d],_,h3=>
   obtain⟨u,hu,hr⟩:=h3 0 d rfl
   simp at hu;subst hu
   exact .ofD (S:=fun _ b=>b<w.heap.size) hr
  |[],_,_=>exact .un _
  |_::_::_,_,_=>exact .un _
 have many:∀us:Array Value,i.agg=true→v= .agg us→RelV (fun _=>none) (fun _ b=>b<w.heap.size) w (if i.agg then .ag (ds.map (D.v true)) else dV ds) v:=by
  rintro us e1 rfl
  rw[e1]
  simp only[Value.cells,Array.length_toList] at h2 h3
  refine .ag _ us (by simpa using h2) fun j c hc=>?_
  rw[List.getElem?_map,Option.map_eq_some_iff] at hc
  obtain⟨d,hd,rfl⟩:=hc
  obtain⟨u,hu,hr⟩:=h3 j d hd
  rw[getD_of_get hu]
  exact .ofD (S:=fun _ b=>b<w.heap.size) hr
 obtain⟨size,bytes,agg,zero,kd⟩:=i
 cases kd with
 |int k=>obtain⟨z,rfl⟩:=okWide_int (hT.kd_int hi rfl) hval;exact one hagg rfl
 |bool=>obtain⟨z,rfl⟩:=okWide_bool (hT.kd_bool hi rfl) hval;exact one hagg rfl
 |string=>obtain⟨z,rfl⟩:=okWide_string (hT.kd_string hi rfl) hval;exact one hagg rfl
 |slice e=>obtain⟨a,l,c,rfl⟩:=okWide_slice (hT.kd_slice hi rfl) hval;exact one hagg rfl
 |struct fs=>
  obtain⟨gs,hu,_⟩:=hT.kd_struct hi rfl
  obtain⟨us,rfl,_⟩:=okWide_struct hu hval
  exact many us hagg rfl
 |_=>cases hok
theorem weights_cons {t:TypeId} {ts:List TypeId} {d:DataW H} {ds:List (DataW H)} (h:∀q∈DataW.weightsEach P (t::ts) (d::ds),q≤reachBytes):
  (∀q∈d.weights P t,q≤reachBytes)∧∀q∈DataW.weightsEach P ts ds,q≤reachBytes:=by
 simp only[DataW.weightsEach,List.mem_append] at h
 exact⟨fun q hq=>h q (.inl hq),fun q hq=>h q (.inr hq)⟩
theorem relL_nil {N:Names} {S:Sets}:RelL N S w [] []:=⟨rfl,by simp⟩
theorem relL_cons {N:Names} {S:Sets} {v:V} {u:Value} {vs:List V} {us:List Value} (h:RelV N S w v u) (hl:RelL N S w vs us):RelL N S w (v::vs) (u::us):=by
 refine⟨by simp[hl.1],fun i x hx=>?_⟩
 cases i with
 |zero=>simp at hx;subst hx;simpa using h
 |succ i=>simpa using hl.2 i x (by simpa using hx)
end
end Go.Proofs.YtjmabkpcahmnpaaGreatDoor
namespace Go.Proofs.YtjmabkpcahmnpaaGreatDoor
open Go.RowKit
theorem map_ofC {α:Type} {f:α→List D} {p:α→Prop}:∀{xs:List (List D)},(∀x∈xs,∃a,x=f a∧p a)→∃l:List α,xs=l.map f∧∀a∈l,p a
 |[],_=>⟨[],rfl,by simp⟩
 |x::xs,h=>by
  obtain⟨a,rfl,ha⟩:=h x (by simp)
  obtain⟨l,rfl,hl⟩:=map_ofC (xs:=xs) fun y hy=>h y (by simp[hy])
  exact⟨a::l,rfl,by simpa using⟨ha,hl⟩⟩
theorem len_reach {n b:Nat} (hb:16≤b) (h:n*b≤reachBytes):n≤8796093022207:=by
 have h2:reachBytes=140737488351232:=rfl
 rw[h2] at h
 have:n*16≤n*b:=Nat.mul_le_mul_left n hb
 omega
theorem wf_i64 {z:Int} (h:(Lit.int .i64 z).wf=true): -9223372036854775808≤z∧z≤9223372036854775807:=by
 simpa[Lit.wf,IntKind.min,IntKind.max,IntKind.signed,IntKind.bits] using h
theorem read_strs {n:Nat} {ds:List D} (h:DOk TT (n+2) 22 ds):∃ks:List Bs,ds=[.sl 1 (ks.map strD)]∧ks.length≤8796093022207:=by
 obtain⟨xs,rfl,h1,_,h2⟩:=h
 obtain⟨l,rfl,hok⟩:=map_ofC (f:=strD) (p:=fun _:Bs=>True) fun x hx=>by
  obtain⟨s,rfl,hs⟩:=h2 x hx
  exact⟨s.data.toList,rfl,trivial⟩
 refine⟨l,rfl,?_⟩
 rw[List.length_map] at h1
 exact len_reach (b:=16) (Nat.le_refl _) h1
def mfDs (m:Mf):List D:=[.cv (.string (mk m.nm)),.cv (.int .i64 m.me),.cv (.int .i64 m.st),.sl 1 (m.ops.map strD),.cv (.string (mk m.src))]
theorem read_mfD {n:Nat} {ds:List D} (h:DOk TT (n+3) 24 ds):∃m:Mf,ds=mfDs m∧MfRg m∧m.ops.length≤8796093022207:=by
 obtain⟨_,_,rfl,⟨a,rfl,_⟩,_,_,rfl,⟨k,rfl,hk⟩,_,_,rfl,⟨v,rfl,hv⟩,_,_,rfl,ho,_,_,rfl,⟨s,rfl,_⟩,rfl⟩:=h
 obtain⟨ks,rfl,k1⟩:=read_strs ho
 exact⟨⟨a.data.toList,k,v,ks,s.data.toList⟩,rfl,⟨wf_i64 hk,wf_i64 hv⟩,k1⟩
theorem read_mf {ds:List D} (h:DOk TT 6 24 ds):∃m:Mf,vOf TT 24 ds=m.V∧MfRg m∧m.ops.length≤8796093022207:=by
 obtain⟨m,rfl,h1,h2⟩:=read_mfD h
 exact⟨m,rfl,h1,h2⟩
theorem read_rop {n:Nat} {ds:List D} (h:DOk TT (n+4) 27 ds):∃o:Rop,ds=ropD o∧MfRg o.m∧o.m.ops.length≤8796093022207:=by
 obtain⟨_,_,rfl,⟨a,rfl,_⟩,_,_,rfl,⟨b,rfl,_⟩,_,_,rfl,⟨c,rfl,_⟩,_,_,rfl,⟨s,rfl,_⟩,_,_,rfl,hm,rfl⟩:=h
 obtain⟨m,rfl,h1,h2⟩:=read_mfD hm
 exact⟨⟨a,b,c,s.data.toList,m⟩,rfl,h1,h2⟩
theorem read_rops {ds:List D} (h:DOk TT 6 28 ds):∃l:List Rop,vOf TT 28 ds=ropsV l∧l.length≤8796093022207∧∀o∈l,MfRg o.m∧o.m.ops.length≤8796093022207:=by
 obtain⟨xs,rfl,h1,_,h2⟩:=h
 obtain⟨l,rfl,hok⟩:=map_ofC (f:=ropD) (p:=fun o=>MfRg o.m∧o.m.ops.length≤8796093022207) fun x hx=>read_rop (h2 x hx)
 refine⟨l,rfl,?_,hok⟩
 rw[List.length_map] at h1
 exact len_reach (b:=112) (by decide) h1
theorem d_rnil (ds0 ds1 ds2 ds3:List D) (h0:DOk TT 6 24 ds0) (h1:DOk TT 6 9 ds1) (h2:DOk TT 6 3 ds2) (h3:DOk TT 6 3 ds3):
  DCalls Tryz.prog 3 [vOf TT 24 ds0,vOf TT 9 ds1,vOf TT 3 ds2,vOf TT 3 ds3] (boo true):=by
 obtain⟨m,e,_,hm⟩:=read_mf h0
 obtain⟨s,rfl,_⟩:=h1
 obtain⟨a,rfl,_⟩:=h2
 obtain⟨b,rfl,_⟩:=h3
 rw[e]
 exact x_lnil x_awakeR m s.data.toList a b hm
theorem d_rrepeats (ds0 ds1 ds2:List D) (h0:DOk TT 6 28 ds0) (h1:DOk TT 6 24 ds1) (h2:DOk TT 6 3 ds2):
  DCalls Tryz.prog 5 [vOf TT 28 ds0,vOf TT 24 ds1,vOf TT 3 ds2] (boo true):=by
 obtain⟨l,e0,hl,hk⟩:=read_rops h0
 obtain⟨m,e,hr,hm⟩:=read_mf h1
 obtain⟨a,rfl,_⟩:=h2
 rw[e,e0]
 exact x_lrepeats pubs x_awakeR l m a hl (fun o ho=>(hk o ho).2) hm (fun o ho=>(hk o ho).1) hr
end Go.Proofs.YtjmabkpcahmnpaaGreatDoor
namespace Go.Proofs.YtjmabkpcahmnpaaGreatDoor
open Go.RowKit Go.ChangeShapes
abbrev laidV (r:List (String×DataW Unit)):List (String×DataW Unit):=("math/bits.deBruijn32tab",Rows.laid_math_bits_deBruijn32tab)::("math/bits.deBruijn64tab",Rows.laid_math_bits_deBruijn64tab)::("internal/strconv.uint64pow10",Rows.laid_internal_strconv_uint64pow10)::("strconv.ErrRange",Rows.laid_strconv_ErrRange)::r
abbrev laidVars:List (String×DataW Unit):=laidV [("strconv.ErrSyntax",Rows.laid_strconv_ErrSyntax)]
abbrev laidVarsS:List (String×DataW Unit):=laidV [("strconv.ErrSyntax",Rows.laid_strconv_ErrSyntax),("faas/code.shapes",Rows.laid_faas_code_shapes)]
theorem star_err: "*" ++ "errors.errorString" = "*errors.errorString" :=by decide
theorem row_err (u:TypeId) (h:Tryz.prog.typeName? 3 u=some "*errors.errorString"):u=296:=
 typeName_ptr_named (nm:= "errors.errorString") (by rw[star_err];kernel_rfl) (by kernel_rfl) (by decide) u (by rw[star_err];exact h)
theorem g2_named:Program.globalNamed Tryz.prog "strconv.ErrRange" =some 6:=by kernel_rfl
theorem pow10Tab_data:(Rows.laid_internal_strconv_uint64pow10:DataW Unit)=Lib.tabData .u64 Lib.pow10Tab:=by
 unfold Rows.laid_internal_strconv_uint64pow10 Lib.tabData Lib.pow10Tab
 simp[List.range,List.range.loop]
def tab64:List Int:=[0,1,56,2,57,49,28,3,61,58,42,50,38,29,17,4,62,47,59,36,45,43,51,22,53,39,33,30,24,18,12,5,63,55,48,27,60,41,37,16,46,35,44,21,52,32,23,11,54,26,40,15,34,20,31,10,25,14,19,9,13,8,7,6]
theorem g1_named:Program.globalNamed Tryz.prog "math/bits.deBruijn64tab" =some 4:=by kernel_rfl
theorem tab64_data:(Rows.laid_math_bits_deBruijn64tab:DataW Unit)=Lib.tabData .u8 tab64:=rfl
theorem tab64_cells:gcells 4=some (tab64.map (.int .u8)):=rfl
theorem ginv_of_laid {W:World} {r:List (String×DataW Unit)} (h:laidMet Tryz.prog (laidV r) W):ginv W:=by
 have h2:=h.tail
 have h3:=h2.tail
 have h4:=h3.tail
 obtain⟨a,s,hv,hc,_⟩:=laid_sentinel h4 g2_named (ti:=137) (by kernel_rfl) Tryz.underlying137 row_err Tryz.underlying296 Tryz.underlying298 rfl rfl Tryz.underlying9 (by kernel_rfl) (by kernel_rfl)
 refine⟨⟨_,by simpa using World.var?_cell g2_named hv 0,.inr ⟨_,_,rfl⟩⟩,?_⟩
 rw[pow10Tab_data] at h3
 rw[tab64_data] at h2
 refine⟨Lib.tabIs_of_head (t:=224) (e:=84) (n:=20) g3_named (by kernel_rfl) (by kernel_rfl) (by kernel_rfl) (by kernel_rfl) (by kernel_rfl) h3,?_⟩
 have ht:Lib.TabIs Tryz.prog W "math/bits.deBruijn64tab" .u8 tab64:=Lib.tabIs_of_head (t:=267) (e:=5) (n:=64) g1_named (by kernel_rfl) (by kernel_rfl) (by kernel_rfl) (by kernel_rfl) (by kernel_rfl) h2
 have hcell:∀i v,(tab64.map (Value.int .u8))[i]?=some v→W.cell? ⟨4,i,none⟩=some v:=fun i v hv=>by
  have hi:=(List.getElem?_eq_some_iff.1 hv).1
  rw[List.length_map] at hi
  rw[ht.cell g1_named i hi,←hv,List.getElem?_map,List.getElem?_eq_getElem hi,List.getD_eq_getElem?_getD,List.getElem?_eq_getElem hi]
  rfl
 intro g cs' hg
 have hg0:g=4:=by
  unfold gcells at hg
  split at hg
  ·rfl
  ·cases hg
 subst hg0
 rw[tab64_cells] at hg
 cases hg
 refine⟨?_,hcell⟩
 have:=hcell 0 (.int .u8 0) rfl
 unfold World.cell? at this
 rcases Nat.lt_or_ge 4 W.heap.size with hlt|hge
 ·exact hlt
 ·rw[Array.getElem?_eq_none hge] at this
  simp at this
abbrev rangeS:ByteArray:={data:= #[118,97,108,117,101,32,111,117,116,32,111,102,32,114,97,110,103,101]}
abbrev syntaxS:ByteArray:={data:= #[105,110,118,97,108,105,100,32,115,121,110,116,97,120]}
noncomputable def low0:Nat:=(World.holding Tryz.prog default ⟨#[],#[],[]⟩).heap.size
def lay (cs:Array Value):Obj→Obj
 | .cells _ t frozen=> .cells cs t frozen
 |o=>o
noncomputable def laidWorld (os:Os):World:=
 let w0:=World.holding Tryz.prog os ⟨#[.cells #[.string rangeS] 298,.cells #[.string syntaxS] 298],#[],[]⟩
 {w0 with heap:=((((((w0.heap.modify 5 (lay #[.iface 296 (.pointer (some ⟨low0+1,0,none⟩))])).modify 6 (lay #[.iface 296 (.pointer (some ⟨low0,0,none⟩))])).modify 0 (lay #[.int .u64 1,.int .u64 10,.int .u64 100,.int .u64 1000,.int .u64 10000,.int .u64 100000,.int .u64 1000000,.int .u64 10000000,.int .u64 100000000,.int .u64 1000000000,.int .u64 10000000000,.int .u64 100000000000,.int .u64 1000000000000,.int .u64 10000000000000,.int .u64 100000000000000,.int .u64 1000000000000000,.int .u64 10000000000000000,.int .u64 100000000000000000,.int .u64 1000000000000000000,.int .u64 10000000000000000000])).modify 3 (lay #[.int .u8 0,.int .u8 1,.int .u8 28,.int .u8 2,.int .u8 29,.int .u8 14,.int .u8 24,.int .u8 3,.int .u8 30,.int .u8 22,.int .u8 20,.int .u8 15,.int .u8 25,.int .u8 17,.int .u8 4,.int .u8 8,.int .u8 31,.int .u8 27,.int .u8 13,.int .u8 23,.int .u8 21,.int .u8 19,.int .u8 16,.int .u8 7,.int .u8 26,.int .u8 12,.int .u8 18,.int .u8 6,.int .u8 11,.int .u8 5,.int .u8 10,.int .u8 9])).modify 4 (lay #[.int .u8 0,.int .u8 1,.int .u8 56,.int .u8 2,.int .u8 57,.int .u8 49,.int .u8 28,.int .u8 3,.int .u8 61,.int .u8 58,.int .u8 42,.int .u8 50,.int .u8 38,.int .u8 29,.int .u8 17,.int .u8 4,.int .u8 62,.int .u8 47,.int .u8 59,.int .u8 36,.int .u8 45,.int .u8 43,.int .u8 51,.int .u8 22,.int .u8 53,.int .u8 39,.int .u8 33,.int .u8 30,.int .u8 24,.int .u8 18,.int .u8 12,.int .u8 5,.int .u8 63,.int .u8 55,.int .u8 48,.int .u8 27,.int .u8 60,.int .u8 41,.int .u8 37,.int .u8 16,.int .u8 46,.int .u8 35,.int .u8 44,.int .u8 21,.int .u8 52,.int .u8 32,.int .u8 23,.int .u8 11,.int .u8 54,.int .u8 26,.int .u8 40,.int .u8 15,.int .u8 34,.int .u8 20,.int .u8 31,.int .u8 10,.int .u8 25,.int .u8 14,.int .u8 19,.int .u8 9,.int .u8 13,.int .u8 8,.int .u8 7,.int .u8 6])).modify 1 (lay #[.string ⟨#[]⟩,.bool false,.bool false,.bool false,.int .i64 0,.int .i64 0,.string ⟨#[110,117,108,108]⟩,.bool false,.bool false,.bool false,.int .i64 0,.int .i64 1,.string ⟨#[98,111,111,108]⟩,.bool true,.bool false,.bool false,.int .i64 0,.int .i64 1,.string ⟨#[105,110,116]⟩,.bool true,.bool false,.bool false,.int .i64 0,.int .i64 1,.string ⟨#[115,116,114]⟩,.bool false,.bool true,.bool false,.int .i64 0,.int .i64 1,.string ⟨#[108,111,97,100]⟩,.bool true,.bool false,.bool false,.int .i64 0,.int .i64 1,.string ⟨#[115,116,111,114,101]⟩,.bool true,.bool false,.bool false,.int .i64 1,.int .i64 0,.string ⟨#[112,111,112]⟩,.bool false,.bool false,.bool false,.int .i64 1,.int .i64 0,.string ⟨#[117,110,97,114,121]⟩,.bool false,.bool true,.bool false,.int .i64 1,.int .i64 1,.string ⟨#[98,105,110,97,114,121]⟩,.bool false,.bool true,.bool false,.int .i64 2,.int .i64 1,.string ⟨#[105,110,100,101,120]⟩,.bool false,.bool false,.bool false,.int .i64 2,.int .i64 1,.string ⟨#[108,105,115,116]⟩,.bool true,.bool false,.bool false,.int .i64 (-1),.int .i64 1,.string ⟨#[109,97,112]⟩,.bool true,.bool false,.bool true,.int .i64 (-1),.int .i64 1,.string ⟨#[106,117,109,112]⟩,.bool true,.bool false,.bool false,.int .i64 0,.int .i64 0,.string ⟨#[102,97,108,115,101]⟩,.bool true,.bool false,.bool false,.int .i64 1,.int .i64 0,.string ⟨#[116,101,115,116]⟩,.bool false,.bool false,.bool false,.int .i64 1,.int .i64 1,.string ⟨#[100,117,112]⟩,.bool false,.bool false,.bool false,.int .i64 1,.int .i64 2,.string ⟨#[99,97,108,108]⟩,.bool true,.bool false,.bool false,.int .i64 (-1),.int .i64 1,.string ⟨#[98,117,105,108,116]⟩,.bool true,.bool true,.bool false,.int .i64 (-1),.int .i64 1,.string ⟨#[104,111,115,116]⟩,.bool true,.bool true,.bool false,.int .i64 (-1),.int .i64 1,.string ⟨#[114,101,116,117,114,110]⟩,.bool false,.bool false,.bool false,.int .i64 1,.int .i64 0]))}
theorem laidWorld_met (os:Os) (args:Array Value):laidMet Tryz.prog laidVars ((laidWorld os).forCall (fun _ _=>0) ⟨#[],args,[]⟩).memory:=
 laidMet_of_run' 8 (by kernel_rfl) (by kernel_rfl)
theorem laidWorld_metS (os:Os) (args:Array Value):laidMet Tryz.prog laidVarsS ((laidWorld os).forCall (fun _ _=>0) ⟨#[],args,[]⟩).memory:=
 laidMet_of_run' 8 (by kernel_rfl) (by kernel_rfl)
end Go.Proofs.YtjmabkpcahmnpaaGreatDoor
