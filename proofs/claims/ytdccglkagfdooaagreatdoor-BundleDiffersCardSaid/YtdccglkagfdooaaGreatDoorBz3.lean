/- Texts joined by pack.py: XSxE XSxF -/
import Derived.Test.YtdccglkagfdooaaGreatDoorBz2
namespace Go.Proofs.YtdccglkagfdooaaGreatDoor
open Go.RowKit
section
variable {P:Program} {T:Tab} {B:Fr} {w0:World} {N:Names} {S:Sets} {t:List V} {m:List (Option Bk)} {a:Act} {w:World}
theorem newK_box (hs:Sat B w0 N S t m a w) {dst:Option Tmp} {cs:List V} {us:Array Value} {ty:TypeId} {bt:Option Nat} (hbt:bt.getD ty=ty) (hl:cs.length=us.size) (hr:∀i v,cs[i]?=some v→RelV N S w v (us.getD i undef))
  {K:V→List (Option Bk)→Prop} (h:newK dst (.box cs bt) (fun d=> .bx d 0) m K):Post B w0 t a K (.pointer (some ⟨w.heap.size,0,none⟩)) (w.alloc (.cells us ty)):=by
 unfold newK at h
 split at h
 ·cases h
 rename_i d
 split at h
 ·rename_i hd
  rw[setK_eq] at h
  obtain⟨N',h1,h2,h3⟩:=hs.alloc (v:= .pointer (some ⟨w.heap.size,0,none⟩)) (b:= .box cs bt) (us:=us) (ty:=ty) hd rfl fun N' h1 h2 _=>
   ⟨w.heap.size,ty,us,h1,by rw[hbt];exact heap_alloc_new w _,hl,fun i v hv=>h2 _ _ (hr i v hv)⟩
  exact⟨N',S,_,_,h3,.bx d 0 _ h1,h⟩
 ·cases h
theorem newK_row (hs:Sat B w0 N S t m a w) {dst:Option Tmp} {f:Bool} {xs:List (List D)} {us:Array Value} {ty sz cap:Nat} {w1:World} (hw1:w1=w∨w1=w.drew) (hsz:0<sz) (hx:∀x∈xs,x.length=sz) (hcap:us.size=cap*sz) (hle:xs.length≤cap) (hmax:cap≤maxLen)
  (hr:∀i j d,(xs[i]?.bind fun x=>x[j]?)=some d→∃u,us[i*sz+j]?=some u∧RelD (S f) w d u)
  {K:V→List (Option Bk)→Prop} (h:newK dst (.row 0 ty sz f xs) (.ow · 0) m K):Post B w0 t a K (.slice (some ⟨w.heap.size,0,none⟩) xs.length cap) (w1.alloc (.cells us ty)):=by
 have hs1:Sat B w0 N S t m a w1:=by
  rcases hw1 with rfl|rfl
  ·exact hs
  ·exact⟨hs.low.drew,hs.nodef,hs.tmps.mono (w:=w) (w':=w.drew) (NLe.refl _) (fun _ _ h=>h) (fun _ _ _=>rfl),fun k b hk=>(hs.blk k b hk).mono (w:=w) (w':=w.drew) rfl (NLe.refl _) (fun _ _ h=>h) (fun _ _ _=>rfl) (fun _ _ _ _ _=>rfl),hs.non,hs.apart,hs.data,hs.fresh,hs.own,hs.base,hs.old,hs.lent,hs.more.mono (w:=w) (w':=w.drew) (Nat.le_refl _) (fun _ _ h=>h.mono (w:=w) (w':=w.drew) (NLe.refl _) (fun _ _ h=>h) fun _ _ _=>rfl) hs.base fun _ _ h=> .inl h,hs.stay⟩
 have hh:w1.heap=w.heap:=by rcases hw1 with rfl|rfl<;>rfl
 unfold newK at h
 split at h
 ·cases h
 rename_i d
 split at h
 ·rename_i hd
  rw[setK_eq] at h
  obtain⟨N',h1,h2,h3⟩:=hs1.alloc (v:= .slice (some ⟨w.heap.size,0,none⟩) xs.length cap) (b:= .row 0 ty sz f xs) (us:=us) (ty:=ty) hd (by rw[hh];rfl) fun N' h1 h2 h3=>by
   have hlen:(us.toList.take (xs.length*sz)).length=xs.length*sz:=by
    have e:us.toList.length=us.size:=by simp
    rw[List.length_take,e,hcap];exact Nat.min_eq_left (Nat.mul_le_mul_right _ hle)
   refine⟨_,us.toList.take (xs.length*sz),h1,⟨hlen,.inr ⟨w.heap.size,cap,us,rfl,Nat.zero_le _,by rw[←hh];exact heap_alloc_new w1 _,hle,hmax,hcap,rfl⟩⟩,hx,hsz,fun i j d hd=>?_,fun _ g hg=>by cases hg;exact hs.size⟩
   obtain⟨u,hu,hr⟩:=hr i j d hd
   refine⟨u,?_,h3 _ _ _ (hr.mono (fun _ h=>h) fun _ _=>by rw[hh])⟩
   rw[List.getElem?_take,Array.getElem?_toList,hu,if_pos]
   cases hi:xs[i]? with
   |none=>rw[hi] at hd;cases hd
   |some x=>
    rw[hi] at hd
    have h5:=lt_of_get (show x[j]?=some d from hd)
    rw[hx x (List.mem_of_getElem? hi)] at h5
    have h6:=lt_of_get hi
    calc i*sz+j<i*sz+sz:=by omega
     _=(i+1)*sz:=by rw[Nat.add_mul];omega
     _≤xs.length*sz:=Nat.mul_le_mul_right _ h6
  exact⟨N',S,_,_,h3,.ow d 0 _ rfl ⟨0,_,h1,Nat.le_refl _,fun _=>rfl⟩,h⟩
 ·cases h
theorem ok_alloc (hT:TOk P T) (hs:Sat B w0 N S t m a w) {o:Oper} {ty:Nat} (ho:o.op= .alloc ty) {K:V→List (Option Bk)→Prop}
  (h:match T ty with|some i=>(match T.fm (3000000+ty) with|none=>newK o.dst (.box (i.zero.map .cv) none) (fun d=> .bx d 0) m K|some _=>newK o.dst (.box (i.zero.map .cv) (some ty)) (fun d=> .bx d 0) m K)|none=>False):OpOk P o a w (Post B w0 t a K):=by
 split at h
 ·rename_i i hi
  obtain⟨z,hz,hrun⟩:=hT.zero hi
  obtain⟨bt,hbt,h⟩:∃bt:Option Nat,bt.getD ty=ty∧newK o.dst (.box (i.zero.map .cv) bt) (fun d=> .bx d 0) m K:=by
   split at h
   ·exact⟨none,rfl,h⟩
   ·exact⟨some ty,rfl,h⟩
  refine opOk_val (u:= .pointer (some ⟨w.heap.size,0,none⟩)) (w':=w.alloc (.cells z.cells ty)) ?_ (newK_box hs hbt (by rw[←hz];simp) (fun j v hv=>?_) h)
  ·unfold execOp
   simp only[ho]
   refine run_v ?_
   simp[Instr.alloc,hrun,newVar,newRow]
  ·rw[←hz,List.getElem?_map,Option.map_eq_some_iff] at hv
   obtain⟨u,hu,rfl⟩:=hv
   rw[getD_of_get hu];exact .cv _
 ·cases h
theorem ok_box {F:Nat→Option Bool} (hs:Sat B w0 N S t m a w) {o:Oper} {ty:Nat} {x:Operand} (ho:o.op= .box ty x) {K:V→List (Option Bk)→Prop}
  (h:match evN t x with| .un=>False|v=>forceL v.cells fun cs=>(match F (3000000+ty) with|none=>newK o.dst (.box cs none) (fun d=> .bx d 0) m K|some _=>newK o.dst (.box cs (some ty)) (fun d=> .bx d 0) m K)):OpOk P o a w (Post B w0 t a K):=by
 have hx:=hs.evN x
 split at h
 ·cases h
 rename_i hne
 rw[forceL_eq] at h
 obtain⟨bt,hbt,h⟩:∃bt:Option Nat,bt.getD ty=ty∧newK o.dst (.box (evN t x).cells bt) (fun d=> .bx d 0) m K:=by
  split at h
  ·exact⟨none,rfl,h⟩
  ·exact⟨some ty,rfl,h⟩
 obtain⟨h1,h2⟩:=hx.cells hne
 refine opOk_val (u:= .pointer (some ⟨w.heap.size,0,none⟩)) (w':=w.alloc (.cells (a.eval x).cells ty)) ?_ (newK_box hs hbt h1 h2 h)
 unfold execOp
 simp only[ho]
 refine run_v ?_
 simp[Instr.box,newVar,newRow]
theorem box_cells (hs:Sat B w0 N S t m a w) {n:Nat} {cs:List V} {bt:Option Nat} (hm:m[n]?=some (some (.box cs bt))) {g:Nat} (hn:N n=some (0,.pointer (some ⟨g,0,none⟩))):
  ∃ty us,w.heap[g]?=some (.cells us (bt.getD ty) (0,0))∧cs.length=us.size∧(∀i v,cs[i]?=some v→RelV N S w v (us.getD i undef))∧∀j v,cs[j]?=some v→∃u,w.cell? ⟨g,0+j,none⟩=some u∧RelV N S w v u:=by
 obtain⟨g',ty,us,h1,h2,h3,h4⟩:=hs.blk n _ hm
 rw[hn] at h1;cases h1
 refine⟨ty,us,h2,h3,h4,fun j v hv=>⟨us.getD j undef,?_,h4 j v hv⟩⟩
 rw[Nat.zero_add,cell_of_row w g j us _ _ h2]
 have:=lt_of_get hv
 simp[Array.getD_eq_getD_getElem?,show j<us.size by omega]
theorem row_cells (hs:Sat B w0 N S t m a w) {n k E sz:Nat} {f:Bool} {xs:List (List D)} (hm:m[n]?=some (some (.row k E sz f xs))) {v:Value} {k':Nat} (hn:N n=some (k',v)):
  k'=k∧(∀x∈xs,x.length=sz)∧0<sz∧((v= .slice none 0 0∧xs=[])∨∃g cap us,v= .slice (some ⟨g,0,none⟩) xs.length cap∧w.heap[g]?=some (.cells us E (0,0))∧xs.length≤cap∧cap≤maxLen∧us.size=cap*sz∧
   ∀i j d,(xs[i]?.bind fun x=>x[j]?)=some d→i*sz+j<us.size∧RelD (S f) w d (us.getD (i*sz+j) undef)):=by
 obtain⟨v',us,h1,h2,h3,h4,h5,_⟩:=hs.blk n _ hm
 rw[hn] at h1;cases h1
 refine⟨rfl,h3,h4,?_⟩
 rcases h2.2 with⟨e,e0⟩|⟨g,cap,cu,e,e1,e2,e3,e4,e5,e6⟩
 ·exact .inl ⟨e,List.eq_nil_of_length_eq_zero e0⟩
 ·refine .inr ⟨g,cap,cu,e,e2,e3,e4,e5,fun i j d hd=>?_⟩
  obtain⟨u,hu,hr⟩:=h5 i j d hd
  rw[←e6,List.getElem?_take] at hu
  split at hu
  ·rw[getD_of_get hu]
   exact⟨by have:=lt_of_get hu;simpa using this,hr⟩
  ·cases hu
theorem vw_data (hs:Sat B w0 N S t m a w) {n k E sz lo hi:Nat} {f:Bool} {xs:List (List D)} (hm:m[n]?=some (some (.row k E sz f xs))) {v u:Value} {k':Nat} (hn:N n=some (k',v))
  (he:∃A len cap A',v= .slice A len cap∧lo≤hi∧hi≤len∧u= .slice A' (hi - lo) (cap - lo)∧(lo<hi∨lo=0→A'=A.map (·.add (lo*sz)))) {S':Nat→Prop} (hS:∀g,S f g→S' g) (ho:∀g,At v g→S' g):
  RelD S' w (.sl sz ((xs.take hi).drop lo)) u:=by
 obtain⟨A,len,cap,A',e1,h1,h2,e2,e3⟩:=he
 subst e2
 have hnil:lo=hi→RelD S' w (.sl sz ((xs.take hi).drop lo)) (.slice A' (hi - lo) (cap - lo)):=by
  intro e
  have e4:(xs.take hi).drop lo=[]:=by apply List.drop_eq_nil_of_le;rw[List.length_take];omega
  rw[e4,show hi - lo=0 by omega]
  exact .nil _ _ _
 obtain⟨rfl,h3,h4,h5⟩:=row_cells hs hm hn
 rcases h5 with⟨e4,rfl⟩|⟨g,cap',us,e4,h6,h7,h8,h9,h10⟩
 ·rw[e1] at e4;cases e4
  exact hnil (by omega)
 ·rcases Nat.eq_or_lt_of_le h1 with e|hlt
  ·exact hnil e
  rw[e1] at e4;cases e4
  rw[e3 (.inl hlt)]
  have hlen:((xs.take hi).drop lo).length=hi - lo:=by rw[List.length_drop,List.length_take];omega
  have hget:∀i,((xs.take hi).drop lo)[i]?=if lo+i<hi then xs[lo+i]? else none:=by
   intro i;rw[List.getElem?_drop,List.getElem?_take]
  have hg:∀(i j:Nat) (d:D),(((xs.take hi).drop lo)[i]?.bind fun x=>x[j]?)=some d→(xs[lo+i]?.bind fun x=>x[j]?)=some d:=by
   intro i j d hd
   rw[hget] at hd
   split at hd
   ·exact hd
   ·cases hd
  simp only[Option.map_some,add_mk]
  rw[←hlen]
  refine .sl _ _ g _ _ (fun i j=>us.getD ((lo+i)*sz+j) undef) (ho g (by rw[e1];rfl)) (fun y hy=>h3 y (List.mem_of_mem_take (List.mem_of_mem_drop hy))) (by omega) (fun i j d hd=>?_) (fun i j d hd=>?_)
  ·obtain⟨h11,_⟩:=h10 _ j d (hg i j d hd)
   rw[cell_of_row w g _ us E _ h6]
   rw[show 0+lo*sz+i*sz+j=(lo+i)*sz+j by rw[Nat.add_mul];omega]
   simp[Array.getD_eq_getD_getElem?,h11]
  ·exact(h10 _ j d (hg i j d hd)).2.mono hS fun _ _=>rfl
theorem dv_get {cells:List D} {f:Bool} {j:Nat} {v:V} (h:(cells.map (D.v f))[j]?=some v):∃d,cells[j]?=some d∧v=d.v f:=by
 rw[List.getElem?_map,Option.map_eq_some_iff] at h
 obtain⟨d,hd,rfl⟩:=h
 exact⟨d,hd,rfl⟩
theorem ok_load (hT:TOk P T) (hs:Sat B w0 N S t m a w) {o:Oper} {ty:Nat} {x:Operand} (ho:o.op= .load ty x) {K:V→List (Option Bk)→Prop}
  (h:match T.fm (4000000+ty) with
  |some _=>exK P o (evN t) m K
  |none=>match T ty with
  |none=>False
  |some i=>match evN t x with
   | .bx n off=>match m[n]? with
    |some (some (.box cs _))=>loadK i cs off fun v=>K v m
    |_=>False
   | .el f cells off=>loadK i (cells.map (D.v f)) off fun v=>K v m
   | .oq n k sz j off=>match m[n]? with
    |some (some (.row k' _ s f xs))=>if k=k'∧s=sz then(∃cells,xs[j]?=some cells∧forceD cells fun cells=>loadK i (cells.map (D.v f)) off fun v=>K v m) else False
    |some (some (.asr ..))=>rdK P o (evN t) m K
    |_=>False
   | .cv (.pointer (some ⟨g,off,none⟩))=>match gcells g with
    |some cs=>loadK i (cs.map .cv) off fun v=>K v m
    |none=>False
   |_=>False):OpOk P o a w (Post B w0 t a K):=by
 have hx:=hs.evN x
 have fin:∀{g off:Nat} {u:Value} {v:V},a.eval x= .pointer (some ⟨g,off,none⟩)→(loadVar ty ⟨g,off,none⟩).run P w= .ok u w→RelV N S w v u→K v m→OpOk P o a w (Post B w0 t a K):=by
  intro g off u v hx hr hv hK
  refine opOk_val (u:=u) (w':=w) ?_ (Post.same hs hv hK)
  unfold execOp
  simp only[ho]
  refine run_v ?_
  rw[hx]
  simp[Instr.loadAt,Instr.sureAddr,hr]
 split at h
 ·exact ok_ext hs h
 split at h
 ·cases h
 rename_i i hi
 generalize hev:evN t x=v at h hx
 cases v<;>simp only at h<;>try(cases h;done)
 ·rename_i c
  cases c<;>(try simp only at h)<;>try(cases h;done)
  rename_i A
  rcases A with _|⟨g,off,e⟩<;>(try simp only at h)<;>try(cases h;done)
  cases e<;>(try simp only at h)<;>try(cases h;done)
  all_goals(
   generalize hu:a.eval x=u at hx
   cases hx
   split at h
   ·rename_i cs hg
    obtain⟨_,hcs⟩:=ginv_cells (ginv_low hs.more.inv.1 hs.more.inv.2 fun k hk=>hs.low.block k hk) hg
    obtain⟨u',v,h1,h2,h3⟩:=loadK_sound hT hi (g:=g) (p:=0) (N:=N) (S:=S) (w:=w) (fun j v hv=>by
     rw[List.getElem?_map,Option.map_eq_some_iff] at hv
     obtain⟨c,hc,rfl⟩:=hv
     exact⟨c,by rw[Nat.zero_add];exact hcs j c hc,.cv _⟩) h
    rw[Nat.zero_add] at h1
    exact fin hu h1 h2 h3
   ·cases h)
 ·rename_i f cells off
  generalize hu:a.eval x=u at hx
  cases hx
  rename_i g p u hS hc
  obtain⟨u',v,h1,h2,h3⟩:=loadK_sound hT hi (g:=g) (p:=p) (N:=N) (S:=S) (w:=w) (fun j v hv=>by
   obtain⟨d,hd,rfl⟩:=dv_get hv
   exact⟨u j,(hc j d hd).1,.ofD (hc j d hd).2⟩) h
  exact fin hu h1 h2 h3
 ·rename_i n off
  generalize hu:a.eval x=u at hx
  cases hx
  rename_i g hn
  split at h
  ·rename_i cs hm
   obtain⟨ty',us,_,_,_,hc⟩:=box_cells hs hm hn
   obtain⟨u',v,h1,h2,h3⟩:=loadK_sound hT hi hc h
   rw[Nat.zero_add] at h1
   exact fin hu h1 h2 h3
  ·cases h
 ·rename_i n k sz j off
  generalize hu:a.eval x=u at hx
  cases hx
  rename_i hu1 hn
  obtain⟨k',v,hn,hk,he⟩:=hn
  split at h
  ·rename_i k2 E s f xs hm
   split at h
   ·rename_i hkk
    obtain⟨rfl,rfl⟩:=hkk
    obtain⟨cells,hcl,h⟩:=h
    rw[forceD_eq] at h
    obtain⟨rfl,h1,h2,h3⟩:=row_cells hs hm hn
    rw[(row_hdv hs hm hn).1] at he
    obtain⟨g,len,cap,rfl,rfl⟩:=he rfl
    rcases h3 with⟨h3,_⟩|⟨g',cap',us,h3,h4,h5,_,_,h6⟩
    ·cases h3
    cases h3
    obtain⟨u',v,h7,h8,h9⟩:=loadK_sound hT hi (g:=g) (p:=j*s) (N:=N) (S:=S) (w:=w) (fun q v hv=>by
     obtain⟨d,hd,rfl⟩:=dv_get hv
     obtain⟨h10,h11⟩:=h6 j q d (by rw[hcl];exact hd)
     refine⟨us.getD (j*s+q) undef,?_,.ofD h11⟩
     rw[cell_of_row w g _ us E _ h4]
     simp[Array.getD_eq_getD_getElem?,h10]) h
    exact fin hu h7 h8 h9
   ·cases h
  ·exact ok_rd hs h
  ·cases h
theorem RelV.cells_one {v:V} {u:Value} (h:RelV N S w v u) (h1:allOne v.cells=true):v≠ .un∧∀c∈u.cells.toList,c.oneCell'=true:=by
 have hne:v≠ .un:=by rintro rfl;simp[V.cells,allOne,V.one] at h1
 obtain⟨h2,h3⟩:=h.cells hne
 refine⟨hne,fun c hc=>?_⟩
 obtain⟨i,hi,rfl⟩:=List.getElem_of_mem hc
 have hi':i<v.cells.length:=by rw[h2];simpa using hi
 have:=(h3 i _ (List.getElem?_eq_getElem hi')).one (allOne_spec h1 i _ (List.getElem?_eq_getElem hi'))
 simp only[Array.length_toList] at hi
 simpa[Array.getD_eq_getD_getElem?,hi] using this
theorem toDs_one {v:V} {u:Value} {ds:List D} {f:Bool} (hTF:∀b,S true b→S false b) (h:RelV N S w v u) (hd:toDs v.cells=some (ds,f)):v≠ .un∧ds.length=u.cells.size∧∀g:Bool,(g=true→f=true)→∀i d,ds[i]?=some d→RelD (S g) w d (u.cells.getD i undef):=by
 have hne:v≠ .un:=by rintro rfl;simp[V.cells,toDs,V.d] at hd
 obtain⟨h2,h3⟩:=h.cells hne
 obtain⟨e1,e2⟩:=toDs_spec hd
 refine⟨hne,by omega,fun g hg i d hi=>?_⟩
 obtain⟨v',g',hv',hd',hg'⟩:=e2 i d hi
 exact .ofV hTF (h3 i v' hv') hd' fun e=>hg' (hg e)
theorem RelD.down (hTF:∀b,S true b→S false b) {f g:Bool} {d:D} {u:Value} (hr:RelD (S f) w d u):RelD (S (f&&g)) w d u:=by
 cases f<;>cases g<;>first|exact hr|exact hr.mono hTF fun _ _=>rfl
theorem storeVar_run (hT:TOk P T) {ty:Nat} {i:TI} (hi:T ty=some i) {g off:Nat} {E:TypeId} {us:Array Value} (hg:w.heap[g]?=some (.cells us E (0,0))) {u:Value} (h1:∀c∈u.cells.toList,c.oneCell'=true) (hsz:u.cells.size=i.size) (hle:off+u.cells.size≤us.size):
  ∃w' us',(storeVar ty ⟨g,off,none⟩ u).run P w= .ok () w'∧Upd w w' g us' E∧us'.size=us.size∧
   ∀j,us'.getD j undef=if off≤j∧j<off+u.cells.size then u.cells.getD (j - off) undef else us.getD j undef:=by
 obtain⟨w',us',h2,h3,h4,h5⟩:=storeCells_run (P:=P) u.cells.toList w g off 0 E us hg h1 (by simpa using hle)
 refine⟨w',us',?_,h3,h4,fun j=>?_⟩
 ·simp[storeVar,hT.size hi,hsz,h2]
 ·rw[h5 j]
  simp only[Nat.add_zero,Array.length_toList,getD_toList]
end
end Go.Proofs.YtdccglkagfdooaaGreatDoor
namespace Go.Proofs.YtdccglkagfdooaaGreatDoor
open Go.RowKit
section
variable {P:Program} {T:Tab} {B:Fr} {w0:World} {N:Names} {S:Sets} {t:List V} {m:List (Option Bk)} {a:Act} {w:World}
theorem ok_store (hT:TOk P T) (hs:Sat B w0 N S t m a w) {o:Oper} {ty:Nat} {x y:Operand} (ho:o.op= .store ty x y) {K:V→List (Option Bk)→Prop}
  (h:match T ty with
  |none=>False
  |some i=>match evN t x with
   | .bx n off=>match m[n]? with
    |some (some (.box cs bt))=>
     if allOne (evN t y).cells&&(evN t y).cells.length==i.size then
      match fillV cs off (evN t y).cells with
      |some cs'=>forceL cs' fun cs'=>setK m n (some (.box cs' bt)) fun m'=>K .un m'
      |none=>False
     else False
    |_=>False
   | .oq n k sz j off=>match m[n]? with
    |some (some (.row k' E' s f xs))=>
     if k=k'∧s=sz then
      match toDs (evN t y).cells with
      |some (ds,g)=>if ds.length==i.size then(match f&&g with
       |true=>∃cells,xs[j]?=some cells∧off+ds.length≤cells.length∧setK m n (some (.row k' E' s true (xs.set j (cells.take off++ds++cells.drop (off+ds.length))))) fun m'=>K .un m'
       |false=>∃cells,xs[j]?=some cells∧off+ds.length≤cells.length∧setK m n (some (.row k' E' s false (xs.set j (cells.take off++ds++cells.drop (off+ds.length))))) fun m'=>K .un m') else False
      |none=>False
     else False
    |some (some (.asr ..))=>exK P o (evN t) m K
    |_=>False
   |_=>False):OpOk P o a w (Post B w0 t a K):=by
 have hx:=hs.evN x
 have hy:=hs.evN y
 have fin:∀{g off:Nat} {w':World},a.eval x= .pointer (some ⟨g,off,none⟩)→(storeVar ty ⟨g,off,none⟩ (a.eval y)).run P w= .ok () w'→Post B w0 t a K undef w'→OpOk P o a w (Post B w0 t a K):=by
  intro g off w' hx hr hK
  refine opOk_skip (w':=w') ?_ hK
  unfold execOp
  simp only[ho]
  refine run_u ?_
  rw[hx]
  simp[Instr.storeAt,Instr.sureAddr,hr]
 split at h
 ·cases h
 rename_i i hi
 generalize hev:evN t x=v at h hx
 cases v<;>simp only at h<;>try(cases h;done)
 ·rename_i n off
  generalize hu:a.eval x=u at hx
  cases hx
  rename_i g hn
  split at h
  ·rename_i cs bt hm
   split at h
   ·rename_i hc
    simp only[Bool.and_eq_true,beq_iff_eq] at hc
    split at h
    ·rename_i cs' hf
     rw[forceL_eq,setK_eq] at h
     obtain⟨ty',us,h1,h2,h3,_⟩:=box_cells hs hm hn
     obtain⟨hne,hone⟩:=hy.cells_one hc.1
     obtain⟨hyl,hyr⟩:=hy.cells hne
     obtain⟨f1,f2,f3⟩:=fillV_spec _ _ _ _ hf
     obtain⟨w',us',hr,hupd,hsz,hval⟩:=storeVar_run (P:=P) hT hi h1 hone (by omega) (off:=off) (by omega)
     have hB:=(hs.own n 0 _ g hn rfl).1
     obtain⟨N',e1,e2,e3⟩:=hs.set (w':=w') (d:=n) (k:=0) (v:= .pointer (some ⟨g,0,none⟩)) (b:= .box cs' bt) (lt_of_get hm) (fun k0 v0 h=>by rw[hn] at h;cases h;exact .inl ⟨rfl,rfl⟩)
      (hupd.low hs.low hB) (by rw[hupd.size];exact Nat.le_refl _) (fun g' _ hk=>hupd.other g' fun e=>hk 0 _ hn (by rw[e];rfl))
      (fun g' hg'=>by cases hg';exact⟨by rw[hupd.size];exact(hs.own n 0 _ g hn rfl).2,.inr ⟨0,_,hn,rfl⟩⟩)
      (fun N' e1 e2 e3=>⟨g,ty',us',e1,hupd.new,by omega,fun j v hv=>by
       rw[hval j]
       rw[f3 j] at hv
       by_cases hj:off≤j∧j<off+(evN t y).cells.length
       ·rw[if_pos hj] at hv
        rw[if_pos (by omega)]
        exact e2 _ _ (hyr _ _ hv)
       ·rw[if_neg hj] at hv
        rw[if_neg (by omega)]
        exact e2 _ _ (h3 _ _ hv)⟩)
     exact fin hu hr ⟨N',S,_,_,e3,.un _,h⟩
    ·cases h
   ·cases h
  ·cases h
 ·rename_i n k sz j off
  generalize hu:a.eval x=u at hx
  cases hx
  rename_i hu1 hn
  obtain⟨k',v,hn,hk,he⟩:=hn
  split at h
  ·rename_i k2 E s f xs hm
   split at h
   ·rename_i hkk
    obtain⟨rfl,rfl⟩:=hkk
    split at h
    ·rename_i ds g hds
     split at h
     ·rename_i hdl
      simp only[beq_iff_eq] at hdl
      obtain⟨cells,hcl,hle,h⟩:∃cells,xs[j]?=some cells∧off+ds.length≤cells.length∧K .un (m.set n (some (.row k E s (f&&g) (xs.set j (cells.take off++ds++cells.drop (off+ds.length)))))):=by
       split at h<;>rename_i hfg<;>(obtain⟨cells,a1,a2,a3⟩:=h;rw[setK_eq] at a3;exact⟨cells,a1,a2,by rw[hfg];exact a3⟩)
      have hTF:∀b,S true b→S false b:=fun b hb=>(hs.fresh b hb).1
      have hdn:∀{d:D} {u:Value},RelD (S f) w d u→RelD (S (f&&g)) w d u:=by
       intro d u hr
       have:∀f g:Bool,RelD (S f) w d u→RelD (S (f&&g)) w d u:=by
        intro f g hr
        cases f<;>cases g<;>first|exact hr|exact hr.mono hTF fun _ _=>rfl
       exact this f g hr
      have hb5:=hs.blk n _ hm
      obtain⟨rfl,h1,h2,h3⟩:=row_cells hs hm hn
      rw[(row_hdv hs hm hn).1] at he
      obtain⟨g0,len,cap,rfl,rfl⟩:=he rfl
      obtain⟨hne,hdsl,hdr⟩:=toDs_one hTF hy hds
      replace hdr:=hdr (f&&g) fun e=>by simp at e;exact e.2
      rcases h3 with⟨h3,_⟩|⟨g',cap',us,h3,h4,h5,h5',h5'',h6⟩
      ·cases h3
      cases h3
      have hcs:cells.length=s:=h1 _ (List.mem_of_getElem? hcl)
      have hjx:=lt_of_get hcl
      have hus:xs.length*s≤us.size:=by rw[h5''];exact Nat.mul_le_mul_right _ h5
      have hj1:j*s+s≤xs.length*s:=by
       calc j*s+s=(j+1)*s:=by rw[Nat.add_mul];omega
        _≤xs.length*s:=Nat.mul_le_mul_right _ hjx
      have hone:∀c∈(a.eval y).cells.toList,c.oneCell'=true:=by
       intro c hc
       obtain⟨q,hq,rfl⟩:=List.getElem_of_mem hc
       simp only[Array.length_toList] at hq
       have:=(hdr q ds[q] (List.getElem?_eq_getElem (by omega))).one
       simpa[Array.getD_eq_getD_getElem?,hq] using this
      obtain⟨w',us',hr,hupd,hsz,hval⟩:=storeVar_run (P:=P) hT hi h4 hone (by omega) (off:=j*s+off) (by omega)
      have hB:=(hs.own n _ _ g0 hn rfl).1
      have hlen:(cells.take off++ds++cells.drop (off+ds.length)).length=s:=by
       simp only[List.length_append,List.length_take,List.length_drop];omega
      have hcells':∀q,(cells.take off++ds++cells.drop (off+ds.length))[q]?=if off≤q∧q<off+ds.length then ds[q - off]? else cells[q]?:=by
       intro q
       by_cases hq:q<off
       ·rw[if_neg (by omega),List.getElem?_append_left (by simp;omega),List.getElem?_append_left (by simp;omega),List.getElem?_take,if_pos hq]
       ·by_cases hq2:q<off+ds.length
        ·rw[if_pos (by omega),List.getElem?_append_left (by simp;omega),List.getElem?_append_right (by simp;omega)]
         congr 1;simp;omega
        ·rw[if_neg (by omega),List.getElem?_append_right (by simp;omega),List.getElem?_drop]
         congr 1;simp;omega
      obtain⟨N',e1,e2,e3⟩:=hs.set (w':=w') (d:=n) (k:=k') (v:= .slice (some ⟨g0,0,none⟩) xs.length cap) (b:= .row k' E s (f&&g) (xs.set j (cells.take off++ds++cells.drop (off+ds.length)))) (lt_of_get hm)
       (fun k0 v0 h=>by rw[hn] at h;cases h;exact .inl ⟨rfl,rfl⟩)
       (hupd.low hs.low hB) (by rw[hupd.size];exact Nat.le_refl _) (fun g' _ hk=>hupd.other g' fun e=>hk _ _ hn (by rw[e];rfl))
       (fun g' hg'=>by cases hg';exact⟨by rw[hupd.size];exact(hs.own n _ _ g0 hn rfl).2,.inr ⟨_,_,hn,rfl⟩⟩)
       (fun N' e1 e2 e4=>by
        have htl:(us'.toList.take (xs.length*s)).length=xs.length*s:=by
         have e:us'.toList.length=us'.size:=by simp
         rw[List.length_take,e];omega
        refine⟨_,us'.toList.take (xs.length*s),e1,?_,?_,h2,?_,fun e q hq=>by
         obtain⟨v9,us9,b1,_,_,_,_,b6⟩:=hb5
         rw[hn] at b1;cases b1
         simp at e;exact b6 e.1 q hq⟩
        ·simp only[List.length_set]
         exact⟨htl,.inr ⟨g0,cap,us',rfl,Nat.zero_le _,hupd.new,h5,h5',by omega,rfl⟩⟩
        ·intro c hc
         rcases List.mem_or_eq_of_mem_set hc with hc|rfl
         ·exact h1 c hc
         ·exact hlen
        ·intro i' q d hd
         have hiq:i'<xs.length∧q<s:=by
          cases hi':(xs.set j (cells.take off++ds++cells.drop (off+ds.length)))[i']? with
          |none=>rw[hi'] at hd;cases hd
          |some c=>
           rw[hi'] at hd
           have a1:=lt_of_get hi'
           have a2:=lt_of_get (show c[q]?=some d from hd)
           rcases List.mem_or_eq_of_mem_set (List.mem_of_getElem? hi') with hc|rfl
           ·rw[h1 c hc] at a2;exact⟨by simpa using a1,a2⟩
           ·rw[hlen] at a2;exact⟨by simpa using a1,a2⟩
         have hlt:i'*s+q<xs.length*s:=by
          calc i'*s+q<i'*s+s:=by omega
           _=(i'+1)*s:=by rw[Nat.add_mul];omega
           _≤xs.length*s:=Nat.mul_le_mul_right _ hiq.1
         refine⟨us'.getD (i'*s+q) undef,by rw[List.getElem?_take,if_pos hlt];exact get_of_lt (by omega),?_⟩
         rw[hval]
         by_cases hij:i'=j
         ·subst hij
          rw[List.getElem?_set_self hjx] at hd
          simp only[Option.bind_some] at hd
          rw[hcells' q] at hd
          by_cases hq:off≤q∧q<off+ds.length
          ·rw[if_pos hq] at hd
           rw[if_pos (by omega),show i'*s+q - (i'*s+off)=q - off by omega]
           exact e4 _ _ _ (hdr _ _ hd)
          ·rw[if_neg hq] at hd
           rw[if_neg (by omega)]
           exact e4 _ _ _ (hdn (h6 i' q d (by rw[hcl];exact hd)).2)
         ·rw[List.getElem?_set_ne (Ne.symm hij)] at hd
          have:¬(j*s+off≤i'*s+q∧i'*s+q<j*s+off+(a.eval y).cells.size):=by
           rcases Nat.lt_or_ge i' j with h|h
           ·have:i'*s+s≤j*s:=by
             calc i'*s+s=(i'+1)*s:=by rw[Nat.add_mul];omega
              _≤j*s:=Nat.mul_le_mul_right _ h
            omega
           ·have:j*s+s≤i'*s:=by
             calc j*s+s=(j+1)*s:=by rw[Nat.add_mul];omega
              _≤i'*s:=Nat.mul_le_mul_right _ (by omega)
            omega
          rw[if_neg this]
          exact e4 _ _ _ (hdn (h6 i' q d hd).2))
      exact fin hu hr ⟨N',S,_,_,e3,.un _,h⟩
     ·cases h
    ·cases h
   ·cases h
  ·exact ok_ext hs h
  ·cases h
theorem ok_move (hs:Sat B w0 N S t m a w) {o:Oper} {x:Operand} (ho:o.op= .move x∨o.op= .assign x) {K:V→List (Option Bk)→Prop} (h:K (evN t x) m):OpOk P o a w (Post B w0 t a K):=by
 refine opOk_val (u:=a.eval x) (w':=w) ?_ (Post.same hs (hs.evN x) h)
 unfold execOp
 rcases ho with ho|ho<;>simp only[ho]<;>rfl
theorem fieldPlace_run (hT:TOk P T) {ty:Nat} {i:TI} (hi:T ty=some i) (h0:i.size≠0) {f:Field} (hf:f.type=ty) (g o:Nat):(fieldPlace ⟨g,o,none⟩ f).run P w= .ok ⟨g,o+f.offset,none⟩ w:=by
 subst hf
 simp[fieldPlace,hT.size hi,h0,add_mk]
theorem fields_get {gs:Array Field} {fs:List (Nat×Nat)} (h:gs.toList.map (fun f=>(f.offset,f.type))=fs) {f off ty:Nat} (hf:fs[f]?=some (off,ty)):∃fd,gs[f]?=some fd∧fd.offset=off∧fd.type=ty:=by
 rw[←h,List.getElem?_map,Option.map_eq_some_iff] at hf
 obtain⟨fd,h1,h2⟩:=hf
 cases h2
 exact⟨fd,by simpa using h1,rfl,rfl⟩
theorem ok_fieldAddr (hT:TOk P T) (hs:Sat B w0 N S t m a w) {o:Oper} {s f:Nat} {x:Operand} (ho:o.op= .fieldAddr s x f) {K:V→List (Option Bk)→Prop}
  (h:match T s with
  |some ⟨_,_,_,_,.struct fs⟩=>match fs[f]? with
   |some (off,ty)=>
    match T ty with
    |some i=>if i.size=0 then False else
     match evN t x with
     | .bx n o=>K (.bx n (o+off)) m
     | .el f cs o=>K (.el f cs (o+off)) m
     | .oq n k sz j o=>match m[n]? with
      |some (some (.row k' _ _ _ _))=>if k=k' then K (.oq n k sz j (o+off)) m else False
      |some (some (.asr k' _ _))=>if k=k' then K (.oq n k sz j (o+off)) m else False
      |_=>False
     | .cv (.pointer (some ⟨g,o,none⟩))=>K (.cv (.pointer (some ⟨g,o+off,none⟩))) m
     |_=>False
    |none=>False
   |none=>False
  |_=>False):OpOk P o a w (Post B w0 t a K):=by
 have hx:=hs.evN x
 split at h
 rotate_left
 ·cases h
 rename_i fs hi
 split at h
 rotate_left
 ·cases h
 rename_i off ty hf
 split at h
 rotate_left
 ·cases h
 rename_i i hti
 split at h
 ·cases h
 rename_i h0
 obtain⟨gs,hgs,hmap⟩:=hT.kd_struct hi rfl
 obtain⟨fd,hfd,rfl,rfl⟩:=fields_get hmap hf
 have fin:∀{g p:Nat} {v:V},a.eval x= .pointer (some ⟨g,p,none⟩)→RelV N S w v (.pointer (some ⟨g,p+fd.offset,none⟩))→K v m→OpOk P o a w (Post B w0 t a K):=by
  intro g p v hx hv hK
  refine opOk_val (u:= .pointer (some ⟨g,p+fd.offset,none⟩)) (w':=w) ?_ (Post.same hs hv hK)
  unfold execOp
  simp only[ho]
  refine run_v ?_
  rw[hx]
  simp[Instr.fieldAt,run_underlying hgs,hfd,Instr.sureAddr,fieldPlace_run hT hti h0 rfl]
 split at h
 ·rename_i n off' hev
  rw[hev] at hx
  generalize hu:a.eval x=u at hx
  cases hx
  rename_i g hn
  exact fin hu (.bx n _ g hn) h
 ·rename_i f' cs off' hev
  rw[hev] at hx
  generalize hu:a.eval x=u at hx
  cases hx
  rename_i g p u hS hc
  exact fin hu (by rw[Nat.add_assoc];exact .el f' cs _ g p hS u hc) h
 ·rename_i n k sz j off' hev
  rw[hev] at hx
  generalize hu:a.eval x=u at hx
  cases hx
  rename_i hu1 hn
  obtain⟨k',v,hn,hk,he⟩:=hn
  split at h
  ·rename_i k2 E s xs hm
   split at h
   ·rename_i hkk
    subst hkk
    obtain⟨rfl,_⟩:=row_cells hs hm hn
    obtain⟨b,len,cap,e1,e2⟩:=he rfl
    subst e2
    refine fin hu (.oq n _ sz j _ _ rfl ⟨_,v,hn,hk,fun _=>⟨b,len,cap,e1,?_⟩⟩) h
    rw[Nat.add_assoc]
   ·cases h
  ·rename_i k2 A outs hm
   split at h
   ·rename_i hkk
    subst hkk
    obtain⟨v',us,h1,_⟩:=hs.blk n _ hm
    rw[hn] at h1;cases h1
    obtain⟨b,len,cap,e1,e2⟩:=he rfl
    subst e2
    refine fin hu (.oq n _ sz j _ _ rfl ⟨_,_,hn,hk,fun _=>⟨b,len,cap,e1,?_⟩⟩) h
    rw[Nat.add_assoc]
   ·cases h
  ·cases h
 ·rename_i g o' hev
  rw[hev] at hx
  generalize hu:a.eval x=u at hx
  cases hx
  exact fin hu (.cv _) h
 ·cases h
end
end Go.Proofs.YtdccglkagfdooaaGreatDoor
