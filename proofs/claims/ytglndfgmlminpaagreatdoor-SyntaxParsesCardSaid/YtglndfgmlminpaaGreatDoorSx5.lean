/- Texts joined by pack.py: XSxH -/
import Derived.Test.YtglndfgmlminpaaGreatDoorSx4
import Derived.Laws.IdiomStrings
namespace Go.Proofs.YtglndfgmlminpaaGreatDoor
open Go.RowKit
section
variable {P:Program} {T:Tab} {B:Fr} {w0:World} {N:Names} {S:Sets} {t:List V} {m:List (Option Bk)} {a:Act} {w:World}
theorem run_and {k:IntKind} {a b:Int}:(Op.intBits .and k a b).run P w= .ok (.int k (k.wrap ((BitVec.ofInt k.bits a&&& BitVec.ofInt k.bits b).toNat:Nat))) w:=rfl
theorem run_or {k:IntKind} {a b:Int}:(Op.intBits .or k a b).run P w= .ok (.int k (k.wrap ((BitVec.ofInt k.bits a|||BitVec.ofInt k.bits b).toNat:Nat))) w:=rfl
theorem run_xor {k:IntKind} {a b:Int}:(Op.intBits .xor k a b).run P w= .ok (.int k (k.wrap ((BitVec.ofInt k.bits a ^^^ BitVec.ofInt k.bits b).toNat:Nat))) w:=rfl
theorem bit_and {k:IntKind} {a b:Int} {ty:TypeId} {xo yo:Operand}:(do eqGuard .and ty xo yo (.int k a) (.int k b);binOp .and ty (.int k a) (.int k b)).run P w= .ok (.int k (k.wrap ((BitVec.ofInt k.bits a&&& BitVec.ofInt k.bits b).toNat:Nat))) w:=by
 simp[eqGuard,binOp]
 rw[run_and]
 simp
theorem bit_or {k:IntKind} {a b:Int} {ty:TypeId} {xo yo:Operand}:(do eqGuard .or ty xo yo (.int k a) (.int k b);binOp .or ty (.int k a) (.int k b)).run P w= .ok (.int k (k.wrap ((BitVec.ofInt k.bits a|||BitVec.ofInt k.bits b).toNat:Nat))) w:=by
 simp[eqGuard,binOp]
 rw[run_or]
 simp
theorem bit_xor {k:IntKind} {a b:Int} {ty:TypeId} {xo yo:Operand}:(do eqGuard .xor ty xo yo (.int k a) (.int k b);binOp .xor ty (.int k a) (.int k b)).run P w= .ok (.int k (k.wrap ((BitVec.ofInt k.bits a ^^^ BitVec.ofInt k.bits b).toNat:Nat))) w:=by
 simp[eqGuard,binOp]
 rw[run_xor]
 simp
theorem binC_sound {op:BinOp} {ty:TypeId} {x y:Value} {xo yo:Operand} {K:Value→Prop} (h:binC op x y K):∃v,(do eqGuard op ty xo yo x y;binOp op ty x y).run P w= .ok v w∧K v:=by
 unfold binC at h
 split at h
 ·rename_i k a k' b
  split at h
  ·obtain⟨h0,h⟩:=h
   exact⟨_,by simp[eqGuard,binOp,Op.shift,show¬b<0 by omega],h⟩
  ·obtain⟨h0,h⟩:=h
   exact⟨_,by simp[eqGuard,binOp,Op.shift,show¬b<0 by omega],h⟩
  split at h
  ·cases h
  rename_i hk
  simp only[decide_eq_true_eq] at hk
  subst hk
  cases op<;>simp only at h<;>try(cases h;done)
  case and=>exact⟨_,bit_and,h⟩
  case or=>exact⟨_,bit_or,h⟩
  case xor=>exact⟨_,bit_xor,h⟩
  all_goals first
   |exact⟨_,by simp[eqGuard,binOp,Op.intArith,Op.intCmp],h⟩
   |(obtain⟨h0,h⟩:=h;exact⟨_,by simp[eqGuard,binOp,Op.intDiv,h0],h⟩)
 ·rename_i a b
  cases op<;>simp only at h<;>try(cases h;done)
  all_goals first
   |exact⟨_,by simp[eqGuard,binOp,Op.stringOp],h⟩
   | (obtain⟨h0,h⟩:=h
      refine⟨_,?_,h⟩
      have:¬(((a.size+b.size:Nat):Int)>IntKind.i64.max):=by
        have e:IntKind.i64.max=9223372036854775807:=by decide
        rw[e];omega
      simp only[eqGuard,binOp,Op.stringOp]
      rw[if_neg this];simp)
 ·cases h
theorem binB_sound {op:BinOp} {ty:TypeId} {x y:Bool} {xo yo:Operand} (hty:P.underlying ty=some .bool) {K:Value→Prop} (h:binB op x y K):∃v,(do eqGuard op ty xo yo (.bool x) (.bool y);binOp op ty (.bool x) (.bool y)).run P w= .ok v w∧K v:=by
 have heq:(Op.equal ty (.bool x) (.bool y)).run P w= .ok (x==y) w:=by
  exact run_equal_bool (P:=P) w ty x y hty
 unfold binB at h
 cases op<;>simp only at h<;>try(cases h;done)
 ·exact⟨_,by simp[eqGuard,binOp,heq],h⟩
 ·exact⟨_,by simp[eqGuard,binOp,heq],h⟩
theorem allC_rel {cs:List V} {us:Array Value} (h:RelV N S w (.ag cs) (.agg us)) (hc:allC cs=true):RelV (fun _=>none) (fun _ _=>False) w (.ag cs) (.agg us):=by
 cases h with
 |ag _ _ hl h=>
  refine .ag _ _ hl fun i v hv=>?_
  have:∀(l:List V),allC l=true→∀(i:Nat) (v:V),l[i]?=some v→∃u,v= .cv u:=by
   intro l
   induction l with
   |nil=>intro _ i v hv;simp at hv
   |cons y l ih=>
    intro h1 i v hv
    simp only[allC,Bool.and_eq_true] at h1
    cases i with
    |zero=>simp at hv;subst hv;cases y<;>simp_all [V.isC]
    |succ i=>exact ih h1.2 i v (by simpa using hv)
  obtain⟨u,rfl⟩:=this cs hc i v hv
  have:=h i _ hv
  generalize us.getD i undef=z at this
  cases this;exact .cv _
theorem eqIn_ptr_nil (w:World) (d t e:Nat) (p:Option Addr) (h:P.underlying t=some (.pointer e)):(Op.equalIn (d+1) t (.pointer p) (.pointer none)).run P w= .ok p.isNone w:=by
 cases p<;>simp[Op.equalIn,run_underlying h]
theorem eq_ptr_nil (w:World) (t e:Nat) (p:Option Addr) (h:P.underlying t=some (.pointer e)):(Op.equal t (.pointer p) (.pointer none)).run P w= .ok p.isNone w:=eqIn_ptr_nil w 9999 t e p h
theorem eqIn_ptr_same (w:World) (d t e:Nat) {j:TypeInfo} (p:Addr) (h:P.underlying t=some (.pointer e)) (hte:P.info? e=some j):(Op.equalIn (d+1) t (.pointer (some p)) (.pointer (some p))).run P w= .ok true w:=by
 simp[Op.equalIn,run_underlying h,sizeOf,typeInfo,hte,run_sameAddr_same]
theorem eq_ptr_same (w:World) (t e:Nat) {j:TypeInfo} (p:Addr) (h:P.underlying t=some (.pointer e)) (hte:P.info? e=some j):(Op.equal t (.pointer (some p)) (.pointer (some p))).run P w= .ok true w:=eqIn_ptr_same w 9999 t e p h hte
theorem ok_binOp (hT:TOk P T) (hs:Sat B w0 N S t m a w) {o:Oper} {op:BinOp} {ty yt:Nat} {x y:Operand} (ho:o.op= .binOp op ty x y yt) {K:V→List (Option Bk)→Prop}
  (h:match evN t x,evN t y with
  | .cv (.bool a),.cv (.bool b)=>match T ty with
   |some ⟨_,_,_,_,.bool⟩=>binB op a b fun v=>K (.cv v) m
   |_=>False
  | .cv (.slice none 0 0),.cv (.slice none 0 0)=>match T ty with
   |some ⟨_,_,_,_,.slice _⟩=>(match(generalizing:=false) op with
    | .eql=>K (.cv (.bool true)) m
    | .neq=>K (.cv (.bool false)) m
    |_=>False)
   |_=>False
  | .cv (.pointer none),.cv (.pointer none)=>match T ty with
   |some ⟨_,_,_,_,.ptr _⟩=>(match(generalizing:=false) op with
    | .eql=>K (.cv (.bool true)) m
    | .neq=>K (.cv (.bool false)) m
    |_=>False)
   |_=>False
  | .cv a,.cv b=>binC op a b fun v=>K (.cv v) m
  | .sl _ _ xs,.cv (.slice none 0 0)=>match T ty with
   |some ⟨_,_,_,_,.slice _⟩=>xs≠[]∧(match(generalizing:=false) op with
    | .eql=>K (.cv (.bool false)) m
    | .neq=>K (.cv (.bool true)) m
    |_=>False)
   |_=>False
  | .bx _n _o,.cv (.pointer none)=>match T ty with
   |some ⟨_,_,_,_,.ptr _⟩=>(match(generalizing:=false) op with
    | .eql=>K (.cv (.bool false)) m
    | .neq=>K (.cv (.bool true)) m
    |_=>False)
   |_=>False
  | .bx n o,.bx n' o'=>match T ty with
   |some ⟨_,_,_,_,.ptr e⟩=>match T e with
    |some _=>n=n'∧o=o'∧(match(generalizing:=false) op with
     | .eql=>K (.cv (.bool true)) m
     | .neq=>K (.cv (.bool false)) m
     |_=>False)
    |none=>False
   |_=>False
  | .ag cs,.ag ds=>if allC cs&&allC ds then∃t,EqOk P ty cs ds t∧(match(generalizing:=false) op with
   | .eql=>K (.cv (.bool t)) m
   | .neq=>K (.cv (.bool !t)) m
   |_=>False) else False
  |_,_=>False):OpOk P o a w (Post B w0 t a K):=by
 have hx:=hs.evN x
 have hy:=hs.evN y
 have fin:∀{v:Value},(do eqGuard op ty x y (a.eval x) (a.eval y);binOp op ty (a.eval x) (a.eval y)).run P w= .ok v w→K (.cv v) m→OpOk P o a w (Post B w0 t a K):=by
  intro v hr hK
  refine opOk_val (u:=v) (w':=w) ?_ (Post.same hs (.cv _) hK)
  unfold execOp
  simp only[ho]
  exact run_v hr
 split at h
 ·rename_i p q hp hq
  rw[hp] at hx;rw[hq] at hy
  generalize hu:a.eval x=u at hx fin
  generalize hv:a.eval y=v at hy fin
  cases hx;cases hy
  split at h
  ·rename_i hti
   obtain⟨v,h1,h2⟩:=binB_sound (hT.kd_bool hti rfl) h
   exact fin h1 h2
  ·cases h
 ·rename_i hp hq
  rw[hp] at hx;rw[hq] at hy
  generalize hu:a.eval x=u at hx fin
  generalize hv:a.eval y=v at hy fin
  cases hx;cases hy
  split at h
  rotate_left
  ·cases h
  rename_i e hti
  have heq:(Op.equal ty (.slice none 0 0) (.slice none 0 0)).run P w= .ok true w:=run_equal_slice_nil w ty e none 0 0 (hT.kd_slice hti rfl)
  cases op<;>simp only at h<;>try(cases h;done)
  ·exact fin (v:= .bool true) (by simp[eqGuard,binOp,heq]) h
  ·exact fin (v:= .bool false) (by simp[eqGuard,binOp,heq]) h
 ·rename_i hp hq
  rw[hp] at hx;rw[hq] at hy
  generalize hu:a.eval x=u at hx fin
  generalize hv:a.eval y=v at hy fin
  cases hx;cases hy
  split at h
  rotate_left
  ·cases h
  rename_i e hti
  have heq:(Op.equal ty (.pointer none) (.pointer none)).run P w= .ok true w:=eq_ptr_nil w ty e none (hT.kd_ptr hti rfl)
  cases op<;>simp only at h<;>try(cases h;done)
  ·exact fin (v:= .bool true) (by simp[eqGuard,binOp,heq]) h
  ·exact fin (v:= .bool false) (by simp[eqGuard,binOp,heq]) h
 ·rename_i p q _ _ _ hp hq
  rw[hp] at hx;rw[hq] at hy
  generalize hu:a.eval x=u at hx fin
  generalize hv:a.eval y=v at hy fin
  cases hx;cases hy
  obtain⟨v,h1,h2⟩:=binC_sound h
  exact fin h1 h2
 ·rename_i f sz xs hp hq
  rw[hp] at hx;rw[hq] at hy
  generalize hu:a.eval x=u at hx fin
  generalize hv:a.eval y=v at hy fin
  cases hy
  split at h
  rotate_left
  ·cases h
  rename_i e hti
  obtain⟨hne,h⟩:=h
  cases hx
  rename_i hr
  cases hr with
  |nil=>exact absurd rfl hne
  |sl _ _ b o' cap u' hS hx' hcap hc hd=>
   have heq:(Op.equal ty (.slice (some ⟨b,o',none⟩) xs.length cap) (.slice none 0 0)).run P w= .ok false w:=run_equal_slice_nil w ty e _ _ _ (hT.kd_slice hti rfl)
   cases op<;>simp only at h<;>try(cases h;done)
   ·exact fin (v:= .bool false) (by simp[eqGuard,binOp,heq]) h
   ·exact fin (v:= .bool true) (by simp[eqGuard,binOp,heq]) h
 ·rename_i n o hp hq
  rw[hp] at hx;rw[hq] at hy
  generalize hu:a.eval x=u at hx fin
  generalize hv:a.eval y=v at hy fin
  cases hx;cases hy
  split at h
  rotate_left
  ·cases h
  rename_i e hti
  have heq:∀b:Nat,(Op.equal ty (.pointer (some ⟨b,o,none⟩)) (.pointer none)).run P w= .ok false w:=fun b=>eq_ptr_nil w ty e _ (hT.kd_ptr hti rfl)
  cases op<;>simp only at h<;>try(cases h;done)
  ·exact fin (v:= .bool false) (by simp[eqGuard,binOp,heq]) h
  ·exact fin (v:= .bool true) (by simp[eqGuard,binOp,heq]) h
 ·rename_i n o n' o' hp hq
  rw[hp] at hx;rw[hq] at hy
  generalize hu:a.eval x=u at hx fin
  generalize hv:a.eval y=v at hy fin
  split at h
  rotate_left
  ·cases h
  rename_i e hti
  split at h
  rotate_left
  ·cases h
  rename_i ie hie
  obtain⟨rfl,rfl,h⟩:=h
  cases hx;cases hy
  rename_i b hn b' hn'
  rw[hn] at hn'
  cases hn'
  obtain⟨j,hj,_⟩:=hT.get e ie hie
  have heq:=eq_ptr_same (P:=P) w ty e (j:=j) ⟨b,o,none⟩ (hT.kd_ptr hti rfl) hj
  cases op<;>simp only at h<;>try(cases h;done)
  ·exact fin (v:= .bool true) (by simp[eqGuard,binOp,heq]) h
  ·exact fin (v:= .bool false) (by simp[eqGuard,binOp,heq]) h
 ·rename_i cs ds hp hq
  rw[hp] at hx;rw[hq] at hy
  generalize hu:a.eval x=u at hx fin
  generalize hv:a.eval y=v at hy fin
  split at h
  rotate_left
  ·cases h
  rename_i hc
  simp only[Bool.and_eq_true] at hc
  obtain⟨tt,h1,h2⟩:=h
  cases hx;cases hy
  rename_i us hl hr vs hl' hr'
  obtain⟨e1,e2⟩:=h1 w us vs (allC_rel (.ag _ _ hl hr) hc.1) (allC_rel (.ag _ _ hl' hr') hc.2)
  cases op<;>simp only at h2<;>try(cases h2;done)
  ·exact fin (v:= .bool tt) (by simp[eqGuard,binOp,e1,e2]) h2
  ·exact fin (v:= .bool !tt) (by simp[eqGuard,binOp,e1,e2]) h2
 ·cases h
theorem ok_unOp (hs:Sat B w0 N S t m a w) {o:Oper} {op:UnOp} {ty:Nat} {x:Operand} (ho:o.op= .unOp op ty x) {K:V→List (Option Bk)→Prop}
  (h:match(generalizing:=false) op,evN t x with
  | .not,.cv (.bool b)=>K (.cv (.bool !b)) m
  | .neg,.cv (.int k n)=>K (.cv (.int k (k.wrap (0 - n)))) m
  | .xor,.cv (.int k n)=>K (.cv (.int k (k.wrap ((BitVec.ofInt k.bits (if k.signed then -1 else k.max) ^^^ BitVec.ofInt k.bits n).toNat:Nat)))) m
  |_,_=>False):OpOk P o a w (Post B w0 t a K):=by
 have hx:=hs.evN x
 have fin:∀{v:Value},(Op.unary op (a.eval x)).run P w= .ok v w→K (.cv v) m→OpOk P o a w (Post B w0 t a K):=by
  intro v hr hK
  refine opOk_val (u:=v) (w':=w) ?_ (Post.same hs (.cv _) hK)
  unfold execOp
  simp only[ho]
  exact run_v hr
 split at h
 ·rename_i b hp
  rw[hp] at hx
  generalize hu:a.eval x=u at hx fin
  cases hx
  exact fin (by simp[Op.unary]) h
 ·rename_i k n hp
  rw[hp] at hx
  generalize hu:a.eval x=u at hx fin
  cases hx
  exact fin (by simp[Op.unary,Op.intArith]) h
 ·rename_i k n hp
  rw[hp] at hx
  generalize hu:a.eval x=u at hx fin
  cases hx
  exact fin (by simp only[Op.unary];exact run_xor) h
 ·cases h
theorem bytesOf_spec:∀(xs:List (List D)) (b:List UInt8),bytesOf xs=some b→b.length=xs.length∧∀j (hj:j<b.length),xs[j]?=some [.cv (.int .u8 (b[j].toNat:Nat))]
 |[],b,h=>by cases h;exact⟨rfl,fun j hj=>by simp at hj⟩
 |x::l,b,h=>by
  unfold bytesOf at h
  split at h
  ·rename_i he;cases he
  ·rename_i n l' he
   cases he
   split at h
   ·rename_i b' hn hb
    cases h
    obtain⟨h1,h2⟩:=bytesOf_spec l b' hb
    refine⟨by simp[h1],fun j hj=>?_⟩
    cases j with
    |zero=>
     simp only[decide_eq_true_eq] at hn
     have e:((UInt8.ofNat n.toNat).toNat:Int)=n:=by rw[UInt8.toNat_ofNat'];omega
     show some [D.cv (.int .u8 n)]=some [D.cv (.int .u8 ((UInt8.ofNat n.toNat).toNat:Nat))]
     rw[e]
    |succ j=>simpa using h2 j (by simpa using hj)
   ·cases h
  ·cases h
theorem ok_convert (hT:TOk P T) (hs:Sat B w0 N S t m a w) {o:Oper} {s d:Nat} {x:Operand} (ho:o.op= .convert s d x) {K:V→List (Option Bk)→Prop}
  (h:match T s,T d,evN t x with
  |some _,some ⟨_,_,_,_,.int k⟩,.cv (.int _ n)=>K (.cv (.int k (k.wrap n))) m
  |some _,some ⟨_,_,_,_,.string⟩,.cv (.string b)=>K (.cv (.string b)) m
  |some ⟨_,_,_,_,.slice e⟩,some ⟨_,_,_,_,.string⟩,.sl _ 1 xs=>match T e with
   |some ⟨_,_,_,_,.int .u8⟩=>match bytesOf xs with
    |some b=>K (.cv (.string ⟨b.toArray⟩)) m
    |none=>False
   |_=>False
  |_,_,_=>False):OpOk P o a w (Post B w0 t a K):=by
 have hx:=hs.evN x
 have fin:∀{v:Value},(convert s d (a.eval x)).run P w= .ok v w→K (.cv v) m→OpOk P o a w (Post B w0 t a K):=by
  intro v hr hK
  refine opOk_val (u:=v) (w':=w) ?_ (Post.same hs (.cv _) hK)
  unfold execOp
  simp only[ho]
  exact run_v hr
 split at h
 ·rename_i k k' n hsi hdi hp
  rw[hp] at hx
  generalize hu:a.eval x=u at hx fin
  cases hx
  obtain⟨ds,hds,_⟩:=hT.und hsi
  exact fin (by simp[convert,run_underlying hds,run_underlying (hT.kd_int hdi rfl),Conv.intToInt]) h
 ·rename_i b hsi hdi hp
  rw[hp] at hx
  generalize hu:a.eval x=u at hx fin
  cases hx
  obtain⟨ds,hds,_⟩:=hT.und hsi
  exact fin (by simp[convert,run_underlying hds,run_underlying (hT.kd_string hdi rfl)]) h
 ·rename_i e _ _ _ _ f xs hsi hdi hp
  rw[hp] at hx
  split at h
  rotate_left
  ·cases h
  rename_i hie
  split at h
  rotate_left
  ·cases h
  rename_i b hb
  generalize hu:a.eval x=u at hx fin
  cases hx
  rename_i hr
  have hss:=hT.kd_slice hsi rfl
  have he:=hT.kd_int hie rfl
  have hd:=hT.kd_string hdi rfl
  refine fin ?_ h
  obtain⟨hl,hg⟩:=bytesOf_spec xs b hb
  cases hr with
  |nil _ A cap=>
   have:b=[]:=List.eq_nil_of_length_eq_zero hl
   subst this
   cases A with
   |none=>exact run_convert_bytes_nil w s e hss he 0 cap d hd
   |some A=>exact run_convert_bytes_back w s d e A cap [] hss he hd fun j hj=>by simp at hj
  |sl _ _ q o' cap u hS hx hcap hc hdd=>
   rw[←hl]
   refine run_convert_bytes_back w s d e ⟨q,o',none⟩ cap b hss he hd fun j hj=>?_
   have h0:((xs[j]?).bind fun x=>x[0]?)=some (.cv (.int .u8 (b[j].toNat:Nat))):=by rw[hg j hj];rfl
   have h1:=hc j 0 _ h0
   have h2:=hdd j 0 _ h0
   generalize u j 0=z at h1 h2
   cases h2
   rw[add_mk,show o'+j=o'+j*1+0 by omega]
   exact h1
 ·cases h
theorem ok_extract (hs:Sat B w0 N S t m a w) {o:Oper} {x:Operand} {i:Nat} (ho:o.op= .extract x i) {K:V→List (Option Bk)→Prop}
  (h:match evN t x with
  | .tu vs=>match vs[i]? with
   |some v=>K v m
   |none=>False
  |_=>False):OpOk P o a w (Post B w0 t a K):=by
 have hx:=hs.evN x
 split at h
 rotate_left
 ·cases h
 rename_i vs hp
 rw[hp] at hx
 split at h
 rotate_left
 ·cases h
 rename_i v hv
 generalize hu:a.eval x=u at hx
 cases hx
 rename_i us hl hr
 have h1:=hr i v hv
 have hlt:=lt_of_get hv
 have:us[i]?=some (us.getD i undef):=by simp[Array.getD_eq_getD_getElem?,show i<us.size by omega]
 generalize us.getD i undef=z at this h1
 refine opOk_val (u:=z) (w':=w) ?_ (Post.same hs h1 h)
 unfold execOp
 simp only[ho]
 refine run_v ?_
 rw[hu]
 simp[Instr.extract,this]
theorem fold_get (vs:List Value):∀(off k:Nat) (cs:Array Value),∀j,((vs.zipIdx k).foldl (fun cs (p:Value×Nat)=>cs.setIfInBounds (off+p.2) p.1) cs).getD j undef=
      (if off+k≤j∧j<off+k+vs.length∧j<cs.size then vs.getD (j - (off+k)) undef else cs.getD j undef):=by
 induction vs with
 |nil=>intro off k cs j;rw[if_neg (by simp only[List.length_nil];omega)];rfl
 |cons v vs ih=>
  intro off k cs j
  simp only[List.zipIdx_cons,List.foldl_cons]
  rw[ih off (k+1)]
  simp only[Array.size_setIfInBounds,List.length_cons]
  by_cases hj:off+k=j
  ·subst hj
   rw[if_neg (by omega)]
   by_cases hlt:off+k<cs.size
   ·rw[if_pos (by omega)];simp[Array.getD_eq_getD_getElem?,hlt]
   ·rw[if_neg (by omega)];simp[Array.getD_eq_getD_getElem?,hlt]
  ·by_cases hj2:off+(k+1)≤j∧j<off+(k+1)+vs.length∧j<cs.size
   ·rw[if_pos hj2,if_pos (by omega)]
    obtain⟨q,rfl⟩:∃q,j=off+k+1+q:=⟨j - (off+k+1),by omega⟩
    rw[show off+k+1+q - (off+(k+1))=q by omega,show off+k+1+q - (off+k)=q+1 by omega]
    simp
   ·rw[if_neg hj2,if_neg (by omega)]
    simp[Array.getD_eq_getD_getElem?,hj]
theorem fold_size (l:List (Value×Nat)) (off:Nat):∀(cs:Array Value),(l.foldl (fun cs (p:Value×Nat)=>cs.setIfInBounds (off+p.2) p.1) cs).size=cs.size:=by
 induction l with
 |nil=>intro cs;rfl
 |cons p l ih=>intro cs;simp only[List.foldl_cons];rw[ih];simp
theorem fill_sound (hs:Sat B w0 N S t m a w) {fs:List (Nat×Nat)} {place:Nat→Option (Nat×Nat)} (hpl:∀(i off ty:Nat) (ti:TI),fs[i]?=some (off,ty)→T ty=some ti→place i=some (off,ti.size)) (ps:List (Nat×Operand)):
  ∀(cs:List V) (us:Array Value),cs.length=us.size→(∀i v,cs[i]?=some v→RelV N S w v (us.getD i undef))→∀{K:List V→Prop},buildV fs T (evN t) cs ps K→
   ∃us' cs',Instr.fill place us (ps.map fun p=>(p.1,a.eval p.2))=some us'∧cs'.length=us'.size∧(∀i v,cs'[i]?=some v→RelV N S w v (us'.getD i undef))∧K cs':=by
 induction ps with
 |nil=>intro cs us hl hr K h;exact⟨us,cs,rfl,hl,hr,h⟩
 |cons p ps ih=>
  intro cs us hl hr K h
  obtain⟨i,x⟩:=p
  simp only[buildV] at h
  split at h
  ·cases h
  rename_i off ty hf
  split at h
  ·cases h
  rename_i ti hti
  split at h
  rotate_left
  ·cases h
  rename_i cs' hb hfv
  rw[forceL_eq] at h
  simp only[Bool.and_eq_true,beq_iff_eq] at hb
  have hne:evN t x≠ .un:=by intro e;rw[e] at hb;cases hb.1
  obtain⟨c1,c2⟩:=(hs.evN x).cells hne
  obtain⟨f1,f2,f3⟩:=fillV_spec _ _ _ _ hfv
  have hcond:((a.eval x).cells.size≠ti.size||off+(a.eval x).cells.size>us.size)=false:=by
   simp only[Bool.or_eq_false_iff,decide_eq_false_iff_not,ne_eq]
   exact⟨by omega,by omega⟩
  simp only[List.map_cons,Instr.fill,hpl i off ty ti hf hti,hcond,Bool.false_eq_true,if_false]
  refine ih cs' _ ?_ ?_ h
  ·rw[←Array.foldl_toList,Array.toList_zipIdx]
   rw[f2,hl]
   exact(fold_size _ off us).symm
  ·intro j v hv
   have hlt:=lt_of_get hv
   rw[f3 j] at hv
   have key:=fold_get (a.eval x).cells.toList off 0 us j
   rw[←Array.foldl_toList,Array.toList_zipIdx]
   simp only[Nat.add_zero,Array.length_toList,getD_toList] at key
   refine(congrArg (RelV N S w v) key).mpr ?_
   by_cases hj:off≤j∧j<off+(evN t x).cells.length
   ·rw[if_pos hj] at hv
    rw[if_pos (by omega)]
    exact c2 _ _ hv
   ·rw[if_neg hj] at hv
    rw[if_neg (by omega)]
    exact hr _ _ hv
theorem ok_build (hT:TOk P T) (hs:Sat B w0 N S t m a w) {o:Oper} {ty:Nat} {ps:Array (Nat×Operand)} (ho:o.op= .build ty ps) {K:V→List (Option Bk)→Prop}
  (h:match T ty with
  |some ⟨_,_,_,zero,.struct fs⟩=>if fs.all (fun f=>(T f.2).isSome) then buildV fs T (evN t) (zero.map .cv) ps.toList fun cs=>K (.ag cs) m else False
  |some ⟨_,_,_,zero,.array n e⟩=>match T e with
   |some ie=>buildV ((List.range n).map fun q=>(q*ie.size,e)) T (evN t) (zero.map .cv) ps.toList fun cs=>K (.ag cs) m
   |none=>False
  |_=>False):OpOk P o a w (Post B w0 t a K):=by
 split at h
 rotate_left
 ·rename_i size' bytes' agg' zero n e hti
  split at h
  rotate_left
  ·cases h
  rename_i ie hie
  have hst:=hT.kd_array hti rfl
  obtain⟨j,hj,_,_,⟨z,hz,hzc⟩,_⟩:=hT.get _ _ hti
  obtain⟨je,hje,hjs,_⟩:=hT.get _ _ hie
  replace hzc:z.cells.toList=zero:=hzc
  have hpl:∀(i off ty:Nat) (ti:TI),((List.range n).map fun q=>(q*ie.size,e))[i]?=some (off,ty)→T ty=some ti→(fun i=>some (i*je.size,je.size)) i=some (off,ti.size):=by
   intro i off ty ti h1 h2
   rw[List.getElem?_map,Option.map_eq_some_iff] at h1
   obtain⟨q,hq,he⟩:=h1
   rw[List.getElem?_range] at hq
   ·cases hq
    cases he
    rw[hie] at h2
    cases h2
    simp[hjs]
   ·have:=lt_of_get hq;simpa using this
  obtain⟨us',cs',h1,h2,h3,h4⟩:=fill_sound hs (place:=fun i=>some (i*je.size,je.size)) hpl ps.toList (zero.map .cv) z.cells (by rw[←hzc];simp) (fun i v hv=>by
   rw[←hzc,List.getElem?_map,Option.map_eq_some_iff] at hv
   obtain⟨u,hu,rfl⟩:=hv
   rw[getD_of_get hu];exact .cv _) h
  refine opOk_val (u:= .agg us') (w':=w) ?_ (Post.same hs (.ag _ _ h2 h3) h4)
  unfold execOp
  simp only[ho]
  refine run_v (run_build w ty _ us' ?_)
  simp only[Program.built,hj,hst,hz,hje]
  rw[←h1]
  simp
 ·cases h
 rename_i size' bytes' agg' zero fs hti
 split at h
 rotate_left
 ·cases h
 rename_i hall
 obtain⟨gs,hgs,hmap⟩:=hT.kd_struct hti rfl
 obtain⟨j,hj,_,_,⟨z,hz,hzc⟩,_⟩:=hT.get _ _ hti
 replace hzc:z.cells.toList=zero:=hzc
 let places:List (Nat×Nat):=fs.map fun f=>(f.1,((T f.2).map (·.size)).getD 0)
 have hplaces:gs.toList.mapM (fun f=>(P.info? f.type).map fun i=>(f.offset,i.size))=some places:=by
  have:∀(l:List Field) (fs:List (Nat×Nat)),l.map (fun f=>(f.offset,f.type))=fs→fs.all (fun f=>(T f.2).isSome)=true→
    l.mapM (fun f=>(P.info? f.type).map fun i=>(f.offset,i.size))=some (fs.map fun f=>(f.1,((T f.2).map (·.size)).getD 0)):=by
   intro l
   induction l with
   |nil=>intro fs h _;subst h;rfl
   |cons f l ih=>
    intro fs h h2
    subst h
    simp only[List.map_cons,List.all_cons,Bool.and_eq_true] at h2
    obtain⟨ti,hti⟩:=Option.isSome_iff_exists.1 h2.1
    obtain⟨j,hj,hsz,_⟩:=hT.get _ _ hti
    simp only[List.mapM_cons,hj,Option.map_some,Option.bind_eq_bind,Option.bind_some,Option.pure_def]
    rw[ih _ rfl h2.2]
    simp[hti,hsz]
  exact this _ _ hmap hall
 have hpl:∀(i off ty:Nat) (ti:TI),fs[i]?=some (off,ty)→T ty=some ti→(places.toArray[i]?:Option (Nat×Nat))=some (off,ti.size):=by
  intro i off ty ti h1 h2
  simp[places,List.getElem?_map,h1,h2]
 obtain⟨us',cs',h1,h2,h3,h4⟩:=fill_sound hs (place:=(places.toArray[·]?)) hpl ps.toList (zero.map .cv) z.cells (by rw[←hzc];simp) (fun i v hv=>by
  rw[←hzc,List.getElem?_map,Option.map_eq_some_iff] at hv
  obtain⟨u,hu,rfl⟩:=hv
  rw[getD_of_get hu];exact .cv _) h
 refine opOk_val (u:= .agg us') (w':=w) ?_ (Post.same hs (.ag _ _ h2 h3) h4)
 unfold execOp
 simp only[ho]
 refine run_v (run_build w ty _ us' ?_)
 simp only[Program.built,hj,hgs,hz,hplaces]
 rw[←h1]
 simp
end
end Go.Proofs.YtglndfgmlminpaaGreatDoor
