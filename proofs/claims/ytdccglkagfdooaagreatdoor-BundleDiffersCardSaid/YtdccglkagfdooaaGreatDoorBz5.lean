/- Texts joined by pack.py: XSxH XSxI -/
import Derived.Test.YtdccglkagfdooaaGreatDoorBz4
import Derived.Laws.IdiomStrings
namespace Go.Proofs.YtdccglkagfdooaaGreatDoor
open Go.RowKit
section
variable {P:Program} {T:Tab} {B:Fr} {w0:World} {N:Names} {S:Sets} {t:List V} {m:List (Option Bk)} {a:Act} {w:World}
theorem run_and {k:IntKind} {a b:Int}:(Op.intBits .and k a b).run P w= .ok (.int k (k.wrap ((BitVec.ofInt k.bits a&&& BitVec.ofInt k.bits b).toNat:Nat))) w:=rfl
theorem run_or {k:IntKind} {a b:Int}:(Op.intBits .or k a b).run P w= .ok (.int k (k.wrap ((BitVec.ofInt k.bits a|||BitVec.ofInt k.bits b).toNat:Nat))) w:=rfl
theorem run_xor {k:IntKind} {a b:Int}:(Op.intBits .xor k a b).run P w= .ok (.int k (k.wrap ((BitVec.ofInt k.bits a ^^^ BitVec.ofInt k.bits b).toNat:Nat))) w:=rfl
theorem bit_and {k:IntKind} {a b:Int} {ty:TypeId} {xo yo:Operand}:(do eqGuard .and ty xo yo (.int k a) (.int k b);binOp .and ty (.int k a) (.int k b)).run P w= .ok (.int k (k.wrap ((BitVec.ofInt k.bits a&&& BitVec.ofInt k.bits b).toNat:Nat))) w:=by
 simp[eqGuard,binOp]
 rw[run_and]
 simp
theorem bit_or {k:IntKind} {a b:Int} {ty:TypeId} {xo yo:Operand}:(do eqGuard .or ty xo yo (.int k a) (.int k b);binOp .or ty (.int k a) (.int k b)).run P w= .ok (.int k (k.wrap ((BitVec.ofInt k.bits a|||BitVec.ofInt k.bits b).toNat:Nat))) w:=by
 simp[eqGuard,binOp]
 rw[run_or]
 simp
theorem bit_xor {k:IntKind} {a b:Int} {ty:TypeId} {xo yo:Operand}:(do eqGuard .xor ty xo yo (.int k a) (.int k b);binOp .xor ty (.int k a) (.int k b)).run P w= .ok (.int k (k.wrap ((BitVec.ofInt k.bits a ^^^ BitVec.ofInt k.bits b).toNat:Nat))) w:=by
 simp[eqGuard,binOp]
 rw[run_xor]
 simp
theorem binC_sound {op:BinOp} {ty:TypeId} {x y:Value} {xo yo:Operand} {K:Value→Prop} (h:binC op x y K):∃v,(do eqGuard op ty xo yo x y;binOp op ty x y).run P w= .ok v w∧K v:=by
 unfold binC at h
 split at h
 ·rename_i k a k' b
  split at h
  ·obtain⟨h0,h⟩:=h
   exact⟨_,by simp[eqGuard,binOp,Op.shift,show¬b<0 by omega],h⟩
  ·obtain⟨h0,h⟩:=h
   exact⟨_,by simp[eqGuard,binOp,Op.shift,show¬b<0 by omega],h⟩
  split at h
  ·cases h
  rename_i hk
  simp only[decide_eq_true_eq] at hk
  subst hk
  cases op<;>simp only at h<;>try(cases h;done)
  case and=>exact⟨_,bit_and,h⟩
  case or=>exact⟨_,bit_or,h⟩
  case xor=>exact⟨_,bit_xor,h⟩
  all_goals first
   |exact⟨_,by simp[eqGuard,binOp,Op.intArith,Op.intCmp],h⟩
   |(obtain⟨h0,h⟩:=h;exact⟨_,by simp[eqGuard,binOp,Op.intDiv,h0],h⟩)
 ·rename_i a b
  cases op<;>simp only at h<;>try(cases h;done)
  all_goals first
   |exact⟨_,by simp[eqGuard,binOp,Op.stringOp],h⟩
   | (obtain⟨h0,h⟩:=h
      refine⟨_,?_,h⟩
      have:¬(((a.size+b.size:Nat):Int)>IntKind.i64.max):=by
        have e:IntKind.i64.max=9223372036854775807:=by decide
        rw[e];omega
      simp only[eqGuard,binOp,Op.stringOp]
      rw[if_neg this];simp)
 ·cases h
theorem binB_sound {op:BinOp} {ty:TypeId} {x y:Bool} {xo yo:Operand} (hty:P.underlying ty=some .bool) {K:Value→Prop} (h:binB op x y K):∃v,(do eqGuard op ty xo yo (.bool x) (.bool y);binOp op ty (.bool x) (.bool y)).run P w= .ok v w∧K v:=by
 have heq:(Op.equal ty (.bool x) (.bool y)).run P w= .ok (x==y) w:=by
  exact run_equal_bool (P:=P) w ty x y hty
 unfold binB at h
 cases op<;>simp only at h<;>try(cases h;done)
 ·exact⟨_,by simp[eqGuard,binOp,heq],h⟩
 ·exact⟨_,by simp[eqGuard,binOp,heq],h⟩
theorem allC_rel {cs:List V} {us:Array Value} (h:RelV N S w (.ag cs) (.agg us)) (hc:allC cs=true):RelV (fun _=>none) (fun _ _=>False) w (.ag cs) (.agg us):=by
 cases h with
 |ag _ _ hl h=>
  refine .ag _ _ hl fun i v hv=>?_
  have:∀(l:List V),allC l=true→∀(i:Nat) (v:V),l[i]?=some v→∃u,v= .cv u:=by
   intro l
   induction l with
   |nil=>intro _ i v hv;simp at hv
   |cons y l ih=>
    intro h1 i v hv
    simp only[allC,Bool.and_eq_true] at h1
    cases i with
    |zero=>simp at hv;subst hv;cases y<;>simp_all [V.isC]
    |succ i=>exact ih h1.2 i v (by simpa using hv)
  obtain⟨u,rfl⟩:=this cs hc i v hv
  have:=h i _ hv
  generalize us.getD i undef=z at this
  cases this;exact .cv _
theorem eqIn_ptr_nil (w:World) (d t e:Nat) (p:Option Addr) (h:P.underlying t=some (.pointer e)):(Op.equalIn (d+1) t (.pointer p) (.pointer none)).run P w= .ok p.isNone w:=by
 cases p<;>simp[Op.equalIn,run_underlying h]
theorem eq_ptr_nil (w:World) (t e:Nat) (p:Option Addr) (h:P.underlying t=some (.pointer e)):(Op.equal t (.pointer p) (.pointer none)).run P w= .ok p.isNone w:=eqIn_ptr_nil w 9999 t e p h
theorem eqIn_ptr_same (w:World) (d t e:Nat) {j:TypeInfo} (p:Addr) (h:P.underlying t=some (.pointer e)) (hte:P.info? e=some j):(Op.equalIn (d+1) t (.pointer (some p)) (.pointer (some p))).run P w= .ok true w:=by
 simp[Op.equalIn,run_underlying h,sizeOf,typeInfo,hte,run_sameAddr_same]
theorem eq_ptr_same (w:World) (t e:Nat) {j:TypeInfo} (p:Addr) (h:P.underlying t=some (.pointer e)) (hte:P.info? e=some j):(Op.equal t (.pointer (some p)) (.pointer (some p))).run P w= .ok true w:=eqIn_ptr_same w 9999 t e p h hte
theorem ok_binOp (hT:TOk P T) (hs:Sat B w0 N S t m a w) {o:Oper} {op:BinOp} {ty yt:Nat} {x y:Operand} (ho:o.op= .binOp op ty x y yt) {K:V→List (Option Bk)→Prop}
  (h:match evN t x,evN t y with
  | .cv (.bool a),.cv (.bool b)=>match T ty with
   |some ⟨_,_,_,_,.bool⟩=>binB op a b fun v=>K (.cv v) m
   |_=>False
  | .cv (.slice none 0 0),.cv (.slice none 0 0)=>match T ty with
   |some ⟨_,_,_,_,.slice _⟩=>(match(generalizing:=false) op with
    | .eql=>K (.cv (.bool true)) m
    | .neq=>K (.cv (.bool false)) m
    |_=>False)
   |_=>False
  | .cv (.map none),.cv (.map none)=>match T ty with
   |some ⟨_,_,_,_,.map⟩=>(match(generalizing:=false) op with
    | .eql=>K (.cv (.bool true)) m
    | .neq=>K (.cv (.bool false)) m
    |_=>False)
   |_=>False
  | .cv (.pointer none),.cv (.pointer none)=>match T ty with
   |some ⟨_,_,_,_,.ptr _⟩=>(match(generalizing:=false) op with
    | .eql=>K (.cv (.bool true)) m
    | .neq=>K (.cv (.bool false)) m
    |_=>False)
   |_=>False
  | .cv a,.cv b=>binC op a b fun v=>K (.cv v) m
  | .sl _ _ xs,.cv (.slice none 0 0)=>match T ty with
   |some ⟨_,_,_,_,.slice _⟩=>xs≠[]∧(match(generalizing:=false) op with
    | .eql=>K (.cv (.bool false)) m
    | .neq=>K (.cv (.bool true)) m
    |_=>False)
   |_=>False
  | .ow _n _k,.cv (.map none)=>(match nilB y with
   |true=>rdK P o (evN t) m K
   |false=>False)
  | .bx _n _o,.cv (.pointer none)=>match T ty with
   |some ⟨_,_,_,_,.ptr _⟩=>(match(generalizing:=false) op with
    | .eql=>K (.cv (.bool false)) m
    | .neq=>K (.cv (.bool true)) m
    |_=>False)
   |_=>False
  | .bx n o,.bx n' o'=>match T ty with
   |some ⟨_,_,_,_,.ptr e⟩=>match T e with
    |some _=>n=n'∧o=o'∧(match(generalizing:=false) op with
     | .eql=>K (.cv (.bool true)) m
     | .neq=>K (.cv (.bool false)) m
     |_=>False)
    |none=>False
   |_=>False
  | .ag cs,.ag ds=>if allC cs&&allC ds then∃t,EqOk P ty cs ds t∧(match(generalizing:=false) op with
   | .eql=>K (.cv (.bool t)) m
   | .neq=>K (.cv (.bool !t)) m
   |_=>False) else False
  |_,_=>False):OpOk P o a w (Post B w0 t a K):=by
 have hx:=hs.evN x
 have hy:=hs.evN y
 have fin:∀{v:Value},(do eqGuard op ty x y (a.eval x) (a.eval y);binOp op ty (a.eval x) (a.eval y)).run P w= .ok v w→K (.cv v) m→OpOk P o a w (Post B w0 t a K):=by
  intro v hr hK
  refine opOk_val (u:=v) (w':=w) ?_ (Post.same hs (.cv _) hK)
  unfold execOp
  simp only[ho]
  exact run_v hr
 split at h
 ·rename_i p q hp hq
  rw[hp] at hx;rw[hq] at hy
  generalize hu:a.eval x=u at hx fin
  generalize hv:a.eval y=v at hy fin
  cases hx;cases hy
  split at h
  ·rename_i hti
   obtain⟨v,h1,h2⟩:=binB_sound (hT.kd_bool hti rfl) h
   exact fin h1 h2
  ·cases h
 ·rename_i hp hq
  rw[hp] at hx;rw[hq] at hy
  generalize hu:a.eval x=u at hx fin
  generalize hv:a.eval y=v at hy fin
  cases hx;cases hy
  split at h
  rotate_left
  ·cases h
  rename_i e hti
  have heq:(Op.equal ty (.slice none 0 0) (.slice none 0 0)).run P w= .ok true w:=run_equal_slice_nil w ty e none 0 0 (hT.kd_slice hti rfl)
  cases op<;>simp only at h<;>try(cases h;done)
  ·exact fin (v:= .bool true) (by simp[eqGuard,binOp,heq]) h
  ·exact fin (v:= .bool false) (by simp[eqGuard,binOp,heq]) h
 ·rename_i hp hq
  rw[hp] at hx;rw[hq] at hy
  generalize hu:a.eval x=u at hx fin
  generalize hv:a.eval y=v at hy fin
  cases hx;cases hy
  split at h
  rotate_left
  ·cases h
  rename_i _ hti
  obtain⟨kt,et,hty⟩:=hT.kd_map hti rfl
  have heq:(Op.equal ty (.map none) (.map none)).run P w= .ok true w:=run_equal_map_nil w ty kt et none hty
  cases op<;>simp only at h<;>try(cases h;done)
  ·exact fin (v:= .bool true) (by simp[eqGuard,binOp,heq]) h
  ·exact fin (v:= .bool false) (by simp[eqGuard,binOp,heq]) h
 ·rename_i hp hq
  rw[hp] at hx;rw[hq] at hy
  generalize hu:a.eval x=u at hx fin
  generalize hv:a.eval y=v at hy fin
  cases hx;cases hy
  split at h
  rotate_left
  ·cases h
  rename_i e hti
  have heq:(Op.equal ty (.pointer none) (.pointer none)).run P w= .ok true w:=eq_ptr_nil w ty e none (hT.kd_ptr hti rfl)
  cases op<;>simp only at h<;>try(cases h;done)
  ·exact fin (v:= .bool true) (by simp[eqGuard,binOp,heq]) h
  ·exact fin (v:= .bool false) (by simp[eqGuard,binOp,heq]) h
 ·rename_i p q _ _ _ _ hp hq
  rw[hp] at hx;rw[hq] at hy
  generalize hu:a.eval x=u at hx fin
  generalize hv:a.eval y=v at hy fin
  cases hx;cases hy
  obtain⟨v,h1,h2⟩:=binC_sound h
  exact fin h1 h2
 ·rename_i f sz xs hp hq
  rw[hp] at hx;rw[hq] at hy
  generalize hu:a.eval x=u at hx fin
  generalize hv:a.eval y=v at hy fin
  cases hy
  split at h
  rotate_left
  ·cases h
  rename_i e hti
  obtain⟨hne,h⟩:=h
  cases hx
  rename_i hr
  cases hr with
  |nil=>exact absurd rfl hne
  |sl _ _ b o' cap u' hS hx' hcap hc hd=>
   have heq:(Op.equal ty (.slice (some ⟨b,o',none⟩) xs.length cap) (.slice none 0 0)).run P w= .ok false w:=run_equal_slice_nil w ty e _ _ _ (hT.kd_slice hti rfl)
   cases op<;>simp only at h<;>try(cases h;done)
   ·exact fin (v:= .bool false) (by simp[eqGuard,binOp,heq]) h
   ·exact fin (v:= .bool true) (by simp[eqGuard,binOp,heq]) h
 ·split at h
  ·exact ok_rd hs h
  ·cases h
 ·rename_i n o hp hq
  rw[hp] at hx;rw[hq] at hy
  generalize hu:a.eval x=u at hx fin
  generalize hv:a.eval y=v at hy fin
  cases hx;cases hy
  split at h
  rotate_left
  ·cases h
  rename_i e hti
  have heq:∀b:Nat,(Op.equal ty (.pointer (some ⟨b,o,none⟩)) (.pointer none)).run P w= .ok false w:=fun b=>eq_ptr_nil w ty e _ (hT.kd_ptr hti rfl)
  cases op<;>simp only at h<;>try(cases h;done)
  ·exact fin (v:= .bool false) (by simp[eqGuard,binOp,heq]) h
  ·exact fin (v:= .bool true) (by simp[eqGuard,binOp,heq]) h
 ·rename_i n o n' o' hp hq
  rw[hp] at hx;rw[hq] at hy
  generalize hu:a.eval x=u at hx fin
  generalize hv:a.eval y=v at hy fin
  split at h
  rotate_left
  ·cases h
  rename_i e hti
  split at h
  rotate_left
  ·cases h
  rename_i ie hie
  obtain⟨rfl,rfl,h⟩:=h
  cases hx;cases hy
  rename_i b hn b' hn'
  rw[hn] at hn'
  cases hn'
  obtain⟨j,hj,_⟩:=hT.get e ie hie
  have heq:=eq_ptr_same (P:=P) w ty e (j:=j) ⟨b,o,none⟩ (hT.kd_ptr hti rfl) hj
  cases op<;>simp only at h<;>try(cases h;done)
  ·exact fin (v:= .bool true) (by simp[eqGuard,binOp,heq]) h
  ·exact fin (v:= .bool false) (by simp[eqGuard,binOp,heq]) h
 ·rename_i cs ds hp hq
  rw[hp] at hx;rw[hq] at hy
  generalize hu:a.eval x=u at hx fin
  generalize hv:a.eval y=v at hy fin
  split at h
  rotate_left
  ·cases h
  rename_i hc
  simp only[Bool.and_eq_true] at hc
  obtain⟨tt,h1,h2⟩:=h
  cases hx;cases hy
  rename_i us hl hr vs hl' hr'
  obtain⟨e1,e2⟩:=h1 w us vs (allC_rel (.ag _ _ hl hr) hc.1) (allC_rel (.ag _ _ hl' hr') hc.2)
  cases op<;>simp only at h2<;>try(cases h2;done)
  ·exact fin (v:= .bool tt) (by simp[eqGuard,binOp,e1,e2]) h2
  ·exact fin (v:= .bool !tt) (by simp[eqGuard,binOp,e1,e2]) h2
 ·cases h
theorem ok_unOp (hs:Sat B w0 N S t m a w) {o:Oper} {op:UnOp} {ty:Nat} {x:Operand} (ho:o.op= .unOp op ty x) {K:V→List (Option Bk)→Prop}
  (h:match(generalizing:=false) op,evN t x with
  | .not,.cv (.bool b)=>K (.cv (.bool !b)) m
  | .neg,.cv (.int k n)=>K (.cv (.int k (k.wrap (0 - n)))) m
  | .xor,.cv (.int k n)=>K (.cv (.int k (k.wrap ((BitVec.ofInt k.bits (if k.signed then -1 else k.max) ^^^ BitVec.ofInt k.bits n).toNat:Nat)))) m
  |_,_=>False):OpOk P o a w (Post B w0 t a K):=by
 have hx:=hs.evN x
 have fin:∀{v:Value},(Op.unary op (a.eval x)).run P w= .ok v w→K (.cv v) m→OpOk P o a w (Post B w0 t a K):=by
  intro v hr hK
  refine opOk_val (u:=v) (w':=w) ?_ (Post.same hs (.cv _) hK)
  unfold execOp
  simp only[ho]
  exact run_v hr
 split at h
 ·rename_i b hp
  rw[hp] at hx
  generalize hu:a.eval x=u at hx fin
  cases hx
  exact fin (by simp[Op.unary]) h
 ·rename_i k n hp
  rw[hp] at hx
  generalize hu:a.eval x=u at hx fin
  cases hx
  exact fin (by simp[Op.unary,Op.intArith]) h
 ·rename_i k n hp
  rw[hp] at hx
  generalize hu:a.eval x=u at hx fin
  cases hx
  exact fin (by simp only[Op.unary];exact run_xor) h
 ·cases h
theorem bytesOf_spec:∀(xs:List (List D)) (b:List UInt8),bytesOf xs=some b→b.length=xs.length∧∀j (hj:j<b.length),xs[j]?=some [.cv (.int .u8 (b[j].toNat:Nat))]
 |[],b,h=>by cases h;exact⟨rfl,fun j hj=>by simp at hj⟩
 |x::l,b,h=>by
  unfold bytesOf at h
  split at h
  ·rename_i he;cases he
  ·rename_i n l' he
   cases he
   split at h
   ·rename_i b' hn hb
    cases h
    obtain⟨h1,h2⟩:=bytesOf_spec l b' hb
    refine⟨by simp[h1],fun j hj=>?_⟩
    cases j with
    |zero=>
     simp only[decide_eq_true_eq] at hn
     have e:((UInt8.ofNat n.toNat).toNat:Int)=n:=by rw[UInt8.toNat_ofNat'];omega
     show some [D.cv (.int .u8 n)]=some [D.cv (.int .u8 ((UInt8.ofNat n.toNat).toNat:Nat))]
     rw[e]
    |succ j=>simpa using h2 j (by simpa using hj)
   ·cases h
  ·cases h
theorem ok_convert (hT:TOk P T) (hs:Sat B w0 N S t m a w) {o:Oper} {s d:Nat} {x:Operand} (ho:o.op= .convert s d x) {K:V→List (Option Bk)→Prop}
  (h:match T s,T d,evN t x with
  |some _,some ⟨_,_,_,_,.int k⟩,.cv (.int _ n)=>K (.cv (.int k (k.wrap n))) m
  |some _,some ⟨_,_,_,_,.string⟩,.cv (.string b)=>K (.cv (.string b)) m
  |some ⟨_,_,_,_,.slice e⟩,some ⟨_,_,_,_,.string⟩,.sl _ 1 xs=>match T e with
   |some ⟨_,_,_,_,.int .u8⟩=>match bytesOf xs with
    |some b=>K (.cv (.string ⟨b.toArray⟩)) m
    |none=>False
   |_=>False
  |_,_,_=>False):OpOk P o a w (Post B w0 t a K):=by
 have hx:=hs.evN x
 have fin:∀{v:Value},(convert s d (a.eval x)).run P w= .ok v w→K (.cv v) m→OpOk P o a w (Post B w0 t a K):=by
  intro v hr hK
  refine opOk_val (u:=v) (w':=w) ?_ (Post.same hs (.cv _) hK)
  unfold execOp
  simp only[ho]
  exact run_v hr
 split at h
 ·rename_i k k' n hsi hdi hp
  rw[hp] at hx
  generalize hu:a.eval x=u at hx fin
  cases hx
  obtain⟨ds,hds,_⟩:=hT.und hsi
  exact fin (by simp[convert,run_underlying hds,run_underlying (hT.kd_int hdi rfl),Conv.intToInt]) h
 ·rename_i b hsi hdi hp
  rw[hp] at hx
  generalize hu:a.eval x=u at hx fin
  cases hx
  obtain⟨ds,hds,_⟩:=hT.und hsi
  exact fin (by simp[convert,run_underlying hds,run_underlying (hT.kd_string hdi rfl)]) h
 ·rename_i e _ _ _ _ f xs hsi hdi hp
  rw[hp] at hx
  split at h
  rotate_left
  ·cases h
  rename_i hie
  split at h
  rotate_left
  ·cases h
  rename_i b hb
  generalize hu:a.eval x=u at hx fin
  cases hx
  rename_i hr
  have hss:=hT.kd_slice hsi rfl
  have he:=hT.kd_int hie rfl
  have hd:=hT.kd_string hdi rfl
  refine fin ?_ h
  obtain⟨hl,hg⟩:=bytesOf_spec xs b hb
  cases hr with
  |nil _ A cap=>
   have:b=[]:=List.eq_nil_of_length_eq_zero hl
   subst this
   cases A with
   |none=>exact run_convert_bytes_nil w s e hss he 0 cap d hd
   |some A=>exact run_convert_bytes_back w s d e A cap [] hss he hd fun j hj=>by simp at hj
  |sl _ _ q o' cap u hS hx hcap hc hdd=>
   rw[←hl]
   refine run_convert_bytes_back w s d e ⟨q,o',none⟩ cap b hss he hd fun j hj=>?_
   have h0:((xs[j]?).bind fun x=>x[0]?)=some (.cv (.int .u8 (b[j].toNat:Nat))):=by rw[hg j hj];rfl
   have h1:=hc j 0 _ h0
   have h2:=hdd j 0 _ h0
   generalize u j 0=z at h1 h2
   cases h2
   rw[add_mk,show o'+j=o'+j*1+0 by omega]
   exact h1
 ·cases h
theorem ok_extract (hs:Sat B w0 N S t m a w) {o:Oper} {x:Operand} {i:Nat} (ho:o.op= .extract x i) {K:V→List (Option Bk)→Prop}
  (h:match evN t x with
  | .tu vs=>match vs[i]? with
   |some v=>K v m
   |none=>False
  |_=>False):OpOk P o a w (Post B w0 t a K):=by
 have hx:=hs.evN x
 split at h
 rotate_left
 ·cases h
 rename_i vs hp
 rw[hp] at hx
 split at h
 rotate_left
 ·cases h
 rename_i v hv
 generalize hu:a.eval x=u at hx
 cases hx
 rename_i us hl hr
 have h1:=hr i v hv
 have hlt:=lt_of_get hv
 have:us[i]?=some (us.getD i undef):=by simp[Array.getD_eq_getD_getElem?,show i<us.size by omega]
 generalize us.getD i undef=z at this h1
 refine opOk_val (u:=z) (w':=w) ?_ (Post.same hs h1 h)
 unfold execOp
 simp only[ho]
 refine run_v ?_
 rw[hu]
 simp[Instr.extract,this]
theorem fold_get (vs:List Value):∀(off k:Nat) (cs:Array Value),∀j,((vs.zipIdx k).foldl (fun cs (p:Value×Nat)=>cs.setIfInBounds (off+p.2) p.1) cs).getD j undef=
      (if off+k≤j∧j<off+k+vs.length∧j<cs.size then vs.getD (j - (off+k)) undef else cs.getD j undef):=by
 induction vs with
 |nil=>intro off k cs j;rw[if_neg (by simp only[List.length_nil];omega)];rfl
 |cons v vs ih=>
  intro off k cs j
  simp only[List.zipIdx_cons,List.foldl_cons]
  rw[ih off (k+1)]
  simp only[Array.size_setIfInBounds,List.length_cons]
  by_cases hj:off+k=j
  ·subst hj
   rw[if_neg (by omega)]
   by_cases hlt:off+k<cs.size
   ·rw[if_pos (by omega)];simp[Array.getD_eq_getD_getElem?,hlt]
   ·rw[if_neg (by omega)];simp[Array.getD_eq_getD_getElem?,hlt]
  ·by_cases hj2:off+(k+1)≤j∧j<off+(k+1)+vs.length∧j<cs.size
   ·rw[if_pos hj2,if_pos (by omega)]
    obtain⟨q,rfl⟩:∃q,j=off+k+1+q:=⟨j - (off+k+1),by omega⟩
    rw[show off+k+1+q - (off+(k+1))=q by omega,show off+k+1+q - (off+k)=q+1 by omega]
    simp
   ·rw[if_neg hj2,if_neg (by omega)]
    simp[Array.getD_eq_getD_getElem?,hj]
theorem fold_size (l:List (Value×Nat)) (off:Nat):∀(cs:Array Value),(l.foldl (fun cs (p:Value×Nat)=>cs.setIfInBounds (off+p.2) p.1) cs).size=cs.size:=by
 induction l with
 |nil=>intro cs;rfl
 |cons p l ih=>intro cs;simp only[List.foldl_cons];rw[ih];simp
theorem fill_sound (hs:Sat B w0 N S t m a w) {fs:List (Nat×Nat)} {place:Nat→Option (Nat×Nat)} (hpl:∀(i off ty:Nat) (ti:TI),fs[i]?=some (off,ty)→T ty=some ti→place i=some (off,ti.size)) (ps:List (Nat×Operand)):
  ∀(cs:List V) (us:Array Value),cs.length=us.size→(∀i v,cs[i]?=some v→RelV N S w v (us.getD i undef))→∀{K:List V→Prop},buildV fs T (evN t) cs ps K→
   ∃us' cs',Instr.fill place us (ps.map fun p=>(p.1,a.eval p.2))=some us'∧cs'.length=us'.size∧(∀i v,cs'[i]?=some v→RelV N S w v (us'.getD i undef))∧K cs':=by
 induction ps with
 |nil=>intro cs us hl hr K h;exact⟨us,cs,rfl,hl,hr,h⟩
 |cons p ps ih=>
  intro cs us hl hr K h
  obtain⟨i,x⟩:=p
  simp only[buildV] at h
  split at h
  ·cases h
  rename_i off ty hf
  split at h
  ·cases h
  rename_i ti hti
  split at h
  rotate_left
  ·cases h
  rename_i cs' hb hfv
  rw[forceL_eq] at h
  simp only[Bool.and_eq_true,beq_iff_eq] at hb
  have hne:evN t x≠ .un:=by intro e;rw[e] at hb;cases hb.1
  obtain⟨c1,c2⟩:=(hs.evN x).cells hne
  obtain⟨f1,f2,f3⟩:=fillV_spec _ _ _ _ hfv
  have hcond:((a.eval x).cells.size≠ti.size||off+(a.eval x).cells.size>us.size)=false:=by
   simp only[Bool.or_eq_false_iff,decide_eq_false_iff_not,ne_eq]
   exact⟨by omega,by omega⟩
  simp only[List.map_cons,Instr.fill,hpl i off ty ti hf hti,hcond,Bool.false_eq_true,if_false]
  refine ih cs' _ ?_ ?_ h
  ·rw[←Array.foldl_toList,Array.toList_zipIdx]
   rw[f2,hl]
   exact(fold_size _ off us).symm
  ·intro j v hv
   have hlt:=lt_of_get hv
   rw[f3 j] at hv
   have key:=fold_get (a.eval x).cells.toList off 0 us j
   rw[←Array.foldl_toList,Array.toList_zipIdx]
   simp only[Nat.add_zero,Array.length_toList,getD_toList] at key
   refine(congrArg (RelV N S w v) key).mpr ?_
   by_cases hj:off≤j∧j<off+(evN t x).cells.length
   ·rw[if_pos hj] at hv
    rw[if_pos (by omega)]
    exact c2 _ _ hv
   ·rw[if_neg hj] at hv
    rw[if_neg (by omega)]
    exact hr _ _ hv
theorem ok_build (hT:TOk P T) (hs:Sat B w0 N S t m a w) {o:Oper} {ty:Nat} {ps:Array (Nat×Operand)} (ho:o.op= .build ty ps) {K:V→List (Option Bk)→Prop}
  (h:match T ty with
  |some ⟨_,_,_,zero,.struct fs⟩=>if fs.all (fun f=>(T f.2).isSome) then buildV fs T (evN t) (zero.map .cv) ps.toList fun cs=>K (.ag cs) m else False
  |some ⟨_,_,_,zero,.array n e⟩=>match T e with
   |some ie=>buildV ((List.range n).map fun q=>(q*ie.size,e)) T (evN t) (zero.map .cv) ps.toList fun cs=>K (.ag cs) m
   |none=>False
  |_=>False):OpOk P o a w (Post B w0 t a K):=by
 split at h
 rotate_left
 ·rename_i size' bytes' agg' zero n e hti
  split at h
  rotate_left
  ·cases h
  rename_i ie hie
  have hst:=hT.kd_array hti rfl
  obtain⟨j,hj,_,_,⟨z,hz,hzc⟩,_⟩:=hT.get _ _ hti
  obtain⟨je,hje,hjs,_⟩:=hT.get _ _ hie
  replace hzc:z.cells.toList=zero:=hzc
  have hpl:∀(i off ty:Nat) (ti:TI),((List.range n).map fun q=>(q*ie.size,e))[i]?=some (off,ty)→T ty=some ti→(fun i=>some (i*je.size,je.size)) i=some (off,ti.size):=by
   intro i off ty ti h1 h2
   rw[List.getElem?_map,Option.map_eq_some_iff] at h1
   obtain⟨q,hq,he⟩:=h1
   rw[List.getElem?_range] at hq
   ·cases hq
    cases he
    rw[hie] at h2
    cases h2
    simp[hjs]
   ·have:=lt_of_get hq;simpa using this
  obtain⟨us',cs',h1,h2,h3,h4⟩:=fill_sound hs (place:=fun i=>some (i*je.size,je.size)) hpl ps.toList (zero.map .cv) z.cells (by rw[←hzc];simp) (fun i v hv=>by
   rw[←hzc,List.getElem?_map,Option.map_eq_some_iff] at hv
   obtain⟨u,hu,rfl⟩:=hv
   rw[getD_of_get hu];exact .cv _) h
  refine opOk_val (u:= .agg us') (w':=w) ?_ (Post.same hs (.ag _ _ h2 h3) h4)
  unfold execOp
  simp only[ho]
  refine run_v (run_build w ty _ us' ?_)
  simp only[Program.built,hj,hst,hz,hje]
  rw[←h1]
  simp
 ·cases h
 rename_i size' bytes' agg' zero fs hti
 split at h
 rotate_left
 ·cases h
 rename_i hall
 obtain⟨gs,hgs,hmap⟩:=hT.kd_struct hti rfl
 obtain⟨j,hj,_,_,⟨z,hz,hzc⟩,_⟩:=hT.get _ _ hti
 replace hzc:z.cells.toList=zero:=hzc
 let places:List (Nat×Nat):=fs.map fun f=>(f.1,((T f.2).map (·.size)).getD 0)
 have hplaces:gs.toList.mapM (fun f=>(P.info? f.type).map fun i=>(f.offset,i.size))=some places:=by
  have:∀(l:List Field) (fs:List (Nat×Nat)),l.map (fun f=>(f.offset,f.type))=fs→fs.all (fun f=>(T f.2).isSome)=true→
    l.mapM (fun f=>(P.info? f.type).map fun i=>(f.offset,i.size))=some (fs.map fun f=>(f.1,((T f.2).map (·.size)).getD 0)):=by
   intro l
   induction l with
   |nil=>intro fs h _;subst h;rfl
   |cons f l ih=>
    intro fs h h2
    subst h
    simp only[List.map_cons,List.all_cons,Bool.and_eq_true] at h2
    obtain⟨ti,hti⟩:=Option.isSome_iff_exists.1 h2.1
    obtain⟨j,hj,hsz,_⟩:=hT.get _ _ hti
    simp only[List.mapM_cons,hj,Option.map_some,Option.bind_eq_bind,Option.bind_some,Option.pure_def]
    rw[ih _ rfl h2.2]
    simp[hti,hsz]
  exact this _ _ hmap hall
 have hpl:∀(i off ty:Nat) (ti:TI),fs[i]?=some (off,ty)→T ty=some ti→(places.toArray[i]?:Option (Nat×Nat))=some (off,ti.size):=by
  intro i off ty ti h1 h2
  simp[places,List.getElem?_map,h1,h2]
 obtain⟨us',cs',h1,h2,h3,h4⟩:=fill_sound hs (place:=(places.toArray[·]?)) hpl ps.toList (zero.map .cv) z.cells (by rw[←hzc];simp) (fun i v hv=>by
  rw[←hzc,List.getElem?_map,Option.map_eq_some_iff] at hv
  obtain⟨u,hu,rfl⟩:=hv
  rw[getD_of_get hu];exact .cv _) h
 refine opOk_val (u:= .agg us') (w':=w) ?_ (Post.same hs (.ag _ _ h2 h3) h4)
 unfold execOp
 simp only[ho]
 refine run_v (run_build w ty _ us' ?_)
 simp only[Program.built,hj,hgs,hz,hplaces]
 rw[←h1]
 simp
end
end Go.Proofs.YtdccglkagfdooaaGreatDoor
namespace Go.Proofs.YtdccglkagfdooaaGreatDoor
open Go.RowKit
section
variable {P:Program} {T:Tab} {B:Fr} {w0:World} {N:Names} {S:Sets} {t:List V} {m:List (Option Bk)} {a:Act} {w:World}
theorem elems_sound (hs:Sat B w0 N S t m a w) {E:Operand→V} {sz:Nat} (_h0:0<sz) (ps:List (Nat×Operand)) (hE:∀p∈ps,RelV N S w (E p.2) (a.eval p.2)):
  ∀(xs:List (List D)) (f:Bool) (us:Array Value),us.size=xs.length*sz→(∀x∈xs,x.length=sz)→(∀i j d,(xs[i]?.bind fun x=>x[j]?)=some d→RelD (S f) w d (us.getD (i*sz+j) undef))→∀{K:List (List D)→Bool→Prop},elemsD sz E xs f ps K→
   ∃us' xs' f',Instr.fill (fun i=>some (i*sz,sz)) us (ps.map fun p=>(p.1,a.eval p.2))=some us'∧us'.size=xs'.length*sz∧xs'.length=xs.length∧(∀x∈xs',x.length=sz)∧(∀i j d,(xs'[i]?.bind fun x=>x[j]?)=some d→RelD (S f') w d (us'.getD (i*sz+j) undef))∧K xs' f':=by
 induction ps with
 |nil=>intro xs f us hl hx hr K h;exact⟨us,xs,f,rfl,hl,rfl,hx,hr,h⟩
 |cons p ps ih=>
  intro xs f us hl hx hr K h
  obtain⟨i,x⟩:=p
  simp only[elemsD] at h
  split at h
  rotate_left
  ·cases h
  rename_i ds g hds
  split at h
  rotate_left
  ·cases h
  rename_i hc
  have hTF:∀b,S true b→S false b:=fun b hb=>(hs.fresh b hb).1
  replace h:elemsD sz E (xs.set i ds) (f&&g) ps K:=by
   split at h<;>rename_i hfg<;>(rw[forceD_eq,setK_eq] at h;rw[hfg];exact h)
  have hEx:RelV N S w (E x) (a.eval x):=hE (i,x) (by simp)
  obtain⟨hne,hdl,hdr⟩:=toDs_one hTF hEx hds
  replace hdr:=hdr (f&&g) fun e=>by simp at e;exact e.2
  have hi1:i*sz+sz≤xs.length*sz:=by
   calc i*sz+sz=(i+1)*sz:=by rw[Nat.add_mul];omega
    _≤xs.length*sz:=Nat.mul_le_mul_right _ hc.1
  have hcond:((a.eval x).cells.size≠sz||i*sz+(a.eval x).cells.size>us.size)=false:=by
   simp only[Bool.or_eq_false_iff,decide_eq_false_iff_not,ne_eq]
   exact⟨by omega,by omega⟩
  simp only[List.map_cons,Instr.fill,hcond,Bool.false_eq_true,if_false]
  obtain⟨us',xs',f',e1,e2,e3,e4⟩:=ih (fun p hp=>hE p (by simp[hp])) (xs.set i ds) (f&&g) ((a.eval x).cells.zipIdx.foldl (fun cs (p:Value×Nat)=>cs.setIfInBounds (i*sz+p.2) p.1) us) (by
   rw[←Array.foldl_toList,Array.toList_zipIdx,List.length_set,←hl]
   exact fold_size _ (i*sz) us) (fun y hy=>by
    rcases List.mem_or_eq_of_mem_set hy with hy|rfl
    ·exact hx y hy
    ·exact hc.2) (fun i' j d hd=>by
   have key:=fold_get (a.eval x).cells.toList (i*sz) 0 us (i'*sz+j)
   simp only[Nat.add_zero,Array.length_toList,getD_toList] at key
   rw[←Array.foldl_toList,Array.toList_zipIdx]
   refine(congrArg (RelD (S (f&&g)) w d) key).mpr ?_
   have hij:i'<xs.length∧j<sz:=by
    cases hi':(xs.set i ds)[i']? with
    |none=>rw[hi'] at hd;cases hd
    |some c=>
     rw[hi'] at hd
     have a1:=lt_of_get hi'
     have a2:=lt_of_get (show c[j]?=some d from hd)
     rcases List.mem_or_eq_of_mem_set (List.mem_of_getElem? hi') with hc'|rfl
     ·rw[hx c hc'] at a2;exact⟨by simpa using a1,a2⟩
     ·rw[hc.2] at a2;exact⟨by simpa using a1,a2⟩
   by_cases hii:i'=i
   ·subst hii
    rw[List.getElem?_set_self hc.1] at hd
    rw[if_pos (by omega),show i'*sz+j - i'*sz=j by omega]
    exact hdr j d hd
   ·rw[List.getElem?_set_ne (Ne.symm hii)] at hd
    have:¬(i*sz≤i'*sz+j∧i'*sz+j<i*sz+(a.eval x).cells.size∧i'*sz+j<us.size):=by
     rcases Nat.lt_or_ge i' i with h|h
     ·have:i'*sz+sz≤i*sz:=by
       calc i'*sz+sz=(i'+1)*sz:=by rw[Nat.add_mul];omega
        _≤i*sz:=Nat.mul_le_mul_right _ h
      omega
     ·have:i*sz+sz≤i'*sz:=by
       calc i*sz+sz=(i+1)*sz:=by rw[Nat.add_mul];omega
        _≤i'*sz:=Nat.mul_le_mul_right _ (by omega)
      omega
    rw[if_neg this]
    exact(hr _ _ _ hd).down hTF) h
  exact⟨us',xs',f',e1,e2,by rw[e3];simp,e4⟩
theorem ok_buildSliceE (hT:TOk P T) (hs:Sat B w0 N S t m a w) {E:Operand→V} {o:Oper} {ty n:Nat} {ps:Array (Nat×Operand)} (ho:o.op= .buildSlice ty n ps) (hE:∀p∈ps.toList,RelV N S w (E p.2) (a.eval p.2)) {K:V→List (Option Bk)→Prop}
  (h:match T ty with
  |some ⟨_,_,_,_,.slice e⟩=>match T e with
   |some i=>if i.size=0∨n*i.size>16777216 then False else elemsD i.size E (List.replicate n (i.zero.map .cv)) true ps.toList fun xs f=>newK o.dst (.row 0 e i.size f xs) (.ow · 0) m K
   |none=>False
  |_=>False):OpOk P o a w (Post B w0 t a K):=by
 split at h
 rotate_left
 ·cases h
 rename_i e hti
 have hsl:=hT.kd_slice hti rfl
 split at h
 rotate_left
 ·cases h
 rename_i i hie
 split at h
 ·cases h
 rename_i hc
 simp only[not_or] at hc
 have h0:0<i.size:=by omega
 obtain⟨z,hz,hzr⟩:=hT.zero hie
 obtain⟨_,hzl,hz1⟩:=hT.ok hie
 have hzs:z.cells.size=i.size:=by rw[←hzl,←hz];simp
 let us0:Array Value:=(Array.range (n*i.size)).map (z.cells[· % z.cells.size]!)
 have hus0:∀i' j d,((List.replicate n (i.zero.map D.cv))[i']?.bind fun x=>x[j]?)=some d→RelD (S true) w d (us0.getD (i'*i.size+j) undef):=by
  intro i' j d hd
  rw[List.getElem?_replicate] at hd
  split at hd
  rotate_left
  ·cases hd
  rename_i hlt
  simp only[Option.bind_some,List.getElem?_map,Option.map_eq_some_iff] at hd
  obtain⟨u,hu,rfl⟩:=hd
  have hj:j<i.size:=by have:=lt_of_get hu;omega
  have hidx:i'*i.size+j<n*i.size:=by
   calc i'*i.size+j<i'*i.size+i.size:=by omega
    _=(i'+1)*i.size:=by rw[Nat.add_mul];omega
    _≤n*i.size:=Nat.mul_le_mul_right _ hlt
  have hmod:(i'*i.size+j) % i.size=j:=by rw[Nat.add_comm,Nat.add_mul_mod_self_right];exact Nat.mod_eq_of_lt hj
  have:us0.getD (i'*i.size+j) undef=u:=by
   rw[←hz,Array.getElem?_toList] at hu
   have e:us0[i'*i.size+j]?=some (z.cells[(i'*i.size+j) % z.cells.size]!):=by
    simp only[us0,Array.getElem?_map,Array.getElem?_range,hidx,if_true,Option.map_some]
   rw[Array.getD_eq_getD_getElem?,e,hzs,hmod,Option.getD_some]
   rw[getElem!_def,hu]
  rw[this]
  exact .cv u (hz1 u (List.mem_of_getElem? hu))
 obtain⟨us',xs',f',e1,e2,e3,e4,e5,e6⟩:=elems_sound hs h0 ps.toList hE (List.replicate n (i.zero.map .cv)) true us0 (by simp[us0]) (fun x hx=>by rw[(List.mem_replicate.1 hx).2];simp[hzl]) hus0 h
 have hn:xs'.length=n:=by rw[e3];simp
 have hbig:n≤n*i.size:=Nat.le_mul_of_pos_right _ h0
 refine opOk_val (u:= .slice (some ⟨w.heap.size,0,none⟩) xs'.length n) (w':=w.alloc (.cells us' e)) ?_ (newK_row hs (cap:=n) (.inl rfl) h0 e4 (by rw[e2,hn]) (by omega) (by simp only[maxLen];omega) (fun i' j d hd=>?_) e6)
 ·unfold execOp
  simp only[ho]
  refine run_v ?_
  have hlim:¬(n*i.size>2 ^ 24):=by omega
  have hfill:Instr.fill (fun i'=>some (i'*i.size,i.size)) ((Array.range (n*i.size)).map (z.cells[· % z.cells.size]!)) (ps.map fun(i,x)=>(i,a.eval x)).toList=some us':=by
   rw[←e1];simp[us0]
  by_cases hn0:n*i.size=0
  ·have hn0':n=0:=by rcases Nat.mul_eq_zero.1 hn0 with h|h<;>omega
   have hzz:∀zz:Array Value,(Array.range (n*i.size)).map (zz[· % zz.size]!)=(Array.range (n*i.size)).map (z.cells[· % z.cells.size]!):=by
    intro zz;rw[hn0];simp
   simp only[Instr.buildSlice,Sem.run_bind,run_underlying hsl,Result.andThen_ok,hT.size hie,Sem.run_ite,hlim,if_false,if_pos hn0,Sem.run_pure,hzz,hfill]
   simp[newRow,hn]
  ·have h1:n≠0:=by rintro rfl;simp at hn0
   have h2:i.size≠0:=by omega
   simp only[Instr.buildSlice,Sem.run_bind,run_underlying hsl,Result.andThen_ok,hT.size hie,Sem.run_ite,hlim,if_false,hn0,hzr,Sem.run_pure,hfill]
   simp[newRow,hn]
 ·have hij:i'*i.size+j<us'.size:=by
   cases hi':xs'[i']? with
   |none=>rw[hi'] at hd;cases hd
   |some c=>
    rw[hi'] at hd
    have a2:=lt_of_get (show c[j]?=some d from hd)
    rw[e4 c (List.mem_of_getElem? hi')] at a2
    rw[e2]
    calc i'*i.size+j<i'*i.size+i.size:=by omega
     _=(i'+1)*i.size:=by rw[Nat.add_mul];omega
     _≤xs'.length*i.size:=Nat.mul_le_mul_right _ (lt_of_get hi')
  exact⟨us'.getD (i'*i.size+j) undef,by simp[Array.getD_eq_getD_getElem?,hij],e5 _ _ _ hd⟩
theorem ok_buildSlice (hT:TOk P T) (hs:Sat B w0 N S t m a w) {o:Oper} {ty n:Nat} {ps:Array (Nat×Operand)} (ho:o.op= .buildSlice ty n ps) {K:V→List (Option Bk)→Prop}
  (h:match T ty with
  |some ⟨_,_,_,_,.slice e⟩=>match T e with
   |some i=>if i.size=0∨n*i.size>16777216 then False else elemsD i.size (evN t) (List.replicate n (i.zero.map .cv)) true ps.toList fun xs f=>newK o.dst (.row 0 e i.size f xs) (.ow · 0) m K
   |none=>False
  |_=>False):OpOk P o a w (Post B w0 t a K):=ok_buildSliceE hT hs ho (fun p _=>hs.evN p.2) h
theorem pass1_rel (hs:Sat B w0 N S t m a w) {v:V} {u:Value} (h:RelV N S w v u):RelV (fun _=>none) (fun _ b=>b<w.heap.size) w (v.pass1 m) u:=by
 cases h<;>simp only[V.pass1]<;>try exact .un _
 ·exact .cv _
 ·exact .cv _
 ·rename_i f sz xs h
  exact .sl _ _ _ _ (h.mono (fun g hg=>(hs.data _ g hg).1) fun _ _=>rfl)
 ·rename_i n k hu hn
  obtain⟨k',v,hn,hk,he⟩:=hn
  split
  ·rename_i k2 E sz f xs hm
   split
   ·rename_i hkk
    subst hkk
    obtain⟨rfl,h1,h2,h3⟩:=row_cells hs hm hn
    rw[(row_hdv hs hm hn).1] at he
    have:=he rfl
    subst this
    rcases h3 with⟨rfl,rfl⟩|⟨g,cap,us,rfl,h4,h5,_,_,h6⟩
    ·exact .sl _ _ _ _ (.nil _ _ _)
    ·refine .sl _ _ _ _ (.sl _ _ g 0 cap (fun i j=>us.getD (i*sz+j) undef) (hs.own n _ _ g hn rfl).2 h1 h5 (fun i j d hd=>?_) (fun i j d hd=>?_))
     ·obtain⟨h7,_⟩:=h6 i j d hd
      rw[cell_of_row w g _ us E _ h4]
      simp[Array.getD_eq_getD_getElem?,h7]
     ·exact(h6 i j d hd).2.mono (fun g hg=>(hs.data _ g hg).1) fun _ _=>rfl
   ·exact .un _
  ·exact .un _
 ·rename_i n k s lo hi hu hn
  obtain⟨k',v,hn,hk,he⟩:=hn
  split
  ·rename_i k2 E sz f xs hm
   split
   ·rename_i hkk
    obtain⟨rfl,rfl⟩:=hkk
    obtain⟨rfl,_⟩:=row_cells hs hm hn
    rw[(row_hdv hs hm hn).1] at he
    exact .sl _ _ _ _ (vw_data hs hm hn (he rfl) (fun g hg=>(hs.data _ g hg).1) fun g hg=>(hs.own n _ _ g hn hg).2)
   ·exact .un _
  ·exact .un _
theorem pass_rel (hs:Sat B w0 N S t m a w) {v:V} {u:Value} (h:RelV N S w v u):RelV (fun _=>none) (fun _ b=>b<w.heap.size) w (v.pass m) u:=by
 have one:∀{v:V} {u:Value},RelV N S w v u→RelV (fun _=>none) (fun _ b=>b<w.heap.size) w (v.pass1 m) u:=fun h=>pass1_rel hs h
 unfold V.pass
 split
 ·rename_i cs
  cases h with
  |ag _ us hl h=>
   refine .ag _ us (by simpa using hl) fun i v hv=>?_
   rw[List.getElem?_map,Option.map_eq_some_iff] at hv
   obtain⟨v',hv',rfl⟩:=hv
   exact one (h i v' hv')
 ·exact one h
theorem z_rel {S':Sets} {N':Names} {w':World} {v:V} {u:Value} (ns:List Nat) (h:RelV N' S' w' v u):RelV N' S' w' (v.z ns) u:=by
 have one:∀(n:Nat) {v:V} {u:Value},RelV N' S' w' v u→RelV N' S' w' (v.z1 n) u:=by
  intro n v u h
  unfold V.z1
  split
  ·cases h
   cases n
   ·exact .cv _
   ·exact .sl _ _ _ _ (.nil _ _ _)
  ·exact h
 have list:∀(ns:List Nat) (cs:List V),(zL cs ns).length=cs.length∧∀(i:Nat) (v:V),(zL cs ns)[i]?=some v→∃v0 n,cs[i]?=some v0∧(v=v0∨v=v0.z1 n):=by
  intro ns
  induction ns with
  | nil => intro cs;have e:zL cs []=cs:=by cases cs<;>rfl
           rw[e];exact⟨rfl,fun i v hv=>⟨v,0,hv,.inl rfl⟩⟩
  |cons n ns ih=>
   intro cs
   cases cs with
   |nil=>exact⟨rfl,fun i v hv=>by simp[zL] at hv⟩
   |cons c cs=>
    obtain⟨h1,h2⟩:=ih cs
    refine⟨by simp[zL,h1],fun i v hv=>?_⟩
    cases i with
    |zero=>simp[zL] at hv;exact⟨c,n,by simp,.inr hv.symm⟩
    |succ i=>simpa using h2 i v (by simpa[zL] using hv)
 unfold V.z
 split
 ·rename_i cs
  cases h with
  |ag _ us hl h=>
   obtain⟨h1,h2⟩:=list ns cs
   refine .ag _ us (by rw[h1];exact hl) fun i v hv=>?_
   obtain⟨v0,n,h3,h4⟩:=h2 i v hv
   rcases h4 with rfl|rfl
   ·exact h i _ h3
   ·exact one n (h i _ h3)
 ·split
  ·exact one _ h
  ·exact h
def passA (T:Tab) (m:List (Option Bk)) (E:Operand→V):List Operand→List TypeId→List V
 |[],_=>[]
 |x::l,ty::tys=>((E x).pass m).z (czs T 5 ty)::passA T m E l tys
 |x::l,[]=>(E x).pass m::passA T m E l []
theorem passL_eq (l:List Operand):∀(tys:List TypeId) (E:Operand→V) (K:List V→Prop),passL T m l tys E K=K (passA T m E l tys):=by
 induction l with
 |nil=>intro tys E K;rfl
 |cons x l ih=>
  intro tys E K
  cases tys<;>simp only[passL,passA,k_eq,ih]
theorem Sat.called (hs:Sat B w0 N S t m a w) {w':World} (hb:Below w.heap.size w w'):Sat B w0 N (fun f g=>S f g∨(w.heap.size≤g∧g<w'.heap.size)) t m a w':=by
 have hw:∀f g,S f g→w'.heap[g]?=w.heap[g]?:=fun f g hg=>hb.block g (hs.data f g hg).1
 refine⟨hs.low.trans ((Low.of_below hb).mono hs.base),hs.nodef,hs.tmps.mono (NLe.refl _) (fun _ _ h=> .inl h) hw,fun k b hk=>(hs.blk k b hk).mono rfl (NLe.refl _) (fun _ _ h=> .inl h) hw fun x v g h1 h2=>hb.block g (hs.own k x v g h1 h2).2,hs.non,hs.apart,?_,?_,?_,fun g hg=>Nat.lt_of_lt_of_le (hs.base g hg) hb.size,?_,?_,?_,hs.stay⟩
 ·intro f g hg
  rcases hg with hg|hg
  ·exact⟨Nat.lt_of_lt_of_le (hs.data f g hg).1 hb.size,(hs.data f g hg).2⟩
  ·exact⟨hg.2,fun k x v h1 h2=>by have:=(hs.own k x v g h1 h2).2;omega⟩
 ·intro g hg
  rcases hg with hg|hg
  ·exact⟨.inl (hs.fresh g hg).1,(hs.fresh g hg).2⟩
  ·exact⟨.inr hg,Nat.le_trans hs.size hg.1⟩
 ·intro k x v g h1 h2
  exact⟨(hs.own k x v g h1 h2).1,Nat.lt_of_lt_of_le (hs.own k x v g h1 h2).2 hb.size⟩
 ·intro g hg
  rcases hg with hg|hg
  ·exact hs.old g hg
  ·exact .inl (Nat.le_trans hs.size hg.1)
 ·exact hs.lent
 ·exact hs.more.mono hb.size (fun _ _ h=>h.mono (NLe.refl _) (fun _ _ h=> .inl h) hw) hs.base fun _ _ h=>h.imp id fun h=> .inl h.1
theorem call_sound (hs:Sat B w0 N S t m a w) {f:FuncId} {args:List V} {us:List Value} (hargs:RelL (fun _=>none) (fun _ b=>b<w.heap.size) w args us) {K:V→List (Option Bk)→Prop} (h:callK P f args m K):
  (callFunc f us.toArray).run P w= .ok (.enter f us.toArray) w∧Calls P f us.toArray w fun e w'=>∃v,e= .returned v∧Post B w0 t a K v w':=by
 obtain⟨res,⟨⟨fn,hf,hn,hb⟩,hc⟩,hK⟩:=h
 rw[k_eq] at hK
 have hn':¬fn.name= "runtime.NumGoroutine" :=by simpa using hn
 have hb':¬fn.body=none:=by intro e;rw[e] at hb;cases hb
 refine⟨by simp[callFunc,hf,hn',hb'],(hc w us hs.inv hargs).mono fun e w' ⟨v,he,hv,hbl⟩=>⟨v,he,N,_,res,m,hs.called hbl,?_,hK⟩⟩
 exact hv.mono (fun n k v h=>by cases h) (fun f g hg=> .inr hg) fun _ _ _=>rfl
theorem args_rel (hs:Sat B w0 N S t m a w) (l:List Operand):∀(tys:List TypeId),RelL (fun _=>none) (fun _ b=>b<w.heap.size) w (passA T m (evN t) l tys) (l.map a.eval):=by
 induction l with
 |nil=>intro tys;exact⟨rfl,fun i v hv=>by simp[passA] at hv⟩
 |cons x l ih=>
  intro tys
  have key:∀{v:V} {vs:List V},RelV (fun _=>none) (fun _ b=>b<w.heap.size) w v (a.eval x)→RelL (fun _=>none) (fun _ b=>b<w.heap.size) w vs (l.map a.eval)→RelL (fun _=>none) (fun _ b=>b<w.heap.size) w (v::vs) ((x::l).map a.eval):=by
   intro v vs h1 h2
   refine⟨by simp[h2.1],fun i v' hv'=>?_⟩
   cases i with
   |zero=>simp at hv';subst hv';simpa using h1
   |succ i=>simpa using h2.2 i v' (by simpa using hv')
  cases tys with
  |nil=>exact key (pass_rel hs (hs.evN x)) (ih [])
  |cons ty tys=>exact key (z_rel _ (pass_rel hs (hs.evN x))) (ih tys)
theorem ok_call (hs:Sat B w0 N S t m a w) {o:Oper} {c:Call} {f:FuncId} (ho:o.op= .call c) (hc:c.callee= .value (.func f)) {K:V→List (Option Bk)→Prop}
  (h:passL T m c.args.toList c.argTypes.toList (evN t) fun vs=>callK P f vs m K):OpOk P o a w (Post B w0 t a K):=by
 rw[passL_eq] at h
 obtain⟨h1,h2⟩:=call_sound hs (args_rel hs c.args.toList c.argTypes.toList) h
 have e:(c.args.toList.map a.eval).toArray=c.args.map a.eval:=by
  apply Array.ext';simp
 rw[e] at h1 h2
 refine opOk_enter (f:=f) (args:=c.args.map a.eval) ?_ h2
 unfold execOp
 simp only[ho]
 simp[resolve,hc,Act.eval,Deferred.ofValue,invoke,h1]
theorem ok_callv (hs:Sat B w0 N S t m a w) {o:Oper} {c:Call} {i:Nat} (ho:o.op= .call c) (hc:c.callee= .value (.tmp i)) {K:V→List (Option Bk)→Prop}
  (h:match evN t (.tmp i) with
   | .cv (.func (.func f) fst cap)=>passL T m c.args.toList c.argTypes.toList (evN t) fun vs=>callK P f (fst.toList.map .cv++vs++cap.toList.map .cv) m K
   | .fn f n cs=>forceL (cs.map (V.pass1 m)) fun cs=>passL T m c.args.toList c.argTypes.toList (evN t) fun vs=>callK P f (cs.take n++vs++cs.drop n) m K
   |_=>False):OpOk P o a w (Post B w0 t a K):=by
 have hx:=hs.evN (.tmp i)
 have hcv:∀(xs:Array Value),RelL (fun _=>none) (fun _ b=>b<w.heap.size) w (xs.toList.map .cv) xs.toList:=fun xs=>⟨by simp,fun i v hv=>by
  rw[List.getElem?_map,Option.map_eq_some_iff] at hv
  obtain⟨x,hx,rfl⟩:=hv
  rw[List.getD_eq_getElem?_getD,hx];exact .cv _⟩
 have happ:∀{N:Names} {S:Sets} {v1 v2:List V} {u1 u2:List Value},RelL N S w v1 u1→RelL N S w v2 u2→RelL N S w (v1++v2) (u1++u2):=by
  intro N S v1 v2 u1 u2 h1 h2
  refine⟨by simp[h1.1,h2.1],fun i v hv=>?_⟩
  rw[List.getElem?_append] at hv
  rw[List.getD_eq_getElem?_getD,List.getElem?_append,←h1.1]
  split at hv
  ·rename_i hlt
   rw[if_pos hlt,←List.getD_eq_getElem?_getD];exact h1.2 i v hv
  ·rename_i hlt
   rw[if_neg hlt,←List.getD_eq_getElem?_getD];exact h2.2 _ v hv
 have fin:∀(f:FuncId) (fst cap:Array Value) (vf vc:List V),a.eval (.tmp i)= .func (.func f) fst cap→RelL (fun _=>none) (fun _ b=>b<w.heap.size) w vf fst.toList→RelL (fun _=>none) (fun _ b=>b<w.heap.size) w vc cap.toList→
   callK P f (vf++passA T m (evN t) c.args.toList c.argTypes.toList++vc) m K→OpOk P o a w (Post B w0 t a K):=by
  intro f fst cap vf vc hu hf hcp h
  obtain⟨h1,h2⟩:=call_sound hs (happ (happ hf (args_rel hs c.args.toList c.argTypes.toList)) hcp) h
  have e:(fst.toList++c.args.toList.map a.eval++cap.toList).toArray=fst++(c.args.map a.eval++cap):=by
   apply Array.ext';simp
  rw[e] at h1 h2
  refine opOk_enter (f:=f) (args:=fst++(c.args.map a.eval++cap)) ?_ h2
  unfold execOp
  simp only[ho]
  simp[resolve,hc,hu,Deferred.ofValue,invoke,h1]
 split at h
 ·rename_i f fst cap hev
  rw[hev] at hx
  generalize hu:a.eval (.tmp i)=u at hx
  cases hx
  rw[passL_eq] at h
  exact fin f fst cap _ _ hu (hcv fst) (hcv cap) h
 ·rename_i f n cs hev
  rw[hev] at hx
  generalize hu:a.eval (.tmp i)=u at hx
  cases hx
  rename_i us vs hn hl hr
  rw[forceL_eq,passL_eq] at h
  have hp:∀i v,(cs.map (V.pass1 m))[i]?=some v→RelV (fun _=>none) (fun _ b=>b<w.heap.size) w v ((us++vs).getD i undef):=fun i v hv=>by
   rw[List.getElem?_map,Option.map_eq_some_iff] at hv
   obtain⟨v',hv',rfl⟩:=hv
   exact pass1_rel hs (hr i v' hv')
  refine fin f us vs _ _ hu ⟨by simp[hn];omega,fun i v hv=>?_⟩ ⟨by simp[hn];omega,fun i v hv=>?_⟩ h
  ·rw[List.getElem?_take] at hv
   split at hv
   ·rename_i hlt
    have:=hp i v hv
    rw[getD_toList]
    simpa[Array.getD_eq_getD_getElem?,Array.getElem?_append,show i<us.size by omega] using this
   ·cases hv
  ·rw[List.getElem?_drop] at hv
   have:=hp (n+i) v hv
   rw[getD_toList]
   simpa[Array.getD_eq_getD_getElem?,Array.getElem?_append,hn,show¬(us.size+i<us.size) by omega] using this
 ·cases h
end
end Go.Proofs.YtdccglkagfdooaaGreatDoor
