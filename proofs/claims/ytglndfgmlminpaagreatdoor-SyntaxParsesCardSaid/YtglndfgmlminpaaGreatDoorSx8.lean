/- Texts joined by pack.py: XSxL2 -/
import Derived.Test.YtglndfgmlminpaaGreatDoorSx7
namespace Go.Proofs.YtglndfgmlminpaaGreatDoor
open Go.RowKit
section
variable {P:Program} {T:Tab} {m m2:List (Option Bk)}
def Up (m m2:List (Option Bk)):Prop:=∀(n:Nat) (b:Bk),m[n]?=some (some b)→m2[n]?=some (some b)
theorem up_set {d:Nat} {b:Bk} (h:m[d]?=some none):Up m (m.set d (some b)):=by
 intro n b' hn
 by_cases hd:d=n
 ·subst hd;rw[h] at hn;cases hn
 ·rw[List.getElem?_set_ne hd];exact hn
inductive LeL:List V→List V→Prop
 |nil:LeL [] []
 |same (v:V) {l l':List V} (h:LeL l l'):LeL (v::l) (v::l')
 |less (v:V) {l l':List V} (h:LeL l l'):LeL (.un::l) (v::l')
theorem LeL.get {l l':List V} (h:LeL l l'):l.length=l'.length∧∀(i:Nat) (v:V),l[i]?=some v→l'[i]?=some v∨v= .un:=by
 induction h with
 |nil=>exact⟨rfl,fun i v h=> .inl h⟩
 |same v _ ih=>
  refine⟨by simp[ih.1],fun i u hu=>?_⟩
  cases i with
  |zero=>exact .inl hu
  |succ i=>exact ih.2 i u hu
 |less v _ ih=>
  refine⟨by simp[ih.1],fun i u hu=>?_⟩
  cases i with
  |zero=>simp at hu;exact .inr hu.symm
  |succ i=>exact ih.2 i u hu
def LeV (a b:V):Prop:=a=b∨a= .un∨∃cs cs',a= .ag cs∧b= .ag cs'∧LeL cs cs'
theorem LeV.rel {N:Names} {S:Sets} {w:World} {a b:V} {u:Value} (h:LeV a b) (hr:RelV N S w b u):RelV N S w a u:=by
 rcases h with rfl|rfl|⟨cs,cs',rfl,rfl,h⟩
 ·exact hr
 ·exact .un _
 ·cases hr with
  |ag _ us hl hc=>
   obtain⟨h1,h2⟩:=h.get
   refine .ag _ us (by rw[h1];exact hl) fun i v hv=>?_
   rcases h2 i v hv with h3|rfl
   ·exact hc i v h3
   ·exact .un _
theorem pass1_up (h:Up m m2) (v:V):v.pass1 m=v.pass1 m2∨v.pass1 m= .un:=by
 cases v<;>simp only[V.pass1]<;>try exact .inl trivial
 ·rename_i n k
  cases hm:m[n]? with
  |none=>exact .inr rfl
  |some x=>
   cases x with
   |none=>exact .inr rfl
   |some b=>rw[h n b hm];exact .inl rfl
 ·rename_i n k s lo hi
  cases hm:m[n]? with
  |none=>exact .inr rfl
  |some x=>
   cases x with
   |none=>exact .inr rfl
   |some b=>rw[h n b hm];exact .inl rfl
theorem pass_up (h:Up m m2) (v:V):LeV (v.pass m) (v.pass m2):=by
 unfold V.pass
 split
 ·rename_i cs
  refine .inr (.inr ⟨_,_,rfl,rfl,?_⟩)
  induction cs with
  |nil=>exact .nil
  |cons c cs ih=>
   simp only[List.map_cons]
   rcases pass1_up h c with e|e
   ·rw[e];exact .same _ ih
   ·rw[e];exact .less _ ih
 ·rcases pass1_up h v with e|e
  ·exact .inl e
  ·exact .inr (.inl e)
theorem zL_up:∀{l l':List V} (ns:List Nat),LeL l l'→LeL (zL l ns) (zL l' ns)
 |_,_,[],h=>by
  have e:∀l:List V,zL l []=l:=fun l=>by cases l<;>rfl
  rw[e,e];exact h
 |_,_,n::ns,.nil=> .nil
 |_,_,n::ns,.same v h=> .same _ (zL_up ns h)
 |_,_,n::ns,.less v h=> .less _ (zL_up ns h)
theorem z_up {a b:V} (ns:List Nat) (h:LeV a b):LeV (a.z ns) (b.z ns):=by
 rcases h with rfl|rfl|⟨cs,cs',rfl,rfl,h⟩
 ·exact .inl rfl
 ·refine .inr (.inl ?_)
  cases ns<;>rfl
 ·exact .inr (.inr ⟨_,_,rfl,rfl,zL_up ns h⟩)
inductive LeA:List V→List V→Prop
 |nil:LeA [] []
 |cons {a b:V} {l l':List V} (h1:LeV a b) (h:LeA l l'):LeA (a::l) (b::l')
theorem LeA.refl:∀l:List V,LeA l l
 |[]=> .nil
 |_::l=> .cons (.inl rfl) (LeA.refl l)
theorem LeA.rel {N:Names} {S:Sets} {w:World} {a b:List V} {us:List Value} (h:LeA a b) (hr:RelL N S w b us):RelL N S w a us:=by
 induction h generalizing us with
 |nil=>exact hr
 |cons h1 _ ih=>
  obtain⟨h2,h3⟩:=hr
  cases us with
  |nil=>cases h2
  |cons u us=>
   obtain⟨h4,h5⟩:=ih (us:=us) ⟨by simpa using h2,fun i v hv=>by simpa using h3 (i+1) v (by simpa using hv)⟩
   refine⟨by simp[h4],fun i v hv=>?_⟩
   cases i with
   |zero=>simp at hv;subst hv;exact h1.rel (by simpa using h3 0 _ rfl)
   |succ i=>simpa using h5 i v (by simpa using hv)
theorem passA_up (h:Up m m2) (E:Operand→V) (l:List Operand):∀tys:List TypeId,LeA (passA T m E l tys) (passA T m2 E l tys):=by
 induction l with
 |nil=>intro tys;exact LeA.refl _
 |cons x l ih=>
  intro tys
  cases tys with
  |nil=>exact .cons (pass_up h _) (ih _)
  |cons ty tys=>exact .cons (z_up _ (pass_up h _)) (ih _)
theorem DCalls.le {f:FuncId} {args args':List V} {res:V} (h:DCalls P f args res) (hl:LeA args args'):DCalls P f args' res:=
 ⟨h.1,fun w vs hi hv=>h.2 w vs hi (hl.rel hv)⟩
theorem callK_up {f:FuncId} {args args':List V} {K:V→List (Option Bk)→Prop} (hl:LeA args args') (h:callK P f args m fun v _=>K v m2):callK P f args' m2 K:=by
 obtain⟨res,h1,h2⟩:=h
 exact⟨res,h1.le hl,h2⟩
theorem aCore_up (hup:Up m m2) {o:Oper} {E:Operand→V} (hn:Op.noeff T.fm o.op=true) {K:V→List (Option Bk)→Prop} (h:aCore P T o E m fun v _=>K v m2):aCore P T o E m2 K:=by
 cases hno:Op.nomem T.fm o.op with
 |true=>rw[aCore_nomem hno (m:=m2) (m2:=m)];exact h
 |false=>
 unfold aCore at h⊢
 cases ho:o.op<;>rw[ho] at hn hno<;>simp only[ho] at h⊢ <;>simp only[Op.noeff,Op.nomem] at hn hno<;>try(first|(exact absurd hn (by decide))|(exact absurd hno (by decide)))
 case convert s d x=>rw[hn] at hno;cases hno
 case load ty x=>
  split at h<;>try exact h.elim
  split at h<;>try exact h.elim
  ·split at h<;>try exact h.elim
   rename_i hm
   rw[hup _ _ hm]
   exact h
  ·exact h
  ·split at h<;>try exact h.elim
   rename_i hm
   rw[hup _ _ hm]
   exact h
  all_goals exact h
 case fieldAddr s x f=>
  split at h<;>try exact h.elim
  split at h<;>try exact h.elim
  split at h<;>try exact h.elim
  split at h<;>try exact h.elim
  split at h<;>try exact h.elim
  ·rename_i e1 _ _ e2;rw[if_neg (by assumption)];exact h
  ·rw[if_neg (by assumption)];exact h
  ·rw[if_neg (by assumption)]
   split at h<;>try exact h.elim
   rename_i hm
   rw[hup _ _ hm]
   exact h
  ·rw[if_neg (by assumption)];exact h
 case indexAddr ty x i=>
  split at h<;>try exact h.elim
  split at h<;>try exact h.elim
  ·exact h
  ·split at h<;>try exact h.elim
   rename_i hm
   rw[hup _ _ hm]
   exact h
  ·split at h<;>try exact h.elim
   rename_i hm
   rw[hup _ _ hm]
   exact h
  ·exact h
 case slice ty x lo hi mx=>
  cases mx
  rotate_left
  ·cases hn
  dsimp only at h⊢
  split at h<;>try exact h.elim
  ·exact h
  ·split at h<;>try exact h.elim
   ·exact h
   ·split at h<;>try exact h.elim
    rename_i hm
    rw[hup _ _ hm]
    exact h
   ·split at h<;>try exact h.elim
    rename_i hm
    rw[hup _ _ hm]
    exact h
 case makeFunc fn fst cap=>
  cases fn<;>first|(cases hno;done)|(cases hn;done)
 case call c=>
  cases hc:c.callee<;>rw[hc] at hn hno<;>simp only[hc] at h⊢ <;>try(cases hn;done)
  case value f=>
   cases f<;>(try simp only[] at h⊢)<;>try(cases hn;done)
   rename_i f
   cases hF:T.fm f with
   |some b=>simp only[hF] at hn;cases hn
   |none=>
    simp only[hF] at h⊢
    rw[passL_eq] at h⊢
    exact callK_up (passA_up hup _ _ _) h
  case builtin b=>
   cases b<;>simp only[] at h hn hno⊢ <;>try(first|exact h.elim|(exact absurd hn (by decide))|(exact absurd hno (by decide)))
   split at h<;>try exact h.elim
   split at h<;>try exact h.elim
   ·exact h
   ·unfold lenK at h⊢
    split at h<;>try exact h.elim
    ·exact h
    ·exact h
    ·split at h<;>try exact h.elim
     rename_i hm
     rw[hup _ _ hm]
     exact h
    ·split at h<;>try exact h.elim
     rename_i hm
     rw[hup _ _ hm]
     exact h
theorem elemsD_any {sz:Nat} {E:Operand→V} (ps:List (Nat×Operand)):∀(xs:List (List D)) (f:Bool) (F:List (List D)→Bool→Prop),elemsD sz E xs f ps F→∃ys g,F ys g:=by
 induction ps with
 |nil=>intro xs f F h;exact⟨xs,f,h⟩
 |cons p ps ih=>
  intro xs f F h
  obtain⟨i,x⟩:=p
  simp only[elemsD,forceD_eq,setK_eq] at h
  split at h
  ·split at h
   ·split at h<;>exact ih _ _ _ h
   ·exact h.elim
  ·exact h.elim
theorem aCore_fresh {o:Oper} {E:Operand→V} (hf:Op.fresh T.fm o.op=true) {v:V} {m':List (Option Bk)} (h:aCore P T o E m fun v1 m1=>v1=v∧m1=m'):Up m m':=by
 have key:∀{dst:Option Tmp} {b:Bk} {g:Nat→V},(newK dst b g m fun v1 m1=>v1=v∧m1=m')→Up m m':=by
  intro dst b g h
  unfold newK at h
  split at h
  ·exact h.elim
  ·split at h
   ·rename_i hd
    rw[setK_eq] at h
    rw[←h.2]
    exact up_set hd
   ·exact h.elim
 unfold aCore at h
 cases ho:o.op<;>rw[ho] at hf<;>simp only[ho] at h<;>simp only[Op.fresh] at hf<;>try(cases hf;done)
 case alloc ty=>
  split at h
  ·split at h<;>exact key h
  ·exact h.elim
 case box ty x=>
  simp only[forceL_eq] at h
  split at h
  ·exact h.elim
  ·split at h<;>exact key h
 case buildSlice ty n ps=>
  rw[Option.isNone_iff_eq_none] at hf
  simp only[hf] at h
  split at h<;>try exact h.elim
  split at h<;>try exact h.elim
  split at h<;>try exact h.elim
  obtain⟨ys,g,h⟩:=elemsD_any _ _ _ _ h
  exact key h
end
end Go.Proofs.YtglndfgmlminpaaGreatDoor
