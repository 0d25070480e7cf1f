/- Texts joined by pack.py: XHxA XSxAs XSyC XSyP0 XSyPI -/
import Derived.Test.YtdccglkagfdooaaGreatDoorBz14
import Derived.Test.YtdccglkagfdooaaGreatDoorBz15
import Derived.Test.YtdccglkagfdooaaGreatDoorBz13
import Derived.Test.YtdccglkagfdooaaGreatDoorBz11
import Derived.Lib.AppendStr
set_option maxHeartbeats 4000000
set_option maxRecDepth 100000
namespace Go.Proofs.YtdccglkagfdooaaGreatDoor
open Go.RowKit
theorem pow16_any (w:World):Calls Tryz.prog 144 #[.int .i64 16] w fun e w'=>e= .returned (.bool true)∧w'=w:=by
 go_enter Tryz.func144,Tryz.ntmps144
 go_wp2
 all_goals
  go_ret
  exact⟨rfl,rfl⟩
theorem key16:IntKind.u64.wrap (bits BinOp.and IntKind.u64 16 (IntKind.u64.wrap (-16))*285870213051353865) / 288230376151711744=15:=by decide+kernel
theorem tz64_any (w:World) (hc:w.cell? ⟨8,15,none⟩=some (.int .u8 4)):Calls Tryz.prog 176 #[.int .u64 16] w fun e w'=>e= .returned (.int .i64 4)∧w'=w:=by
 go_enter Tryz.func176,Tryz.ntmps176
 go_wp2_with (simp only[key16])
 all_goals
  go_ret
  exact⟨rfl,rfl⟩
theorem tz_any (w:World) (hc:w.cell? ⟨8,15,none⟩=some (.int .u8 4)):Calls Tryz.prog 145 #[.int .u64 16] w fun e w'=>e= .returned (.int .i64 4)∧w'=w:=by
 go_enter Tryz.func145,Tryz.ntmps145
 go_wp2_with (go_at_call 176;refine(tz64_any _ hc).mono ?_;rintro e w' ⟨rfl,rfl⟩)
 all_goals
  go_ret
  exact⟨rfl,rfl⟩
def digH (n:Nat):UInt8:=if n<10 then UInt8.ofNat (48+n) else UInt8.ofNat (87+n)
def hexF:Nat→Nat→Bs→Bs
 |0,u,acc=>digH u::acc
 |f+1,u,acc=>if u<16 then digH u::acc else hexF f (u / 16) (digH (u % 16)::acc)
def hexB (u:Nat):Bs:=hexF 16 u []
theorem digs_get (n:Nat) (h:n<(⟨#[48,49,50,51,52,53,54,55,56,57,97,98,99,100,101,102,103,104,105,106,107,108,109,110,111,112,113,114,115,116,117,118,119,120,121,122]⟩:ByteArray).size):(⟨#[48,49,50,51,52,53,54,55,56,57,97,98,99,100,101,102,103,104,105,106,107,108,109,110,111,112,113,114,115,116,117,118,119,120,121,122]⟩:ByteArray)[n]=digH n:=by
 have:∀n,(h:n<(⟨#[48,49,50,51,52,53,54,55,56,57,97,98,99,100,101,102,103,104,105,106,107,108,109,110,111,112,113,114,115,116,117,118,119,120,121,122]⟩:ByteArray).size)→(⟨#[48,49,50,51,52,53,54,55,56,57,97,98,99,100,101,102,103,104,105,106,107,108,109,110,111,112,113,114,115,116,117,118,119,120,121,122]⟩:ByteArray)[n]=digH n:=by decide+kernel
 exact this n h
theorem and15 (v:Nat) (hv:v<18446744073709551616):bits BinOp.and IntKind.u64 (v:Int) 15=((v % 16:Nat):Int):=by
 have h1:(BitVec.ofInt 64 (v:Int)).toNat=v:=by
  rw[BitVec.ofInt_natCast,BitVec.toNat_ofNat];exact Nat.mod_eq_of_lt (by omega)
 have h2:(BitVec.ofInt 64 (15:Int)).toNat=15:=by decide
 show IntKind.u64.wrap ((BitVec.ofInt 64 (v:Int)&&& BitVec.ofInt 64 (15:Int)).toNat:Int)=_
 rw[BitVec.toNat_and,h1,h2,IntKind.wrap_u64,show v&&& 15=v % 16 from Nat.and_two_pow_sub_one_eq_mod v 4]
 omega
structure HexSt (u v i:Nat) (acc:Bs) (cs:Array Value):Prop where
 size:cs.size=65
 lo:49<i
 hi:i≤65
 lt:v<16 ^ (i - 49)
 len:acc.length=65 - i
 cells:∀j (hj:j<acc.length),cs[i+j]?=some (.int .u8 (acc[j].toNat:Int))
 res:hexF (i - 49) v acc=hexB u
theorem HexSt.put {u v i:Nat} {acc:Bs} {cs:Array Value} (h:HexSt u v i acc cs) (d:UInt8):∀j (hj:j<(d::acc).length),(cs.setIfInBounds (i - 1) (.int .u8 (d.toNat:Int)))[i - 1+j]?=some (.int .u8 ((d::acc)[j].toNat:Int)):=by
 intro j hj
 have h1:=h.size
 have h2:=h.lo
 have h3:=h.hi
 cases j with
 |zero=>
  rw[Nat.add_zero,Array.getElem?_setIfInBounds_self_of_lt (by omega)]
  rfl
 |succ j=>
  have hj':j<acc.length:=by simpa using hj
  rw[Array.getElem?_setIfInBounds_ne (by omega),show i - 1+(j+1)=i+j by omega,h.cells j hj']
  rfl
theorem HexSt.step {u v i:Nat} {acc:Bs} {cs:Array Value} (h:HexSt u v i acc cs) (hv:16≤v):HexSt u (v / 16) (i - 1) (digH (v % 16)::acc) (cs.setIfInBounds (i - 1) (.int .u8 ((digH (v % 16)).toNat:Int))):=by
 have h2:=h.lo
 have h3:=h.hi
 have hl:=h.lt
 obtain⟨k,rfl⟩:∃k,i=k+50:=⟨i - 50,by omega⟩
 have hk:k≠0:=by rintro rfl;simp at hl;omega
 refine⟨by rw[Array.size_setIfInBounds];exact h.size,by omega,by omega,?_,by have:=h.len;simp;omega,h.put _,?_⟩
 ·rw[show k+50 - 1 - 49=k by omega]
  rw[show k+50 - 49=k+1 by omega,Nat.pow_succ] at hl
  omega
 ·have:=h.res
  rw[show k+50 - 49=k+1 by omega] at this
  rw[show k+50 - 1 - 49=k by omega,←this]
  simp only[hexF]
  rw[if_neg (by omega)]
theorem HexSt.fin {u v i:Nat} {acc:Bs} {cs:Array Value} (h:HexSt u v i acc cs) (hv:v<16):hexB u=digH v::acc:=by
 have h2:=h.lo
 obtain⟨k,rfl⟩:∃k,i=k+50:=⟨i - 50,by omega⟩
 have:=h.res
 rw[show k+50 - 49=k+1 by omega] at this
 rw[←this]
 simp only[hexF]
 rw[if_pos hv]
theorem fmtb_any (dst:Value) (u:Nat) (hu:u<18446744073709551616) (w:World) (hg:ginv w):
  Calls Tryz.prog 103 #[dst,.int .u64 u,.int .i64 16,.bool false,.bool false] w fun e w'=>e= .returned (.tuple #[.slice none 0 0,.string (mk (hexB u))])∧Below w.heap.size w w':=by
 have hc:∀o,(w.alloc o).cell? ⟨8,15,none⟩=some (.int .u8 4):=by
  intro o
  obtain⟨h1,h2⟩:=ginv_cells hg (g:=8) rfl
  have h3:=h2 15 (.int .u8 4) rfl
  unfold World.cell? at h3⊢
  rw[RowKit.Below.heap_alloc w o _ h1]
  exact h3
 go_enter Tryz.func103,Tryz.ntmps103
 go_wp2_with (first
  |(go_at_call 144;refine(pow16_any _).mono ?_;rintro e w' ⟨rfl,rfl⟩)
  |(go_at_call 145;refine(tz_any _ (hc _)).mono ?_;rintro e w' ⟨rfl,rfl⟩))
 go_loopw [1,13] (fun vu vi wr=>∃(v i:Nat) (acc:Bs) (cs:Array Value),vu= .int .u64 v∧vi= .int .i64 i∧wr=w.alloc (.cells cs 210)∧HexSt u v i acc cs) (fun _ vi _=>(match vi with| .int _ n=>n.toNat|_=>0))
 case atStart=>exact⟨u,65,[],_,rfl,rfl,rfl,⟨by kernel_rfl,by decide,by decide,hu,rfl,fun j hj=>absurd hj (by simp),rfl⟩⟩
 case round=>
  obtain⟨v,i,acc,cs,rfl,rfl,rfl,hst⟩:=hrel
  have h1:=hst.size
  have h2:=hst.lo
  have h3:=hst.hi
  have Hst:=Lib.hid hst;clear hst
  have hidx:((i:Int) - 1).toNat=i - 1:=by omega
  have hcell:∃x,cs[i - 1]?=some x:=⟨cs[i - 1],Array.getElem?_eq_getElem (by omega)⟩
  obtain⟨x,hx⟩:=hcell
  have hv64:v<18446744073709551616:=by
   have h4:=Hst.out.lt
   have h5:=Nat.pow_le_pow_right (n:=16) (by decide) (show i - 49≤16 by omega)
   have h6:(16:Nat) ^ 16=18446744073709551616:=by decide+kernel
   omega
  have ha:=and15 v hv64
  have hm:v % 16<16:=Nat.mod_lt _ (by decide)
  by_cases hv:16≤v
  ·generalize hq:v % 16=q at ha hm
   go_wp2_with (simp only[ha])
   ·simp only[digs_get]
    refine⟨⟨v / 16,i - 1,digH q::acc,_,?_,?_,rfl,?_⟩,?_⟩
    ·congr 1
    ·congr 1;omega
    ·rw[←hq];exact Hst.out.step (by omega)
    ·omega
  ·have hv:v<16:=by omega
   have hfin:=Hst.out.fin hv
   have hput:=Hst.out.put (digH v)
   have hlen:=Hst.out.len
   rw[←hfin] at hput
   have hhl:(hexB u).length=66 - i:=by rw[hfin];simp;omega
   have hal:Tryz.prog.arrayLen 210=65:=by kernel_rfl
   have hsl:∀W,(Instr.sliceAt 210 (.pointer (some ⟨w.heap.size,0,none⟩)) (some (.int .i64 ((i:Int) - 1))) none none).run Tryz.prog W= .ok (.slice (some ⟨w.heap.size,i - 1,none⟩) (66 - i) (66 - i)) W:=fun W=>by
    rw[run_sliceAt_array_l W 210 ⟨w.heap.size,0,none⟩ (by kernel_rfl) .i64 ((i:Int) - 1) (by omega) (by rw[hal];omega)]
    go_simp
    omega
   have hcv:=run_convert_bytes_back (P:=Tryz.prog) (w.alloc (.cells (cs.setIfInBounds (i - 1) (.int .u8 ((digH v).toNat:Int))) 210)) 67 9 5 ⟨w.heap.size,i - 1,none⟩ (66 - i) (hexB u) Tryz.underlying67 Tryz.underlying5 Tryz.underlying9 (fun j hj=>by
    rw[Lib.add_plain,World.cell?_alloc_new]
    exact hput j hj)
   rw[hhl] at hcv
   have hd:=digs_get v (by rw[show(⟨#[48,49,50,51,52,53,54,55,56,57,97,98,99,100,101,102,103,104,105,106,107,108,109,110,111,112,113,114,115,116,117,118,119,120,121,122]⟩:ByteArray).size=36 from rfl];omega)
   clear hput hhl hlen hfin
   go_wp2
   all_goals
    go_ret2
    exact⟨rfl,(Below.refl _ _).alloc (Nat.le_refl _) _⟩
theorem x_fmtb (u:Nat) (hu:u<18446744073709551616):DCalls Tryz.prog 103 [.sl true 1 [],.cv (.int .u64 u),int 16,boo false,boo false] (.tu [.cv (.slice none 0 0),bstr (hexB u)]):=by
 refine⟨⟨_,Tryz.func103,by kernel_rfl,by kernel_rfl⟩,fun w vs hi hvs=>?_⟩
 obtain⟨v0,v1,v2,v3,v4,rfl⟩:∃v0 v1 v2 v3 v4,vs=[v0,v1,v2,v3,v4]:=by
  have:=hvs.1
  match vs,this with
  |[a,b,c,d,e],_=>exact⟨a,b,c,d,e,rfl⟩
 have r1:=hvs.2 1 _ rfl
 have r2:=hvs.2 2 _ rfl
 have r3:=hvs.2 3 _ rfl
 have r4:=hvs.2 4 _ rfl
 simp only[List.getD_eq_getElem?_getD,List.getElem?_cons_zero,List.getElem?_cons_succ,Option.getD_some] at r1 r2 r3 r4
 cases r1;cases r2;cases r3;cases r4
 refine(fmtb_any v0 u hu w hi).mono ?_
 rintro e w' ⟨rfl,hb⟩
 exact⟨_,rfl,.tu _ _ (by simp) (by
  intro i x hx
  match i,hx with
  |0,hx=>cases hx;exact .cv _
  |1,hx=>cases hx;exact .cv _),hb⟩
theorem x_fmtI (u:Nat) (hu:u<18446744073709551616):DCalls Tryz.prog 68 [.cv (.int .u64 u),int 16] (bstr (hexB u)):=by
 refine sx Tryz.func68 (by kernel_rfl) ?_
 conv=>whnf
 refine known false rfl ?_
 conv=>whnf
 refine⟨_,x_fmtb u hu,?_⟩
 (conv=>whnf)<;>rfl
theorem x_fmtU (u:Nat) (hu:u<18446744073709551616):DCalls Tryz.prog 46 [.cv (.int .u64 u),int 16] (bstr (hexB u)):=by
 refine sx Tryz.func46 (by kernel_rfl) ?_
 conv=>whnf
 refine⟨_,x_fmtI u hu,?_⟩
 (conv=>whnf)<;>rfl
end Go.Proofs.YtdccglkagfdooaaGreatDoor
namespace Go.Proofs.YtdccglkagfdooaaGreatDoor
open Go.RowKit
section
variable {P:Program} {o:Oper} {E:Operand→V} {m:List (Option Bk)} {x y:Operand}
theorem ot_appendS {n k:Nat} {f:Bool} {l:List UInt8} {s:ByteArray} {c:Call} {ty tu e:TypeId} (ho:o.op= .call c) (hc:c.callee= .builtin .append) (hargs:c.args.toList=[x,y]) (htys:c.argTypes.toList=[ty,tu])
  (hx:E x= .ow n k) (hy:E y= .cv (.string s)) (hm:m[n]?=some (some (.row k e 1 f (l.map byteD))))
  (ht:P.underlying ty=some (.slice e)) (hu:P.underlying tu=some .string) (hi:(P.info? e).map (fun i=>(i.size,i.bytes,i.zero))=some (1,1,some (.int .u8 0))) (hb:l.length+s.size≤140737488355328):
  OpTr P o E m (.ow n (k+1)) (m.set n (some (.row (k+1) e 1 f ((l++s.data.toList).map byteD)))):=by
 intro B w0 N S t a w hsat hr
 obtain⟨i,hi,hie⟩:=Option.map_eq_some_iff.1 hi
 simp only[Prod.mk.injEq] at hie
 obtain⟨hsz,hby,hz⟩:=hie
 have e1:=arr2 hargs
 have e2:=arr2 htys
 have hrx:=hr x (by rw[ho];simp[Op.operands,Call.operands,e1])
 have hry:=hr y (by rw[ho];simp[Op.operands,Call.operands,e1])
 rw[hx] at hrx
 rw[hy] at hry
 generalize hux:a.eval x=u at hrx
 generalize huy:a.eval y=uy at hry
 cases hry
 cases hrx
 rename_i hu1 hn
 obtain⟨k0,v,hn,hk,he⟩:=hn
 obtain⟨v2,us,b1,b2,b3,b4,b5,b6⟩:=hsat.blk n _ hm
 rw[hn] at b1;cases b1
 have hu0:u=v:=by
  have h0:=he rfl
  obtain⟨A,c,h⟩:=own_parts b2
  rw[h] at h0⊢
  exact h0
 subst hu0
 rw[List.length_map] at b2
 obtain⟨v',w',hrun,hown,hgr,_⟩:=Lib.run_append_own_string (P:=P) w 0 ty tu o.type e i ht hu hi hz hsz hby u l.length us b2 s (by simp only[maxLen];omega) hb (Nat.zero_le _)
 have hvs0:∃A l c,u= .slice A l c:=by obtain⟨A,c,h⟩:=own_parts b2;exact⟨_,_,_,h⟩
 have hvs:∃A l c,v'= .slice A l c:=by obtain⟨A,c,h⟩:=own_parts hown;exact⟨_,_,_,h⟩
 have hv1:v'.oneCell'=true:=by obtain⟨A,l,c,rfl⟩:=hvs;rfl
 have hat:∀g,At v' g→w.heap.size≤g∨At u g:=by
  intro g hg
  rcases b2.2 with⟨rfl,hl0⟩|⟨g0,cap0,cu,rfl,hbg,hg0,hnc,hcm,hcs,htake⟩
  ·have hl:us=[]:=List.eq_nil_of_length_eq_zero (by have:=b2.1;omega)
   subst hl
   have hown2:w.ownsRow w.heap.size e 1 (.slice none 0 0) l.length []:=by rw[hl0];exact World.ownsRow_nil w _ e 1
   obtain⟨v3,w3,hr3,hown3,_⟩:=Lib.run_append_own_string (P:=P) w w.heap.size ty tu o.type e i ht hu hi hz hsz hby _ l.length [] hown2 s (by simp only[maxLen];omega) hb (Nat.le_refl _)
   rw[hrun] at hr3;cases hr3
   rcases hown3.2 with⟨rfl,_⟩|⟨g1,cap1,cu1,rfl,hb1,_⟩
   ·simp[At,at1] at hg
   ·simp[At,at1] at hg;subst hg;exact .inl hb1
  ·by_cases hroom:l.length+s.size≤cap0
   ·have hcs':cu.size=cap0:=by simpa using hcs
    have hr2:=Lib.run_append_room_string (P:=P) w ty tu o.type e i ht hu hi hsz g0 l.length cap0 cu hg0 s hroom (by omega)
    rw[hrun] at hr2;cases hr2
    exact .inr hg
   ·have holds:∀j u,us[j]?=some u→w.cell? ((⟨g0,0,none⟩:Addr).add j)=some u:=b2.cells (g:=g0) rfl
    have hxl:us.length=l.length:=by simpa using b2.1
    have hr2:=Lib.run_append_grow_string (P:=P) w ty tu o.type e i (.int .u8 0) ht hu hi hz ⟨g0,0,none⟩ l.length cap0 us (by rw[hsz];simpa using hxl) holds s (by omega) (by omega) (by rw[hby];exact growslice_fits (by omega) (by omega))
    rw[hrun] at hr2;cases hr2
    simp[At,at1] at hg;subst hg;exact .inl (Nat.le_refl _)
 obtain⟨N',g1,g2,g3⟩:=hsat.set (w':=w') (d:=n) (k:=k+1) (v:=v') (b:= .row (k+1) e 1 f ((l++s.data.toList).map byteD)) (lt_of_get hm)
  (fun k0 v0 h=>by rw[hn] at h;cases h;exact .inr (.inl ⟨hvs0,by omega⟩))
  (hsat.low.grown hgr hsat.base (fun q hq=>(hsat.own n _ _ q hn ((at_own hvs0).1 hq)).1)) hgr.size (fun g hg hk=>hgr.block g hg (fun e=>hk _ _ hn ((at_own hvs0).1 e.symm)))
  (fun g hg=>by
   have hlt:=hown.lt g ((at_own hvs).2 hg)
   refine⟨hlt.2,?_⟩
   rcases hat g hg with h|h
   ·exact .inl h
   ·exact .inr ⟨_,_,hn,h⟩)
  (fun N' g1 g2 g3=>⟨v',us++Lib.strCells s,g1,by rw[List.length_map,List.length_append];exact hown,(fun x hx=>by
    obtain⟨c,_,rfl⟩:=List.mem_map.1 hx;rfl),by omega,(fun i' j' d' hd'=>by
   have hul:us.length=l.length:=by simpa using b2.1
   rw[List.getElem?_map] at hd'
   cases hq:(l++s.data.toList)[i']? with
   |none=>rw[hq] at hd';cases hd'
   |some c=>
    rw[hq] at hd'
    cases j' with
    |succ j'=>simp[byteD] at hd'
    |zero=>
     obtain rfl:D.cv (.int .u8 (c.toNat:Nat))=d':=by simpa[byteD] using hd'
     rw[List.getElem?_append] at hq
     split at hq
     ·rename_i hlt
      obtain⟨u',hu1',hu2'⟩:=b5 i' 0 (.cv (.int .u8 (c.toNat:Nat))) (by rw[List.getElem?_map,hq];rfl)
      refine⟨u',?_,g3 _ _ _ hu2'⟩
      rw[List.getElem?_append_left (lt_of_get hu1')];exact hu1'
     ·rename_i hlt
      refine⟨.int .u8 (c.toNat:Nat),?_,.cv _ rfl⟩
      rw[List.getElem?_append_right (by omega),hul,show i'*1+0 - l.length=i' - l.length by omega]
      simp[Lib.strCells,hq]),fun e g hg=>by
   rcases hat g hg with h|h
   ·exact Nat.le_trans hsat.size h
   ·exact b6 e g h⟩)
 refine opOk_val (u:=v') (w':=w') ?_ ⟨N',S,g3,.ow n (k+1) _ hv1 ⟨k+1,v',g1,Nat.le_refl _,fun _=>by obtain⟨A,l,c,h⟩:=hvs;rw[h];rfl⟩⟩
 unfold execOp
 simp only[ho]
 simp[resolve,hc,e1,e2,invoke,builtin,hux,huy,hrun]
theorem ot_slice3 {T:Tab} (hT:TOk P T) {ty e n k Er sz sz0 by_:Nat} {ag:Bool} {z:List Value} {ie:TI} {xs:List (List D)} {hi mx:Operand}
  (ho:o.op= .slice ty x none (some hi) (some mx)) (hti:T ty=some ⟨sz0,by_,ag,z,.slice e⟩) (hie:T e=some ie) (hx:E x= .ow n k) (hh:E hi= .cv (.int .i64 (xs.length:Nat))) (hmx:E mx= .cv (.int .i64 (xs.length:Nat)))
  (hm:m[n]?=some (some (.row k Er sz true xs))):OpTr P o E m (.sl true sz xs) (m.set n (some (.row (k+1) Er sz true []))):=by
 intro B w0 N S t a w hsat hr
 have hrx:=hr x (by rw[ho];simp[Op.operands])
 have hrh:=hr hi (by rw[ho];simp[Op.operands])
 have hrm:=hr mx (by rw[ho];simp[Op.operands])
 rw[hx] at hrx;rw[hh] at hrh;rw[hmx] at hrm
 obtain⟨N1,S1,h3,h4,h5⟩:=frz_sound hsat (us:=[a.eval x]) (l:=[.ow n k]) ⟨rfl,fun i v hv=>by
  cases i with
  |zero=>simp at hv;subst hv;simpa using hrx
  |succ i=>simp at hv⟩ (show frz m [.ow n k]=some ([.sl true sz xs],m.set n (some (.row (k+1) Er sz true []))) by simp[frz,frz1,hm])
 have hv':RelV N1 S1 w (.sl true sz xs) (a.eval x):=by simpa using h4.2 0 _ rfl
 have hsl:=hT.kd_slice hti rfl
 generalize hux:a.eval x=u at hv'
 generalize huh:a.eval hi=uh at hrh
 generalize hum:a.eval mx=um at hrm
 cases hrh;cases hrm
 cases hv'
 rename_i hd
 have hbound:∀{c:BoundsCode} {y:Nat},xs.length≤y→(Instr.sliceBound (.int .i64 (xs.length:Nat)) y c).run P w= .ok xs.length w:=by
  intro c y hy
  have a1:(0:Int)≤(xs.length:Nat):=by omega
  have a2:((xs.length:Nat):Int)≤(y:Int):=by omega
  simp[Instr.sliceBound,asIntOf,a1,a2]
 have fin:∀{A:Option Addr} {cap:Nat},u= .slice A xs.length cap→xs.length≤cap→RelD (S1 true) w (.sl sz xs) (.slice A xs.length xs.length)→OpOk P o a w fun u w'=>∃N' S',Sat B w0 N' S' t (m.set n (some (.row (k+1) Er sz true []))) a w'∧RelV N' S' w' (.sl true sz xs) u:=by
  intro A cap hu hcap hrel
  refine opOk_val (u:= .slice A xs.length xs.length) (w':=w) ?_ ⟨N1,S1,h3,.sl _ _ _ _ hrel⟩
  unfold execOp
  simp only[ho]
  refine run_v ?_
  rw[hux,hu]
  have hA:A.map (fun b=>b.add 0)=A:=by cases A with
   |none=>rfl
   |some b=>obtain⟨b,o,q⟩:=b;simp[Addr.add]
  simp[Instr.sliceAt,run_underlying hsl,Instr.slice,Instr.sliceBounds,huh,hum,hbound hcap,hbound (Nat.le_refl _),hT.size hie,hA]
 cases hd with
 |nil=>exact fin rfl (Nat.zero_le _) (.nil _ _ _)
 |sl _ _ b o' cap q hS hx' hcap hc hdd=>exact fin rfl hcap (.sl _ _ b o' _ q hS hx' (Nat.le_refl _) hc hdd)
end
end Go.Proofs.YtdccglkagfdooaaGreatDoor
namespace Go.Proofs.YtdccglkagfdooaaGreatDoor
open Go.RowKit
def idxS (s:Bs):List Bs→Nat→Int
 |[],_=> -1
 |k::r,i=>if s==k then i else idxS s r (i+1)
theorem idxS_cons (s k:Bs) (r:List Bs) (i:Nat):idxS s (k::r) i=if s==k then(i:Int) else idxS s r (i+1):=rfl
theorem idxS_has (s:Bs):∀(l:List Bs) (i:Nat),decide (idxS s l i≥0)=l.contains s
 |[],i=>rfl
 |k::r,i=>by
  rw[idxS_cons,List.contains_cons]
  by_cases h:(s==k)=true
  ·rw[if_pos h,h];simp
  ·rw[if_neg h,idxS_has s r (i+1)];simp at h;simp[h]
theorem x_indexS (l:List Bs) (s:Bs) (hn:l.length≤8796093022207):DCalls Tryz.prog 90 [strsV l,bstr s] (int (idxS s l 0)):=by
 refine sx Tryz.func90 (by kernel_rfl) ?_
 conv=>whnf
 refine⟨[],Nat,fun k=>[(8,int k)],fun _=>[],fun k=>k≤l.length∧idxS s (l.drop k) k=idxS s l 0,fun k=>l.length - k,0,⟨Nat.zero_le _,rfl⟩,?_,?_⟩
 ·refine⟨rfl,?_,?_⟩<;>repeat' (first|exact trivial|exact rfl|refine and_rfl ?_|refine and_two ?_ ?_)
 rintro k ⟨hk1,hk⟩
 conv=>whnf
 rintro(_|_) h2
 ·have h2:l.length≤k:=by simp at h2;omega
  rw[List.drop_eq_nil_of_le h2] at hk
  rw[←hk]
  (conv=>whnf)<;>rfl
 have h2:k<l.length:=by simp at h2;omega
 have hw:IntKind.i64.wrap (((k:Nat):Int)+1)=((k+1:Nat):Int):=wrap_succ (by omega)
 rw[List.drop_eq_getElem_cons h2,idxS_cons] at hk
 conv=>whnf
 refine⟨by omega,_,get_map strD h2,?_⟩
 conv=>whnf
 rintro(_|_) h3
 ·have h3:(s==l[k])=false:=by rw[←sEq_mk];exact h3
  rw[h3,if_neg (by simp)] at hk
  conv=>whnf
  refine⟨k+1,⟨h2,hk⟩,by dsimp only;omega,?_⟩
  refine⟨rfl,?_,?_⟩<;>repeat' (first|exact trivial|exact rfl|refine and_rfl ?_|refine and_val hw ?_|refine and_two ?_ ?_)
 ·have h3:(s==l[k])=true:=by rw[←sEq_mk];exact h3
  rw[h3,if_pos rfl] at hk
  rw[←hk]
  (conv=>whnf)<;>rfl
theorem x_containsS (l:List Bs) (s:Bs) (hn:l.length≤8796093022207):DCalls Tryz.prog 62 [strsV l,bstr s] (boo (l.contains s)):=by
 rw[←idxS_has s l 0]
 refine sx Tryz.func62 (by kernel_rfl) ?_
 conv=>whnf
 refine⟨_,x_indexS l s hn,?_⟩
 (conv=>whnf)<;>rfl
end Go.Proofs.YtdccglkagfdooaaGreatDoor
namespace Go.Proofs.YtdccglkagfdooaaGreatDoor
structure Eats (r r1:List Tok):Prop where
 lt:r1.length<r.length
 suf:r1<:+r
theorem Eats.trans {a b c:List Tok} (h:Eats a b) (k:Eats b c):Eats a c:=⟨Nat.lt_trans k.lt h.lt,k.suf.trans h.suf⟩
theorem Eats.tail {a b:List Tok} (h:Eats a b):Eats a b.tail:=⟨by have:=h.lt;simp;omega,(List.tail_suffix b).trans h.suf⟩
theorem Eats.of_tail {r:List Tok} (h:r≠[]):Eats r r.tail:=by
 cases r with
 |nil=>exact absurd rfl h
 |cons t r=>exact⟨by simp,List.tail_suffix _⟩
theorem isTk_ne {k:Int} {s:Bs} {r:List Tok} (h:isTk k s r=true):r≠[]:=by rintro rfl;cases h
theorem Eats.of_tk {k:Int} {s:Bs} {r:List Tok} (h:isTk k s r=true):Eats r r.tail:= .of_tail (isTk_ne h)
def EatsP (p:Pars):Prop:=∀{r ns i r1 ns1},p r ns= .ok (i,r1,ns1)→Eats r r1
theorem mustT_eats {e k:Int} {s:Bs} {r r1:List Tok} (h:mustT e k s r= .ok r1):Eats r r1:=by
 unfold mustT at h
 split at h
 ·rename_i hk;cases h;exact .of_tk hk
 ·cases h
theorem mustK_eats {e k:Int} {r r1:List Tok} {s:Bs} (h:mustK e k r= .ok (s,r1)):Eats r r1:=by
 unfold mustK at h
 split at h
 ·rename_i hk;cases h;exact .of_tail hk.2
 ·cases h
theorem addN_ok {n:Nd} {r r1:List Tok} {ns ns1:List Nd} {i:Int} (h:addN n r ns= .ok (i,r1,ns1)):r1=r∧ns1=ns++[n]∧i=(ns.length:Int):=by
 unfold addN at h;cases h;exact⟨rfl,rfl,rfl⟩
section
variable {e:Int} {E:Pars} (hE:EatsP E)
include hE
theorem listF_eats {fin:Bs}:∀(f:Nat) {l:List Int} {r:List Tok} {ns:List Nd} {l1:List Int} {r1:List Tok} {ns1:List Nd},listF e fin E f l r ns= .ok (l1,r1,ns1)→Eats r r1
 |0,l,r,ns,l1,r1,ns1,h=>by cases h
 |f+1,l,r,ns,l1,r1,ns1,h=>by
  simp only[listF] at h
  split at h
  ·cases h
  ·rename_i i r2 ns2 h2
   have h3:=hE h2
   split at h
   ·cases h;exact h3.tail
   ·split at h
    ·rename_i hc
     exact(h3.trans (.of_tk hc)).trans (listF_eats f h)
    ·cases h
theorem listP_eats {fin:Bs} {r r1:List Tok} {ns ns1:List Nd} {l:List Int} (h:listP e fin E r ns= .ok (l,r1,ns1)):Eats r r1:=by
 unfold listP at h
 split at h
 ·rename_i hk;cases h;exact .of_tk hk
 ·exact listF_eats hE _ h
theorem keyF_eats:∀(f:Nat) {ks:List Bs} {l:List Int} {r:List Tok} {ns:List Nd} {i:Int} {r1:List Tok} {ns1:List Nd},keyF e E f ks l r ns= .ok (i,r1,ns1)→Eats r r1
 |0,ks,l,r,ns,i,r1,ns1,h=>by cases h
 |f+1,ks,l,r,ns,i,r1,ns1,h=>by
  simp only[keyF] at h
  split at h
  rotate_left
  ·cases h
  rename_i hk
  split at h
  ·cases h
  rename_i r2 h2
  split at h
  ·cases h
  rename_i j r3 ns3 h3
  have h4:=((Eats.of_tail hk.2.1).trans (mustT_eats h2)).trans (hE h3)
  split at h
  ·obtain⟨rfl,_⟩:=addN_ok h
   exact h4.tail
  ·split at h
   ·rename_i hc
    exact(h4.trans (.of_tk hc)).trans (keyF_eats f h)
   ·cases h
theorem keyP_eats {r r1:List Tok} {ns ns1:List Nd} {i:Int} (h:keyP e E r ns= .ok (i,r1,ns1)):Eats r r1:=by
 unfold keyP at h
 split at h
 ·rename_i hk
  obtain⟨rfl,_⟩:=addN_ok h
  exact .of_tk hk
 ·exact keyF_eats hE _ h
theorem primP_eats:EatsP (primP e E):=by
 intro r ns i r1 ns1 h
 unfold primP at h
 cases r with
 |nil=>cases h
 |cons t r=>
  have h0:Eats (t::r) r:= .of_tail (by simp)
  have add:∀{n:Nd} {r':List Tok} {ns':List Nd},Eats (t::r) r'→addN n r' ns'= .ok (i,r1,ns1)→Eats (t::r) r1:=fun h1 h2=>by
   obtain⟨rfl,_⟩:=addN_ok h2;exact h1
  dsimp only at h
  split at h
  ·exact add h0 h
  split at h
  ·exact add h0 h
  split at h
  ·exact add h0 h
  split at h
  ·exact add h0 h
  split at h
  ·exact add h0 h
  split at h
  ·split at h
   ·rename_i hk
    split at h
    ·cases h
    ·rename_i h2
     exact add ((h0.trans (.of_tk hk)).trans (listP_eats hE h2)) h
   ·exact add h0 h
  split at h
  ·split at h
   ·cases h
   ·rename_i h2
    split at h
    ·cases h
    ·rename_i h3
     exact add ((h0.trans (mustT_eats h2)).trans (listP_eats hE h3)) h
  split at h
  ·split at h
   ·cases h
   ·rename_i h2
    exact add (h0.trans (listP_eats hE h2)) h
  split at h
  ·exact h0.trans (keyP_eats hE h)
  split at h
  ·split at h
   ·cases h
   ·rename_i h2
    split at h
    ·cases h
    ·rename_i h3
     cases h
     exact(h0.trans (hE h2)).trans (mustT_eats h3)
  ·cases h
theorem postF_eats:∀(f:Nat) {i:Int} {r:List Tok} {ns:List Nd} {j:Int} {r1:List Tok} {ns1:List Nd},postF e E f i r ns= .ok (j,r1,ns1)→r1=r∨Eats r r1
 |0,i,r,ns,j,r1,ns1,h=>by cases h;exact .inl rfl
 |f+1,i,r,ns,j,r1,ns1,h=>by
  simp only[postF] at h
  split at h
  ·rename_i hk
   split at h
   ·cases h
   rename_i h2
   split at h
   ·cases h
   rename_i h3
   have h4:=((Eats.of_tk hk).trans (hE h2)).trans (mustT_eats h3)
   rcases postF_eats f h with rfl|h5
   ·exact .inr h4
   ·exact .inr (h4.trans h5)
  ·cases h;exact .inl rfl
theorem postP_eats:EatsP (postP e E):=by
 intro r ns i r1 ns1 h
 unfold postP at h
 split at h
 ·cases h
 ·rename_i h2
  rcases postF_eats hE _ h with rfl|h3
  ·exact primP_eats hE h2
  ·exact(primP_eats hE h2).trans h3
theorem unaryP_eats:EatsP (unaryP e E):=by
 intro r
 induction r with
 |nil=>intro ns i r1 ns1 h;exact postP_eats hE h
 |cons t r ih=>
  intro ns i r1 ns1 h
  simp only[unaryP] at h
  split at h
  ·split at h
   ·cases h
   ·rename_i h2
    obtain⟨rfl,_⟩:=addN_ok h
    exact(Eats.of_tail (r:=t::r) (by simp)).trans (ih h2)
  ·exact postP_eats hE h
end
theorem chainF_eats {k:Int} {ops:List Bs} {O:Pars} (hO:EatsP O):∀(f:Nat) {i:Int} {r:List Tok} {ns:List Nd} {j:Int} {r1:List Tok} {ns1:List Nd},chainF k ops O f i r ns= .ok (j,r1,ns1)→r1=r∨Eats r r1
 |0,i,r,ns,j,r1,ns1,h=>by cases h;exact .inl rfl
 |f+1,i,r,ns,j,r1,ns1,h=>by
  simp only[chainF] at h
  split at h
  ·rename_i hk
   split at h
   ·cases h
   rename_i h2
   have h4:=(Eats.of_tail hk.2.2).trans (hO h2)
   rcases chainF_eats hO f h with rfl|h5
   ·exact .inr h4
   ·exact .inr (h4.trans h5)
  ·cases h;exact .inl rfl
theorem chainP_eats {k:Int} {ops:List Bs} {O:Pars} (hO:EatsP O):EatsP (chainP k ops O):=by
 intro r ns i r1 ns1 h
 unfold chainP at h
 split at h
 ·cases h
 ·rename_i h2
  rcases chainF_eats hO _ h with rfl|h3
  ·exact hO h2
  ·exact(hO h2).trans h3
section
variable {e:Int} {E:Pars} (hE:EatsP E)
include hE
theorem termP_eats:EatsP (termP e E):=chainP_eats (unaryP_eats hE)
theorem sumP_eats:EatsP (sumP e E):=chainP_eats (termP_eats hE)
theorem cmpP_eats:EatsP (cmpP e E):=by
 intro r ns i r1 ns1 h
 unfold cmpP at h
 split at h
 ·cases h
 ·rename_i h2
  have h3:=sumP_eats hE h2
  split at h
  ·rename_i hk
   split at h
   ·cases h
   ·rename_i h4
    obtain⟨rfl,_⟩:=addN_ok h
    exact(h3.trans (.of_tail hk.2.2)).trans (sumP_eats hE h4)
  ·cases h;exact h3
theorem notP_eats:EatsP (notP e E):=by
 intro r
 induction r with
 |nil=>intro ns i r1 ns1 h;exact cmpP_eats hE h
 |cons t r ih=>
  intro ns i r1 ns1 h
  simp only[notP] at h
  split at h
  ·split at h
   ·cases h
   ·rename_i h2
    obtain⟨rfl,_⟩:=addN_ok h
    exact(Eats.of_tail (r:=t::r) (by simp)).trans (ih h2)
  ·exact cmpP_eats hE h
theorem andP_eats:EatsP (andP e E):=chainP_eats (notP_eats hE)
theorem orP_eats:EatsP (orP e E):=chainP_eats (andP_eats hE)
end
theorem exprP_eats {e:Int}:∀f,EatsP (exprP e f)
 |0=>fun h=>by cases h
 |f+1=>orP_eats (exprP_eats f)
theorem valueP_eats {e:Int} {f:Nat} {kind:Int} {text:Bs}:EatsP (valueP e f kind text):=by
 intro r ns i r1 ns1 h
 unfold valueP at h
 split at h
 ·cases h
 ·rename_i h2
  split at h
  ·cases h
  ·rename_i h3
   obtain⟨rfl,_⟩:=addN_ok h
   exact(exprP_eats f h2).trans (mustT_eats h3)
theorem stmtP_eats {e:Int} {f:Nat} {Bl:Pars} (hB:EatsP Bl):EatsP (stmtP e f Bl):=by
 intro r ns i r1 ns1 h
 unfold stmtP at h
 split at h
 ·rename_i hk
  split at h
  ·cases h
  rename_i h2
  split at h
  ·cases h
  rename_i h3
  exact(((Eats.of_tk hk).trans (mustK_eats h2)).trans (mustT_eats h3)).trans (valueP_eats h)
 split at h
 ·rename_i hk
  split at h
  ·cases h
  rename_i h2
  split at h
  ·cases h
  rename_i h3
  have h4:=((Eats.of_tk hk).trans (exprP_eats f h2)).trans (hB h3)
  split at h
  ·rename_i hk2
   split at h
   ·cases h
   rename_i h5
   obtain⟨rfl,_⟩:=addN_ok h
   exact(h4.trans (.of_tk hk2)).trans (hB h5)
  ·obtain⟨rfl,_⟩:=addN_ok h
   exact h4
 split at h
 ·rename_i hk
  split at h
  ·cases h
  rename_i h2
  split at h
  ·cases h
  rename_i h3
  obtain⟨rfl,_⟩:=addN_ok h
  exact((Eats.of_tk hk).trans (exprP_eats f h2)).trans (hB h3)
 split at h
 ·rename_i hk
  exact(Eats.of_tk hk).trans (valueP_eats h)
 split at h
 ·rename_i hk
  cases r with
  |nil=>cases hk
  |cons t r=>
   simp only[assigns,Bool.and_eq_true] at hk
   exact((Eats.of_tail (r:=t::r) (by simp)).trans (.of_tk hk.2)).trans (valueP_eats h)
 ·exact valueP_eats h
theorem stmtsF_eats {e:Int} {S:Pars} (hS:EatsP S):∀(g:Nat) {l:List Int} {r:List Tok} {ns:List Nd} {i:Int} {r1:List Tok} {ns1:List Nd},stmtsF e S g l r ns= .ok (i,r1,ns1)→Eats r r1
 |0,l,r,ns,i,r1,ns1,h=>by cases h
 |g+1,l,r,ns,i,r1,ns1,h=>by
  simp only[stmtsF] at h
  split at h
  ·rename_i hk
   obtain⟨rfl,_⟩:=addN_ok h
   exact .of_tk hk
  ·split at h
   ·cases h
   ·rename_i h2
    exact(hS h2).trans (stmtsF_eats hS g h)
theorem blockP_eats {e:Int}:∀f,EatsP (blockP e f)
 |0=>fun h=>by cases h
 |f+1=>fun h=>by
  simp only[blockP] at h
  split at h
  ·cases h
  ·rename_i h2
   exact(mustT_eats h2).trans (stmtsF_eats (stmtP_eats (blockP_eats f)) _ h)
theorem parF_eats {e:Int}:∀(f:Nat) {l:List Bs} {r:List Tok} {l1:List Bs} {r1:List Tok},parF e f l r= .ok (l1,r1)→Eats r r1
 |0,l,r,l1,r1,h=>by cases h
 |f+1,l,r,l1,r1,h=>by
  simp only[parF] at h
  split at h
  ·cases h
  ·rename_i h2
   split at h
   ·rename_i hk
    cases h
    exact(mustK_eats h2).trans (.of_tk hk)
   ·split at h
    ·rename_i hk
     exact((mustK_eats h2).trans (.of_tk hk)).trans (parF_eats f h)
    ·cases h
theorem parP_eats {e:Int} {r:List Tok} {l1:List Bs} {r1:List Tok} (h:parP e r= .ok (l1,r1)):Eats r r1:=by
 unfold parP at h
 split at h
 ·rename_i hk;cases h;exact .of_tk hk
 ·exact parF_eats _ h
theorem funcP_eats {e:Int} {f:Nat} {r:List Tok} {ns:List Nd} {x:Fc} {r1:List Tok} {ns1:List Nd} (h:funcP e f r ns= .ok (x,r1,ns1)):Eats r r1:=by
 unfold funcP at h
 split at h
 ·cases h
 rename_i h1
 split at h
 ·cases h
 rename_i h2
 split at h
 ·cases h
 rename_i h3
 split at h
 ·cases h
 rename_i h4
 split at h
 ·cases h
 rename_i h5
 cases h
 exact((((mustT_eats h1).trans (mustK_eats h2)).trans (mustT_eats h3)).trans (parP_eats h4)).trans (blockP_eats f h5)
end Go.Proofs.YtdccglkagfdooaaGreatDoor
namespace Go.Proofs.YtdccglkagfdooaaGreatDoor
def GrowP (p:Pars):Prop:=∀{r ns i r1 ns1},p r ns= .ok (i,r1,ns1)→ns1.length+r1.length≤ns.length+r.length
theorem addN_grow {n:Nd} {r r1:List Tok} {ns ns1:List Nd} {i:Int} (h:addN n r ns= .ok (i,r1,ns1)):r1.length=r.length∧ns1.length=ns.length+1:=by
 obtain⟨rfl,rfl,_⟩:=addN_ok h;simp
section
variable {e:Int} {E:Pars} (hE:GrowP E) (hC:EatsP E)
include hE hC
theorem listF_grow {fin:Bs}:∀(f:Nat) {l:List Int} {r:List Tok} {ns:List Nd} {l1:List Int} {r1:List Tok} {ns1:List Nd},listF e fin E f l r ns= .ok (l1,r1,ns1)→ns1.length+r1.length≤ns.length+r.length∧l1.length+r1.length≤l.length+r.length
 |0,l,r,ns,l1,r1,ns1,h=>by cases h
 |f+1,l,r,ns,l1,r1,ns1,h=>by
  simp only[listF] at h
  split at h
  ·cases h
  ·rename_i i r2 ns2 h2
   have h3:=hE h2
   have h4:=(hC h2).lt
   split at h
   ·cases h;simp;omega
   ·split at h
    ·rename_i hc
     have:=listF_grow f h
     have:=(Eats.of_tk hc).lt
     simp at*
     omega
    ·cases h
theorem listP_grow {fin:Bs} {r r1:List Tok} {ns ns1:List Nd} {l:List Int} (h:listP e fin E r ns= .ok (l,r1,ns1)):ns1.length+r1.length≤ns.length+r.length∧l.length+r1.length≤r.length:=by
 unfold listP at h
 split at h
 ·cases h;simp
 ·have:=listF_grow hE hC _ h
  simp at this
  omega
theorem keyF_grow:∀(f:Nat) {ks:List Bs} {l:List Int} {r:List Tok} {ns:List Nd} {i:Int} {r1:List Tok} {ns1:List Nd},keyF e E f ks l r ns= .ok (i,r1,ns1)→ns1.length+r1.length≤ns.length+r.length
 |0,ks,l,r,ns,i,r1,ns1,h=>by have _h:=@hC;cases h
 |f+1,ks,l,r,ns,i,r1,ns1,h=>by
  simp only[keyF] at h
  split at h
  rotate_left
  ·cases h
  rename_i hk
  split at h
  ·cases h
  rename_i r2 h2
  split at h
  ·cases h
  rename_i j r3 ns3 h3
  have g1:=(Eats.of_tail hk.2.1).lt
  have g2:=(mustT_eats h2).lt
  have g3:=hE h3
  split at h
  ·have:=addN_grow h
   simp at*
   omega
  ·split at h
   ·have:=keyF_grow f h
    simp at*
    omega
   ·cases h
theorem keyP_grow {r r1:List Tok} {ns ns1:List Nd} {i:Int} (h:keyP e E r ns= .ok (i,r1,ns1)):ns1.length+r1.length≤ns.length+r.length:=by
 unfold keyP at h
 split at h
 ·rename_i hk
  have:=addN_grow h
  have:=(Eats.of_tk hk).lt
  omega
 ·exact keyF_grow hE hC _ h
theorem primP_grow:GrowP (primP e E):=by
 intro r ns i r1 ns1 h
 unfold primP at h
 cases r with
 |nil=>cases h
 |cons t r=>
  rw[List.length_cons]
  dsimp only at h
  split at h
  ·have:=addN_grow h;omega
  split at h
  ·have:=addN_grow h;omega
  split at h
  ·have:=addN_grow h;omega
  split at h
  ·have:=addN_grow h;omega
  split at h
  ·have:=addN_grow h;omega
  split at h
  ·split at h
   ·rename_i hk
    split at h
    ·cases h
    ·rename_i h2
     have:=addN_grow h
     have:=(listP_grow hE hC h2).1
     have:=(Eats.of_tk hk).lt
     omega
   ·have:=addN_grow h;omega
  split at h
  ·split at h
   ·cases h
   ·rename_i h2
    split at h
    ·cases h
    ·rename_i h3
     have:=addN_grow h
     have:=(listP_grow hE hC h3).1
     have:=(mustT_eats h2).lt
     omega
  split at h
  ·split at h
   ·cases h
   ·rename_i h2
    have:=addN_grow h
    have:=(listP_grow hE hC h2).1
    omega
  split at h
  ·have:=keyP_grow hE hC h;omega
  split at h
  ·split at h
   ·cases h
   ·rename_i h2
    split at h
    ·cases h
    ·rename_i h3
     cases h
     have:=hE h2
     have:=(mustT_eats h3).lt
     omega
  ·cases h
theorem postF_grow:∀(f:Nat) {i:Int} {r:List Tok} {ns:List Nd} {j:Int} {r1:List Tok} {ns1:List Nd},postF e E f i r ns= .ok (j,r1,ns1)→ns1.length+r1.length≤ns.length+r.length
 |0,i,r,ns,j,r1,ns1,h=>by have _h:=@hC;cases h;exact Nat.le_refl _
 |f+1,i,r,ns,j,r1,ns1,h=>by
  simp only[postF] at h
  split at h
  ·rename_i hk
   split at h
   ·cases h
   rename_i h2
   split at h
   ·cases h
   rename_i h3
   have g1:=(Eats.of_tk hk).lt
   have g2:=hE h2
   have g3:=(mustT_eats h3).lt
   have g4:=postF_grow f h
   simp at*
   omega
  ·cases h;exact Nat.le_refl _
theorem postP_grow:GrowP (postP e E):=by
 intro r ns i r1 ns1 h
 unfold postP at h
 split at h
 ·cases h
 ·rename_i h2
  have:=primP_grow hE hC h2
  have:=postF_grow hE hC _ h
  omega
theorem unaryP_grow:GrowP (unaryP e E):=by
 intro r
 induction r with
 |nil=>intro ns i r1 ns1 h;exact postP_grow hE hC h
 |cons t r ih=>
  intro ns i r1 ns1 h
  simp only[unaryP] at h
  split at h
  ·split at h
   ·cases h
   ·rename_i h2
    have:=addN_grow h
    have:=ih h2
    rw[List.length_cons]
    omega
  ·exact postP_grow hE hC h
omit hE hC in
theorem chainF_grow {k:Int} {ops:List Bs} {O:Pars} (hO:GrowP O):∀(f:Nat) {i:Int} {r:List Tok} {ns:List Nd} {j:Int} {r1:List Tok} {ns1:List Nd},chainF k ops O f i r ns= .ok (j,r1,ns1)→ns1.length+r1.length≤ns.length+r.length
 |0,i,r,ns,j,r1,ns1,h=>by cases h;exact Nat.le_refl _
 |f+1,i,r,ns,j,r1,ns1,h=>by
  simp only[chainF] at h
  split at h
  ·rename_i hk
   split at h
   ·cases h
   rename_i h2
   have g1:=(Eats.of_tail hk.2.2).lt
   have g2:=hO h2
   have g3:=chainF_grow hO f h
   simp at*
   omega
  ·cases h;exact Nat.le_refl _
omit hE hC in
theorem chainP_grow {k:Int} {ops:List Bs} {O:Pars} (hO:GrowP O):GrowP (chainP k ops O):=by
 intro r ns i r1 ns1 h
 unfold chainP at h
 split at h
 ·cases h
 ·rename_i h2
  have:=hO h2
  have:=chainF_grow hO _ h
  omega
theorem termP_grow:GrowP (termP e E):=chainP_grow (unaryP_grow hE hC)
theorem sumP_grow:GrowP (sumP e E):=chainP_grow (termP_grow hE hC)
theorem cmpP_grow:GrowP (cmpP e E):=by
 intro r ns i r1 ns1 h
 unfold cmpP at h
 split at h
 ·cases h
 ·rename_i h2
  have g1:=sumP_grow hE hC h2
  split at h
  ·rename_i hk
   split at h
   ·cases h
   ·rename_i h4
    have:=addN_grow h
    have:=sumP_grow hE hC h4
    have:=(Eats.of_tail hk.2.2).lt
    omega
  ·cases h;exact g1
theorem notP_grow:GrowP (notP e E):=by
 intro r
 induction r with
 |nil=>intro ns i r1 ns1 h;exact cmpP_grow hE hC h
 |cons t r ih=>
  intro ns i r1 ns1 h
  simp only[notP] at h
  split at h
  ·split at h
   ·cases h
   ·rename_i h2
    have:=addN_grow h
    have:=ih h2
    rw[List.length_cons]
    omega
  ·exact cmpP_grow hE hC h
theorem andP_grow:GrowP (andP e E):=chainP_grow (notP_grow hE hC)
theorem orP_grow:GrowP (orP e E):=chainP_grow (andP_grow hE hC)
end
theorem exprP_grow {e:Int}:∀f,GrowP (exprP e f)
 |0=>fun h=>by cases h
 |f+1=>orP_grow (exprP_grow f) (exprP_eats f)
theorem valueP_grow {e:Int} {f:Nat} {kind:Int} {text:Bs}:GrowP (valueP e f kind text):=by
 intro r ns i r1 ns1 h
 unfold valueP at h
 split at h
 ·cases h
 ·rename_i h2
  split at h
  ·cases h
  ·rename_i h3
   have:=addN_grow h
   have:=exprP_grow f h2
   have:=(mustT_eats h3).lt
   omega
theorem stmtP_grow {e:Int} {f:Nat} {Bl:Pars} (hB:GrowP Bl):GrowP (stmtP e f Bl):=by
 intro r ns i r1 ns1 h
 unfold stmtP at h
 split at h
 ·rename_i hk
  split at h
  ·cases h
  rename_i h2
  split at h
  ·cases h
  rename_i h3
  have:=(Eats.of_tk hk).lt
  have:=(mustK_eats h2).lt
  have:=(mustT_eats h3).lt
  have:=valueP_grow h
  omega
 split at h
 ·rename_i hk
  split at h
  ·cases h
  rename_i h2
  split at h
  ·cases h
  rename_i h3
  have g1:=(Eats.of_tk hk).lt
  have g2:=exprP_grow f h2
  have g3:=hB h3
  split at h
  ·rename_i hk2
   split at h
   ·cases h
   rename_i h5
   have:=addN_grow h
   have:=(Eats.of_tk hk2).lt
   have:=hB h5
   omega
  ·have:=addN_grow h
   omega
 split at h
 ·rename_i hk
  split at h
  ·cases h
  rename_i h2
  split at h
  ·cases h
  rename_i h3
  have:=(Eats.of_tk hk).lt
  have:=exprP_grow f h2
  have:=hB h3
  have:=addN_grow h
  omega
 split at h
 ·rename_i hk
  have:=(Eats.of_tk hk).lt
  have:=valueP_grow h
  omega
 split at h
 ·have:=valueP_grow h
  simp at this
  omega
 ·exact valueP_grow h
theorem stmtsF_grow {e:Int} {S:Pars} (hS:GrowP S):∀(g:Nat) {l:List Int} {r:List Tok} {ns:List Nd} {i:Int} {r1:List Tok} {ns1:List Nd},stmtsF e S g l r ns= .ok (i,r1,ns1)→ns1.length+r1.length≤ns.length+r.length
 |0,l,r,ns,i,r1,ns1,h=>by cases h
 |g+1,l,r,ns,i,r1,ns1,h=>by
  simp only[stmtsF] at h
  split at h
  ·rename_i hk
   have:=addN_grow h
   have:=(Eats.of_tk hk).lt
   omega
  ·split at h
   ·cases h
   ·rename_i h2
    have:=hS h2
    have:=stmtsF_grow hS g h
    omega
theorem blockP_grow {e:Int}:∀f,GrowP (blockP e f)
 |0=>fun h=>by cases h
 |f+1=>fun h=>by
  simp only[blockP] at h
  split at h
  ·cases h
  ·rename_i h2
   have:=(mustT_eats h2).lt
   have:=stmtsF_grow (stmtP_grow (blockP_grow f)) _ h
   omega
theorem parF_grow {e:Int}:∀(f:Nat) {l:List Bs} {r:List Tok} {l1:List Bs} {r1:List Tok},parF e f l r= .ok (l1,r1)→l1.length+r1.length≤l.length+r.length
 |0,l,r,l1,r1,h=>by cases h
 |f+1,l,r,l1,r1,h=>by
  simp only[parF] at h
  split at h
  ·cases h
  ·rename_i h2
   have g1:=(mustK_eats h2).lt
   split at h
   ·rename_i hk
    have:=(Eats.of_tk hk).lt
    cases h
    simp at*
    omega
   ·split at h
    ·rename_i hk
     have:=(Eats.of_tk hk).lt
     have:=parF_grow f h
     simp at*
     omega
    ·cases h
theorem funcP_grow {e:Int} {f:Nat} {r:List Tok} {ns:List Nd} {x:Fc} {r1:List Tok} {ns1:List Nd} (h:funcP e f r ns= .ok (x,r1,ns1)):ns1.length+r1.length≤ns.length+r.length:=by
 unfold funcP at h
 split at h
 ·cases h
 rename_i h1
 split at h
 ·cases h
 rename_i h2
 split at h
 ·cases h
 rename_i h3
 split at h
 ·cases h
 rename_i h4
 split at h
 ·cases h
 rename_i h5
 cases h
 have:=(mustT_eats h1).lt
 have:=(mustK_eats h2).lt
 have:=(mustT_eats h3).lt
 have:=(parP_eats h4).lt
 have:=blockP_grow f h5
 omega
end Go.Proofs.YtdccglkagfdooaaGreatDoor
