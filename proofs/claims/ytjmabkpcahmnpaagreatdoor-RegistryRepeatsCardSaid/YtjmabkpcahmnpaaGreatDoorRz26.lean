/- Texts joined by pack.py: XRgD XRgE -/
import Derived.Test.YtjmabkpcahmnpaaGreatDoorRz23
set_option maxHeartbeats 8000000
set_option maxRecDepth 100000
namespace Go.Proofs.YtjmabkpcahmnpaaGreatDoor
open Go.RowKit
def rlD (v:Vr):List D:=[.cv (.int .i64 v.n),.cv (.string (mk v.dg)),.cv (.int .i64 v.at_),.cv (.bool v.rt)]
abbrev rlsV (l:List Vr):V:= .sl true 4 (l.map rlD)
theorem x_releases (F:Fns) (now:Int) (t:Bs) (hl:((getB F t).getD []).length≤1000000):MCalls Tryz.prog 11 [.bx 0 0,bstr t] (rgM F now) (rlsV ((getB F t).getD [])) (rgM F now):=by
 cases hg:getB F t with
 |none=>
  refine msxm mdM Tryz.func11 (by kernel_rfl) (by kernel_rfl) ?_
  conv=>whnf
  refine mcall (T:=TM mdM) (φ:=[]) (x_rgmade F now) ?_
  conv=>whnf
  refine known false rfl ?_
  conv=>whnf
  refine at_tr (open_v0 (n:=30) (d:=16) rfl rfl rfl rfl rfl hg) ?_
  conv=>whnf
  refine⟨[(3000002,2,0,0)],?_⟩
  conv=>whnf
  refine known false rfl ?_
  conv=>whnf
  exact⟨rfl,rfl,rfl⟩
 |some l=>
  rw[hg] at hl
  simp only[Option.getD_some] at hl⊢
  have hll:(l.map vrD).length=l.length:=List.length_map _
  have hsame:putB F t l=F:=putB_same hg
  refine msxg mdM Tryz.func11 (by kernel_rfl) (by kernel_rfl) ?_
  conv=>whnf
  refine mcallV (T:=TM mdM) (φ:=[]) (ρ:=[29,30]) (gf:=false) (x_rgmade F now) ?_ (ln:=true)
  conv=>whnf
  refine known false rfl ?_
  conv=>whnf
  refine at_tr (open_v (n:=30) (d:=16) rfl rfl rfl rfl rfl hg) ?_
  conv=>whnf
  rw[hll]
  refine⟨[(5,26,44,4)],Nat,fun k=>[(5,.ow 26 0),(18,int k)],fun k=>[(26,some (.row 0 44 4 true ((l.take k).map rlD)))],fun k=>k≤l.length,fun k=>l.length - k,0,Nat.zero_le _,?_,?_⟩
  ·refine⟨rfl,?_,?_⟩<;>repeat' (first|exact trivial|exact rfl|refine and_rfl ?_|refine and_two ?_ ?_)
  rintro k b0
  have b0:k≤l.length:=b0
  conv=>whnf
  rintro(_|_) h1
  ·have h1:l.length≤k:=by simp at h1;omega
   rw[List.take_of_length_le h1]
   conv=>whnf
   refine⟨_,GhM.gh (close_v (n:=30) (d:=16) (l':=l) hg rfl rfl),?_⟩
   rw[hsame]
   exact⟨rfl,rfl,rfl⟩
  have h1:k<l.length:=by simp at h1;omega
  conv=>whnf
  refine⟨Int.natCast_nonneg k,by rw[hll,Int.toNat_natCast];exact h1,?_⟩
  conv=>whnf
  refine⟨_,get_map vrD h1,?_⟩
  have e:(l.take (k+1)).map rlD=(l.take k).map rlD++[rlD l[k]]:=by rw[List.take_succ_eq_append_getElem h1,List.map_append];rfl
  conv=>whnf
  refine⟨by rw[List.length_map,List.length_take,Nat.min_eq_left b0];show(k+1)*40≤_;omega,?_⟩
  conv=>whnf
  refine⟨k+1,h1,by dsimp only;omega,?_⟩
  refine⟨rfl,?_,?_⟩<;>repeat' (first|exact trivial|exact rfl|(rw[e];exact rfl)|refine and_rfl ?_|refine and_val (wrap_succ (by omega)) ?_|refine and_two ?_ ?_)
end Go.Proofs.YtjmabkpcahmnpaaGreatDoor
namespace Go.Proofs.YtjmabkpcahmnpaaGreatDoor
open Go.RowKit
theorem putE_twice {α:Type}:∀(l:List (ByteArray×α)) (t:ByteArray) (c d:α),putE (putE l t c) t d=putE l t d
 |[],t,c,d=>by simp[putE]
 |(k,x)::l,t,c,d=>by
  simp only[putE]
  split
  ·rename_i e;simp[putE]
  ·rename_i e;simp only[putE,if_neg e,putE_twice l t c d]
section
variable {o:Oper} {E:Operand→V} {m:List (Option Bk)} {n k d kd:Nat} {x i y:Operand} {F:Fns} {t:Bs} {l:List Vr} {xs:List (List D)} {f:Bool} {z:V}
theorem upd_v (ho:o.op= .mapUpdate 32 x i y) (hx:E x= .ow n k) (hi:E i=bstr t) (hy:E y= .ow d kd) (hm:m[n]?=some (some (.asr k (mapC (vM F)) []))) (hd:m[d]?=some (some (.row kd 64 9 f xs))) (hxs:xs=l.map vrD):
  OpTr Tryz.prog o E m .un ((m.set n (some (.asr k (mapC (vM (putB F t l))) []))).set d (some (.row (kd+1) 64 9 true []))):=by
 subst hxs
 have:=ot_updR (P:=Tryz.prog) (Er:=64) ho Tryz.underlying32 Tryz.underlying9 hx hi hy hm hd
 rwa [show putE (vM F) (mk t) (.r 64 9 (l.map vrD))=vM (putB F t l) from putE_vM F t l] at this
theorem upd_v1 (ho:o.op= .mapUpdate 32 x i y) (hx:E x= .ow n k) (hi:E i=bstr t) (hy:E y= .ow d kd) (hm:m[n]?=some (some (.asr k (mapC (putE (vM F) (mk t) (.o 0))) [z]))) (hd:m[d]?=some (some (.row kd 64 9 f xs))) (hxs:xs=l.map vrD):
  OpTr Tryz.prog o E m .un ((m.set n (some (.asr k (mapC (vM (putB F t l))) []))).set d (some (.row (kd+1) 64 9 true []))):=by
 subst hxs
 have hnd:n≠d:=by rintro rfl;rw[hm] at hd;cases hd
 have h1:=ot_updR (P:=Tryz.prog) (Er:=64) ho Tryz.underlying32 Tryz.underlying9 hx hi hy hm hd
 rw[putE_twice,show putE (vM F) (mk t) (.r 64 9 (l.map vrD))=vM (putB F t l) from putE_vM F t l] at h1
 have hl:=lt_of_get hm
 have h2:=gh_dropE (m:=(m.set n (some (.asr k (mapC (vM (putB F t l))) [z]))).set d (some (.row (kd+1) 64 9 true []))) (n:=n) (k:=k) (es:=vM (putB F t l)) (outs:=[]) (x:=z) (by rw[List.getElem?_set_ne (Ne.symm hnd),List.getElem?_set_self hl];rfl) (vs_noO _ 0)
 have h3:=ot_post h1 h2
 rwa [List.set_comm _ _ (Ne.symm hnd),List.set_set] at h3
theorem look_v1 {kd:Nat} (hg:getB F t=some l) (ho:o.op= .lookup 32 x i true) (hx:E x= .ow n k) (hi:E i=bstr t) (hm:m[n]?=some (some (.asr k (mapC (putE (vM F) (mk t) (.o 0))) [.ow d kd]))):OpRd Tryz.prog o E m (.tu [.ow d kd,boo true]):=
 rd_look (z:= .slice none 0 0) ho Tryz.underlying32 Tryz.underlying9 (by kernel_rfl) hx hi hm (by
  have hg':getE (vM F) (mk t)=some (vsC l):=by rw[getE_vM,hg];rfl
  obtain⟨l1,l2,e,h2⟩:=getE_some hg'
  rw[e,putE_old h2,getE_setE h2]
  rfl)
theorem len_v (ho:o.op= .call {callee:= .builtin .len,args:= #[x],argTypes:= #[32]}) (hx:E x= .ow n k) (hm:m[n]?=some (some (.asr k (mapC (vM F)) []))):OpRd Tryz.prog o E m (int ((F.length:Nat):Int)):=by
 have:=rd_map_len (P:=Tryz.prog) (m:=m) ho Tryz.underlying32 hx hm
 rwa [show(vM F).length=F.length from List.length_map _] at this
theorem look_v0 (hg:getB F t=none) (ho:o.op= .lookup 32 x i true) (hx:E x= .ow n k) (hi:E i=bstr t) (hm:m[n]?=some (some (.asr k (mapC (vM F)) []))):OpRd Tryz.prog o E m (.tu [.cv (.slice none 0 0),boo false]):=
 rd_look (z:= .slice none 0 0) ho Tryz.underlying32 Tryz.underlying9 (by kernel_rfl) hx hi hm (by rw[getE_vM,hg];rfl)
end
theorem x_rgmadeO (F:Fns) (t:Bs) (l:List Vr) (now:Int):MCallsG true Tryz.prog 20 [.bx 0 0] (rgO F t l now) (boo true) (rgO F t l now):=by
 refine msxx [] Tryz.func20 (by kernel_rfl) (by kernel_rfl) (by rfl) ?_
 conv=>whnf
 refine known true rfl ?_
 conv=>whnf
 refine at_rd (rd_map_nil rfl Tryz.underlying32 (.inr ⟨rfl,rfl⟩) rfl rfl rfl) ?_
 conv=>whnf
 exact⟨⟨rfl,rfl,rfl⟩,rfl⟩
def planP21:Plan:= .one 0 (.one 1 (.one 6 (.one 7 (.one 8 (.one 9 (.one 10 (.one 11 (.one 12 (.one 13 (.one 14 (.pull 2 (.pull 4 (.alt 3 (.alt 5 (.one 15 (.one 16 (.one 17 (.done)))) (.alt 15 (.alt 5 (.one 16 (.one 17 (.done))) (.alt 16 (.one 5 (.one 17 (.done))) (.stop))) (.stop))) (.alt 5 (.alt 3 (.one 15 (.one 16 (.one 17 (.done)))) (.alt 15 (.alt 3 (.one 16 (.one 17 (.done))) (.alt 16 (.one 3 (.one 17 (.done))) (.stop))) (.stop))) (.alt 15 (.alt 3 (.alt 5 (.one 16 (.one 17 (.done))) (.alt 16 (.one 5 (.one 17 (.done))) (.stop))) (.alt 5 (.alt 3 (.one 16 (.one 17 (.done))) (.alt 16 (.one 3 (.one 17 (.done))) (.stop))) (.alt 16 (.one 3 (.one 5 (.one 17 (.done)))) (.stop)))) (.stop))))))))))))))))
def pubM:List (Nat×Bool):=[(20,false),(6000029,false)]
end Go.Proofs.YtjmabkpcahmnpaaGreatDoor
