/- Texts joined by pack.py: XBdC -/
import Derived.Test.YtdccglkagfdooaaGreatDoorBz26
set_option maxHeartbeats 8000000
set_option maxRecDepth 100000
namespace Go.Proofs.YtdccglkagfdooaaGreatDoor
open Go.RowKit
abbrev sourA:Bs:=[102,117,110,99,32,109,97,105,110,40,101,41,32,123,32,114,101,116,117,114,110,32,101,59,32,125]
abbrev n0:Nd:=⟨5,[101],0,[],[]⟩
abbrev n1:Nd:=⟨17,[],0,[],[0]⟩
abbrev n2:Nd:=⟨19,[],0,[],[1]⟩
abbrev exP:Pg:=⟨[n0,n1,n2],[⟨sMain,[[101]],2⟩]⟩
abbrev wrB (c:V):Bk:= .box [.sl false 5 (exP.nodes.map ndD),.sl false 3 (exP.funcs.map fcD),.sl false 1 ([0,-1,-1].map intD),int 0,c]
abbrev wrM (xs:List (List D)):List Bk:=[wrB (.ow 1 0),.row 0 115 4 false xs]
abbrev ndW (n:Nd):V:= .ag [int n.kind,bstr n.text,int n.val,.sl false 1 (n.keys.map strD),.sl false 1 (n.kids.map intD)]
theorem x_here (xs:List (List D)) (h:xs.length≤1000):MCallsG true Tryz.prog 42 [.bx 0 0] (wrM xs) (int xs.length) (wrM xs):=by
 refine msxx [] Tryz.func42 (by kernel_rfl) (by kernel_rfl) (by rfl) ?_
 conv=>whnf
 refine⟨none,by kernel_rfl,?_⟩
 conv=>whnf
 exact⟨⟨rfl,rfl,by rw[Int.zero_add,wrap_in (by omega)];rfl⟩,rfl⟩
theorem x_wadd (xs ys:List (List D)) (h:xs.length+ys.length≤1000):MCalls Tryz.prog 65 [.bx 0 0,.sl false 4 ys] (wrM xs) (.tu []) (wrM (xs++ys)):=by
 refine msxm [] Tryz.func65 (by kernel_rfl) (by kernel_rfl) ?_
 conv=>whnf
 refine⟨by show(xs.length+ys.length)*56≤_;omega,?_⟩
 conv=>whnf
 exact⟨rfl,rfl,rfl⟩
theorem x_last0 (xs:List (List D)):MCalls Tryz.prog 94 [.bx 0 0,ndW n0,int 0] (wrM xs) (.tu [iV 5 0,boo true]) (wrM xs):=by
 refine msxm [] Tryz.func94 (by kernel_rfl) (by kernel_rfl) ?_
 repeat((conv=>whnf);first|refine known true rfl ?_|refine known false rfl ?_|refine⟨by decide,_,rfl,?_⟩)
 conv=>whnf
 exact⟨rfl,rfl,rfl⟩
theorem x_last1 (xs:List (List D)):MCalls Tryz.prog 94 [.bx 0 0,ndW n1,int 1] (wrM xs) (.tu [iV 20 0,boo true]) (wrM xs):=by
 refine msxm [] Tryz.func94 (by kernel_rfl) (by kernel_rfl) ?_
 repeat((conv=>whnf);first|refine known true rfl ?_|refine known false rfl ?_|refine⟨by decide,_,rfl,?_⟩)
 conv=>whnf
 exact⟨rfl,rfl,rfl⟩
theorem x_last2 (xs:List (List D)):MCalls Tryz.prog 94 [.bx 0 0,ndW n2,int 2] (wrM xs) (.tu [iV 0 0,boo false]) (wrM xs):=by
 refine msxm [] Tryz.func94 (by kernel_rfl) (by kernel_rfl) ?_
 repeat((conv=>whnf);first|refine known true rfl ?_|refine known false rfl ?_|refine⟨by decide,_,rfl,?_⟩)
 conv=>whnf
 exact⟨rfl,rfl,rfl⟩
def wrK:List (Nat×Bool):=[(64,false),(65,false),(94,false),(93,false),(43,false),(42,true),(41,false)]
abbrev nodeF:V:= .fn 64 1 [.bx 0 0]
theorem x_all0 (xs:List (List D)):MCalls Tryz.prog 93 [.sl false 1 [],nodeF] (wrM xs) (.tu []) (wrM xs):=by
 refine msxm wrK Tryz.func93 (by kernel_rfl) (by kernel_rfl) ?_
 conv=>whnf
 refine⟨[(3000002,2,0,0)],?_⟩
 conv=>whnf
 refine known false rfl ?_
 conv=>whnf
 exact⟨rfl,rfl,rfl⟩
theorem x_all1 {k:Int} {xs ys:List (List D)} (h:MCalls Tryz.prog 64 [.bx 0 0,int k] (wrM xs) (.tu []) (wrM ys)):MCalls Tryz.prog 93 [.sl false 1 [[.cv (.int .i64 k)]],nodeF] (wrM xs) (.tu []) (wrM ys):=by
 refine msxm wrK Tryz.func93 (by kernel_rfl) (by kernel_rfl) ?_
 conv=>whnf
 refine⟨[(3000002,3,0,0)],?_⟩
 conv=>whnf
 refine known true rfl ?_
 conv=>whnf
 refine⟨by decide,_,rfl,?_⟩
 conv=>whnf
 refine mcallV (T:=TM wrK) (φ:=[]) (ρ:=[16,17]) (ln:=true) (gf:=false) h ?_
 conv=>whnf
 refine known false rfl ?_
 conv=>whnf
 exact⟨rfl,rfl,rfl⟩
theorem x_node0:MCalls Tryz.prog 64 [.bx 0 0,int 0] (wrM []) (.tu []) (wrM [iD 5 0]):=by
 refine msxm wrK Tryz.func64 (by kernel_rfl) (by kernel_rfl) ?_
 conv=>whnf
 refine⟨by decide,_,rfl,?_⟩
 repeat((conv=>whnf);first|refine known true rfl ?_|refine known false rfl ?_)
 conv=>whnf
 refine mcallV (T:=TM wrK) (φ:=[]) (ρ:=[65,66]) (ln:=true) (gf:=false) (x_all0 []) ?_
 conv=>whnf
 refine mcallV (T:=TM wrK) (φ:=[]) (ρ:=[65,66]) (ln:=true) (gf:=false) (x_last0 []) ?_
 conv=>whnf
 refine known true rfl ?_
 conv=>whnf
 refine mcallV (T:=TM wrK) (φ:=[]) (ρ:=[65,66]) (gf:=false) (x_wadd [] [iD 5 0] (by decide)) ?_
 conv=>whnf
 exact⟨rfl,rfl,rfl⟩
theorem x_node1:MCalls Tryz.prog 64 [.bx 0 0,int 1] (wrM []) (.tu []) (wrM [iD 5 0,iD 20 0]):=by
 refine msxm wrK Tryz.func64 (by kernel_rfl) (by kernel_rfl) ?_
 conv=>whnf
 refine⟨by decide,_,rfl,?_⟩
 repeat((conv=>whnf);first|refine known true rfl ?_|refine known false rfl ?_)
 conv=>whnf
 refine mcallV (T:=TM wrK) (φ:=[]) (ρ:=[65,66]) (ln:=true) (gf:=false) (x_all1 x_node0) ?_
 conv=>whnf
 refine mcallV (T:=TM wrK) (φ:=[]) (ρ:=[65,66]) (ln:=true) (gf:=false) (x_last1 [iD 5 0]) ?_
 conv=>whnf
 refine known true rfl ?_
 conv=>whnf
 refine mcallV (T:=TM wrK) (φ:=[]) (ρ:=[65,66]) (gf:=false) (x_wadd [iD 5 0] [iD 20 0] (by decide)) ?_
 conv=>whnf
 exact⟨rfl,rfl,rfl⟩
theorem x_node2:MCalls Tryz.prog 64 [.bx 0 0,int 2] (wrM []) (.tu []) (wrM [iD 5 0,iD 20 0]):=by
 refine msxm wrK Tryz.func64 (by kernel_rfl) (by kernel_rfl) ?_
 conv=>whnf
 refine⟨by decide,_,rfl,?_⟩
 repeat((conv=>whnf);first|refine known true rfl ?_|refine known false rfl ?_)
 conv=>whnf
 refine mcallV (T:=TM wrK) (φ:=[]) (ρ:=[65,66]) (ln:=true) (gf:=false) (x_all1 x_node1) ?_
 conv=>whnf
 refine mcallV (T:=TM wrK) (φ:=[]) (ρ:=[65,66]) (ln:=true) (gf:=false) (x_last2 [iD 5 0,iD 20 0]) ?_
 conv=>whnf
 refine known false rfl ?_
 conv=>whnf
 exact⟨rfl,rfl,rfl⟩
theorem x_function:MCalls Tryz.prog 43 [.bx 0 0,int 0] (wrM []) (.tu []) (wrM exI):=by
 refine msxm wrK Tryz.func43 (by kernel_rfl) (by kernel_rfl) ?_
 conv=>whnf
 refine⟨by decide,_,rfl,?_⟩
 conv=>whnf
 refine mcallV (T:=TM wrK) (φ:=[]) (ρ:=[20,21]) (ln:=true) (gf:=false) x_node2 ?_
 conv=>whnf
 refine mcallV (T:=TM wrK) (φ:=[]) (ρ:=[20,21]) (gf:=false) (x_wadd [iD 5 0,iD 20 0] [iN 1 0,iN 20 0] (by decide)) ?_
 conv=>whnf
 exact⟨rfl,rfl,rfl⟩
end Go.Proofs.YtdccglkagfdooaaGreatDoor
