/- Texts joined by pack.py: XRgG XLx2 XBuD XLx3 XLxS XLx4 XLx5 -/
import Derived.Test.YtjmabkpcahmnpaaGreatDoorRz27
import Derived.Test.YtjmabkpcahmnpaaGreatDoorRz13
import Derived.Test.YtjmabkpcahmnpaaGreatDoorRz22
import Derived.Test.YtjmabkpcahmnpaaGreatDoorRz14
import Derived.Shelf.Strings.Builder1
import Derived.Shelf.Strings.Builder2
import Derived.Shelf.Strings.OnBuilder
import Derived.Shelf.Small.Utf8
import Derived.Shelf.Small.Bits
import Derived.Shelf.Small.Strs
import Derived.Shelf.Strings.BuilderF
import Derived.Shelf.Utf8.RuneCount
import Derived.Shelf.Strconv.Atoi
import Derived.Shelf.Strconv.Itoa0
import Derived.Shelf.Strconv.Itoa1
import Derived.Shelf.LaysM
import Derived.Shelf.Strconv.Itoa2
import Derived.Shelf.Strconv.Itoa3
import Derived.Shelf.Strconv.AtoiErrFast
import Derived.Shelf.Strconv.ParseIntEmpty
import Derived.Shelf.Strconv.AtoiFail
import Derived.Shelf.Strconv.Clone
import Derived.Shelf.Strconv.SyntaxError
import Derived.Shelf.LaysC
import Derived.Shelf.Strconv.ToError
import Derived.Shelf.Strconv.Lower
import Derived.Shelf.Strconv.ParseUint10
import Derived.Shelf.Strconv.ParseUint10Empty
import Derived.Shelf.Strconv.ParseUint10Any
import Derived.Shelf.Strconv.ParseInt10
import Derived.Shelf.Strconv.AtoiLong
import Derived.Shelf.Strconv.AtoiInnerAll
import Derived.Shelf.Strconv.RangeError
import Derived.Shelf.Strconv.ToErrorRange
import Derived.Shelf.Strconv.AtoiAll
import Derived.Shelf.Strings.Search1
import Derived.Shelf.Strings.Search2
import Derived.Shelf.Strings.Search3
import Derived.Shelf.Strings.Count
import Derived.Shelf.Strings.Shaped
import Derived.Shelf.Strings.Prefix
import Derived.Shelf.Strings.Split
import Derived.Shelf.Strings.Runes
import Derived.Shelf.Strings.RuneCount
import Derived.Shelf.Bits.Mul64
import Derived.Shelf.Strings.Repeat
import Derived.Ground.Names2Prog
import Derived.Shelf.Slices.Clone
import Derived.Shelf.Slices.CompactS
import Derived.Shelf.Slices.Cells
import Derived.Ground.SlgnProg
import Derived.Shelf.SlicesE.Clone
import Derived.Test.YtjmabkpcahmnpaaGreatDoorChecked
set_option maxHeartbeats 16000000
set_option maxRecDepth 100000
namespace Go.Proofs.YtjmabkpcahmnpaaGreatDoor
open Go.RowKit
theorem x_pubU (F:Fns) (now:Int) (m:Mf) (hm:m.ops.length≤1000000) (nw ck:Int) (dg:Bs) (de:Int) (hg:getB F m.nm=none) (hC:DCalls Tryz.prog 21 [m.V] (int ck)) (hD:ck=0→DCalls Tryz.prog 23 [m.V] (.tu [bstr dg,int de]))
  (hF:F.length≤1000000) (r:(Int×Int)×Fns×Int) (hr:pubP F now m nw ck (dg,de)=r):
  MCalls Tryz.prog 10 [.bx 0 0,mfL m,int nw] (rgM F now) (.tu [int r.1.1,int r.1.2]) (rgM r.2.1 r.2.2):=by
 have hn:pubL [] m=false:=rfl
 simp only[pubP,hg,Option.getD_none,Option.isNone_none,true_and,List.length_nil,hn] at hr
 obtain⟨nm,me,st,ops,src⟩:=m
 dsimp only at hm hg
 refine msxm pubM Tryz.func10 (by kernel_rfl) (by kernel_rfl) ?_
 conv=>whnf
 refine mcallV (T:=TM pubM) (φ:=[]) (ρ:=[122,123]) (gf:=false) (x_rgmade F now) ?_ (ln:=true)
 conv=>whnf
 refine known false rfl ?_
 conv=>whnf
 refine⟨_,hC,?_⟩
 conv=>whnf
 rintro(_|_) h1
 rotate_left
 ·have h1:ck≠0:=by simpa using h1
  obtain rfl:((0,ck),F,now)=r:=by rw[←hr,if_pos h1]
  conv=>whnf
  exact⟨rfl,rfl,rfl⟩
 have h1:ck=0:=by simpa using h1
 have hD:=hD h1
 rw[if_neg (by simp[h1])] at hr
 conv=>whnf
 refine⟨none,by kernel_rfl,?_⟩
 conv=>whnf
 refine at_rd (look_v0 hg rfl rfl rfl rfl) ?_
 by_cases h2:nw<0∨nw>1073741824
 ·obtain rfl:((0,2),F,now)=r:=by rw[←hr,if_pos h2]
  by_cases h3:nw<0
  ·conv=>whnf
   refine known true (by simp;omega) ?_
   conv=>whnf
   exact⟨rfl,rfl,rfl⟩
  ·conv=>whnf
   refine known false (by simp;omega) ?_
   conv=>whnf
   refine known true (by simp;omega) ?_
   conv=>whnf
   exact⟨rfl,rfl,rfl⟩
 rw[if_neg h2] at hr
 conv=>whnf
 refine known false (by simp;omega) ?_
 conv=>whnf
 refine known false (by simp;omega) ?_
 by_cases h3:nw<now
 ·obtain rfl:((0,11),F,now)=r:=by rw[←hr,if_pos h3]
  conv=>whnf
  refine known true (by simp;omega) ?_
  conv=>whnf
  exact⟨rfl,rfl,rfl⟩
 rw[if_neg h3,if_neg (by simp)] at hr
 conv=>whnf
 refine known false (by simp;omega) ?_
 conv=>whnf
 refine⟨none,by kernel_rfl,?_⟩
 conv=>whnf
 refine known false rfl ?_
 conv=>whnf
 refine known true rfl ?_
 conv=>whnf
 refine at_rd (len_v rfl rfl rfl) ?_
 by_cases h4:32≤F.length
 ·obtain rfl:((0,3),F,now)=r:=by rw[←hr,if_pos (.inl h4)]
  conv=>whnf
  refine known true (by simp;omega) ?_
  conv=>whnf
  exact⟨rfl,rfl,rfl⟩
 rw[if_neg (by omega)] at hr
 conv=>whnf
 refine known false (by simp;omega) ?_
 conv=>whnf
 refine known false rfl ?_
 conv=>whnf
 refine⟨_,hD,?_⟩
 conv=>whnf
 rintro(_|_) h5
 rotate_left
 ·have h5:de≠0:=by simpa using h5
  obtain rfl:((0,de),F,now)=r:=by rw[←hr,if_pos h5]
  conv=>whnf
  exact⟨rfl,rfl,rfl⟩
 have h5:de=0:=by simpa using h5
 obtain rfl:(((1:Int),(0:Int)),putB F nm [⟨⟨nm,me,st,ops,src⟩,1,dg,nw,false⟩],nw)=r:=by rw[←hr,if_neg (by simp[h5])];rfl
 conv=>whnf
 refine⟨some planP21,by kernel_rfl,?_⟩
 conv=>whnf
 refine⟨_,x_own ⟨nm,me,st,ops,src⟩ hm,?_⟩
 conv=>whnf
 refine⟨.bx 122 0,fun m2 K2 hK=>hK,?_⟩
 conv=>whnf
 refine⟨.bx 4 0,fun m2 K2 hK=>hK,?_⟩
 repeat' ((conv=>whnf);first
  |exact trivial
  |refine And.intro (show(1:Nat)*112≤140737488355328 by decide) ?_
  |refine at_tr (upd_v (n:=123) (d:=119) (l:=[⟨⟨nm,me,st,ops,src⟩,1,dg,nw,false⟩]) rfl rfl rfl rfl rfl rfl rfl) ?_
  |exact⟨rfl,rfl,rfl⟩
  |refine And.intro ?_ ?_)
end Go.Proofs.YtjmabkpcahmnpaaGreatDoor
namespace Go.Proofs.YtjmabkpcahmnpaaGreatDoor
open Go.RowKit
abbrev u8 (c:UInt8):V:= .cv (.int .u8 (c.toNat:Nat))
theorem u8_eq (c d:UInt8):(c==d)=decide ((c.toNat:Int)=(d.toNat:Int)):=by
 rw[Bool.eq_iff_iff]
 simp only[beq_iff_eq,decide_eq_true_eq]
 rw[←UInt8.toNat_inj];omega
theorem u8_le (c d:UInt8):(decide (c≤d))=decide ((c.toNat:Int)≤(d.toNat:Int)):=by
 rw[Bool.eq_iff_iff]
 simp only[decide_eq_true_eq,UInt8.le_iff_toNat_le];omega
theorem u8_lt (c d:UInt8):(decide (c<d))=decide ((c.toNat:Int)<(d.toNat:Int)):=by
 rw[Bool.eq_iff_iff]
 simp only[decide_eq_true_eq,UInt8.lt_iff_toNat_lt];omega
theorem isHd_int (c:UInt8):isHd c=(decide ((97:Int)≤(c.toNat:Int))&&decide ((c.toNat:Int)≤122)||decide ((c.toNat:Int)=95)):=by
 unfold isHd;rw[u8_eq,u8_le,u8_le];rfl
theorem isDg_int (c:UInt8):isDg c=(decide ((48:Int)≤(c.toNat:Int))&&decide ((c.toNat:Int)≤57)):=by
 unfold isDg;rw[u8_le,u8_le];rfl
theorem isBl_int (c:UInt8):isBl c=(decide ((c.toNat:Int)=32)||decide ((c.toNat:Int)=9)||decide ((c.toNat:Int)=10)):=by
 unfold isBl;rw[u8_eq,u8_eq,u8_eq];rfl
theorem drop_cons {l:Bs} {n:Nat} (h:n<l.length):l.drop n=l[n]::l.drop (n+1):=List.drop_eq_getElem_cons h
theorem mk_at {l:Bs} {n:Nat} (h:n<l.length):(mk l)[((n:Nat):Int).toNat]?=some l[n]:=by rw[Int.toNat_natCast,mk_get,List.getElem?_eq_getElem h]
end Go.Proofs.YtjmabkpcahmnpaaGreatDoor
namespace Go.Proofs.YtjmabkpcahmnpaaGreatDoor
open Go.RowKit
def sumC (h:Int) (c:UInt8):Int:=IntKind.u64.wrap (IntKind.u64.wrap ((BitVec.ofInt IntKind.u64.bits h ^^^ BitVec.ofInt IntKind.u64.bits (IntKind.u64.wrap (c.toNat:Nat))).toNat:Nat)*1099511628211)
def sumB (s:Bs):Int:=s.foldl sumC 14695981039346656037
theorem wrap_u64 (n:Int):0≤IntKind.u64.wrap n∧IntKind.u64.wrap n<18446744073709551616:=by
 have e:IntKind.u64.wrap n=n % 18446744073709551616:=rfl
 rw[e];omega
theorem sumB_in (s:Bs):0≤sumB s∧sumB s<18446744073709551616:=by
 have h:∀(l:Bs) (x:Int),0≤x∧x<18446744073709551616→0≤l.foldl sumC x∧l.foldl sumC x<18446744073709551616:=by
  intro l
  induction l with
  |nil=>intro x h;exact h
  |cons c l ih=>intro x _;exact ih _ (wrap_u64 _)
 exact h s _ (by omega)
theorem x_hsum (s:Bs) (hs:s.length≤281474976710656):DCalls Tryz.prog 35 [bstr s] (.cv (.int .u64 (sumB s))):=by
 refine sx Tryz.func35 (by kernel_rfl) ?_
 conv=>whnf
 rw[mk_size]
 refine⟨[],Nat×Int,fun⟨k,h⟩=>[(3,.cv (.int .u64 h)),(7,int k)],fun _=>[],fun⟨k,h⟩=>k≤s.length∧(s.drop k).foldl sumC h=sumB s,fun x=>s.length - x.1,(0,14695981039346656037),⟨Nat.zero_le _,rfl⟩,?_,?_⟩
 ·refine⟨rfl,?_,?_⟩<;>repeat' (first|exact trivial|exact rfl|refine and_rfl ?_|refine and_two ?_ ?_)
 rintro⟨k,h⟩ ⟨b0,b1⟩
 conv=>whnf
 rintro(_|_) h1
 ·have h1:s.length≤k:=by simp at h1;omega
  rw[List.drop_eq_nil_of_le h1] at b1
  have b1:h=sumB s:=b1
  rw[←b1]
  (conv=>whnf)<;>rfl
 have h1:k<s.length:=by simp at h1;omega
 rw[List.drop_eq_getElem_cons h1,List.foldl_cons] at b1
 conv=>whnf
 refine⟨by omega,_,mk_at h1,?_⟩
 conv=>whnf
 refine⟨(k+1,sumC h s[k]),⟨h1,b1⟩,by dsimp only;omega,?_⟩
 refine⟨rfl,?_,?_⟩<;>repeat' (first|exact trivial|exact rfl|refine and_rfl ?_|refine and_val (wrap_succ (by omega)) ?_|refine and_two ?_ ?_)
end Go.Proofs.YtjmabkpcahmnpaaGreatDoor
namespace Go.Proofs.YtjmabkpcahmnpaaGreatDoor
open Go.RowKit
theorem skp_bl {c:UInt8} {l:Bs} (h:isBl c=true):skp false (c::l)=skp false l+1:=by simp[skp,h]
theorem skp_end {c:UInt8} {l:Bs} (h:isBl c=false) (h2:(c==47&&l.head? ==some 47)=false):skp false (c::l)=0:=by simp[skp,h,h2]
theorem skp_com {l:Bs} (h:l.head?=some 47):skp false (47::l)=skp true l+1:=by simp[skp,h,show isBl 47=false from rfl]
theorem skp_nl {l:Bs}:skp true (10::l)=skp false (10::l):=by simp[skp,show isBl 10=true from rfl]
theorem skp_in {c:UInt8} {l:Bs} (h:(c==10)=false):skp true (c::l)=skp true l+1:=by simp[skp,h]
end Go.Proofs.YtjmabkpcahmnpaaGreatDoor
namespace Go.Proofs
open Go.Shelf
def Tryz.lays156_ren:Go.Shelf.Ren:=⟨fun|156=>51|165=>70|166=>71|169=>72|240=>101|241=>102|276=>137|277=>138|n=>n,fun|31=>22|9=>9|3=>3|4=>4|0=>0|20=>20|72=>135|76=>138|70=>133|37=>132|75=>137|127=>179|164=>219|5=>5|80=>140|n=>n,fun|n=>n⟩
theorem Tryz.lays156:Go.Proofs.Lays.n156 Tryz.prog Tryz.lays156_ren:={
 mixed:=by kernel_rfl
 f156:=Tryz.func51.trans (congrArg some (by kernel_rfl))
 f165:=Tryz.func70.trans (congrArg some (by kernel_rfl))
 f166:=Tryz.func71.trans (congrArg some (by kernel_rfl))
 f169:=Tryz.func72.trans (congrArg some (by kernel_rfl))
 f240:=Tryz.func101.trans (congrArg some (by kernel_rfl))
 f241:=Tryz.func102.trans (congrArg some (by kernel_rfl))
 f276:=Tryz.func137.trans (congrArg some (by kernel_rfl))
 f277:=Tryz.func138.trans (congrArg some (by kernel_rfl))
 t0:=Tryz.underlying0
 a0:=Tryz.isAgg0
 z0:=Tryz.sizeOf0
 v0:=Tryz.zeroValue0
 t3:=Tryz.underlying3
 a3:=Tryz.isAgg3
 z3:=Tryz.sizeOf3
 v3:=Tryz.zeroValue3
 t4:=Tryz.underlying4
 a4:=Tryz.isAgg4
 z4:=Tryz.sizeOf4
 v4:=Tryz.zeroValue4
 t9:=Tryz.underlying9
 a9:=Tryz.isAgg9
 z9:=Tryz.sizeOf9
 v9:=Tryz.zeroValue9
 t20:=Tryz.underlying20
 a20:=Tryz.isAgg20
 z20:=Tryz.sizeOf20
 v20:=Tryz.zeroValue20
 t31:=Tryz.underlying22
 a31:=Tryz.isAgg22
 z31:=Tryz.sizeOf22
 v31:=Tryz.zeroValue22
 t37:=Tryz.underlying132
 a37:=Tryz.isAgg132
 z37:=Tryz.sizeOf132
 v37:=Tryz.zeroValue132
 t70:=Tryz.underlying133
 a70:=Tryz.isAgg133
 z70:=Tryz.sizeOf133
 v70:=Tryz.zeroValue133
 t72:=Tryz.underlying135
 a72:=Tryz.isAgg135
 z72:=Tryz.sizeOf135
 v72:=Tryz.zeroValue135
 t75:=Tryz.underlying137
 a75:=Tryz.isAgg137
 z75:=Tryz.sizeOf137
 v75:=Tryz.zeroValue137
 t76:=Tryz.underlying138
 a76:=Tryz.isAgg138
 z76:=Tryz.sizeOf138
 v76:=Tryz.zeroValue138
 t127:=Tryz.underlying179
 a127:=Tryz.isAgg179
 z127:=Tryz.sizeOf179
 v127:=Tryz.zeroValue179
 t164:=Tryz.underlying219
 a164:=Tryz.isAgg219
 z164:=Tryz.sizeOf219
 v164:=Tryz.zeroValue219}
theorem Tryz.Builder_Extra_156:Builder.Extra Tryz.prog Tryz.lays156_ren:={
 sizeBuilder:=by kernel_rfl
 liesBuilder:=by kernel_rfl
 t5:=Tryz.underlying5
 a5:=Tryz.isAgg5
 z5:=Tryz.sizeOf5
 v5:=Tryz.zeroValue5
 infoByte:=by kernel_rfl
 cellsByte:=by kernel_rfl
 sizeByte:=by kernel_rfl
 neB5:=by decide}
open Go.RowKit in
theorem Tryz.strings_Join_none (a:Option Addr) (c:Nat) (sep:ByteArray) (w:World):
  Calls Tryz.prog 51 #[.slice a 0 c,.string sep] w fun e w'=>e= .returned (.string ⟨#[]⟩)∧w'=w:=Any.strings_Join_none Tryz.lays156 Tryz.Builder_Extra_156 a c sep w
open Go.RowKit in
theorem Tryz.strings_Join (bk o c:Nat) (xs:List ByteArray) (sep:ByteArray) (w:World) (hcells:∀(j:Nat) x,xs[j]?=some x→w.cell? ⟨bk,o+j,none⟩=some (.string x)) (hbk:bk<w.heap.size) (hN:xs.length≤140737488355328) (hcap:xs.length≤c) (hlen:(Lib.join (xs.map (·.data.toList)) sep.data.toList).length≤140737488355328):
  Calls Tryz.prog 51 #[.slice (some ⟨bk,o,none⟩) xs.length c,.string sep] w fun e w'=>e= .returned (.string ⟨(Lib.join (xs.map (·.data.toList)) sep.data.toList).toArray⟩)∧Below w.heap.size w w':=Any.strings_Join Tryz.lays156 Tryz.Builder_Extra_156 bk o c xs sep w hcells hbk hN hcap hlen
def Tryz.lays137_ren:Go.Shelf.Ren:=⟨fun|137=>186|217=>203|266=>214|n=>n,fun|9=>9|5=>5|3=>3|n=>n,fun|n=>n⟩
theorem Tryz.lays137:Go.Proofs.Lays.n137 Tryz.prog Tryz.lays137_ren:={
 mixed:=by kernel_rfl
 f137:=Tryz.func186.trans (congrArg some (by kernel_rfl))
 f217:=Tryz.func203.trans (congrArg some (by kernel_rfl))
 f266:=Tryz.func214.trans (congrArg some (by kernel_rfl))
 t3:=Tryz.underlying3
 a3:=Tryz.isAgg3
 z3:=Tryz.sizeOf3
 v3:=Tryz.zeroValue3
 t5:=Tryz.underlying5
 a5:=Tryz.isAgg5
 z5:=Tryz.sizeOf5
 v5:=Tryz.zeroValue5
 t9:=Tryz.underlying9
 a9:=Tryz.isAgg9
 z9:=Tryz.sizeOf9
 v9:=Tryz.zeroValue9}
open Go.RowKit in
theorem Tryz.strings_IndexByte (s:ByteArray) (c:Int) (w:World):
  Calls Tryz.prog 186 #[.string s,.int .u8 c] w fun e w'=>e= .returned (.int .i64 (Lib.indexByte s.data.toList c.toNat.toUInt8))∧w'=w:=Any.strings_IndexByte Tryz.lays137 s c w
def Tryz.laysM171_ren:Go.Shelf.Ren:=⟨fun|171=>69|243=>100|246=>136|283=>103|284=>104|285=>105|286=>106|129=>92|317=>139|318=>140|319=>141|320=>142|337=>176|338=>177|n=>n,fun|3=>3|9=>9|2=>2|4=>4|171=>180|0=>0|53=>84|37=>132|5=>5|173=>182|212=>224|51=>162|20=>20|213=>225|46=>123|232=>266|233=>267|n=>n,fun|17=>0|18=>3|19=>4|n=>n⟩
theorem Tryz.laysM171:Go.Proofs.LaysM.n171 Tryz.prog Tryz.laysM171_ren:={
 mixed:=by kernel_rfl
 f129:=Tryz.func92.trans (congrArg some (by kernel_rfl))
 f171:=Tryz.func69.trans (congrArg some (by kernel_rfl))
 f243:=Tryz.func100.trans (congrArg some (by kernel_rfl))
 f246:=Tryz.func136.trans (congrArg some (by kernel_rfl))
 f283:=Tryz.func103.trans (congrArg some (by kernel_rfl))
 f284:=Tryz.func104.trans (congrArg some (by kernel_rfl))
 f285:=Tryz.func105.trans (congrArg some (by kernel_rfl))
 f286:=Tryz.func106.trans (congrArg some (by kernel_rfl))
 f317:=Tryz.func139.trans (congrArg some (by kernel_rfl))
 f318:=Tryz.func140.trans (congrArg some (by kernel_rfl))
 f319:=Tryz.func141.trans (congrArg some (by kernel_rfl))
 f320:=Tryz.func142.trans (congrArg some (by kernel_rfl))
 f337:=Tryz.func176.trans (congrArg some (by kernel_rfl))
 f338:=Tryz.func177.trans (congrArg some (by kernel_rfl))
 t0:=Tryz.underlying0
 a0:=Tryz.isAgg0
 z0:=Tryz.sizeOf0
 v0:=Tryz.zeroValue0
 t2:=Tryz.underlying2
 a2:=Tryz.isAgg2
 z2:=Tryz.sizeOf2
 v2:=Tryz.zeroValue2
 t3:=Tryz.underlying3
 a3:=Tryz.isAgg3
 z3:=Tryz.sizeOf3
 v3:=Tryz.zeroValue3
 t4:=Tryz.underlying4
 a4:=Tryz.isAgg4
 z4:=Tryz.sizeOf4
 v4:=Tryz.zeroValue4
 t5:=Tryz.underlying5
 a5:=Tryz.isAgg5
 z5:=Tryz.sizeOf5
 v5:=Tryz.zeroValue5
 t9:=Tryz.underlying9
 a9:=Tryz.isAgg9
 z9:=Tryz.sizeOf9
 v9:=Tryz.zeroValue9
 t20:=Tryz.underlying20
 a20:=Tryz.isAgg20
 z20:=Tryz.sizeOf20
 v20:=Tryz.zeroValue20
 t37:=Tryz.underlying132
 a37:=Tryz.isAgg132
 z37:=Tryz.sizeOf132
 v37:=Tryz.zeroValue132
 t46:=Tryz.underlying123
 a46:=Tryz.isAgg123
 z46:=Tryz.sizeOf123
 v46:=Tryz.zeroValue123
 t51:=Tryz.underlying162
 a51:=Tryz.isAgg162
 z51:=Tryz.sizeOf162
 v51:=Tryz.zeroValue162
 t53:=Tryz.underlying84
 a53:=Tryz.isAgg84
 z53:=Tryz.sizeOf84
 v53:=Tryz.zeroValue84
 t171:=Tryz.underlying180
 a171:=Tryz.isAgg180
 z171:=Tryz.sizeOf180
 v171:=Tryz.zeroValue180
 t173:=Tryz.underlying182
 a173:=Tryz.isAgg182
 z173:=Tryz.sizeOf182
 v173:=Tryz.zeroValue182
 t212:=Tryz.underlying224
 a212:=Tryz.isAgg224
 z212:=Tryz.sizeOf224
 v212:=Tryz.zeroValue224
 t213:=Tryz.underlying225
 a213:=Tryz.isAgg225
 z213:=Tryz.sizeOf225
 t232:=Tryz.underlying266
 a232:=Tryz.isAgg266
 z232:=Tryz.sizeOf266
 v232:=Tryz.zeroValue266
 t233:=Tryz.underlying267
 a233:=Tryz.isAgg267
 z233:=Tryz.sizeOf267
 v233:=Tryz.zeroValue267
 g17:=by kernel_rfl
 g18:=by kernel_rfl
 g19:=by kernel_rfl
 i0:=by kernel_rfl
 i2:=by kernel_rfl
 i3:=by kernel_rfl
 i4:=by kernel_rfl
 i5:=by kernel_rfl
 i9:=by kernel_rfl
 i20:=by kernel_rfl
 i37:=by kernel_rfl
 i46:=by kernel_rfl
 i51:=by kernel_rfl
 i53:=by kernel_rfl
 i171:=by kernel_rfl
 i173:=by kernel_rfl
 i212:=by kernel_rfl
 i232:=by kernel_rfl
 i233:=by kernel_rfl
 m17:=by kernel_rfl
 m18:=by kernel_rfl
 m19:=by kernel_rfl}
open Go.RowKit Go.Sort Go.Lib in
theorem Tryz.strconv_Itoa (n:Int) (h0: -9223372036854775808≤n) (h1:n≤9223372036854775807) (w:World) (htab:Lib.TabIs Tryz.prog w "internal/strconv.uint64pow10" .u64 Lib.pow10Tab):
  Calls Tryz.prog 69 #[.int .i64 n] w fun e w'=>e= .returned (.string ⟨(Lib.itoa n).toArray⟩)∧∃k os,w'=grow (w.drewN k) os:=Any.strconv_Itoa Tryz.laysM171 n h0 h1 w htab
def Tryz.laysC172_ren:Go.Shelf.Ren:=⟨fun|172=>191|244=>204|245=>205|247=>215|279=>216|280=>217|281=>218|282=>219|287=>223|316=>224|171=>69|205=>225|321=>228|322=>229|243=>100|246=>136|283=>103|284=>104|285=>105|286=>106|129=>92|317=>139|318=>140|319=>141|320=>142|337=>176|338=>177|n=>n,fun|9=>9|3=>3|75=>137|76=>138|4=>4|5=>5|167=>278|37=>132|0=>0|85=>279|2=>2|168=>281|53=>84|175=>285|46=>123|210=>289|127=>179|145=>298|143=>296|21=>21|171=>180|173=>182|212=>224|51=>162|20=>20|213=>225|232=>266|233=>267|80=>140|n=>n,fun|15=>5|16=>6|17=>0|18=>3|19=>4|n=>n⟩
theorem Tryz.laysC172:Go.Proofs.LaysC.n172 Tryz.prog Tryz.laysC172_ren:={
 mixed:=by kernel_rfl
 f129:=Tryz.func92.trans (congrArg some (by kernel_rfl))
 f171:=Tryz.func69.trans (congrArg some (by kernel_rfl))
 f172:=Tryz.func191.trans (congrArg some (by kernel_rfl))
 f205:=Tryz.func225.trans (congrArg some (by kernel_rfl))
 f243:=Tryz.func100.trans (congrArg some (by kernel_rfl))
 f244:=Tryz.func204.trans (congrArg some (by kernel_rfl))
 f245:=Tryz.func205.trans (congrArg some (by kernel_rfl))
 f246:=Tryz.func136.trans (congrArg some (by kernel_rfl))
 f247:=Tryz.func215.trans (congrArg some (by kernel_rfl))
 f279:=Tryz.func216.trans (congrArg some (by kernel_rfl))
 f280:=Tryz.func217.trans (congrArg some (by kernel_rfl))
 f281:=Tryz.func218.trans (congrArg some (by kernel_rfl))
 f282:=Tryz.func219.trans (congrArg some (by kernel_rfl))
 f283:=Tryz.func103.trans (congrArg some (by kernel_rfl))
 f284:=Tryz.func104.trans (congrArg some (by kernel_rfl))
 f285:=Tryz.func105.trans (congrArg some (by kernel_rfl))
 f286:=Tryz.func106.trans (congrArg some (by kernel_rfl))
 f287:=Tryz.func223.trans (congrArg some (by kernel_rfl))
 f316:=Tryz.func224.trans (congrArg some (by kernel_rfl))
 f317:=Tryz.func139.trans (congrArg some (by kernel_rfl))
 f318:=Tryz.func140.trans (congrArg some (by kernel_rfl))
 f319:=Tryz.func141.trans (congrArg some (by kernel_rfl))
 f320:=Tryz.func142.trans (congrArg some (by kernel_rfl))
 f321:=Tryz.func228.trans (congrArg some (by kernel_rfl))
 f322:=Tryz.func229.trans (congrArg some (by kernel_rfl))
 f337:=Tryz.func176.trans (congrArg some (by kernel_rfl))
 f338:=Tryz.func177.trans (congrArg some (by kernel_rfl))
 t0:=Tryz.underlying0
 a0:=Tryz.isAgg0
 z0:=Tryz.sizeOf0
 v0:=Tryz.zeroValue0
 t2:=Tryz.underlying2
 a2:=Tryz.isAgg2
 z2:=Tryz.sizeOf2
 v2:=Tryz.zeroValue2
 t3:=Tryz.underlying3
 a3:=Tryz.isAgg3
 z3:=Tryz.sizeOf3
 v3:=Tryz.zeroValue3
 t4:=Tryz.underlying4
 a4:=Tryz.isAgg4
 z4:=Tryz.sizeOf4
 v4:=Tryz.zeroValue4
 t5:=Tryz.underlying5
 a5:=Tryz.isAgg5
 z5:=Tryz.sizeOf5
 v5:=Tryz.zeroValue5
 t9:=Tryz.underlying9
 a9:=Tryz.isAgg9
 z9:=Tryz.sizeOf9
 v9:=Tryz.zeroValue9
 t20:=Tryz.underlying20
 a20:=Tryz.isAgg20
 z20:=Tryz.sizeOf20
 v20:=Tryz.zeroValue20
 t21:=Tryz.underlying21
 a21:=Tryz.isAgg21
 z21:=Tryz.sizeOf21
 v21:=Tryz.zeroValue21
 t37:=Tryz.underlying132
 a37:=Tryz.isAgg132
 z37:=Tryz.sizeOf132
 v37:=Tryz.zeroValue132
 t46:=Tryz.underlying123
 a46:=Tryz.isAgg123
 z46:=Tryz.sizeOf123
 v46:=Tryz.zeroValue123
 t51:=Tryz.underlying162
 a51:=Tryz.isAgg162
 z51:=Tryz.sizeOf162
 v51:=Tryz.zeroValue162
 t53:=Tryz.underlying84
 a53:=Tryz.isAgg84
 z53:=Tryz.sizeOf84
 v53:=Tryz.zeroValue84
 t75:=Tryz.underlying137
 a75:=Tryz.isAgg137
 z75:=Tryz.sizeOf137
 v75:=Tryz.zeroValue137
 t76:=Tryz.underlying138
 a76:=Tryz.isAgg138
 z76:=Tryz.sizeOf138
 v76:=Tryz.zeroValue138
 t85:=Tryz.underlying279
 a85:=Tryz.isAgg279
 z85:=Tryz.sizeOf279
 v85:=Tryz.zeroValue279
 t127:=Tryz.underlying179
 a127:=Tryz.isAgg179
 z127:=Tryz.sizeOf179
 v127:=Tryz.zeroValue179
 t143:=Tryz.underlying296
 a143:=Tryz.isAgg296
 z143:=Tryz.sizeOf296
 v143:=Tryz.zeroValue296
 t145:=Tryz.underlying298
 a145:=Tryz.isAgg298
 z145:=Tryz.sizeOf298
 v145:=Tryz.zeroValue298
 t167:=Tryz.underlying278
 a167:=Tryz.isAgg278
 z167:=Tryz.sizeOf278
 v167:=Tryz.zeroValue278
 t168:=Tryz.underlying281
 a168:=Tryz.isAgg281
 z168:=Tryz.sizeOf281
 v168:=Tryz.zeroValue281
 t171:=Tryz.underlying180
 a171:=Tryz.isAgg180
 z171:=Tryz.sizeOf180
 v171:=Tryz.zeroValue180
 t173:=Tryz.underlying182
 a173:=Tryz.isAgg182
 z173:=Tryz.sizeOf182
 v173:=Tryz.zeroValue182
 t175:=Tryz.underlying285
 a175:=Tryz.isAgg285
 z175:=Tryz.sizeOf285
 v175:=Tryz.zeroValue285
 t210:=Tryz.underlying289
 a210:=Tryz.isAgg289
 z210:=Tryz.sizeOf289
 v210:=Tryz.zeroValue289
 t212:=Tryz.underlying224
 a212:=Tryz.isAgg224
 z212:=Tryz.sizeOf224
 v212:=Tryz.zeroValue224
 t213:=Tryz.underlying225
 a213:=Tryz.isAgg225
 z213:=Tryz.sizeOf225
 t232:=Tryz.underlying266
 a232:=Tryz.isAgg266
 z232:=Tryz.sizeOf266
 v232:=Tryz.zeroValue266
 t233:=Tryz.underlying267
 a233:=Tryz.isAgg267
 z233:=Tryz.sizeOf267
 v233:=Tryz.zeroValue267
 g15:=by kernel_rfl
 g16:=by kernel_rfl
 g17:=by kernel_rfl
 g18:=by kernel_rfl
 g19:=by kernel_rfl
 t80:=Tryz.underlying140
 a80:=Tryz.isAgg140
 z80:=Tryz.sizeOf140
 v80:=Tryz.zeroValue140
 i0:=by kernel_rfl
 i2:=by kernel_rfl
 i3:=by kernel_rfl
 i4:=by kernel_rfl
 i5:=by kernel_rfl
 i9:=by kernel_rfl
 i20:=by kernel_rfl
 i21:=by kernel_rfl
 i37:=by kernel_rfl
 i46:=by kernel_rfl
 i51:=by kernel_rfl
 i53:=by kernel_rfl
 i75:=by kernel_rfl
 i76:=by kernel_rfl
 i80:=by kernel_rfl
 i85:=by kernel_rfl
 i127:=by kernel_rfl
 i143:=by kernel_rfl
 i145:=by kernel_rfl
 i167:=by kernel_rfl
 i168:=by kernel_rfl
 i171:=by kernel_rfl
 i173:=by kernel_rfl
 i175:=by kernel_rfl
 i210:=by kernel_rfl
 i212:=by kernel_rfl
 i232:=by kernel_rfl
 i233:=by kernel_rfl
 m15:=by kernel_rfl
 m16:=by kernel_rfl
 m17:=by kernel_rfl
 m18:=by kernel_rfl
 m19:=by kernel_rfl
 c0:=by kernel_rfl
 c2:=by kernel_rfl
 c3:=by kernel_rfl
 c4:=by kernel_rfl
 c5:=by kernel_rfl
 c9:=by kernel_rfl
 c20:=by kernel_rfl
 c21:=by kernel_rfl
 c37:=by kernel_rfl
 c46:=by kernel_rfl
 c51:=by kernel_rfl
 c53:=by kernel_rfl
 c75:=by kernel_rfl
 c76:=by kernel_rfl
 c80:=by kernel_rfl
 c85:=by kernel_rfl
 c127:=by kernel_rfl
 c143:=by kernel_rfl
 c145:=by kernel_rfl
 c167:=by kernel_rfl
 c168:=by kernel_rfl
 c171:=by kernel_rfl
 c173:=by kernel_rfl
 c175:=by kernel_rfl
 c210:=by kernel_rfl
 c212:=by kernel_rfl
 c213:=by kernel_rfl
 c232:=by kernel_rfl
 c233:=by kernel_rfl}
open Go.RowKit in
theorem Tryz.strconv_Atoi_ok (s:ByteArray) (hmax:s.size≤9223372036854775806) (v:Int) (h:Lib.atoiAll s.data.toList= .ok v) (w:World):
  Calls Tryz.prog 191 #[.string s] w fun e w'=>e= .returned (.tuple #[.int .i64 v,.nilIface])∧(w'=w∨∃t,w'=Lib.bytesWorld w 5 t):=Any.strconv_Atoi_ok Tryz.laysC172 s hmax v h w
open Go.RowKit in
theorem Tryz.strconv_Atoi_range (s:ByteArray) (hlim:s.size≤281474976710656) (h:Lib.atoiAll s.data.toList= .range) (ev:Value) (w:World) (hv:w.cell? ⟨6,0,none⟩=some ev) (hev:ev= .nilIface∨∃te pe,ev= .iface te pe):
  Calls Tryz.prog 191 #[.string s] w fun e w'=>∃N,e= .returned (.tuple #[.int .i64 (Lib.atoiSat s.data.toList),.iface 281 (.pointer (some ⟨N,0,none⟩))])∧w.heap.size≤N∧w'.heap[N]?=some (.cells #[.string ⟨#[65,116,111,105]⟩,.string s,ev] 289 (0,0))∧Below w.heap.size w w':=Any.strconv_Atoi_range Tryz.laysC172 s hlim h ev w hv hev
def Tryz.lays138_ren:Go.Shelf.Ren:=⟨fun|138=>237|195=>239|218=>240|143=>241|219=>243|217=>203|225=>189|224=>188|267=>246|266=>214|314=>249|n=>n,fun|9=>9|3=>3|4=>4|5=>5|0=>0|46=>123|146=>184|51=>162|n=>n,fun|1=>2|n=>n⟩
theorem Tryz.lays138:Go.Proofs.Lays.n138 Tryz.prog Tryz.lays138_ren:={
 mixed:=by kernel_rfl
 f138:=Tryz.func237.trans (congrArg some (by kernel_rfl))
 f143:=Tryz.func241.trans (congrArg some (by kernel_rfl))
 f195:=Tryz.func239.trans (congrArg some (by kernel_rfl))
 f217:=Tryz.func203.trans (congrArg some (by kernel_rfl))
 f218:=Tryz.func240.trans (congrArg some (by kernel_rfl))
 f219:=Tryz.func243.trans (congrArg some (by kernel_rfl))
 f224:=Tryz.func188.trans (congrArg some (by kernel_rfl))
 f225:=Tryz.func189.trans (congrArg some (by kernel_rfl))
 f266:=Tryz.func214.trans (congrArg some (by kernel_rfl))
 f267:=Tryz.func246.trans (congrArg some (by kernel_rfl))
 f314:=Tryz.func249.trans (congrArg some (by kernel_rfl))
 t0:=Tryz.underlying0
 a0:=Tryz.isAgg0
 z0:=Tryz.sizeOf0
 v0:=Tryz.zeroValue0
 t3:=Tryz.underlying3
 a3:=Tryz.isAgg3
 z3:=Tryz.sizeOf3
 v3:=Tryz.zeroValue3
 t4:=Tryz.underlying4
 a4:=Tryz.isAgg4
 z4:=Tryz.sizeOf4
 v4:=Tryz.zeroValue4
 t5:=Tryz.underlying5
 a5:=Tryz.isAgg5
 z5:=Tryz.sizeOf5
 v5:=Tryz.zeroValue5
 t9:=Tryz.underlying9
 a9:=Tryz.isAgg9
 z9:=Tryz.sizeOf9
 v9:=Tryz.zeroValue9
 t46:=Tryz.underlying123
 a46:=Tryz.isAgg123
 z46:=Tryz.sizeOf123
 v46:=Tryz.zeroValue123
 t51:=Tryz.underlying162
 a51:=Tryz.isAgg162
 z51:=Tryz.sizeOf162
 v51:=Tryz.zeroValue162
 t146:=Tryz.underlying184
 a146:=Tryz.isAgg184
 z146:=Tryz.sizeOf184
 v146:=Tryz.zeroValue184
 g1:=by kernel_rfl}
open Go.RowKit Go.Lib in
theorem Tryz.strings_Count_one (s:ByteArray) (c:UInt8) (w:World):
  Calls Tryz.prog 237 #[.string s,.string ⟨#[c]⟩] w fun e w'=>e= .returned (.int .i64 (Lib.countByte s.data.toList c))∧w'=w:=Any.strings_Count_one Tryz.lays138 s c w
def Tryz.lays99_ren:Go.Shelf.Ren:=⟨fun|99=>75|206=>109|n=>n,fun|9=>9|4=>4|3=>3|n=>n,fun|n=>n⟩
theorem Tryz.lays99:Go.Proofs.Lays.n99 Tryz.prog Tryz.lays99_ren:={
 mixed:=by kernel_rfl
 f99:=Tryz.func75.trans (congrArg some (by kernel_rfl))
 f206:=Tryz.func109.trans (congrArg some (by kernel_rfl))
 t3:=Tryz.underlying3
 a3:=Tryz.isAgg3
 z3:=Tryz.sizeOf3
 v3:=Tryz.zeroValue3
 t4:=Tryz.underlying4
 a4:=Tryz.isAgg4
 z4:=Tryz.sizeOf4
 v4:=Tryz.zeroValue4
 t9:=Tryz.underlying9
 a9:=Tryz.isAgg9
 z9:=Tryz.sizeOf9
 v9:=Tryz.zeroValue9}
open Go.RowKit Go.Lib in
theorem Tryz.strings_HasPrefix (s p:ByteArray) (w:World):
  Calls Tryz.prog 75 #[.string s,.string p] w fun e w'=>e= .returned (.bool (Lib.hasPrefix s.data.toList p.data.toList))∧w'=w:=Any.strings_HasPrefix Tryz.lays99 s p w
def Tryz.lays152_ren:Go.Shelf.Ren:=⟨fun|152=>159|137=>186|119=>187|224=>188|225=>189|217=>203|266=>214|n=>n,fun|9=>9|21=>21|3=>3|4=>4|5=>5|0=>0|46=>123|n=>n,fun|n=>n⟩
theorem Tryz.lays152:Go.Proofs.Lays.n152 Tryz.prog Tryz.lays152_ren:={
 mixed:=by kernel_rfl
 f119:=Tryz.func187.trans (congrArg some (by kernel_rfl))
 f137:=Tryz.func186.trans (congrArg some (by kernel_rfl))
 f152:=Tryz.func159.trans (congrArg some (by kernel_rfl))
 f217:=Tryz.func203.trans (congrArg some (by kernel_rfl))
 f224:=Tryz.func188.trans (congrArg some (by kernel_rfl))
 f225:=Tryz.func189.trans (congrArg some (by kernel_rfl))
 f266:=Tryz.func214.trans (congrArg some (by kernel_rfl))
 t0:=Tryz.underlying0
 a0:=Tryz.isAgg0
 z0:=Tryz.sizeOf0
 v0:=Tryz.zeroValue0
 t3:=Tryz.underlying3
 a3:=Tryz.isAgg3
 z3:=Tryz.sizeOf3
 v3:=Tryz.zeroValue3
 t4:=Tryz.underlying4
 a4:=Tryz.isAgg4
 z4:=Tryz.sizeOf4
 v4:=Tryz.zeroValue4
 t5:=Tryz.underlying5
 a5:=Tryz.isAgg5
 z5:=Tryz.sizeOf5
 v5:=Tryz.zeroValue5
 t9:=Tryz.underlying9
 a9:=Tryz.isAgg9
 z9:=Tryz.sizeOf9
 v9:=Tryz.zeroValue9
 t21:=Tryz.underlying21
 a21:=Tryz.isAgg21
 z21:=Tryz.sizeOf21
 v21:=Tryz.zeroValue21
 t46:=Tryz.underlying123
 a46:=Tryz.isAgg123
 z46:=Tryz.sizeOf123
 v46:=Tryz.zeroValue123}
open Go.RowKit Go.Lib in
theorem Tryz.strings_IndexRune_ascii (s:ByteArray) (r:Int) (w:World) (h0:0≤r) (h1:r<128):
  Calls Tryz.prog 159 #[.string s,.int .i32 r] w fun e w'=>e= .returned (.int .i64 (Lib.indexByte s.data.toList r.toNat.toUInt8))∧w'=w:=Any.strings_IndexRune_ascii Tryz.lays152 s r w h0 h1
def Tryz.lays151_ren:Go.Shelf.Ren:=⟨fun|151=>185|152=>159|137=>186|119=>187|224=>188|225=>189|217=>203|266=>214|n=>n,fun|9=>9|21=>21|4=>4|3=>3|5=>5|0=>0|46=>123|n=>n,fun|n=>n⟩
theorem Tryz.lays151:Go.Proofs.Lays.n151 Tryz.prog Tryz.lays151_ren:={
 mixed:=by kernel_rfl
 f119:=Tryz.func187.trans (congrArg some (by kernel_rfl))
 f137:=Tryz.func186.trans (congrArg some (by kernel_rfl))
 f151:=Tryz.func185.trans (congrArg some (by kernel_rfl))
 f152:=Tryz.func159.trans (congrArg some (by kernel_rfl))
 f217:=Tryz.func203.trans (congrArg some (by kernel_rfl))
 f224:=Tryz.func188.trans (congrArg some (by kernel_rfl))
 f225:=Tryz.func189.trans (congrArg some (by kernel_rfl))
 f266:=Tryz.func214.trans (congrArg some (by kernel_rfl))
 t0:=Tryz.underlying0
 a0:=Tryz.isAgg0
 z0:=Tryz.sizeOf0
 v0:=Tryz.zeroValue0
 t3:=Tryz.underlying3
 a3:=Tryz.isAgg3
 z3:=Tryz.sizeOf3
 v3:=Tryz.zeroValue3
 t4:=Tryz.underlying4
 a4:=Tryz.isAgg4
 z4:=Tryz.sizeOf4
 v4:=Tryz.zeroValue4
 t5:=Tryz.underlying5
 a5:=Tryz.isAgg5
 z5:=Tryz.sizeOf5
 v5:=Tryz.zeroValue5
 t9:=Tryz.underlying9
 a9:=Tryz.isAgg9
 z9:=Tryz.sizeOf9
 v9:=Tryz.zeroValue9
 t21:=Tryz.underlying21
 a21:=Tryz.isAgg21
 z21:=Tryz.sizeOf21
 v21:=Tryz.zeroValue21
 t46:=Tryz.underlying123
 a46:=Tryz.isAgg123
 z46:=Tryz.sizeOf123
 v46:=Tryz.zeroValue123}
open Go.RowKit Go.Lib in
theorem Tryz.strings_ContainsRune_ascii (s:ByteArray) (r:Int) (w:World) (h0:0≤r) (h1:r<128):
  Calls Tryz.prog 185 #[.string s,.int .i32 r] w fun e w'=>e= .returned (.bool (decide (0≤Lib.indexByte s.data.toList r.toNat.toUInt8)))∧w'=w:=Any.strings_ContainsRune_ascii Tryz.lays151 s r w h0 h1
def Tryz.lays105_ren:Go.Shelf.Ren:=⟨fun|105=>53|212=>74|99=>75|165=>70|166=>71|170=>76|169=>72|263=>107|264=>108|206=>109|240=>101|241=>102|276=>137|277=>138|n=>n,fun|9=>9|3=>3|4=>4|20=>20|0=>0|46=>123|109=>141|5=>5|72=>135|76=>138|51=>162|146=>184|53=>84|148=>186|70=>133|37=>132|75=>137|127=>179|164=>219|80=>140|n=>n,fun|n=>n⟩
theorem Tryz.lays105:Go.Proofs.Lays.n105 Tryz.prog Tryz.lays105_ren:={
 mixed:=by kernel_rfl
 f99:=Tryz.func75.trans (congrArg some (by kernel_rfl))
 f105:=Tryz.func53.trans (congrArg some (by kernel_rfl))
 f165:=Tryz.func70.trans (congrArg some (by kernel_rfl))
 f166:=Tryz.func71.trans (congrArg some (by kernel_rfl))
 f169:=Tryz.func72.trans (congrArg some (by kernel_rfl))
 f170:=Tryz.func76.trans (congrArg some (by kernel_rfl))
 f206:=Tryz.func109.trans (congrArg some (by kernel_rfl))
 f212:=Tryz.func74.trans (congrArg some (by kernel_rfl))
 f240:=Tryz.func101.trans (congrArg some (by kernel_rfl))
 f241:=Tryz.func102.trans (congrArg some (by kernel_rfl))
 f263:=Tryz.func107.trans (congrArg some (by kernel_rfl))
 f264:=Tryz.func108.trans (congrArg some (by kernel_rfl))
 f276:=Tryz.func137.trans (congrArg some (by kernel_rfl))
 f277:=Tryz.func138.trans (congrArg some (by kernel_rfl))
 t0:=Tryz.underlying0
 a0:=Tryz.isAgg0
 z0:=Tryz.sizeOf0
 v0:=Tryz.zeroValue0
 t3:=Tryz.underlying3
 a3:=Tryz.isAgg3
 z3:=Tryz.sizeOf3
 v3:=Tryz.zeroValue3
 t4:=Tryz.underlying4
 a4:=Tryz.isAgg4
 z4:=Tryz.sizeOf4
 v4:=Tryz.zeroValue4
 t5:=Tryz.underlying5
 a5:=Tryz.isAgg5
 z5:=Tryz.sizeOf5
 v5:=Tryz.zeroValue5
 t9:=Tryz.underlying9
 a9:=Tryz.isAgg9
 z9:=Tryz.sizeOf9
 v9:=Tryz.zeroValue9
 t20:=Tryz.underlying20
 a20:=Tryz.isAgg20
 z20:=Tryz.sizeOf20
 v20:=Tryz.zeroValue20
 t37:=Tryz.underlying132
 a37:=Tryz.isAgg132
 z37:=Tryz.sizeOf132
 v37:=Tryz.zeroValue132
 t46:=Tryz.underlying123
 a46:=Tryz.isAgg123
 z46:=Tryz.sizeOf123
 v46:=Tryz.zeroValue123
 t51:=Tryz.underlying162
 a51:=Tryz.isAgg162
 z51:=Tryz.sizeOf162
 v51:=Tryz.zeroValue162
 t53:=Tryz.underlying84
 a53:=Tryz.isAgg84
 z53:=Tryz.sizeOf84
 v53:=Tryz.zeroValue84
 t70:=Tryz.underlying133
 a70:=Tryz.isAgg133
 z70:=Tryz.sizeOf133
 v70:=Tryz.zeroValue133
 t72:=Tryz.underlying135
 a72:=Tryz.isAgg135
 z72:=Tryz.sizeOf135
 v72:=Tryz.zeroValue135
 t75:=Tryz.underlying137
 a75:=Tryz.isAgg137
 z75:=Tryz.sizeOf137
 v75:=Tryz.zeroValue137
 t76:=Tryz.underlying138
 a76:=Tryz.isAgg138
 z76:=Tryz.sizeOf138
 v76:=Tryz.zeroValue138
 t109:=Tryz.underlying141
 a109:=Tryz.isAgg141
 z109:=Tryz.sizeOf141
 v109:=Tryz.zeroValue141
 t127:=Tryz.underlying179
 a127:=Tryz.isAgg179
 z127:=Tryz.sizeOf179
 v127:=Tryz.zeroValue179
 t146:=Tryz.underlying184
 a146:=Tryz.isAgg184
 z146:=Tryz.sizeOf184
 v146:=Tryz.zeroValue184
 t148:=Tryz.underlying186
 a148:=Tryz.isAgg186
 z148:=Tryz.sizeOf186
 v148:=Tryz.zeroValue186
 t164:=Tryz.underlying219
 a164:=Tryz.isAgg219
 z164:=Tryz.sizeOf219
 v164:=Tryz.zeroValue219}
theorem Tryz.Builder_Extra_105:Builder.Extra Tryz.prog Tryz.lays105_ren:={
 sizeBuilder:=by kernel_rfl
 liesBuilder:=by kernel_rfl
 t5:=Tryz.underlying5
 a5:=Tryz.isAgg5
 z5:=Tryz.sizeOf5
 v5:=Tryz.zeroValue5
 infoByte:=by kernel_rfl
 cellsByte:=by kernel_rfl
 sizeByte:=by kernel_rfl
 neB5:=by decide}
open Go.RowKit Go.Lib in
theorem Tryz.strings_Repeat (s:ByteArray) (c:Nat) (w:World) (hc:c≤9223372036854775807) (hlen:s.size*c≤140737488355328):
  Calls Tryz.prog 53 #[.string s,.int .i64 c] w fun e w'=>e= .returned (.string ⟨(Lib.repeatL s.data.toList c).toArray⟩)∧Below w.heap.size w w':=Any.strings_Repeat Tryz.lays105 Tryz.Builder_Extra_105 s c w hc hlen
def Tryz.laysNm216_ren:Go.Shelf.Ren:=⟨fun|16=>36|n=>n,fun|24=>22|9=>9|4=>4|n=>n,fun|n=>n⟩
theorem Tryz.laysNm216:Go.Proofs.Lays2.n16 Tryz.prog Tryz.laysNm216_ren:={
 mixed:=by kernel_rfl
 f16:=Tryz.func36.trans (congrArg some (by kernel_rfl))
 t4:=Tryz.underlying4
 a4:=Tryz.isAgg4
 z4:=Tryz.sizeOf4
 v4:=Tryz.zeroValue4
 t9:=Tryz.underlying9
 a9:=Tryz.isAgg9
 z9:=Tryz.sizeOf9
 v9:=Tryz.zeroValue9
 t24:=Tryz.underlying22
 a24:=Tryz.isAgg22
 z24:=Tryz.sizeOf22
 v24:=Tryz.zeroValue22
 i9:=by kernel_rfl}
open Go.RowKit Go.Lib in
theorem Tryz.slices_Clone_string_nil (n c:Nat) (w:World):
  Calls Tryz.prog 36 #[.slice none n c] w fun e w'=>e= .returned (.slice none 0 0)∧w'=w:=Any.slices_Clone_string_nil Tryz.laysNm216 n c w
def Tryz.lays194_ren:Go.Shelf.Ren:=⟨fun|194=>135|n=>n,fun|31=>22|9=>9|3=>3|4=>4|0=>0|n=>n,fun|n=>n⟩
theorem Tryz.lays194:Go.Proofs.Lays.n194 Tryz.prog Tryz.lays194_ren:={
 mixed:=by kernel_rfl
 f194:=Tryz.func135.trans (congrArg some (by kernel_rfl))
 t0:=Tryz.underlying0
 a0:=Tryz.isAgg0
 z0:=Tryz.sizeOf0
 v0:=Tryz.zeroValue0
 t3:=Tryz.underlying3
 a3:=Tryz.isAgg3
 z3:=Tryz.sizeOf3
 v3:=Tryz.zeroValue3
 t4:=Tryz.underlying4
 a4:=Tryz.isAgg4
 z4:=Tryz.sizeOf4
 v4:=Tryz.zeroValue4
 t9:=Tryz.underlying9
 a9:=Tryz.isAgg9
 z9:=Tryz.sizeOf9
 v9:=Tryz.zeroValue9
 t31:=Tryz.underlying22
 a31:=Tryz.isAgg22
 z31:=Tryz.sizeOf22
 v31:=Tryz.zeroValue22}
open Go.RowKit Go.Lib Go.Sort in
theorem Tryz.slices_Compact_string (blk off cap:Nat) (zs:List (List UInt8)) (w:World) (hH:Holds encStr w blk off zs.toArray) (hsz:zs.length≤9223372036854775807) (hcap:zs.length≤cap):
  Calls Tryz.prog 135 #[.slice (some ⟨blk,off,none⟩) zs.length cap] w fun e w'=>e= .returned (.slice (some ⟨blk,off,none⟩) (Lib.compact zs).length cap)∧∃q,w'=putRow encStr (Sort.ahead w q) blk off (Lib.compact zs++List.replicate (zs.length - (Lib.compact zs).length) []).toArray:=Any.slices_Compact_string Tryz.lays194 blk off cap zs w hH hsz hcap
open Go.RowKit Go.Lib Go.Sort in
theorem Tryz.slices_Compact_string_empty (a:Option Addr) (cap:Nat) (w:World):
  Calls Tryz.prog 135 #[.slice a 0 cap] w fun e w'=>e= .returned (.slice a 0 cap)∧w'=w:=Any.slices_Compact_string_empty Tryz.lays194 a cap w
end Go.Proofs
namespace Go.Proofs.YtjmabkpcahmnpaaGreatDoor
open Go.RowKit
abbrev i32 (n:Int):V:= .cv (.int .i32 n)
theorem x_indexByte (s:ByteArray) (c:UInt8):DCalls Tryz.prog 186 [str s,u8 c] (int (Lib.indexByte s.data.toList c)):=by
 refine dcalls_val Tryz.func186 (by kernel_rfl) (by kernel_rfl) rfl rfl fun w _=>(Tryz.strings_IndexByte s (c.toNat:Nat) w).mono fun e w' ⟨h1,h2⟩=>⟨?_,h2▸Below.refl _ _⟩
 rw[h1]
 simp
theorem x_hasPrefix (s p:ByteArray):DCalls Tryz.prog 75 [str s,str p] (boo (Lib.hasPrefix s.data.toList p.data.toList)):=
 dcalls_val Tryz.func75 (by kernel_rfl) (by kernel_rfl) rfl rfl fun w _=>(Tryz.strings_HasPrefix s p w).mono fun e w' ⟨h1,h2⟩=>⟨h1,h2▸Below.refl _ _⟩
theorem x_indexRune (s:ByteArray) (r:Int) (h0:0≤r) (h1:r<128):DCalls Tryz.prog 159 [str s,i32 r] (int (Lib.indexByte s.data.toList r.toNat.toUInt8)):=
 dcalls_val Tryz.func159 (by kernel_rfl) (by kernel_rfl) rfl rfl fun w _=>(Tryz.strings_IndexRune_ascii s r w h0 h1).mono fun e w' ⟨h1,h2⟩=>⟨h1,h2▸Below.refl _ _⟩
theorem x_containsRune (s:ByteArray) (r:Int) (h0:0≤r) (h1:r<128):DCalls Tryz.prog 185 [str s,i32 r] (boo (decide (0≤Lib.indexByte s.data.toList r.toNat.toUInt8))):=
 dcalls_val Tryz.func185 (by kernel_rfl) (by kernel_rfl) rfl rfl fun w _=>(Tryz.strings_ContainsRune_ascii s r w h0 h1).mono fun e w' ⟨h1,h2⟩=>⟨h1,h2▸Below.refl _ _⟩
theorem enc_high (c:UInt8) (h:128≤c.toNat):∃b0 b1:UInt8,Utf8.encode (c.toNat:Nat)=mk [b0,b1]∧128≤b1.toNat:=by
 have:∀n:Fin 256,128≤n.val→Utf8.encode (n.val:Nat)=mk [(192+n.val / 64).toUInt8,(128+n.val % 64).toUInt8]∧128≤((128+n.val % 64).toUInt8).toNat:=by decide+kernel
 exact⟨_,_,this ⟨c.toNat,c.toNat_lt⟩ h⟩
theorem idx_high (b:UInt8) (h:128≤b.toNat):Lib.indexByte (syms.drop 2) b= -1∧b.toNat≠41:=by
 have:∀n:Fin 256,128≤n.val→Lib.indexByte (syms.drop 2) (UInt8.ofNat n.val)= -1:=by decide+kernel
 refine⟨?_,by omega⟩
 have:=this ⟨b.toNat,b.toNat_lt⟩ h
 simpa using this
theorem x_validRune (r:Int) (h0:0≤r) (h1:r<256):DCalls Tryz.prog 187 [i32 r] (boo true):=by
 refine sx Tryz.func187 (by kernel_rfl) ?_
 conv=>whnf
 rintro(_|_) h2
 ·simp at h2;omega
 conv=>whnf
 rintro(_|_) h3
 ·simp at h3;omega
 rfl
theorem x_indexHigh (c:UInt8) (h:128≤c.toNat):DCalls Tryz.prog 159 [bstr syms,i32 (c.toNat:Nat)] (int (-1)):=by
 have hc:=c.toNat_lt
 refine sxm [(1000009,false)] Tryz.func159 (by kernel_rfl) ?_
 conv=>whnf
 refine known true (by simp) ?_
 conv=>whnf
 refine known false (by simp;omega) ?_
 conv=>whnf
 refine known false (by simp;omega) ?_
 conv=>whnf
 refine⟨_,x_validRune _ (by omega) (by omega),?_⟩
 conv=>whnf
 refine known false rfl ?_
 conv=>whnf
 refine⟨_,_,ot_rune rfl rfl (by kernel_rfl) (by kernel_rfl),?_⟩
 obtain⟨b0,b1,he,hb1⟩:=enc_high c h
 rw[he]
 have e1:IntKind.i64.wrap (((mk [b0,b1]).size:Nat) - 1:Int)=((1:Nat):Int):=by rw[mk_size];rfl
 conv=>whnf
 rw[e1]
 refine⟨[],Unit,fun _=>[(9,int (1:Nat))],fun _=>[],fun _=>True,fun _=>0,(),trivial,?_,?_⟩
 ·refine⟨rfl,?_,?_⟩<;>repeat' (first|exact trivial|exact rfl|refine and_rfl ?_|refine and_two ?_ ?_)
 rintro _ _
 conv=>whnf
 refine known true (by rw[mk_size];rfl) ?_
 conv=>whnf
 refine⟨none,by kernel_rfl,?_⟩
 conv=>whnf
 refine⟨by omega,_,(show(mk syms)[1]?=some 41 from rfl),?_⟩
 conv=>whnf
 refine⟨by omega,_,(show(mk [b0,b1])[1]?=some b1 from rfl),?_⟩
 conv=>whnf
 refine known true (by simp;have:=(idx_high b1 hb1).2;omega) ?_
 conv=>whnf
 refine⟨none,by kernel_rfl,?_⟩
 have e2:(mk syms).extract (IntKind.i64.wrap (((1:Nat):Int)+1)).toNat (((mk syms).size:Nat):Int).toNat=mk (syms.drop 2):=mk_from syms 2
 conv=>whnf
 refine⟨by decide,by decide,Int.le_refl _,?_⟩
 rw[e2]
 conv=>whnf
 refine⟨by omega,_,(show(mk [b0,b1])[1]?=some b1 from rfl),?_⟩
 conv=>whnf
 refine⟨_,x_indexByte (mk (syms.drop 2)) b1,?_⟩
 rw[show Lib.indexByte (mk (syms.drop 2)).data.toList b1= -1 from(idx_high b1 hb1).1]
 conv=>whnf
 refine known true rfl ?_
 rfl
theorem isSy_low (c:UInt8) (h:c.toNat<128):decide (0≤Lib.indexByte (mk syms).data.toList (c.toNat:Int).toNat.toUInt8)=isSy c:=by
 have:∀n:Fin 256,n.val<128→decide (0≤Lib.indexByte syms (UInt8.ofNat n.val))=isSy (UInt8.ofNat n.val):=by decide+kernel
 have:=this ⟨c.toNat,c.toNat_lt⟩ h
 show decide (0≤Lib.indexByte syms _)=_
 simpa using this
theorem isSy_high (c:UInt8) (h:128≤c.toNat):isSy c=false:=by
 have:∀n:Fin 256,128≤n.val→isSy (UInt8.ofNat n.val)=false:=by decide+kernel
 have:=this ⟨c.toNat,c.toNat_lt⟩ h
 simpa using this
theorem x_containsSy (c:UInt8):DCalls Tryz.prog 185 [bstr syms,i32 (c.toNat:Nat)] (boo (isSy c)):=by
 rcases Nat.lt_or_ge c.toNat 128 with h|h
 ·rw[←isSy_low c h]
  exact x_containsRune _ _ (by omega) (by omega)
 ·rw[isSy_high c h]
  refine sx Tryz.func185 (by kernel_rfl) ?_
  conv=>whnf
  refine⟨_,x_indexHigh c h,?_⟩
  rfl
theorem cls_int (c:UInt8):cls c=if(c.toNat:Int)=32∨(c.toNat:Int)=9∨(c.toNat:Int)=10 then 1 else if(97≤(c.toNat:Int)∧(c.toNat:Int)≤122)∨(c.toNat:Int)=95 then 2 else
  if 48≤(c.toNat:Int)∧(c.toNat:Int)≤57 then 3 else if(c.toNat:Int)=34 then 4 else if(c.toNat:Int)=64 then 5 else if isSy c=true then 6 else 0:=by
 unfold cls
 rw[isBl_int,isHd_int,isDg_int,u8_eq c 34,u8_eq c 64]
 simp only[Bool.or_eq_true,Bool.and_eq_true,decide_eq_true_eq,or_assoc]
 rfl
theorem x_of (c:UInt8):DCalls Tryz.prog 158 [i32 (c.toNat:Nat)] (int (cls c)):=by
 refine sx Tryz.func158 (by kernel_rfl) ?_
 repeat' (first|exact fin_int (by rw[cls_int];simp at*;(repeat' split)<;>first|rfl|omega|simp_all)|((conv=>whnf);first|rintro(_|_) h|refine⟨_,x_containsSy c,?_⟩))
theorem wrap_u8 (c:UInt8):IntKind.i32.wrap ((c.toNat:Nat):Int)=((c.toNat:Nat):Int):=by
 have:=c.toNat_lt
 exact IntWalk.i32_in _ (by omega)
theorem x_ofw (c:UInt8):DCalls Tryz.prog 158 [i32 (IntKind.i32.wrap ((c.toNat:Nat):Int))] (int (cls c)):=by rw[wrap_u8];exact x_of c
end Go.Proofs.YtjmabkpcahmnpaaGreatDoor
namespace Go.Proofs.YtjmabkpcahmnpaaGreatDoor
open Go.RowKit
theorem cls_bl (c:UInt8):(cls c==1)=isBl c:=by
 rw[cls_int,isBl_int,Bool.eq_iff_iff];simp only[beq_iff_eq,Bool.or_eq_true,decide_eq_true_eq];(repeat' split)<;>omega
theorem cls_hd (c:UInt8):(cls c==2)=isHd c:=by
 rw[cls_int,isHd_int,Bool.eq_iff_iff];simp only[beq_iff_eq,Bool.or_eq_true,Bool.and_eq_true,decide_eq_true_eq];(repeat' split)<;>omega
theorem cls_dg (c:UInt8):(cls c==3)=isDg c:=by
 rw[cls_int,isDg_int,Bool.eq_iff_iff];simp only[beq_iff_eq,Bool.and_eq_true,decide_eq_true_eq];(repeat' split)<;>omega
theorem cls_sy (c:UInt8):(cls c==6)=isSy c:=by
 have:∀n:Fin 256,(cls (UInt8.ofNat n.val)==6)=isSy (UInt8.ofNat n.val):=by decide+kernel
 have:=this ⟨c.toNat,c.toNat_lt⟩
 simpa using this
theorem x_run (l:Bs) (hl:l.length<9223372036854775807):DCalls Tryz.prog 160 [bstr l] (int (runL l:Nat)):=by
 refine sx Tryz.func160 (by kernel_rfl) ?_
 conv=>whnf
 refine⟨[],Nat,fun k=>[(3,int k)],fun _=>[],fun k=>k≤l.length∧k+(if k=0 then runL l else runT (l.drop k))=runL l,fun k=>l.length - k,0,⟨Nat.zero_le _,by simp⟩,?_,?_⟩
 ·refine⟨rfl,?_,?_⟩<;>repeat' (first|exact trivial|exact rfl|refine and_rfl ?_|refine and_two ?_ ?_)
 rintro k ⟨hk1,hk⟩
 conv=>whnf
 rintro(_|_) h2
 ·simp[mk_size] at h2
  rw[List.drop_eq_nil_of_le h2] at hk
  conv=>whnf
  exact fin_int (by split at hk<;>simp[runT] at hk<;>first|omega|(subst k;have:l=[]:=List.eq_nil_of_length_eq_zero (by omega);subst this;simp[runL]))
 simp[mk_size] at h2
 have next:(if k=0 then runL l else runT (l.drop k))=runT (l.drop (k+1))+1→(k+1)+(if k+1=0 then runL l else runT (l.drop (k+1)))=runL l:=by
  intro h;rw[if_neg (by omega)];omega
 have hd0:k=0→runL l=if isHd l[k] then runT (l.drop (k+1))+1 else 0:=by
  intro e;subst e
  cases l with
  |nil=>simp at h2
  |cons c l=>rfl
 have hdk:runT (l.drop k)=if isHd l[k]||isDg l[k] then runT (l.drop (k+1))+1 else 0:=by rw[drop_cons h2];rfl
 conv=>whnf
 refine⟨by omega,_,mk_at h2,?_⟩
 conv=>whnf
 refine⟨_,x_ofw l[k],?_⟩
 conv=>whnf
 rw[cls_hd]
 rintro(_|_) h3
 rotate_left
 ·rw[h3] at hd0 hdk
  conv=>whnf
  refine⟨k+1,⟨by omega,next (by split;exact hd0 (by assumption);exact hdk)⟩,by dsimp only;omega,?_⟩
  refine⟨rfl,?_,?_⟩<;>repeat' (first|exact trivial|exact rfl|refine and_rfl ?_|refine and_val (wrap_succ (by omega)) ?_|refine and_two ?_ ?_)
 rw[h3] at hd0 hdk
 conv=>whnf
 rintro(_|_) h4
 ·simp at h4
  conv=>whnf
  exact fin_int (by rw[if_pos h4] at hk;have:=hd0 h4;simp at this;omega)
 simp at h4
 rw[if_neg (by omega)] at hk next
 conv=>whnf
 refine⟨by omega,_,mk_at h2,?_⟩
 conv=>whnf
 refine⟨_,x_ofw l[k],?_⟩
 conv=>whnf
 rw[cls_dg]
 rintro(_|_) h5
 ·rw[h5] at hdk
  conv=>whnf
  exact fin_int (by simp at hdk;omega)
 rw[h5] at hdk
 conv=>whnf
 refine⟨k+1,⟨by omega,next hdk⟩,by dsimp only;omega,?_⟩
 refine⟨rfl,?_,?_⟩<;>repeat' (first|exact trivial|exact rfl|refine and_rfl ?_|refine and_val (wrap_succ (by omega)) ?_|refine and_two ?_ ?_)
theorem x_digits (l:Bs) (hl:l.length<9223372036854775807):DCalls Tryz.prog 162 [bstr l] (int (digL l:Nat)):=by
 refine sx Tryz.func162 (by kernel_rfl) ?_
 conv=>whnf
 refine⟨[],Nat,fun k=>[(3,int k)],fun _=>[],fun k=>k≤l.length∧k+digL (l.drop k)=digL l,fun k=>l.length - k,0,⟨Nat.zero_le _,by simp⟩,?_,?_⟩
 ·refine⟨rfl,?_,?_⟩<;>repeat' (first|exact trivial|exact rfl|refine and_rfl ?_|refine and_two ?_ ?_)
 rintro k ⟨hk1,hk⟩
 conv=>whnf
 rintro(_|_) h2
 ·simp[mk_size] at h2
  rw[List.drop_eq_nil_of_le h2] at hk
  conv=>whnf
  exact fin_int (by simp[digL] at hk;omega)
 simp[mk_size] at h2
 have hdk:digL (l.drop k)=if isDg l[k] then digL (l.drop (k+1))+1 else 0:=by rw[drop_cons h2];rfl
 conv=>whnf
 refine⟨by omega,_,mk_at h2,?_⟩
 conv=>whnf
 refine⟨_,x_ofw l[k],?_⟩
 conv=>whnf
 rw[cls_dg]
 rintro(_|_) h3
 ·rw[h3] at hdk
  conv=>whnf
  exact fin_int (by simp at hdk;omega)
 rw[h3] at hdk
 simp at hdk
 conv=>whnf
 refine⟨k+1,⟨by omega,by omega⟩,by dsimp only;omega,?_⟩
 refine⟨rfl,?_,?_⟩<;>repeat' (first|exact trivial|exact rfl|refine and_rfl ?_|refine and_val (wrap_succ (by omega)) ?_|refine and_two ?_ ?_)
end Go.Proofs.YtjmabkpcahmnpaaGreatDoor
