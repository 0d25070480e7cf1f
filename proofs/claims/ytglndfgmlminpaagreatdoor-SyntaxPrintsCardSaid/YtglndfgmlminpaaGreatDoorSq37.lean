/- Texts joined by pack.py: XSyK XSyL XSyN XSyO0 -/
import Derived.Test.YtglndfgmlminpaaGreatDoorSq36
set_option maxHeartbeats 16000000
set_option maxRecDepth 100000
namespace Go.Proofs.YtglndfgmlminpaaGreatDoor
section
open Go.RowKit
section
variable {l : List Tok} {e : Int} {fs : List Fc} {f : Nat} {E : b2_}
theorem x_post (hP : PC 259 (hi_ e E) l e fs (f + 1)) (hC : PC 139 E l e fs f) (hE : be_ E) (hG : bp_ E) (hl : l.length ≤ 1000000) : PC 255 (gd_ e E) l e fs (f + 1) := by
 intro k ns hk hf hn
 generalize hR : gd_ e E (l.drop k) ns = R
 unfold gd_ at hR
 refine me_ Tryz.func255 kR kR ?_
 cases h1 : hi_ e E (l.drop k) ns with
 | error o =>
  rw [h1] at hR
  subst hR
  conv => whnf
  refine .inr ?_
  exact co_ (T := TM ab_) (hP.err hk hf hn h1) rfl
 | ok r =>
  obtain ⟨i, r1, ns1⟩ := r
  rw [h1] at hR
  obtain ⟨k1, rfl, c1, c2, c3, c4⟩ := hP.ok (fg_ hE) (m9_ hG hE) hk hf hn h1
  conv => whnf
  refine .inl ?_
  conv => whnf
  refine T_ (T := TM ab_) (φ := []) (gf := false) c4 ?_
  conv => whnf
  refine ⟨[], Nat × Int × List Nd, fun ⟨k, i, ns⟩ => [(3, int i)], fun ⟨k, i, ns⟩ => [(29, some (kg_ l k e 30 31)), (30, some (kh_ ns)), (31, some (km_ fs))],
   fun ⟨k, i, ns⟩ => k1 ≤ k ∧ k ≤ l.length ∧ ns.length + (l.length - k) ≤ 1000000 ∧ ∃ f', l.length - k ≤ f' ∧ h6_ e E f' i (l.drop k) ns = R, fun x => l.length - x.1, (k1, i, ns1), ⟨f_ _, c2, oM, _, by rw [p_]; exact f_ _, hR⟩, ?_, ?_⟩
  ·exact eN
  clear h1 hR c2 c3 c4 hn
  rintro ⟨k2, i, ns⟩ ⟨b0, b1, b2, f', b3, b4⟩
  conv => whnf
  refine .inl ?_
  cases hb : ak_ 5 [sLB] (l.drop k2) with
  | false =>
   conv => whnf
   refine T_ (T := TM ab_) (φ := []) (gf := false) (b7_ (ts := [sLB]) hl sI hb b1) ?_
   conv => whnf
   refine kT ?_
   have hR : R = .ok (i, l.drop k2, ns) := by
    rw [← b4]
    cases f' with
    | zero => rfl
    | succ f' =>
     unfold h6_
     rw [if_neg (by rw [a8_, ← ay_, hb]; simp)]
   conv => whnf
   exact ⟨_, by rw [hR, b8_ b1], rfl, rfl, rfl⟩
  | true =>
   have hk2 := ac_ hb
   conv => whnf
   refine T_ (T := TM ab_) (φ := []) (gf := false) (b6_ (ts := [sLB]) hl sI hb hk2) ?_
   conv => whnf
   refine kF ?_
   obtain ⟨f', rfl⟩ : ∃ g, f' = g + 1 := ⟨f' - 1, oM⟩
   unfold h6_ at b4
   rw [if_pos (by rw [a8_, ← ay_, hb]), tail_drop] at b4
   cases h2 : E (l.drop (k2 + 1)) ns with
   | error o =>
    rw [h2] at b4
    subst b4
    conv => whnf
    refine .inr ?_
    exact co_ (T := TM ab_) (hC.err oM oM oM h2) rfl
   | ok r =>
    obtain ⟨j, r3, ns3⟩ := r
    rw [h2] at b4
    obtain ⟨k3, rfl, d1, d2, d3, d4⟩ := hC.ok hE hG oM oM oM h2
    dsimp only at b4
    rw [fk_, ← ay_] at b4
    conv => whnf
    refine .inl ?_
    conv => whnf
    refine T_ (T := TM ab_) (φ := []) (gf := false) d4 ?_
    cases hc : ak_ 5 [sRB] (l.drop k3) with
    | false =>
     rw [if_neg (by rw [hc]; simp)] at b4
     subst b4
     conv => whnf
     refine .inr ?_
     exact co_ (T := TM ab_) (ch_ (k := k3) (ts := [sRB]) hl sI hc d2) rfl
    | true =>
     have hk3 := ac_ hc
     rw [if_pos hc] at b4
     conv => whnf
     refine .inl ?_
     conv => whnf
     refine T_ (T := TM ab_) (φ := []) (gf := false) (br_ (k := k3) (ts := [sRB]) hl sI hc hk3) ?_
     conv => whnf
     refine .inl ?_
     conv => whnf
     refine T_ (T := TM ab_) (φ := []) (gf := false) (dr_ (ns := ns3) (ndM 10 [] 0 [i, j]) (show ns3.length ≤ 1000000 by omega)) ?_
     conv => whnf
     refine ⟨(k3 + 1, (ns3.length : Nat), ns3 ++ [ndM 10 [] 0 [i, j]]), ⟨oM, oM, by rw [a_]; simp; omega, f', oM, b4⟩, by dsimp only; omega, ?_⟩
     exact eN
theorem unaryP_drop {k : Nat} {ns : List Nd} : do_ e E (l.drop k) ns = if ak_ 5 [sMi] (l.drop k) then (match do_ e E (l.drop (k + 1)) ns with
      | .error o => .error o
      | .ok (i, r2, ns2) => dx_ (ndM 8 sMi 0 [i]) r2 ns2) else gd_ e E (l.drop k) ns := by
 rw [ay_]
 rcases s_ k l.length with h | h
 ·rw [r_ h]
  show (if a8_ sMi _ then _ else _) = _
  rfl
 ·rw [k_ h]; rfl
theorem x_unary (hP : PC 255 (gd_ e E) l e fs (f + 1)) (hE : be_ E) (hG : bp_ E) (hl : l.length ≤ 1000000) : ∀ (d : Nat) (k : Nat) (ns : List Nd), l.length - k ≤ d → k ≤ l.length → l.length - k < f + 1 → ns.length + (l.length - k) ≤ 1000000 →
  gq_ Tryz.prog 249 [.bx 0 0] (pM l k e ns fs) (outP l e fs (do_ e E (l.drop k) ns)) := by
 intro d
 induction d with
 | zero => ?_
 | succ d ih => ?_
 all_goals
  intro k ns hd hk hf hn
  rw [unaryP_drop]
  refine me_ Tryz.func249 kR kR ?_
  conv => whnf
  refine .inl ?_
  cases hb : ak_ 5 [sMi] (l.drop k) with
  | false =>
   conv => whnf
   refine T_ (T := TM ab_) (φ := []) (gf := false) (b7_ (ts := [sMi]) hl sI hb hk) ?_
   conv => whnf
   refine kF ?_
   rw [if_neg sI]
   cases h1 : gd_ e E (l.drop k) ns with
   | error o =>
    conv => whnf
    refine .inr ?_
    exact co_ (T := TM ab_) (hP.err hk hf hn h1) rfl
   | ok r =>
    obtain ⟨i, r1, ns1⟩ := r
    obtain ⟨k1, rfl, c1, c2, c3, c4⟩ := hP.ok (i5_ hE) (i4_ hG hE) hk hf hn h1
    conv => whnf
    refine .inl ?_
    conv => whnf
    refine T_ (T := TM ab_) (φ := []) (gf := false) c4 ?_
    conv => whnf
    exact ⟨_, by rw [b8_ c2], rfl, rfl, rfl⟩
  | true =>
   have hk1 := ac_ hb
   first
   | exact absurd hk1 oM
   | rw [if_pos rfl]
     conv => whnf
     refine T_ (T := TM ab_) (φ := []) (gf := false) (b6_ (ts := [sMi]) hl sI hb hk1) ?_
     conv => whnf
     refine kT ?_
     have c := ih (k + 1) ns oM oM oM oM
     cases h1 : do_ e E (l.drop (k + 1)) ns with
     | error o =>
       rw [h1] at c
       conv => whnf
       refine .inr ?_
       exact co_ (T := TM ab_) c rfl
     | ok r =>
       obtain ⟨i, r1, ns1⟩ := r
       rw [h1] at c
       have hg := hb_ hG hE h1
       rw [p_] at hg
       conv => whnf
       refine .inl ?_
       conv => whnf
       refine T_ (T := TM ab_) (φ := []) (gf := false) c ?_
       conv => whnf
       refine .inl ?_
       conv => whnf
       refine T_ (T := TM ab_) (φ := []) (gf := false) (dr_ (ns := ns1) (ndM 8 sMi 0 [i]) (show ns1.length ≤ 1000000 by omega)) ?_
       conv => whnf
       exact ⟨_, rfl, rfl, rfl, rfl⟩
end
end
section
open Go.RowKit
section
variable {l : List Tok} {e : Int} {fs : List Fc} {f : Nat} {E : b2_}
theorem x_term (hO : PC 249 (do_ e E) l e fs (f + 1)) (hE : be_ E) (hG : bp_ E) (hl : l.length ≤ 1000000) : PC 237 (mj_ e E) l e fs (f + 1) := by
 intro k ns hk hf hn
 have c := oi_ hO (fu_ hE) (hb_ hG hE) hl 5 opMul dC dC hk hf hn
 rw [show by_ 5 opMul (do_ e E) (l.drop k) ns = mj_ e E (l.drop k) ns from rfl] at c
 refine me_ Tryz.func237 kR kR ?_
 generalize mj_ e E (l.drop k) ns = R at c
 cases R with
 | error o =>
  conv => whnf
  refine .inr ?_
  exact co_ (T := TM ab_) c rfl
 | ok r =>
  conv => whnf
  refine .inl ?_
  conv => whnf
  refine T_ (T := TM ab_) (φ := []) (gf := false) c ?_
  conv => whnf
  exact ⟨_, rfl, rfl, rfl, rfl⟩
theorem x_sum (hO : PC 237 (mj_ e E) l e fs (f + 1)) (hE : be_ E) (hG : bp_ E) (hl : l.length ≤ 1000000) : PC 218 (sumP e E) l e fs (f + 1) := by
 intro k ns hk hf hn
 have c := p7_ hO (gt_ hE) (m4_ hG hE) hl 5 opAdd dC dC hk hf hn
 rw [show by_ 5 opAdd (mj_ e E) (l.drop k) ns = sumP e E (l.drop k) ns from rfl] at c
 refine me_ Tryz.func218 kR kR ?_
 generalize sumP e E (l.drop k) ns = R at c
 cases R with
 | error o =>
  conv => whnf
  refine .inr ?_
  exact co_ (T := TM ab_) c rfl
 | ok r =>
  conv => whnf
  refine .inl ?_
  conv => whnf
  refine T_ (T := TM ab_) (φ := []) (gf := false) c ?_
  conv => whnf
  exact ⟨_, rfl, rfl, rfl, rfl⟩
theorem x_and (hO : PC 201 (pv_ e E) l e fs (f + 1)) (hE : be_ E) (hG : bp_ E) (hl : l.length ≤ 1000000) : PC 174 (andP e E) l e fs (f + 1) := by
 intro k ns hk hf hn
 have c := x_chain_not hO (h9_ hE) (lg_ hG hE) hl 2 [qc_] dC dC hk hf hn
 rw [show by_ 2 [qc_] (pv_ e E) (l.drop k) ns = andP e E (l.drop k) ns from rfl] at c
 refine me_ Tryz.func174 kR kR ?_
 generalize andP e E (l.drop k) ns = R at c
 cases R with
 | error o =>
  conv => whnf
  refine .inr ?_
  exact co_ (T := TM ab_) c rfl
 | ok r =>
  conv => whnf
  refine .inl ?_
  conv => whnf
  refine T_ (T := TM ab_) (φ := []) (gf := false) c ?_
  conv => whnf
  exact ⟨_, rfl, rfl, rfl, rfl⟩
theorem x_expr1 (hO : PC 174 (andP e E) l e fs (f + 1)) (hE : be_ E) (hG : bp_ E) (hl : l.length ≤ 1000000) : PC 139 (orP e E) l e fs (f + 1) := by
 intro k ns hk hf hn
 have c := x_chain_and hO (ip_ hE) (andP_grow hG hE) hl 2 [wOr] dC dC hk hf hn
 rw [show by_ 2 [wOr] (andP e E) (l.drop k) ns = orP e E (l.drop k) ns from rfl] at c
 refine me_ Tryz.func139 kR kR ?_
 generalize orP e E (l.drop k) ns = R at c
 cases R with
 | error o =>
  conv => whnf
  refine .inr ?_
  exact co_ (T := TM ab_) c rfl
 | ok r =>
  conv => whnf
  refine .inl ?_
  conv => whnf
  refine T_ (T := TM ab_) (φ := []) (gf := false) c ?_
  conv => whnf
  exact ⟨_, rfl, rfl, rfl, rfl⟩
theorem notP_drop {k : Nat} {ns : List Nd} : pv_ e E (l.drop k) ns = if ak_ 2 [e9_] (l.drop k) then (match pv_ e E (l.drop (k + 1)) ns with
      | .error o => .error o
      | .ok (i, r2, ns2) => dx_ (ndM 8 e9_ 0 [i]) r2 ns2) else cmpP e E (l.drop k) ns := by
 rw [ay_]
 rcases s_ k l.length with h | h
 ·rw [r_ h]
  show (if jg_ e9_ _ then _ else _) = _
  rfl
 ·rw [k_ h]; rfl
theorem x_not (hS : PC 218 (sumP e E) l e fs (f + 1)) (hE : be_ E) (hG : bp_ E) (hl : l.length ≤ 1000000) : ∀ (d : Nat) (k : Nat) (ns : List Nd), l.length - k ≤ d → k ≤ l.length → l.length - k < f + 1 → ns.length + (l.length - k) ≤ 1000000 →
  gq_ Tryz.prog 201 [.bx 0 0] (pM l k e ns fs) (outP l e fs (pv_ e E (l.drop k) ns)) := by
 intro d
 induction d with
 | zero => ?_
 | succ d ih => ?_
 all_goals
  intro k ns hd hk hf hn
  rw [notP_drop]
  refine me_ Tryz.func201 kR kR ?_
  conv => whnf
  refine .inl ?_
  cases hb : ak_ 2 [e9_] (l.drop k) with
  | false =>
   conv => whnf
   refine T_ (T := TM ab_) (φ := []) (gf := false) (b7_ (ts := [e9_]) hl sI hb hk) ?_
   conv => whnf
   refine kF ?_
   rw [if_neg sI]
   generalize hR : cmpP e E (l.drop k) ns = R
   unfold cmpP at hR
   cases h1 : sumP e E (l.drop k) ns with
   | error o =>
    rw [h1] at hR
    subst hR
    conv => whnf
    refine .inr ?_
    exact co_ (T := TM ab_) (hS.err hk hf hn h1) rfl
   | ok r =>
    obtain ⟨i, r1, ns1⟩ := r
    rw [h1] at hR
    obtain ⟨k1, rfl, c1, c2, c3, c4⟩ := hS.ok (fc_ hE) (h3_ hG hE) hk hf hn h1
    conv => whnf
    refine .inl ?_
    conv => whnf
    refine T_ (T := TM ab_) (φ := []) (gf := false) c4 ?_
    dsimp only at hR
    conv => whnf
    refine .inl ?_
    cases hc : ak_ 5 opCmp (l.drop k1) with
    | false =>
     rw [if_neg (by rw [← c0_ dC, hc]; simp)] at hR
     conv => whnf
     refine T_ (T := TM ab_) (φ := []) (gf := false) (b7_ (k := k1) (ts := opCmp) hl dC hc c2) ?_
     conv => whnf
     refine kF ?_
     conv => whnf
     exact ⟨_, by rw [← hR, b8_ c2], rfl, rfl, rfl⟩
    | true =>
     have hk1 := ac_ hc
     rw [if_pos ((c0_ dC _).1 hc), tail_drop, b5_ hk1] at hR
     conv => whnf
     refine T_ (T := TM ab_) (φ := []) (gf := false) (b6_ (k := k1) (ts := opCmp) hl dC hc hk1) ?_
     conv => whnf
     refine kT ?_
     cases h2 : sumP e E (l.drop (k1 + 1)) ns1 with
     | error o =>
      rw [h2] at hR
      subst hR
      conv => whnf
      refine .inr ?_
      exact co_ (T := TM ab_) (hS.err oM oM oM h2) rfl
     | ok r =>
      obtain ⟨j, r2, ns2⟩ := r
      rw [h2] at hR
      obtain ⟨k2, rfl, d1, d2, d3, d4⟩ := hS.ok (fc_ hE) (h3_ hG hE) oM oM oM h2
      conv => whnf
      refine .inl ?_
      conv => whnf
      refine T_ (T := TM ab_) (φ := []) (gf := false) d4 ?_
      conv => whnf
      refine .inl ?_
      conv => whnf
      refine T_ (T := TM ab_) (φ := []) (gf := false) (dr_ (ns := ns2) (ndM 9 l[k1].text 0 [i, j]) (show ns2.length ≤ 1000000 by omega)) ?_
      conv => whnf
      exact ⟨_, by rw [← hR]; dsimp only [dx_]; rw [b8_ d2], rfl, rfl, rfl⟩
  | true =>
   have hk1 := ac_ hb
   first
   | exact absurd hk1 oM
   | rw [if_pos rfl]
     conv => whnf
     refine T_ (T := TM ab_) (φ := []) (gf := false) (b6_ (ts := [e9_]) hl sI hb hk1) ?_
     conv => whnf
     refine kT ?_
     have c := ih (k + 1) ns oM oM oM oM
     cases h1 : pv_ e E (l.drop (k + 1)) ns with
     | error o =>
       rw [h1] at c
       conv => whnf
       refine .inr ?_
       exact co_ (T := TM ab_) c rfl
     | ok r =>
       obtain ⟨i, r1, ns1⟩ := r
       rw [h1] at c
       have hg := lg_ hG hE h1
       rw [p_] at hg
       conv => whnf
       refine .inl ?_
       conv => whnf
       refine T_ (T := TM ab_) (φ := []) (gf := false) c ?_
       conv => whnf
       refine .inl ?_
       conv => whnf
       refine T_ (T := TM ab_) (φ := []) (gf := false) (dr_ (ns := ns1) (ndM 8 e9_ 0 [i]) (show ns1.length ≤ 1000000 by omega)) ?_
       conv => whnf
       exact ⟨_, rfl, rfl, rfl, rfl⟩
end
end
section
open Go.RowKit
def vqP (e : Int) (E : b2_) (r : List Tok) (ns : List Nd) : hq_ Int := match E r ns with
 | .error o => .error o
 | .ok (i, r1, ns1) => if ak_ 5 [sSc] r1 then .ok (i, r1.tail, ns1) else .error (fh_ e r1)
theorem h1_ (e : Int) (f : Nat) (kind : Int) (text : Bs) (r : List Tok) (ns : List Nd) : dy_ e f kind text r ns = match vqP e (dn_ e f) r ns with
  | .error o => .error o
  | .ok (i, r2, ns1) => dx_ (ndM kind text 0 [i]) r2 ns1 := by
 unfold dy_ vqP
 cases dn_ e f r ns with
 | error o => rfl
 | ok x =>
  obtain ⟨i, r1, ns1⟩ := x
  dsimp only
  rw [ay_]
  unfold d4_
  by_cases h : isTk 5 sSc r1 = true
  ·rw [if_pos h, if_pos h]
  ·rw [if_neg h, if_neg h]
def jq_ (_e : Int) (E Bl : b2_) (r : List Tok) (ns : List Nd) : hq_ Int := match E r ns with
 | .error o => .error o
 | .ok (c, r1, ns1) => match Bl r1 ns1 with
  | .error o => .error o
  | .ok (b, r2, ns2) =>
   if ak_ 2 [h0_] r2 then
    (match Bl r2.tail ns2 with
    | .error o => .error o
    | .ok (b2, r3, ns3) => dx_ (ndM 15 [] 0 [c, b, b2]) r3 ns3)
   else dx_ (ndM 15 [] 0 [c, b]) r2 ns2
def whileP (_e : Int) (E Bl : b2_) (r : List Tok) (ns : List Nd) : hq_ Int := match E r ns with
 | .error o => .error o
 | .ok (c, r1, ns1) => match Bl r1 ns1 with
  | .error o => .error o
  | .ok (b, r2, ns2) => dx_ (ndM 16 [] 0 [c, b]) r2 ns2
section
variable {l : List Tok} {k : Nat} {e : Int} {ns : List Nd} {fs : List Fc} {f g : Nat} {E Bl : b2_}
def outV (l : List Tok) (e : Int) (fs : List Fc) : hq_ Int → Except Value (V × List Bk)
 | .ok (i, r1, ns1) => .ok (pc_ [i], pM l (l.length - r1.length) e ns1 fs)
 | .error o => .error (dj_ o)
theorem n9_ (hC : PC 139 E l e fs f) (hE : be_ E) (hG : bp_ E) (hl : l.length ≤ 1000000) (hk : k ≤ l.length) (hf : l.length - k < f) (hn : ns.length + (l.length - k) ≤ 1000000) :
  gq_ Tryz.prog 137 [.bx 0 0] (pM l k e ns fs) (outV l e fs (vqP e E (l.drop k) ns)) := by
 generalize hR : vqP e E (l.drop k) ns = R
 unfold vqP at hR
 refine me_ Tryz.func137 kR kR ?_
 cases h1 : E (l.drop k) ns with
 | error o =>
  rw [h1] at hR
  subst hR
  conv => whnf
  refine .inr ?_
  exact co_ (T := TM ab_) (hC.err hk hf hn h1) rfl
 | ok r =>
  obtain ⟨i, r1, ns1⟩ := r
  rw [h1] at hR
  obtain ⟨k1, rfl, c1, c2, c3, c4⟩ := hC.ok hE hG hk hf hn h1
  conv => whnf
  refine .inl ?_
  conv => whnf
  refine T_ (T := TM ab_) (φ := []) (gf := false) c4 ?_
  dsimp only at hR
  cases hb : ak_ 5 [sSc] (l.drop k1) with
  | false =>
   rw [if_neg (by rw [hb]; simp)] at hR
   subst hR
   conv => whnf
   refine .inr ?_
   exact co_ (T := TM ab_) (ch_ (k := k1) (ts := [sSc]) hl sI hb c2) rfl
  | true =>
   have hk1 := ac_ hb
   rw [if_pos hb] at hR
   subst hR
   conv => whnf
   refine .inl ?_
   conv => whnf
   refine T_ (T := TM ab_) (φ := []) (gf := false) (br_ (k := k1) (ts := [sSc]) hl sI hb hk1) ?_
   conv => whnf
   refine ⟨_, rfl, rfl, ?_, rfl⟩
   show _ = some (pM l (l.length - (l.drop k1).tail.length) e ns1 fs)
   rw [tail_drop, p_, show l.length - (l.length - (k1 + 1)) = k1 + 1 by omega]
   rfl
theorem kb_ (hE : be_ E) (hG : bp_ E) {i : Int} {r1 : List Tok} {ns1 : List Nd} (h : vqP e E (l.drop k) ns = .ok (i, r1, ns1)) : ns1.length + r1.length < ns.length + (l.length - k) ∧ r1 <:+ l.drop k := by
 unfold vqP at h
 split at h
 ·cases h
 rename_i j r2 ns2 h2
 split at h
 rotate_left
 ·cases h
 rename_i hb
 cases h
 have g2 := hG h2
 have e2 := hE h2
 rw [p_] at g2
 have hne : r2 ≠ [] := by rintro rfl; cases hb
 have : r2.tail.length + 1 = r2.length := by cases r2 with | nil => exact absurd rfl hne | cons t r => simp
 exact ⟨oM, (List.tail_suffix _).trans e2.suf⟩
theorem x_choice (hC : PC 139 E l e fs f) (hE : be_ E) (hG : bp_ E) (hB : PC 56 Bl l e fs g) (hBE : be_ Bl) (hBG : bp_ Bl) (hl : l.length ≤ 1000000) (hk : k ≤ l.length) (hf : l.length - k < f) (hg : l.length - k ≤ g) (hn : ns.length + (l.length - k) ≤ 999999) :
  gq_ Tryz.prog 138 [.bx 0 0] (pM l k e ns fs) (outP l e fs (jq_ e E Bl (l.drop k) ns)) := by
 generalize hR : jq_ e E Bl (l.drop k) ns = R
 unfold jq_ at hR
 refine me_ Tryz.func138 kR kR ?_
 cases h1 : E (l.drop k) ns with
 | error o =>
  rw [h1] at hR
  subst hR
  conv => whnf
  refine .inr ?_
  exact co_ (T := TM ab_) (hC.err hk hf oM h1) rfl
 | ok r =>
 obtain ⟨c, r1, ns1⟩ := r
 rw [h1] at hR
 obtain ⟨k1, rfl, c1, c2, c3, c4⟩ := hC.ok hE hG hk hf oM h1
 conv => whnf
 refine .inl ?_
 conv => whnf
 refine T_ (T := TM ab_) (φ := []) (gf := false) c4 ?_
 dsimp only at hR
 cases h2 : Bl (l.drop k1) ns1 with
 | error o =>
  rw [h2] at hR
  subst hR
  conv => whnf
  refine .inr ?_
  exact co_ (T := TM ab_) (hB.err c2 oM oM h2) rfl
 | ok r =>
 obtain ⟨b, r2, ns2⟩ := r
 rw [h2] at hR
 obtain ⟨k2, rfl, d1, d2, d3, d4⟩ := hB.ok hBE hBG c2 oM oM h2
 conv => whnf
 refine .inl ?_
 conv => whnf
 refine T_ (T := TM ab_) (φ := []) (gf := false) d4 ?_
 conv => whnf
 refine ⟨of_decide_eq_true rfl, ?_⟩
 dsimp only at hR
 conv => whnf
 refine .inl ?_
 cases hb : ak_ 2 [h0_] (l.drop k2) with
 | false =>
  rw [if_neg (by rw [hb]; simp)] at hR
  conv => whnf
  refine T_ (T := TM ab_) (φ := []) (gf := false) (b7_ (k := k2) (ts := [h0_]) hl sI hb d2) ?_
  conv => whnf
  refine kF ?_
  conv => whnf
  refine .inl ?_
  conv => whnf
  refine T_ (T := TM ab_) (φ := []) (gf := false) (dr_ (ns := ns2) (ndM 15 [] 0 [c, b]) (show ns2.length ≤ 1000000 by omega)) ?_
  conv => whnf
  exact ⟨_, by rw [← hR, dx_, b8_ d2], rfl, rfl, rfl⟩
 | true =>
  have hk2 := ac_ hb
  rw [if_pos hb, tail_drop] at hR
  conv => whnf
  refine T_ (T := TM ab_) (φ := []) (gf := false) (b6_ (k := k2) (ts := [h0_]) hl sI hb hk2) ?_
  conv => whnf
  refine kT ?_
  cases h3 : Bl (l.drop (k2 + 1)) ns2 with
  | error o =>
   rw [h3] at hR
   subst hR
   conv => whnf
   refine .inr ?_
   exact co_ (T := TM ab_) (hB.err oM oM oM h3) rfl
  | ok r =>
  obtain ⟨b2, r3, ns3⟩ := r
  rw [h3] at hR
  obtain ⟨k3, rfl, f1, f2, f3, f4⟩ := hB.ok hBE hBG oM oM oM h3
  conv => whnf
  refine .inl ?_
  conv => whnf
  refine T_ (T := TM ab_) (φ := []) (gf := false) f4 ?_
  conv => whnf
  refine ⟨of_decide_eq_true rfl, ?_⟩
  conv => whnf
  refine .inl ?_
  conv => whnf
  refine T_ (T := TM ab_) (φ := []) (gf := false) (dr_ (ns := ns3) (ndM 15 [] 0 [c, b, b2]) (show ns3.length ≤ 1000000 by omega)) ?_
  conv => whnf
  exact ⟨_, by rw [← hR]; dsimp only [dx_]; rw [b8_ f2], rfl, rfl, rfl⟩
theorem x_assigns (hl : l.length ≤ 1000000) (hk : k ≤ l.length) : bm_ Tryz.prog 140 [.bx 0 0] (pM l k e ns fs) (boo (assigns (l.drop k))) (pM l k e ns fs) := by
 have hll : (l.map mi_).length = l.length := d_ _
 refine mcx Tryz.func140 kR kR ?_
 conv => whnf
 refine ⟨none, kR, ?_⟩
 conv => whnf
 refine T_ (T := TM ab_) (φ := []) (gf := false) (hz_ 1 [] hk hl sI) ?_
 cases h1 : ak_ 1 [] (l.drop k) with
 | false =>
  have hA : assigns (l.drop k) = false := by
   rcases s_ k l.length with h | h
   ·rw [c6_ _ _ h] at h1
    rw [r_ h]
    simp at h1
    simp [assigns, h1]
   ·rw [k_ h]; rfl
  rw [hA]
  repeat ((conv => whnf); first | refine kT ?_ | refine kF ?_)
  conv => whnf
  exact ⟨rfl, rfl, rfl⟩
 | true =>
  have hlt := ac_ h1
  have hw : IntKind.i64.wrap (((k : Nat) : Int) + 1) = ((k + 1 : Nat) : Int) := R_ oM
  have hkd : l[k].kind = 1 := by rw [c6_ _ _ hlt] at h1; simpa using h1
  have hA : assigns (l.drop k) = a8_ lb_ (l.drop (k + 1)) := by rw [r_ hlt]; simp [assigns, hkd]
  rw [hA]
  conv => whnf
  refine kT ?_
  conv => whnf
  rw [hw]
  rcases s_ (k + 1) l.length with h2 | h2
  rotate_left
  ·rw [a8_, kl_ _ _ h2]
   conv => whnf
   refine Q_ false sO ?_
   repeat ((conv => whnf); first | refine kT ?_ | refine kF ?_)
   conv => whnf
   exact ⟨rfl, rfl, rfl⟩
  rw [a8_, c2_ _ _ h2]
  conv => whnf
  refine Q_ true sO ?_
  conv => whnf
  rw [hw]
  conv => whnf
  refine ⟨oM, _, W_ mi_ h2, ?_⟩
  conv => whnf
  rintro (_ | _) h3
  ·rw [show decide (l[k + 1].kind = 5) = false from by simpa using h3, u_]
   repeat ((conv => whnf); first | refine kT ?_ | refine kF ?_)
   conv => whnf
   exact ⟨rfl, rfl, rfl⟩
  rw [show decide (l[k + 1].kind = 5) = true from by simpa using h3, n_]
  conv => whnf
  rw [hw]
  conv => whnf
  refine ⟨oM, _, W_ mi_ h2, ?_⟩
  conv => whnf
  exact ⟨rfl, rfl, by rw [show (l[k + 1].text == lb_) = ((mk l[k + 1].text).toList == (mk lb_).toList) from (a2_ _ _).symm]; rfl⟩
end
end
section
open Go.RowKit
def letQ (e : Int) (f : Nat) (r : List Tok) (ns : List Nd) : hq_ Int :=
 if ak_ 1 [] r then (if ak_ 5 [lb_] r.tail then dy_ e f 13 (pText r) r.tail.tail ns else .error (fh_ e r.tail)) else .error (fh_ e r)
def stmtQ (e : Int) (f : Nat) (Bl : b2_) (r : List Tok) (ns : List Nd) : hq_ Int :=
 if ak_ 2 [mb_, wIf, ct_, b0_] r then
  (if pText r == mb_ then letQ e f r.tail ns
  else if pText r == wIf then jq_ e (dn_ e f) Bl r.tail ns
  else if pText r == ct_ then whileP e (dn_ e f) Bl r.tail ns
  else dy_ e f 17 [] r.tail ns)
 else if assigns r then dy_ e f 14 (pText r) r.tail.tail ns
 else dy_ e f 18 [] r ns
theorem letQ_eq (e : Int) (f : Nat) (r : List Tok) (ns : List Nd) : (match lk_ e 1 r with
  | .error o => (.error o : hq_ Int)
  | .ok (s, r1) => match d4_ e 5 lb_ r1 with
   | .error o => .error o
   | .ok r2 => dy_ e f 13 s r2 ns) = letQ e f r ns := by
 unfold letQ lk_ d4_
 cases r with
 | nil => simp [ak_, pKind]
 | cons t r =>
  rw [ay_]
  by_cases h : t.kind = 1
  ·by_cases h2 : isTk 5 lb_ r = true
   ·simp [ak_, pKind, h, h2]
   ·simp [ak_, pKind, h, h2]
  ·simp [ak_, pKind, h]
theorem choice_eq (e : Int) (f : Nat) (Bl : b2_) (r : List Tok) (ns : List Nd) : (match dn_ e f r ns with
  | .error o => (.error o : hq_ Int)
  | .ok (c, r1, ns1) => match Bl r1 ns1 with
   | .error o => .error o
   | .ok (b, r2, ns2) =>
    if jg_ h0_ r2 then
     (match Bl r2.tail ns2 with
     | .error o => .error o
     | .ok (b2, r3, ns3) => dx_ (ndM 15 [] 0 [c, b, b2]) r3 ns3)
    else dx_ (ndM 15 [] 0 [c, b]) r2 ns2) = jq_ e (dn_ e f) Bl r ns := by
 unfold jq_
 simp only [ay_]
 try rfl
theorem stmtP_eq (e : Int) (f : Nat) (Bl : b2_) (r : List Tok) (ns : List Nd) : mn_ e f Bl r ns = stmtQ e f Bl r ns := by
 unfold mn_ stmtQ
 cases r with
 | nil => rfl
 | cons t r =>
  have w0 : ∀ s, jg_ s (t :: r) = (decide (t.kind = 2) && (t.text == s)) := fun s => rfl
  have n0 : ak_ 2 [mb_, wIf, ct_, b0_] (t :: r) = (decide (t.kind = 2) && [mb_, wIf, ct_, b0_].contains t.text) := rfl
  rw [w0, w0, w0, w0, n0]
  have p0 : pText (t :: r) = t.text := rfl
  by_cases h2 : t.kind = 2
  ·by_cases a1 : t.text = mb_
   ·rw [if_pos (by simp [h2, a1]), if_pos (by simp [h2, a1]), if_pos (by simp [p0, a1])]
    exact letQ_eq e f r ns
   rw [if_neg (by simp [a1])]
   by_cases a2 : t.text = wIf
   ·rw [if_pos (by simp [h2, a2]), if_pos (by simp [h2, a2]), if_neg (by simp [p0, a1]), if_pos (by simp [p0, a2])]
    exact choice_eq e f Bl r ns
   rw [if_neg (by simp [a2])]
   by_cases a3 : t.text = ct_
   ·rw [if_pos (by simp [h2, a3]), if_pos (by simp [h2, a3]), if_neg (by simp [p0, a1]), if_neg (by simp [p0, a2]), if_pos (by simp [p0, a3])]
    rfl
   rw [if_neg (by simp [a3])]
   by_cases a4 : t.text = b0_
   ·rw [if_pos (by simp [h2, a4]), if_pos (by simp [h2, a4]), if_neg (by simp [p0, a1]), if_neg (by simp [p0, a2]), if_neg (by simp [p0, a3])]
   rw [if_neg (by simp [a4]), if_neg (show ¬ ((decide (t.kind = 2) && [mb_, wIf, ct_, b0_].contains t.text) = true) by simp [a1, a2, a3, a4])]
  ·rw [if_neg (show ¬ ((decide (t.kind = 2) && (t.text == mb_)) = true) by simp [h2]), if_neg (show ¬ ((decide (t.kind = 2) && (t.text == wIf)) = true) by simp [h2]), if_neg (show ¬ ((decide (t.kind = 2) && (t.text == ct_)) = true) by simp [h2]), if_neg (show ¬ ((decide (t.kind = 2) && (t.text == b0_)) = true) by simp [h2]), if_neg (show ¬ ((decide (t.kind = 2) && [mb_, wIf, ct_, b0_].contains t.text) = true) by simp [h2])]
end
end Go.Proofs.YtglndfgmlminpaaGreatDoor
