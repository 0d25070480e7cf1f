/- Texts joined by pack.py: XSyJ -/
import Derived.Test.YtglndfgmlminpaaGreatDoorSq36
set_option maxHeartbeats 16000000
set_option maxRecDepth 100000
namespace Go.Proofs.YtglndfgmlminpaaGreatDoor
open Go.RowKit
section
variable {l : List Tok} {k : Nat} {e : Int} {ns : List Nd} {fs : List Fc} {f : Nat} {E : b2_}
theorem pVal_at (h : k < l.length) : pVal (l.drop k) = l[k].val := by rw [r_ h]; rfl
theorem jc_ (hE : be_ E) (hG : bp_ E) {fin : Bs} {ks : List Int} {r1 : List Tok} {ns1 : List Nd} (h : er_ e fin E (l.drop k) ns = .ok (ks, r1, ns1)) (hn : ns.length + (l.length - k) ≤ 1000000) : ns1.length ≤ 1000000 := by
 have := (gx_ hG hE h).1
 rw [p_] at this
 omega
def planC (T : Plan) : Plan := .one 0 (.one 3 (.pull 1 (.alt 2 (.alt 4 T .stop) (.alt 4 (.one 2 T) .stop))))
def planC1 : Plan := planC (.one 5 (.one 6 (.one 7 .done)))
theorem x_prim (hC : PC 139 E l e fs f) (hE : be_ E) (hG : bp_ E) (hA : AtP e E) (hl : l.length ≤ 1000000) : PC 259 (hi_ e E) l e fs (f + 1) := by
 intro k ns hk hf hn
 rw [primP_eq]
 generalize hR : primQ e E (l.drop k) ns = R
 unfold primQ at hR
 refine me_ Tryz.func259 kR kR ?_
 conv => whnf
 refine .inl ?_
 cases h3 : ak_ 3 [] (l.drop k) with
 | true =>
  have hlt := ac_ h3
  rw [if_pos h3, pVal_at hlt, tail_drop] at hR
  conv => whnf
  refine T_ (T := TM ab_) (φ := []) (gf := false) (b6_ (ts := []) hl sI h3 hlt) ?_
  conv => whnf
  refine kT ?_
  conv => whnf
  refine .inl ?_
  conv => whnf
  refine T_ (T := TM ab_) (φ := []) (gf := false) (dr_ (ns := ns) (ndM 3 [] l[k].val []) (show ns.length ≤ 1000000 by omega)) ?_
  conv => whnf
  exact ⟨_, by rw [← hR, dx_, b8_ oM], rfl, rfl, rfl⟩
 | false =>
 rw [if_neg (by rw [h3]; simp)] at hR
 conv => whnf
 refine T_ (T := TM ab_) (φ := []) (gf := false) (b7_ (ts := []) hl sI h3 hk) ?_
 conv => whnf
 refine kF ?_
 conv => whnf
 refine .inl ?_
 cases h4 : ak_ 4 [] (l.drop k) with
 | true =>
  have hlt := ac_ h4
  rw [if_pos h4, b5_ hlt, tail_drop] at hR
  conv => whnf
  refine T_ (T := TM ab_) (φ := []) (gf := false) (b6_ (ts := []) hl sI h4 hlt) ?_
  conv => whnf
  refine kT ?_
  conv => whnf
  refine .inl ?_
  conv => whnf
  refine T_ (T := TM ab_) (φ := []) (gf := false) (dr_ (ns := ns) (ndM 4 l[k].text 0 []) (show ns.length ≤ 1000000 by omega)) ?_
  conv => whnf
  exact ⟨_, by rw [← hR, dx_, b8_ oM], rfl, rfl, rfl⟩
 | false =>
 rw [if_neg (by rw [h4]; simp)] at hR
 conv => whnf
 refine T_ (T := TM ab_) (φ := []) (gf := false) (b7_ (ts := []) hl sI h4 hk) ?_
 conv => whnf
 refine kF ?_
 conv => whnf
 refine .inl ?_
 cases h2 : ak_ 2 [ec_, eb_, cy_] (l.drop k) with
 | true =>
  have hlt := ac_ h2
  rw [if_pos h2, b5_ hlt, tail_drop] at hR
  conv => whnf
  refine T_ (T := TM ab_) (φ := []) (gf := false) (b6_ (ts := [ec_, eb_, cy_]) hl sI h2 hlt) ?_
  conv => whnf
  refine kT ?_
  conv => whnf
  rintro (_ | _) a1
  rotate_left
  ·have a1 : (l[k].text == ec_) = true := (a2_ _ _).symm.trans a1
   rw [if_pos a1] at hR
   conv => whnf
   refine .inl ?_
   conv => whnf
   refine T_ (T := TM ab_) (φ := []) (gf := false) (dr_ (ns := ns) (ndM 1 [] 0 []) (show ns.length ≤ 1000000 by omega)) ?_
   conv => whnf
   exact ⟨_, by rw [← hR, dx_, b8_ oM], rfl, rfl, rfl⟩
  have a1 : (l[k].text == ec_) = false := (a2_ _ _).symm.trans a1
  rw [if_neg (by rw [a1]; simp)] at hR
  conv => whnf
  rintro (_ | _) a2
  rotate_left
  ·have a2 : (l[k].text == eb_) = true := (a2_ _ _).symm.trans a2
   rw [if_pos a2] at hR
   conv => whnf
   refine .inl ?_
   conv => whnf
   refine T_ (T := TM ab_) (φ := []) (gf := false) (dr_ (ns := ns) (ndM 2 [] 1 []) (show ns.length ≤ 1000000 by omega)) ?_
   conv => whnf
   exact ⟨_, by rw [← hR, dx_, b8_ oM], rfl, rfl, rfl⟩
  have a2 : (l[k].text == eb_) = false := (a2_ _ _).symm.trans a2
  rw [if_neg (by rw [a2]; simp)] at hR
  conv => whnf
  refine .inl ?_
  conv => whnf
  refine T_ (T := TM ab_) (φ := []) (gf := false) (dr_ (ns := ns) (ndM 2 [] 0 []) (show ns.length ≤ 1000000 by omega)) ?_
  conv => whnf
  exact ⟨_, by rw [← hR, dx_, b8_ oM], rfl, rfl, rfl⟩
 | false =>
 rw [if_neg (by rw [h2]; simp)] at hR
 conv => whnf
 refine T_ (T := TM ab_) (φ := []) (gf := false) (b7_ (ts := [ec_, eb_, cy_]) hl sI h2 hk) ?_
 conv => whnf
 refine kF ?_
 conv => whnf
 refine .inl ?_
 cases h1 : ak_ 1 [] (l.drop k) with
 | true =>
  have hlt := ac_ h1
  rw [if_pos h1, b5_ hlt, tail_drop] at hR
  conv => whnf
  refine T_ (T := TM ab_) (φ := []) (gf := false) (b6_ (ts := []) hl sI h1 hlt) ?_
  conv => whnf
  refine kT ?_
  conv => whnf
  refine .inl ?_
  cases hb : ak_ 5 [sLP] (l.drop (k + 1)) with
  | false =>
   rw [if_neg (by rw [hb]; simp)] at hR
   conv => whnf
   refine T_ (T := TM ab_) (φ := []) (gf := false) (b7_ (k := k + 1) (ts := [sLP]) hl sI hb hlt) ?_
   conv => whnf
   refine kF ?_
   conv => whnf
   refine .inl ?_
   conv => whnf
   refine T_ (T := TM ab_) (φ := []) (gf := false) (dr_ (ns := ns) (ndM 5 l[k].text 0 []) (show ns.length ≤ 1000000 by omega)) ?_
   conv => whnf
   exact ⟨_, by rw [← hR, dx_, b8_ oM], rfl, rfl, rfl⟩
  | true =>
   have hlt2 := ac_ hb
   rw [if_pos hb, tail_drop, lstN] at hR
   conv => whnf
   refine T_ (T := TM ab_) (φ := []) (gf := false) (b6_ (k := k + 1) (ts := [sLP]) hl sI hb hlt2) ?_
   conv => whnf
   refine kT ?_
   have c := x_exprs (k := k + 1 + 1) (ns := ns) (fin := sRP) dC hC hE hG hA hl oM oM oM
   conv => whnf
   refine ⟨some planC1, kR, ?_⟩
   conv => whnf
   refine ⟨.bx 9 1, fun m2 K2 hK => hK, ?_⟩
   conv => whnf
   refine ⟨?_, ?_, trivial⟩
   all_goals
    conv => whnf
    try refine ⟨?_, trivial⟩
    conv => whnf
   all_goals
    cases hL : er_ e sRP E (l.drop (k + 1 + 1)) ns with
    | error o =>
     rw [hL] at c hR
     refine .inr ?_
     subst hR
     exact co_ (T := TM ab_) c rfl
    | ok x =>
     obtain ⟨ks, r2, ns2⟩ := x
     have hrm := jc_ hE hG hL oM
     rw [hL] at c hR
     refine .inl ?_
     conv => whnf
     refine T_ (T := TM ab_) (φ := []) (gf := false) c ?_
     conv => whnf
     refine T_ (T := TM ab_) (φ := []) (gf := false) (dr_ (ns := ns2) (ndM 11 l[k].text 0 ks) hrm) ?_
     conv => whnf
     exact ⟨_, by rw [← hR]; rfl, rfl, rfl, rfl⟩
 | false =>
 rw [if_neg (by rw [h1]; simp)] at hR
 conv => whnf
 refine T_ (T := TM ab_) (φ := []) (gf := false) (b7_ (ts := []) hl sI h1 hk) ?_
 conv => whnf
 refine kF ?_
 conv => whnf
 refine .inl ?_
 conv => whnf
 refine T_ (T := TM ab_) (φ := []) (gf := false) (hz_ 6 [] hk hl sI) ?_
 cases h6 : ak_ 6 [] (l.drop k) with
 | true =>
  have hlt := ac_ h6
  rw [if_pos h6, b5_ hlt, tail_drop] at hR
  conv => whnf
  refine kT ?_
  conv => whnf
  refine .inl ?_
  conv => whnf
  refine T_ (T := TM ab_) (φ := []) (gf := false) (br_ (ts := []) hl sI h6 hlt) ?_
  cases hb : ak_ 5 [sLP] (l.drop (k + 1)) with
  | false =>
   rw [if_neg (by rw [hb]; simp)] at hR
   subst hR
   conv => whnf
   refine .inr ?_
   exact co_ (T := TM ab_) (ch_ (k := k + 1) (ts := [sLP]) hl sI hb hlt) rfl
  | true =>
   have hlt2 := ac_ hb
   rw [if_pos hb, tail_drop, lstN] at hR
   conv => whnf
   refine .inl ?_
   conv => whnf
   refine T_ (T := TM ab_) (φ := []) (gf := false) (br_ (k := k + 1) (ts := [sLP]) hl sI hb hlt2) ?_
   have c := x_exprs (k := k + 1 + 1) (ns := ns) (fin := sRP) dC hC hE hG hA hl oM oM oM
   conv => whnf
   refine ⟨some planC1, kR, ?_⟩
   conv => whnf
   refine ⟨.bx 13 1, fun m2 K2 hK => hK, ?_⟩
   conv => whnf
   refine ⟨?_, ?_, trivial⟩
   all_goals
    conv => whnf
    try refine ⟨?_, trivial⟩
    conv => whnf
   all_goals
    cases hL : er_ e sRP E (l.drop (k + 1 + 1)) ns with
    | error o =>
     rw [hL] at c hR
     refine .inr ?_
     subst hR
     exact co_ (T := TM ab_) c rfl
    | ok x =>
     obtain ⟨ks, r2, ns2⟩ := x
     have hrm := jc_ hE hG hL oM
     rw [hL] at c hR
     refine .inl ?_
     conv => whnf
     refine T_ (T := TM ab_) (φ := []) (gf := false) c ?_
     conv => whnf
     refine T_ (T := TM ab_) (φ := []) (gf := false) (dr_ (ns := ns2) (ndM 12 l[k].text 0 ks) hrm) ?_
     conv => whnf
     exact ⟨_, by rw [← hR]; rfl, rfl, rfl, rfl⟩
 | false =>
 rw [if_neg (by rw [h6]; simp)] at hR
 conv => whnf
 refine kF ?_
 cases h5 : ak_ 5 [sLB, sLC, sLP] (l.drop k) with
 | false =>
  rw [if_neg (by rw [h5]; simp)] at hR
  subst hR
  conv => whnf
  refine .inr ?_
  exact co_ (T := TM ab_) (ch_ (ts := [sLB, sLC, sLP]) hl sI h5 hk) rfl
 | true =>
 have hlt := ac_ h5
 rw [if_pos h5, b5_ hlt, tail_drop] at hR
 conv => whnf
 refine .inl ?_
 conv => whnf
 refine T_ (T := TM ab_) (φ := []) (gf := false) (br_ (ts := [sLB, sLC, sLP]) hl sI h5 hlt) ?_
 conv => whnf
 rintro (_ | _) a1
 rotate_left
 ·have a1 : (l[k].text == sLB) = true := (a2_ _ _).symm.trans a1
  rw [if_pos a1, lstN] at hR
  have c := x_exprs (k := k + 1) (ns := ns) (fin := sRB) dC hC hE hG hA hl oM oM oM
  cases hL : er_ e sRB E (l.drop (k + 1)) ns with
  | error o =>
   rw [hL] at c hR
   subst hR
   conv => whnf
   refine .inr ?_
   exact co_ (T := TM ab_) c rfl
  | ok x =>
   obtain ⟨ks, r2, ns2⟩ := x
   have hrm := jc_ hE hG hL oM
   rw [hL] at c hR
   conv => whnf
   refine .inl ?_
   conv => whnf
   refine T_ (T := TM ab_) (φ := []) (gf := false) c ?_
   conv => whnf
   refine .inl ?_
   conv => whnf
   refine T_ (T := TM ab_) (φ := []) (gf := false) (dr_ (ns := ns2) (ndM 6 [] 0 ks) hrm) ?_
   conv => whnf
   exact ⟨_, by rw [← hR]; rfl, rfl, rfl, rfl⟩
 have a1 : (l[k].text == sLB) = false := (a2_ _ _).symm.trans a1
 rw [if_neg (by rw [a1]; simp)] at hR
 conv => whnf
 rintro (_ | _) a2
 rotate_left
 ·have a2 : (l[k].text == sLC) = true := (a2_ _ _).symm.trans a2
  rw [if_pos a2] at hR
  have c := x_keyed (k := k + 1) (ns := ns) hC hE hG hA hl oM oM oM
  rw [hR] at c
  cases R with
  | error o =>
   conv => whnf
   refine .inr ?_
   exact co_ (T := TM ab_) c rfl
  | ok x =>
   conv => whnf
   refine .inl ?_
   conv => whnf
   refine T_ (T := TM ab_) (φ := []) (gf := false) c ?_
   conv => whnf
   exact ⟨_, rfl, rfl, rfl, rfl⟩
 have a2 : (l[k].text == sLC) = false := (a2_ _ _).symm.trans a2
 rw [if_neg (by rw [a2]; simp)] at hR
 cases hp : E (l.drop (k + 1)) ns with
 | error o =>
  rw [hp] at hR
  subst hR
  conv => whnf
  refine .inr ?_
  exact co_ (T := TM ab_) (hC.err oM oM oM hp) rfl
 | ok x =>
  obtain ⟨i, r2, ns2⟩ := x
  rw [hp] at hR
  obtain ⟨k1, rfl, c1, c2, c3, c4⟩ := hC.ok hE hG oM oM oM hp
  conv => whnf
  refine .inl ?_
  conv => whnf
  refine T_ (T := TM ab_) (φ := []) (gf := false) c4 ?_
  dsimp only at hR
  cases hb : ak_ 5 [sRP] (l.drop k1) with
  | false =>
   rw [if_neg (by rw [hb]; simp)] at hR
   subst hR
   conv => whnf
   refine .inr ?_
   exact co_ (T := TM ab_) (ch_ (k := k1) (ts := [sRP]) hl sI hb c2) rfl
  | true =>
   have hlt2 := ac_ hb
   rw [if_pos hb, tail_drop] at hR
   conv => whnf
   refine .inl ?_
   conv => whnf
   refine T_ (T := TM ab_) (φ := []) (gf := false) (br_ (k := k1) (ts := [sRP]) hl sI hb hlt2) ?_
   conv => whnf
   exact ⟨_, by rw [← hR, b8_ oM], rfl, rfl, rfl⟩
end
end Go.Proofs.YtglndfgmlminpaaGreatDoor
