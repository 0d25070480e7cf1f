/- Texts joined by pack.py: XSyO -/
import Derived.Test.YtglndfgmlminpaaGreatDoorSq37
set_option maxHeartbeats 16000000
set_option maxRecDepth 100000
namespace Go.Proofs.YtglndfgmlminpaaGreatDoor
open Go.RowKit
section
variable {l : List Tok} {k : Nat} {e : Int} {ns : List Nd} {fs : List Fc} {f g : Nat} {E Bl : b2_}
theorem assigns_next (h : assigns (l.drop k) = true) : ak_ 1 [] (l.drop k) = true ∧ ak_ 5 [lb_] (l.drop (k + 1)) = true := by
 rcases s_ k l.length with h1 | h1
 ·rw [r_ h1] at h
  simp only [assigns, j_, decide_eq_true_eq] at h
  refine ⟨by rw [c6_ _ _ h1]; simp [h.1], by rw [ay_]; exact h.2⟩
 ·rw [k_ h1] at h; cases h
theorem x_stmt (hC : PC 139 (dn_ e f) l e fs f) (hB : PC 56 Bl l e fs g) (hfg : f = g + 1) (hBE : be_ Bl) (hBG : bp_ Bl) (hl : l.length ≤ 1000000) : PC 97 (mn_ e f Bl) l e fs f := by
 intro k ns hk hf hn
 have hE : be_ (dn_ e f) := ca_ f
 have hG : bp_ (dn_ e f) := ej_ f
 rw [stmtP_eq]
 generalize hR : stmtQ e f Bl (l.drop k) ns = R
 unfold stmtQ at hR
 refine me_ Tryz.func97 kR kR ?_
 conv => whnf
 refine .inl ?_
 cases h2 : ak_ 2 [mb_, wIf, ct_, b0_] (l.drop k) with
 | true =>
  have hlt := ac_ h2
  rw [if_pos h2, b5_ hlt, tail_drop] at hR
  conv => whnf
  refine T_ (T := TM ab_) (φ := []) (gf := false) (b6_ (ts := [mb_, wIf, ct_, b0_]) hl sI h2 hlt) ?_
  conv => whnf
  refine kT ?_
  conv => whnf
  rintro (_ | _) a1
  rotate_left
  ·have a1 : (l[k].text == mb_) = true := (a2_ _ _).symm.trans a1
   rw [if_pos a1, letQ] at hR
   cases h1 : ak_ 1 [] (l.drop (k + 1)) with
   | false =>
    rw [if_neg (by rw [h1]; simp)] at hR
    subst hR
    conv => whnf
    refine .inr ?_
    exact co_ (T := TM ab_) (ch_ (k := k + 1) (ts := []) hl sI h1 hlt) rfl
   | true =>
   have hlt1 := ac_ h1
   rw [if_pos h1, b5_ hlt1, tail_drop] at hR
   conv => whnf
   refine .inl ?_
   conv => whnf
   refine T_ (T := TM ab_) (φ := []) (gf := false) (br_ (k := k + 1) (ts := []) hl sI h1 hlt1) ?_
   cases h5 : ak_ 5 [lb_] (l.drop (k + 1 + 1)) with
   | false =>
    rw [if_neg (by rw [h5]; simp)] at hR
    subst hR
    conv => whnf
    refine .inr ?_
    exact co_ (T := TM ab_) (ch_ (k := k + 1 + 1) (ts := [lb_]) hl sI h5 hlt1) rfl
   | true =>
   have hlt5 := ac_ h5
   rw [if_pos h5, tail_drop, h1_] at hR
   conv => whnf
   refine .inl ?_
   conv => whnf
   refine T_ (T := TM ab_) (φ := []) (gf := false) (br_ (k := k + 1 + 1) (ts := [lb_]) hl sI h5 hlt5) ?_
   have c := n9_ (k := k + 1 + 1 + 1) (ns := ns) hC hE hG hl oM oM oM
   cases hv : vqP e (dn_ e f) (l.drop (k + 1 + 1 + 1)) ns with
   | error o =>
    rw [hv] at c hR
    subst hR
    conv => whnf
    refine .inr ?_
    exact co_ (T := TM ab_) c rfl
   | ok x =>
    obtain ⟨i, r2, ns2⟩ := x
    have hrm := (kb_ hE hG hv).1
    rw [hv] at c hR
    conv => whnf
    refine .inl ?_
    conv => whnf
    refine T_ (T := TM ab_) (φ := []) (gf := false) c ?_
    conv => whnf
    refine .inl ?_
    conv => whnf
    refine T_ (T := TM ab_) (φ := []) (gf := false) (dr_ (ns := ns2) (ndM 13 l[k + 1].text 0 [i]) (show ns2.length ≤ 1000000 by omega)) ?_
    conv => whnf
    exact ⟨_, by rw [← hR]; rfl, rfl, rfl, rfl⟩
  have a1 : (l[k].text == mb_) = false := (a2_ _ _).symm.trans a1
  rw [if_neg (by rw [a1]; simp)] at hR
  conv => whnf
  rintro (_ | _) a2
  rotate_left
  ·have a2 : (l[k].text == wIf) = true := (a2_ _ _).symm.trans a2
   rw [if_pos a2] at hR
   have c := x_choice (k := k + 1) (ns := ns) hC hE hG hB hBE hBG hl oM oM oM oM
   rw [hR] at c
   cases R with
   | error o =>
    conv => whnf
    refine .inr ?_
    exact co_ (T := TM ab_) c rfl
   | ok x =>
    conv => whnf
    refine .inl ?_
    conv => whnf
    refine T_ (T := TM ab_) (φ := []) (gf := false) c ?_
    conv => whnf
    exact ⟨_, rfl, rfl, rfl, rfl⟩
  have a2 : (l[k].text == wIf) = false := (a2_ _ _).symm.trans a2
  rw [if_neg (by rw [a2]; simp)] at hR
  conv => whnf
  rintro (_ | _) a3
  rotate_left
  ·have a3 : (l[k].text == ct_) = true := (a2_ _ _).symm.trans a3
   rw [if_pos a3, whileP] at hR
   cases h1 : dn_ e f (l.drop (k + 1)) ns with
   | error o =>
    rw [h1] at hR
    subst hR
    conv => whnf
    refine .inr ?_
    exact co_ (T := TM ab_) (hC.err oM oM oM h1) rfl
   | ok r =>
   obtain ⟨c, r1, ns1⟩ := r
   rw [h1] at hR
   obtain ⟨k1, rfl, c1, c2, c3, c4⟩ := hC.ok hE hG oM oM oM h1
   conv => whnf
   refine .inl ?_
   conv => whnf
   refine T_ (T := TM ab_) (φ := []) (gf := false) c4 ?_
   dsimp only at hR
   cases h3 : Bl (l.drop k1) ns1 with
   | error o =>
    rw [h3] at hR
    subst hR
    conv => whnf
    refine .inr ?_
    exact co_ (T := TM ab_) (hB.err c2 oM oM h3) rfl
   | ok r =>
   obtain ⟨b, r2, ns2⟩ := r
   rw [h3] at hR
   obtain ⟨k2, rfl, d1, d2, d3, d4⟩ := hB.ok hBE hBG c2 oM oM h3
   conv => whnf
   refine .inl ?_
   conv => whnf
   refine T_ (T := TM ab_) (φ := []) (gf := false) d4 ?_
   conv => whnf
   refine ⟨of_decide_eq_true rfl, ?_⟩
   conv => whnf
   refine .inl ?_
   conv => whnf
   refine T_ (T := TM ab_) (φ := []) (gf := false) (dr_ (ns := ns2) (ndM 16 [] 0 [c, b]) (show ns2.length ≤ 1000000 by omega)) ?_
   conv => whnf
   exact ⟨_, by rw [← hR]; dsimp only [dx_]; rw [b8_ d2], rfl, rfl, rfl⟩
  have a3 : (l[k].text == ct_) = false := (a2_ _ _).symm.trans a3
  rw [if_neg (by rw [a3]; simp), h1_] at hR
  have c := n9_ (k := k + 1) (ns := ns) hC hE hG hl oM oM oM
  cases hv : vqP e (dn_ e f) (l.drop (k + 1)) ns with
  | error o =>
   rw [hv] at c hR
   subst hR
   conv => whnf
   refine .inr ?_
   exact co_ (T := TM ab_) c rfl
  | ok x =>
   obtain ⟨i, r2, ns2⟩ := x
   have hrm := (kb_ hE hG hv).1
   rw [hv] at c hR
   conv => whnf
   refine .inl ?_
   conv => whnf
   refine T_ (T := TM ab_) (φ := []) (gf := false) c ?_
   conv => whnf
   refine .inl ?_
   conv => whnf
   refine T_ (T := TM ab_) (φ := []) (gf := false) (dr_ (ns := ns2) (ndM 17 [] 0 [i]) (show ns2.length ≤ 1000000 by omega)) ?_
   conv => whnf
   exact ⟨_, by rw [← hR]; rfl, rfl, rfl, rfl⟩
 | false =>
 rw [if_neg (by rw [h2]; simp)] at hR
 conv => whnf
 refine T_ (T := TM ab_) (φ := []) (gf := false) (b7_ (ts := [mb_, wIf, ct_, b0_]) hl sI h2 hk) ?_
 conv => whnf
 refine kF ?_
 conv => whnf
 refine .inl ?_
 conv => whnf
 refine T_ (T := TM ab_) (φ := []) (gf := false) (x_assigns hl hk) ?_
 cases hA : assigns (l.drop k) with
 | true =>
  obtain ⟨h1, h5⟩ := assigns_next hA
  have hlt := ac_ h1
  have hlt5 := ac_ h5
  rw [if_pos hA, b5_ hlt, tail_drop, tail_drop, h1_] at hR
  conv => whnf
  refine kT ?_
  conv => whnf
  refine .inl ?_
  conv => whnf
  refine T_ (T := TM ab_) (φ := []) (gf := false) (br_ (ts := []) hl sI h1 hlt) ?_
  conv => whnf
  refine .inl ?_
  conv => whnf
  refine T_ (T := TM ab_) (φ := []) (gf := false) (br_ (k := k + 1) (ts := [lb_]) hl sI h5 hlt5) ?_
  have c := n9_ (k := k + 1 + 1) (ns := ns) hC hE hG hl oM oM oM
  cases hv : vqP e (dn_ e f) (l.drop (k + 1 + 1)) ns with
  | error o =>
   rw [hv] at c hR
   subst hR
   conv => whnf
   refine .inr ?_
   exact co_ (T := TM ab_) c rfl
  | ok x =>
   obtain ⟨i, r2, ns2⟩ := x
   have hrm := (kb_ hE hG hv).1
   rw [hv] at c hR
   conv => whnf
   refine .inl ?_
   conv => whnf
   refine T_ (T := TM ab_) (φ := []) (gf := false) c ?_
   conv => whnf
   refine .inl ?_
   conv => whnf
   refine T_ (T := TM ab_) (φ := []) (gf := false) (dr_ (ns := ns2) (ndM 14 l[k].text 0 [i]) (show ns2.length ≤ 1000000 by omega)) ?_
   conv => whnf
   exact ⟨_, by rw [← hR]; rfl, rfl, rfl, rfl⟩
 | false =>
  rw [if_neg (by rw [hA]; simp), h1_] at hR
  conv => whnf
  refine kF ?_
  have c := n9_ (k := k) (ns := ns) hC hE hG hl hk hf hn
  cases hv : vqP e (dn_ e f) (l.drop k) ns with
  | error o =>
   rw [hv] at c hR
   subst hR
   conv => whnf
   refine .inr ?_
   exact co_ (T := TM ab_) c rfl
  | ok x =>
   obtain ⟨i, r2, ns2⟩ := x
   have hrm := (kb_ hE hG hv).1
   rw [hv] at c hR
   conv => whnf
   refine .inl ?_
   conv => whnf
   refine T_ (T := TM ab_) (φ := []) (gf := false) c ?_
   conv => whnf
   refine .inl ?_
   conv => whnf
   refine T_ (T := TM ab_) (φ := []) (gf := false) (dr_ (ns := ns2) (ndM 18 [] 0 [i]) (show ns2.length ≤ 1000000 by omega)) ?_
   conv => whnf
   exact ⟨_, by rw [← hR]; rfl, rfl, rfl, rfl⟩
end
end Go.Proofs.YtglndfgmlminpaaGreatDoor
