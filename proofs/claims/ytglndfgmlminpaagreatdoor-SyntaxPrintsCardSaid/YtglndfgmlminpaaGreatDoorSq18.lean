/- Texts joined by pack.py: XLx14 XLx15 XLx16 XSxC1 -/
import Derived.Test.YtglndfgmlminpaaGreatDoorSq17
import Derived.Laws.MakeOwn
import Derived.Laws.CopyRow
set_option maxHeartbeats 4000000
set_option maxRecDepth 100000
namespace Go.Proofs.YtglndfgmlminpaaGreatDoor
section
open Go.RowKit
theorem txt_len : ∀ (l : Bs) (i : Nat) (out : Bs), (txt l i out).2.2 = 0 → i + 1 ≤ (txt l i out).2.1 ∧ (txt l i out).2.1 ≤ i + l.length
 | [], i, out, h => by simp [txt] at h
 | c :: l, i, out, h => by
  by_cases h1 : (decide (c < 32) || decide (c > 126)) = true
  ·rw [hd_ h1] at h; simp at h
  have h1 : (decide (c < 32) || decide (c > 126)) = false := by simpa using h1
  by_cases h2 : c = 34
  ·subst h2; rw [k0_]; simp
  by_cases h3 : c = 92
  ·subst h3
   cases l with
   | nil => rw [k2_] at h; simp at h
   | cons d l =>
    by_cases h4 : (d == 34 || d == 92) = true
    ·rw [hc_ h4] at h ⊢
     split at h
     ·simp at h
     ·rename_i h5
      rw [if_neg h5]
      have := txt_len l (i + 2) (out ++ [d]) h
      simp only [b_]; omega
    ·rw [k1_ (by simpa using h4)] at h; simp at h
  rw [qe_ h1 h2 h3] at h ⊢
  split at h
  ·simp at h
  ·rename_i h5
   rw [if_neg h5]
   have := txt_len l (i + 1) (out ++ [c]) h
   simp only [b_]; omega
theorem os_ {c : UInt8} {r : Bs} (h : lr_ c = true) : 1 ≤ bk_ (c :: r) := by simp [bk_, h]
theorem digL_pos {c : UInt8} {r : Bs} (h : ht_ c = true) : 1 ≤ gc_ (c :: r) := by simp [gc_, h]
theorem fv_ (c : UInt8) (r : Bs) (h : (cb_ (c :: r)).2.2 = 0) : 1 ≤ (cb_ (c :: r)).2.1 ∧ (cb_ (c :: r)).2.1 ≤ (c :: r).length := by
 cases h1 : lr_ c with
 | true =>
  have a := os_ (r := r) h1
  have b := hh_ (c :: r)
  rw [k5_ h1] at h ⊢
  split at h
  ·simp at h
  ·rename_i h2; rw [if_neg h2]; split <;> exact ⟨a, b⟩
 | false =>
 cases h2 : ht_ c with
 | true =>
  have a := digL_pos (r := r) h2
  have b := lx_ (c :: r)
  rw [k6_ h1 h2] at h ⊢
  split at h
  ·rename_i h3; rw [if_pos h3]; exact ⟨a, b⟩
  ·rename_i h3; exact absurd h h3
 | false =>
 cases h3 : (c == 34) with
 | true =>
  have : c = 34 := by simpa using h3
  subst this
  rw [k4_] at h ⊢
  split at h
  ·rename_i h4; rw [if_pos h4]; have := txt_len r 1 [] h4; simp only [b_]; omega
  ·rename_i h4; exact absurd h h4
 | false =>
 cases h4 : (c == 64) with
 | true =>
  have : c = 64 := by simpa using h4
  subst this
  have b := hh_ r
  rw [k7_] at h ⊢
  split at h
  ·simp at h
  ·rename_i h5; rw [if_neg h5]
   split at h
   ·simp at h
   ·rename_i h6; rw [if_neg h6]; simp only [b_]; omega
 | false =>
  rw [k3_ h1 h2 h3 h4] at h ⊢
  split at h
  ·rename_i h5; rw [if_pos h5]; exact ⟨by simp, h5.1⟩
  ·rename_i h5; rw [if_neg h5]
   split at h
   ·rename_i h6; rw [if_pos h6]; simp
   ·simp at h
theorem one_tok (c : UInt8) (r : Bs) (n : Nat) : (mc_ (c :: r) n).2.2.2 = (cb_ (c :: r)).2.2 ∧
  (if (cb_ (c :: r)).2.2 = 0 then (mc_ (c :: r) n).1 = { (cb_ (c :: r)).1 with at_ := n } ∧ (mc_ (c :: r) n).2.1 = n + (cb_ (c :: r)).2.1 else (mc_ (c :: r) n).2.2.1 = n + (cb_ (c :: r)).2.1) := by
 cases h2 : ht_ c with
 | true =>
  have h1 : lr_ c = false := by
   have := fn_ h2
   rw [id_]; simp; omega
  have hdig := il_ (l := r) h2
  have hp := im_ _ hdig
  rw [k6_ h1 h2]
  have e : mc_ (c :: r) n = if hl_ (fm_ (c :: r)) = false then (⟨3, [], 0, n⟩, 0, n, 1) else (⟨3, [], (kf_ (fm_ (c :: r))).1, n⟩, n + (fm_ (c :: r)).length, n, (kf_ (fm_ (c :: r))).2) := by
   unfold mc_; simp only [h2, if_true]
  rw [e]
  have hl : (fm_ (c :: r)).length = gc_ (c :: r) := by unfold fm_; rw [B_]; have := lx_ (c :: r); omega
  rw [show (c :: r).take (gc_ (c :: r)) = fm_ (c :: r) from rfl] at *
  by_cases hB : hl_ (fm_ (c :: r)) = false
  ·rw [if_pos hB] at hp ⊢
   rw [hp]; simp
  ·rw [if_neg hB] at hp ⊢
   by_cases h0 : (kf_ (fm_ (c :: r))).2 = 0
   ·rw [if_pos h0]; simp [h0, hl]
   ·rw [if_neg h0]; simp [h0]
 | false =>
 cases h3 : (c == 34) with
 | true =>
  have : c = 34 := by simpa using h3
  subst this
  rw [k4_]
  have e : mc_ (34 :: r) n = if (txt r 1 []).2.2 = 0 then (⟨4, (txt r 1 []).1, 0, n⟩, n + (txt r 1 []).2.1, 0, 0) else (⟨4, [], 0, n⟩, 0, n + (txt r 1 []).2.1, (txt r 1 []).2.2) := by
   unfold mc_; rfl
  rw [e]
  by_cases h0 : (txt r 1 []).2.2 = 0
  ·rw [if_pos h0, if_pos h0]; simp
  ·rw [if_neg h0, if_neg h0]; simp [h0]
 | false =>
 cases h4 : (c == 64) with
 | true =>
  have : c = 64 := by simpa using h4
  subst this
  rw [k7_]
  have e : mc_ (64 :: r) n = if bk_ r = 0 then (noTok, 0, n, 1) else if bk_ r > 24 then (noTok, 0, n, 3) else (⟨6, r.take (bk_ r), 0, n⟩, n + 1 + bk_ r, 0, 0) := by
   unfold mc_; rfl
  rw [e]
  by_cases h5 : bk_ r = 0
  ·rw [if_pos h5, if_pos h5]; simp
  ·rw [if_neg h5, if_neg h5]
   by_cases h6 : bk_ r > 24
   ·rw [if_pos h6, if_pos h6]; simp
   ·rw [if_neg h6, if_neg h6]; simp; omega
 | false =>
  have e : mc_ (c :: r) n = if bk_ (c :: r) > 24 then (noTok, 0, n, 3)
   else if bk_ (c :: r) > 0 ∧ kwL ((c :: r).take (bk_ (c :: r))) then (⟨2, (c :: r).take (bk_ (c :: r)), 0, n⟩, n + bk_ (c :: r), 0, 0)
   else if bk_ (c :: r) > 0 then (⟨1, (c :: r).take (bk_ (c :: r)), 0, n⟩, n + bk_ (c :: r), 0, 0)
   else if pu_ (c :: r) = 0 then (noTok, 0, n, 1)
   else (⟨5, (c :: r).take (pu_ (c :: r)), 0, n⟩, n + pu_ (c :: r), 0, 0) := by
   unfold mc_; simp only [h2, h3, h4, y_, if_false]
  rw [e]
  cases h1 : lr_ c with
  | true =>
   have a : bk_ (c :: r) > 0 := os_ (r := r) h1
   rw [k5_ h1]
   by_cases h5 : bk_ (c :: r) > 24
   ·rw [if_pos h5, if_pos h5]; simp
   ·rw [if_neg h5, if_neg h5]
    by_cases h6 : kwL ((c :: r).take (bk_ (c :: r))) = true
    ·rw [if_pos h6, if_pos ⟨a, h6⟩]; simp
    ·rw [if_neg h6, if_neg (fun h => h6 h.2), if_pos a]; simp
  | false =>
   have h0 : bk_ (c :: r) = 0 := by simp [bk_, h1]
   rw [k3_ h1 h2 h3 h4, h0]
   rw [if_neg oM, if_neg oM, if_neg oM]
   unfold pu_
   by_cases h5 : 2 ≤ (c :: r).length ∧ kd_ ((c :: r).take 2) = true
   ·rw [if_pos h5, if_pos h5]; simp
   ·rw [if_neg h5, if_neg h5]
    by_cases h6 : kd_ ((c :: r).take 1) = true
    ·rw [if_pos h6, if_pos h6]; simp
    ·rw [if_neg h6, if_neg h6]; simp
theorem ds_ (f : Nat) (c : UInt8) (r : Bs) (at_ : Nat) (out : List Tok) : ex_ (f + 1) (c :: r) at_ out = if out.length = 1000 then ([], at_, 3) else if (cb_ (c :: r)).2.2 = 0 then
  ex_ f ((c :: r).drop ((cb_ (c :: r)).2.1 + skip ((c :: r).drop (cb_ (c :: r)).2.1))) (at_ + (cb_ (c :: r)).2.1 + skip ((c :: r).drop (cb_ (c :: r)).2.1)) (out ++ [{ (cb_ (c :: r)).1 with at_ := at_ }])
  else ([], at_ + (cb_ (c :: r)).2.1, (cb_ (c :: r)).2.2) := by
 conv => lhs; unfold ex_
 rw [if_neg sI]
theorem iv_ : ∀ (f g : Nat) (l : Bs) (at_ : Nat) (out : List Tok), l.length ≤ f → l.length ≤ g → ex_ f l at_ out = ex_ g l at_ out
 | 0, 0, l, at_, out, _, _ => rfl
 | 0, g + 1, l, at_, out, hf, _ => by
  have : l = [] := O_ oM
  subst this; simp [ex_]
 | f + 1, 0, l, at_, out, _, hg => by
  have : l = [] := O_ oM
  subst this; simp [ex_]
 | f + 1, g + 1, l, at_, out, hf, hg => by
  cases l with
  | nil => simp [ex_]
  | cons c r =>
   rw [ds_, ds_]
   split
   ·rfl
   ·split
    ·rename_i h
     have := fv_ c r h
     simp only [b_] at hf hg this
     exact iv_ f g _ _ _ (by rw [p_, b_]; omega) (by rw [p_, b_]; omega)
    ·rfl
def TKs (l : Bs) (at_ : Nat) (out : List Tok) : List Tok × Nat × Int := ex_ l.length l at_ out
theorem TKs_nil (at_ : Nat) (out : List Tok) : TKs [] at_ out = (out, 0, 0) := rfl
theorem TKs_full {c : UInt8} {r : Bs} {at_ : Nat} {out : List Tok} (h : out.length = 1000) : TKs (c :: r) at_ out = ([], at_, 3) := by
 unfold TKs; rw [b_, ds_, if_pos h]
theorem TKs_err {c : UInt8} {r : Bs} {at_ : Nat} {out : List Tok} (h : out.length ≠ 1000) (he : (cb_ (c :: r)).2.2 ≠ 0) : TKs (c :: r) at_ out = ([], at_ + (cb_ (c :: r)).2.1, (cb_ (c :: r)).2.2) := by
 unfold TKs; rw [b_, ds_, if_neg h, if_neg he]
theorem TKs_ok {c : UInt8} {r : Bs} {at_ : Nat} {out : List Tok} (h : out.length ≠ 1000) (he : (cb_ (c :: r)).2.2 = 0) : TKs (c :: r) at_ out =
  TKs ((c :: r).drop ((cb_ (c :: r)).2.1 + skip ((c :: r).drop (cb_ (c :: r)).2.1))) (at_ + (cb_ (c :: r)).2.1 + skip ((c :: r).drop (cb_ (c :: r)).2.1)) (out ++ [{ (cb_ (c :: r)).1 with at_ := at_ }]) := by
 have hl := fv_ c r he
 simp only [b_] at hl
 unfold TKs
 rw [b_, ds_, if_neg h, if_pos he]
 exact iv_ _ _ _ _ _ (by rw [p_, b_]; omega) (f_ _)
theorem ga_ : ∀ (b : Bool) (l : Bs), skp b l ≤ l.length
 | _, [] => l_ _
 | false, c :: l => by
  have h1 := ga_ false l
  have h2 := ga_ true l
  simp only [skp, b_]
  split
  ·omega
  ·split <;> omega
 | true, c :: l => by
  have h1 := ga_ false l
  have h2 := ga_ true l
  simp only [skp, b_]
  split <;> omega
theorem m3_ (l : Bs) (h : l.length ≤ 4000) : al_ l = TKs (l.drop (skip l)) (skip l) [] := by
 unfold al_ TKs
 rw [if_neg oM]
 exact iv_ _ _ _ _ _ (by rw [p_]; omega) (f_ _)
end
section
open Go.RowKit
abbrev tksV (p : List Tok × Nat × Int) : V := .tu [toks p.1, int p.2.1, int p.2.2]
theorem txt_le : ∀ (l : Bs) (i : Nat) (out : Bs), (txt l i out).2.1 ≤ i + l.length
 | [], i, out => by simp [txt]
 | c :: l, i, out => by
  by_cases h1 : (decide (c < 32) || decide (c > 126)) = true
  ·rw [hd_ h1]; simp
  have h1 : (decide (c < 32) || decide (c > 126)) = false := by simpa using h1
  by_cases h2 : c = 34
  ·subst h2; rw [k0_]; simp only [b_]; omega
  by_cases h3 : c = 92
  ·subst h3
   cases l with
   | nil => rw [k2_]; simp
   | cons d l =>
    by_cases h4 : (d == 34 || d == 92) = true
    ·rw [hc_ h4]
     split
     ·simp
     ·have := txt_le l (i + 2) (out ++ [d])
      simp only [b_]; omega
    ·rw [k1_ (by simpa using h4)]; simp
  rw [qe_ h1 h2 h3]
  split
  ·simp
  ·have := txt_le l (i + 1) (out ++ [c])
   simp only [b_]; omega
theorem tok1_le' (c : UInt8) (r : Bs) : (cb_ (c :: r)).2.1 ≤ (c :: r).length := by
 by_cases h : (cb_ (c :: r)).2.2 = 0
 ·exact (fv_ c r h).2
 cases h1 : lr_ c with
 | true =>
  rw [k5_ h1] at h ⊢
  split at h <;> rename_i h2
  ·rw [if_pos h2]; simp
  ·split at h <;> simp at h
 | false =>
 cases h2 : ht_ c with
 | true =>
  rw [k6_ h1 h2] at h ⊢
  split at h <;> rename_i h3
  ·simp at h
  ·rw [if_neg h3]; simp
 | false =>
 cases h3 : (c == 34) with
 | true =>
  have : c = 34 := by simpa using h3
  subst this
  rw [k4_] at h ⊢
  split at h <;> rename_i h4
  ·simp at h
  ·rw [if_neg h4]; have := txt_le r 1 []; simp only [b_]; omega
 | false =>
 cases h4 : (c == 64) with
 | true =>
  have : c = 64 := by simpa using h4
  subst this
  rw [k7_] at h ⊢
  split at h <;> rename_i h5
  ·rw [if_pos h5]; simp
  ·split at h <;> rename_i h6
   ·rw [if_neg h5, if_pos h6]; simp
   ·simp at h
 | false =>
  rw [k3_ h1 h2 h3 h4] at h ⊢
  split at h <;> rename_i h5
  ·simp at h
  ·split at h <;> rename_i h6
   ·simp at h
   ·rw [if_neg h5, if_neg h6]; simp
theorem tok1_le (c : UInt8) (r : Bs) {n : Nat} (h : (c :: r).length ≤ n) : (cb_ (c :: r)).2.1 ≤ n := w_ (tok1_le' c r) h
theorem hv_ (l : Bs) (hl : l.length ≤ 281474976710656) : DCalls Tryz.prog 23 [bc_ l] (tksV (al_ l)) := by
 refine sx Tryz.func23 kR ?_
 conv => whnf
 rintro (_ | _) h0
 rotate_left
 ·simp [P_] at h0
  rw [show al_ l = ([], 0, 3) by unfold al_; rw [if_pos oM]]
  (conv => whnf) <;> rfl
 simp [P_] at h0
 have hlen : l.length ≤ 4000 := by omega
 rw [m3_ l hlen]
 conv => whnf
 refine ⟨_, x_skip l oM, ?_⟩
 have hsk : skip l ≤ l.length := ga_ false l
 generalize hR : TKs (l.drop (skip l)) (skip l) [] = R
 conv => whnf
 refine ⟨[(5, 48, 89, 4)], Nat × List Tok, fun ⟨k, out⟩ => [(6, int k), (5, .ow 48 0), (7, .un)], fun ⟨k, out⟩ => [(48, some (.row 0 89 4 true (out.map mi_))), (7, none)], fun ⟨k, out⟩ => k ≤ l.length ∧ out.length ≤ 1000 ∧ TKs (l.drop k) k out = R, fun x => l.length - x.1, (skip l, []), ⟨hsk, by simp, hR⟩, ?_, ?_⟩
 ·exact eN
 rintro ⟨k, out⟩ ⟨hk1, hk2, hk⟩
 conv => whnf
 rintro (_ | _) h2
 ·simp [P_] at h2
  rw [k_ h2, TKs_nil] at hk
  rw [← hk]
  (conv => whnf) <;> rfl
 have h2 : k < l.length := by simp only [P_] at h2; simp at h2; omega
 have hd := ao_ h2
 conv => whnf
 rintro (_ | _) h3
 rotate_left
 ·simp at h3
  rw [hd, TKs_full oM] at hk
  rw [← hk]
  (conv => whnf) <;> rfl
 have h3 : out.length ≠ 1000 := by simp at h3; omega
 conv => whnf
 refine ⟨oM, by rw [P_]; omega, oM, ?_⟩
 rw [ia_, hd]
 have hlc : (l[k] :: l.drop (k + 1)).length = l.length - k := by rw [← hd, p_]
 conv => whnf
 refine ⟨_, x_token l[k] (l.drop (k + 1)) oM, ?_⟩
 have hcr : l.drop k = l[k] :: l.drop (k + 1) := hd
 generalize l.drop (k + 1) = r at *
 have hdrop : ∀ a b, l.drop (k + a + b) = (l[k] :: r).drop (a + b) := fun a b => by rw [← hcr, List.drop_drop, Nat.add_assoc]
 generalize l[k] = c at *
 rw [hcr] at hk
 conv => whnf
 rintro (_ | _) h4
 rotate_left
 ·have h4 : (cb_ (c :: r)).2.2 ≠ 0 := by simpa using h4
  rw [TKs_err h3 h4] at hk
  rw [← hk]
  have hb : (cb_ (c :: r)).2.1 ≤ 281474976710656 := tok1_le c r oM
  conv => whnf
  rw [show IntKind.i64.wrap ((k : Int) + ((cb_ (c :: r)).2.1 : Nat)) = ((k + (cb_ (c :: r)).2.1 : Nat) : Int) by rw [A_ _ oM]; omega]
  rfl
 have h4 : (cb_ (c :: r)).2.2 = 0 := by simpa using h4
 rw [TKs_ok h3 h4] at hk
 have hl4 := fv_ c r h4
 have hw : IntKind.i64.wrap ((k : Int) + ((cb_ (c :: r)).2.1 : Nat)) = ((k + (cb_ (c :: r)).2.1 : Nat) : Int) := by rw [A_ _ oM]; omega
 conv => whnf
 refine ⟨by simp; omega, ?_⟩
 conv => whnf
 rw [hw]
 refine ⟨oM, by rw [P_]; omega, oM, ?_⟩
 rw [ia_, ← List.drop_drop, hcr]
 have hsk2 : skip ((c :: r).drop (cb_ (c :: r)).2.1) ≤ ((c :: r).drop (cb_ (c :: r)).2.1).length := ga_ false _
 rw [p_] at hsk2
 conv => whnf
 refine ⟨_, x_skip ((c :: r).drop (cb_ (c :: r)).2.1) (by rw [p_]; omega), ?_⟩
 have hw2 : IntKind.i64.wrap (((k + (cb_ (c :: r)).2.1 : Nat) : Int) + ((skip ((c :: r).drop (cb_ (c :: r)).2.1) : Nat) : Int)) = ((k + (cb_ (c :: r)).2.1 + skip ((c :: r).drop (cb_ (c :: r)).2.1) : Nat) : Int) := by rw [A_ _ oM]; omega
 conv => whnf
 refine ⟨(k + (cb_ (c :: r)).2.1 + skip ((c :: r).drop (cb_ (c :: r)).2.1), out ++ [{ (cb_ (c :: r)).1 with at_ := k }]), ⟨oM, by simp; omega, by rw [hdrop]; exact hk⟩, by dsimp only; omega, ?_⟩
 refine ⟨rfl, ?_, ?_⟩ <;> repeat' (first | exact trivial | exact rfl | refine am_ ?_ | refine aw_ hw2 ?_ | refine ah_ ?_ ?_ | (simp [mi_]; done))
end
section
open Go.RowKit
theorem x_rtokens (l : Bs) (hl : l.length ≤ 281474976710656) : DCalls Tryz.prog 27 [bc_ l] (tksV (al_ l)) := by
 refine sx Tryz.func27 kR ?_
 conv => whnf
 rintro (_ | _) h0
 rotate_left
 ·simp [P_] at h0
  rw [show al_ l = ([], 0, 3) by unfold al_; rw [if_pos oM]]
  (conv => whnf) <;> rfl
 simp [P_] at h0
 have hlen : l.length ≤ 4000 := by omega
 rw [m3_ l hlen]
 conv => whnf
 refine ⟨_, x_rskip l 0 oM oM, ?_⟩
 rw [List.drop_zero, Nat.zero_add]
 have hsk : skip l ≤ l.length := ga_ false l
 generalize hR : TKs (l.drop (skip l)) (skip l) [] = R
 conv => whnf
 refine ⟨[(5, 39, 89, 4)], Nat × List Tok, fun ⟨k, out⟩ => [(6, int k), (5, .ow 39 0), (7, .un)], fun ⟨k, out⟩ => [(39, some (.row 0 89 4 true (out.map mi_))), (7, none)], fun ⟨k, out⟩ => k ≤ l.length ∧ out.length ≤ 1000 ∧ TKs (l.drop k) k out = R, fun x => l.length - x.1, (skip l, []), ⟨hsk, by simp, hR⟩, ?_, ?_⟩
 ·exact eN
 rintro ⟨k, out⟩ ⟨hk1, hk2, hk⟩
 conv => whnf
 rintro (_ | _) h2
 ·simp [P_] at h2
  rw [k_ h2, TKs_nil] at hk
  rw [← hk]
  (conv => whnf) <;> rfl
 have h2 : k < l.length := by simp only [P_] at h2; simp at h2; omega
 have hd := ao_ h2
 conv => whnf
 rintro (_ | _) h3
 rotate_left
 ·simp at h3
  rw [hd, TKs_full oM] at hk
  rw [← hk]
  (conv => whnf) <;> rfl
 have h3 : out.length ≠ 1000 := by simp at h3; omega
 have hlc : (l[k] :: l.drop (k + 1)).length = l.length - k := by rw [← hd, p_]
 conv => whnf
 refine ⟨_, x_one l k h2 hl, ?_⟩
 have hcr : l.drop k = l[k] :: l.drop (k + 1) := hd
 have hdrop : ∀ a b, l.drop (k + a + b) = (l[k] :: l.drop (k + 1)).drop (a + b) := fun a b => by rw [← hcr, List.drop_drop, Nat.add_assoc]
 obtain ⟨o1, o2⟩ := one_tok l[k] (l.drop (k + 1)) k
 rw [hcr] at hk ⊢
 generalize l.drop (k + 1) = r at *
 generalize l[k] = c at *
 generalize mc_ (c :: r) k = o at *
 conv => whnf
 rintro (_ | _) h4
 rotate_left
 ·have h4 : (cb_ (c :: r)).2.2 ≠ 0 := by rw [← o1]; simpa using h4
  rw [TKs_err h3 h4, ← o1] at hk
  rw [if_neg h4] at o2
  rw [← o2] at hk
  rw [← hk]
  (conv => whnf) <;> rfl
 have h4 : (cb_ (c :: r)).2.2 = 0 := by rw [← o1]; simpa using h4
 rw [TKs_ok h3 h4] at hk
 rw [if_pos h4] at o2
 obtain ⟨o2, o3⟩ := o2
 have hl4 := fv_ c r h4
 conv => whnf
 refine ⟨by simp; omega, ?_⟩
 rw [o3]
 have hsk2 : skip ((c :: r).drop (cb_ (c :: r)).2.1) ≤ ((c :: r).drop (cb_ (c :: r)).2.1).length := ga_ false _
 rw [p_] at hsk2
 conv => whnf
 refine ⟨_, x_rskip l (k + (cb_ (c :: r)).2.1) oM oM, ?_⟩
 have hd0 := hdrop (cb_ (c :: r)).2.1 0
 rw [Nat.add_zero, Nat.add_zero] at hd0
 rw [hd0]
 conv => whnf
 refine ⟨(k + (cb_ (c :: r)).2.1 + skip ((c :: r).drop (cb_ (c :: r)).2.1), out ++ [{ (cb_ (c :: r)).1 with at_ := k }]), ⟨oM, by simp; omega, by rw [hdrop]; exact hk⟩, by dsimp only; omega, ?_⟩
 refine ⟨rfl, ?_, ?_⟩ <;> repeat' (first | exact trivial | exact rfl | refine am_ ?_ | refine ah_ ?_ ?_ | (simp [mi_, o2]; done))
end
section
open Go.RowKit
section
variable {P : Program} {o : Oper} {E : Operand → V} {m : List (Option Bk)} {s d : TypeId} {x : Operand}
theorem byte_get {l : List UInt8} {i j : Nat} {d : D} (h : ((l.map a0_)[i]?.bind fun x => x[j]?) = some d) : j = 0 ∧ ∃ b, l[i]? = some b ∧ d = .cv (.int .u8 (b.toNat : Nat)) := by
 rw [e_] at h
 cases hi : l[i]? with
 | none => rw [hi] at h; cases h
 | some b =>
  rw [hi] at h
  cases j with
  | zero => simp [a0_] at h; exact ⟨rfl, b, rfl, h.symm⟩
  | succ j => simp [a0_] at h
theorem ot_make {ty e n dst : Nat} {i : TypeInfo} {l c : Operand} (ho : o.op = .makeSlice ty l c) (hl : E l = .cv (.int .i64 (n : Nat))) (hc : E c = .cv (.int .i64 (n : Nat))) (hd : o.dst = some dst) (hm : m[dst]? = some none)
  (ht : P.underlying ty = some (.slice e)) (hi : P.info? e = some i) (hz : i.zero = some (.int .u8 0)) (hsz : i.size = 1) (hb : i.bytes = 1) (hn : n ≤ 281474976710656) :
  ey_ P o E m (.ow dst 0) (m.set dst (some (.row 0 e 1 true ((List.replicate n 0).map a0_)))) := by
 intro B w0 N S t a w hs hr
 have h1 := hr l (by rw [ho]; simp [Op.operands])
 have h2 := hr c (by rw [ho]; simp [Op.operands])
 rw [hl] at h1; rw [hc] at h2
 generalize hu1 : a.eval l = u1 at h1
 generalize hu2 : a.eval c = u2 at h2
 cases h1; cases h2
 have hrun := run_make (P := P) w ty e i (.int .u8 0) ht hi hz .i64 .i64 n n oM oM (by rw [hb]; omega) oM
 rw [hsz, Nat.mul_one] at hrun
 have hlen : ((List.replicate n (0 : UInt8)).map a0_).length = n := by simp
 have hpost := o1_ hs (dst := o.dst) (f := true) (xs := (List.replicate n (0 : UInt8)).map a0_) (us := madeCells (Value.int .u8 0).cells n) (ty := e) (sz := 1) (cap := n) (w1 := w) (.inl rfl) oM
  (fun x hx => by obtain ⟨b, _, rfl⟩ := List.mem_map.1 hx; rfl) (by rw [size_madeCells]; omega) oM (by simp only [maxLen]; omega)
  (fun i' j d' hd' => by
   obtain ⟨rfl, b, hb', rfl⟩ := byte_get hd'
   rw [N_] at hb'
   split at hb'
   ·rename_i hlt
    cases hb'
    refine ⟨.int .u8 0, ?_, .cv _ rfl⟩
    simp [madeCells, hlt]
    show (#[Value.int .u8 0])[i' % 1]! = _
    rw [Nat.mod_one]; rfl
   ·cases hb')
  (K := fun v m' => v = .ow dst 0 ∧ m' = m.set dst (some (.row 0 e 1 true ((List.replicate n 0).map a0_)))) (by
   unfold i9_
   rw [hd]
   simp [hm, bj_])
 refine af_ (u := .slice (some ⟨w.heap.size, 0, none⟩) n n) (w' := w.alloc (.cells (madeCells (Value.int .u8 0).cells n) e)) ?_ ?_
 ·unfold execOp
  simp only [ho]
  refine cz_ ?_
  rw [hu1, hu2]
  simpa using hrun
 ·rw [hlen] at hpost
  obtain ⟨N', S', v, m', h3, h4, rfl, rfl⟩ := hpost
  exact ⟨N', S', h3, h4⟩
theorem Sat.bytes {B : Fr} {w0 : World} {N : ax_} {S : cs_} {t : List V} {a : Act} {w : World} (hs : Sat B w0 N S t m a w) {n k e g cap : Nat} {l l' : List UInt8} {us' : Array Value} {w' : World}
  (hm : m[n]? = some (some (.row k e 1 true (l.map a0_)))) (hn : N n = some (k, .slice (some ⟨g, 0, none⟩) l.length cap)) (hle : l.length ≤ cap) (hmax : cap ≤ maxLen) (hus : us'.size = cap)
  (hupd : Upd w w' g us' e) (hlen : l'.length = l.length) (hval : ∀ (j : Nat) (b : UInt8), l'[j]? = some b → us'[j]? = some (Value.int .u8 (b.toNat : Nat))) :
  ∃ N', Sat B w0 N' S t (m.set n (some (.row k e 1 true (l'.map a0_)))) a w' := by
 obtain ⟨hB, hg⟩ := hs.own n _ _ g hn rfl
 have hfr := i1_ hs hm hn
 obtain ⟨N', e1, e2, e3⟩ := hs.set (w' := w') (d := n) (k := k) (v := .slice (some ⟨g, 0, none⟩) l.length cap) (b := .row k e 1 true (l'.map a0_)) (U_ hm)
  (fun k0 v0 h => by rw [hn] at h; cases h; exact .inl ⟨rfl, rfl⟩)
  (hupd.low hs.low hB) (by rw [hupd.size]; exact f_ _) (fun g' _ hk => hupd.other g' fun e => hk _ _ hn (by rw [e]; rfl))
  (fun g' hg' => by cases hg'; exact ⟨by rw [hupd.size]; exact hg, .inr ⟨_, _, hn, rfl⟩⟩)
  (fun N' e1 e2 e3 => by
   refine ⟨_, us'.toList.take l.length, e1, ⟨?_, .inr ⟨g, cap, us', ?_, l_ _, hupd.new, ?_, hmax, by rw [hus, Nat.mul_one], ?_⟩⟩, ?_, oM, ?_, fun _ => hfr⟩
   ·rw [B_, d_, hlen]; simp [hus]; omega
   ·rw [d_, hlen]
   ·rw [d_, hlen]; exact hle
   ·rw [d_, hlen, Nat.mul_one]
   ·intro x hx; obtain ⟨b, _, rfl⟩ := List.mem_map.1 hx; rfl
   ·intro i j d hd
    obtain ⟨rfl, b, hb, rfl⟩ := byte_get hd
    have hi := U_ hb
    refine ⟨_, ?_, .cv _ rfl⟩
    rw [show i * 1 + 0 = i by omega, D_, if_pos oM]
    simpa using hval i b hb)
 exact ⟨N', e3⟩
theorem ot_copy {n k e lo hi ty : Nat} {f : Bool} {l ys : List UInt8} {c : Call} {x y : Operand} {t1 t2 : TypeId} (ho : o.op = .call c) (hc : c.callee = .builtin .copy) (ha : c.args = #[x, y]) (ht : c.argTypes = #[t1, t2])
  (hx : E x = .vw n k 1 lo hi) (hy : E y = bytesV f ys) (hm : m[n]? = some (some (.row k e 1 true (l.map a0_)))) (hys : ys ≠ []) (hle : ys.length ≤ hi - lo) (hhi : hi ≤ l.length)
  (hu : P.underlying t1 = some (.slice e)) (hsz : (P.info? e).map (·.size) = some 1) (hty : o.type = ty) :
  ey_ P o E m (.cv (.int .i64 (ys.length : Nat))) (m.set n (some (.row k e 1 true ((l.take lo ++ ys ++ l.drop (lo + ys.length)).map a0_)))) := by
 intro B w0 N S t a w hs hr
 have h1 := hr x (by rw [ho]; simp [Op.operands, Call.operands, ha, hc])
 have h2 := hr y (by rw [ho]; simp [Op.operands, Call.operands, ha, hc])
 rw [hx] at h1; rw [hy] at h2
 generalize hu1 : a.eval x = u1 at h1
 generalize hu2 : a.eval y = u2 at h2
 cases h1
 rename_i _ hv
 obtain ⟨k', v, hn, hk, hv⟩ := hv
 obtain ⟨rfl, b1, b2, b3⟩ := az_ hs hm hn
 obtain ⟨A, len, cap, A', rfl, c1, c2, rfl, c4⟩ := hv rfl
 have hpos : 0 < ys.length := List.length_pos_iff.2 hys
 rcases b3 with ⟨b3, b4⟩ | ⟨g, cap', us, b3, b4, b5, b6, b7, b8⟩
 ·cases b3
  have : l = [] := by simpa using b4
  subst this
  simp at hhi; omega
 cases b3
 rw [d_] at *
 have hA : A' = some ⟨g, lo, none⟩ := by
  rw [c4 oM]
  simp [c5_]
 subst hA
 cases h2
 rename_i h2
 generalize hxs : ys.map a0_ = xs at h2
 cases h2 with
 | nil =>
  have : ys = [] := by simpa using hxs
  exact absurd this hys
 | sl _ _ b o' cap2 u hS hx hcap hcc hdd =>
  subst hxs
  have hcell : ∀ (j : Nat) (q : UInt8), ys[j]? = some q → w.cell? ⟨b, o' + j, none⟩ = some (Value.int .u8 (q.toNat : Nat)) := by
   intro j q hq
   have h0 : (((ys.map a0_)[j]?).bind fun x => x[0]?) = some (.cv (.int .u8 (q.toNat : Nat))) := by rw [e_, hq]; rfl
   have h3 := hcc j 0 _ h0
   have h4 := hdd j 0 _ h0
   generalize u j 0 = z at h3 h4
   cases h4
   rw [show o' + j = o' + j * 1 + 0 by omega]; exact h3
  rw [d_] at hu2
  have hrun := run_copy_row (P := P) w t1 t2 ty e g lo (hi - lo) (cap - lo) ⟨b, o', none⟩ ys.length cap2 us e (ys.map fun q => Value.int .u8 (q.toNat : Nat)) hu hsz b4
   (by rw [d_]; exact (Nat.min_eq_left hle).symm)
   (fun j v hv => by
    rw [e_, o_] at hv
    obtain ⟨q, hq, rfl⟩ := hv
    rw [c5_]; exact hcell j q hq)
   (by rw [d_]; omega) (fun v hv => by obtain ⟨q, _, rfl⟩ := List.mem_map.1 hv; rfl)
  rw [d_] at hrun
  have hupd : Upd w (w.setRow g (us.toList.take lo ++ (ys.map fun q => Value.int .u8 (q.toNat : Nat)) ++ us.toList.drop (lo + ys.length)).toArray) g (us.toList.take lo ++ (ys.map fun q => Value.int .u8 (q.toNat : Nat)) ++ us.toList.drop (lo + ys.length)).toArray e :=
   ⟨rfl, rfl, rfl, by simp, setRow_heap w g us _ e (0, 0) b4, fun j hj => setRow_other w g j _ hj⟩
  have hul : us.toList.length = cap := by simp; omega
  obtain ⟨N', hs'⟩ := hs.bytes (l' := l.take lo ++ ys ++ l.drop (lo + ys.length)) hm hn b5 b6 sO hupd sO (fun j q hq => by
   have hold : ∀ (i : Nat) (q : UInt8), l[i]? = some q → us.toList[i]? = some (Value.int .u8 (q.toNat : Nat)) := by
    intro i q hq
    obtain ⟨h9, h10⟩ := b8 i 0 (.cv (.int .u8 (q.toNat : Nat))) (by rw [e_, hq]; rfl)
    have e1 : us.getD (i * 1 + 0) undef = .int .u8 (q.toNat : Nat) := by
     generalize us.getD (i * 1 + 0) undef = z at h10
     cases h10; rfl
    rw [show i * 1 + 0 = i by omega] at e1 h9
    rw [Array.getElem?_toList, I_ h9, ← e1]
    simp [Array.getD_eq_getD_getElem?, Array.getElem?_eq_getElem h9]
   rw [List.getElem?_toArray]
   have hlo : (us.toList.take lo).length = lo := by rw [B_]; omega
   have hlo' : (l.take lo).length = lo := by rw [B_]; omega
   rw [List.append_assoc] at hq ⊢
   rcases s_ j lo with hj | hj
   ·rw [E_ oM] at hq ⊢
    rw [D_, if_pos hj] at hq ⊢
    exact hold j q hq
   ·rw [L_ oM, hlo'] at hq
    rw [L_ oM, hlo]
    rcases s_ (j - lo) ys.length with hj2 | hj2
    ·rw [E_ hj2] at hq
     rw [E_ (by rw [d_]; exact hj2), e_, hq]; rfl
    ·rw [L_ hj2] at hq
     rw [L_ (by rw [d_]; exact hj2), d_]
     rw [K_] at hq ⊢
     exact hold _ q hq)
  refine af_ (u := goInt ys.length) (w' := _) ?_ ⟨N', S, hs', .cv _⟩
  unfold execOp
  simp only [ho]
  subst hty
  simp [resolve, hc, ha, ht, invoke, builtin, hu1, hu2, hrun]
end
end
end Go.Proofs.YtglndfgmlminpaaGreatDoor
