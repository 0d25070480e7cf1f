/- Texts joined by pack.py: XLx12 XLx13 XLx14 XLx15 XLx16 XSxC1 -/
import Derived.Test.YtglndfgmlminpaaGreatDoorSp16
import Derived.Test.YtglndfgmlminpaaGreatDoorSp14
import Derived.Laws.MakeOwn
import Derived.Laws.CopyRow
set_option maxHeartbeats 4000000
set_option maxRecDepth 100000
namespace Go.Proofs.YtglndfgmlminpaaGreatDoor
open Go.RowKit
theorem cls_qt (c : UInt8) : (cls c == 4) = (c == 34) := by
 have : ∀ n : Fin 256, (cls (UInt8.ofNat n.val) == 4) = (UInt8.ofNat n.val == 34) := by decide +kernel
 have := this ⟨c.toNat, c.toNat_lt⟩
 simpa using this
theorem cls_at (c : UInt8) : (cls c == 5) = (c == 64) := by
 have : ∀ n : Fin 256, (cls (UInt8.ofNat n.val) == 5) = (UInt8.ofNat n.val == 64) := by decide +kernel
 have := this ⟨c.toNat, c.toNat_lt⟩
 simpa using this
abbrev tkV (p : Tok × Nat × Int) : V := .tu [p.1.V, int p.2.1, int p.2.2]
theorem tok1_hd {c : UInt8} {r : Bs} (h : isHd c = true) : tok1 (c :: r) = if runL (c :: r) > 24 then (noTok, 0, 3) else if kwL ((c :: r).take (runL (c :: r))) then (⟨2, (c :: r).take (runL (c :: r)), 0, 0⟩, runL (c :: r), 0) else (⟨1, (c :: r).take (runL (c :: r)), 0, 0⟩, runL (c :: r), 0) := by
 unfold tok1; simp only [h, if_true]
theorem tok1_dg {c : UInt8} {r : Bs} (h1 : isHd c = false) (h : isDg c = true) : tok1 (c :: r) = if (pnum ((c :: r).take (digL (c :: r)))).2 = 0 then (⟨3, [], (pnum ((c :: r).take (digL (c :: r)))).1, 0⟩, digL (c :: r), 0) else (noTok, 0, (pnum ((c :: r).take (digL (c :: r)))).2) := by
 unfold tok1; simp only [h1, h, if_true, Bool.false_eq_true, if_false]
theorem tok1_qt {r : Bs} : tok1 (34 :: r) = if (txt r 1 []).2.2 = 0 then (⟨4, (txt r 1 []).1, 0, 0⟩, (txt r 1 []).2.1, 0) else (noTok, (txt r 1 []).2.1, (txt r 1 []).2.2) := by
 unfold tok1; rfl
theorem tok1_at {r : Bs} : tok1 (64 :: r) = if runL r = 0 then (noTok, 0, 1) else if runL r > 24 then (noTok, 0, 3) else (⟨6, r.take (runL r), 0, 0⟩, runL r + 1, 0) := by
 unfold tok1; rfl
theorem tok1_sy {c : UInt8} {r : Bs} (h1 : isHd c = false) (h2 : isDg c = false) (h3 : (c == 34) = false) (h4 : (c == 64) = false) : tok1 (c :: r) = if 2 ≤ (c :: r).length ∧ symB ((c :: r).take 2) then (⟨5, (c :: r).take 2, 0, 0⟩, 2, 0)
  else if symB ((c :: r).take 1) then (⟨5, (c :: r).take 1, 0, 0⟩, 1, 0) else (noTok, 0, 1) := by
 unfold tok1; simp only [h1, h2, h3, h4, Bool.false_eq_true, if_false]
theorem runT_le : ∀ l : Bs, runT l ≤ l.length
 | [] => Nat.le_refl _
 | c :: l => by have := runT_le l; simp only [runT, List.length_cons]; split <;> omega
theorem runL_le : ∀ l : Bs, runL l ≤ l.length
 | [] => Nat.le_refl _
 | c :: l => by have := runT_le l; simp only [runL, List.length_cons]; split <;> omega
theorem mk_toI (l : Bs) (k : Nat) : (mk l).extract (0 : Int).toNat ((k : Nat) : Int).toNat = mk (l.take k) := by
 rw [Int.toNat_natCast]; exact mk_to l k
theorem x_keywordL (l : Bs) : DCalls Tryz.prog 84 [bstr l] (boo (kwL l)) := x_keyword (mk l)
theorem x_token (c : UInt8) (r : Bs) (hl : (c :: r).length ≤ 281474976710656) : DCalls Tryz.prog 51 [bstr (c :: r)] (tkV (tok1 (c :: r))) := by
 refine sx Tryz.func51 (by kernel_rfl) ?_
 conv => whnf
 refine ⟨by omega, _, (show (mk (c :: r))[0]? = some c by rw [mk_get]; rfl), ?_⟩
 conv => whnf
 refine ⟨_, x_ofw c, ?_⟩
 conv => whnf
 rw [cls_hd]
 rintro (_ | _) h1
 rotate_left
 ·have hrl := runL_le (c :: r)
  rw [tok1_hd h1]
  generalize hL : c :: r = l at *
  conv => whnf
  refine ⟨_, x_run l (by omega), ?_⟩
  conv => whnf
  rintro (_ | _) h2
  rotate_left
  ·simp at h2
   rw [if_pos (by omega)]
   (conv => whnf) <;> rfl
  simp at h2
  rw [if_neg (by omega)]
  conv => whnf
  refine ⟨by omega, by omega, by rw [mk_size]; omega, ?_⟩
  rw [mk_toI]
  conv => whnf
  refine ⟨_, x_keywordL _, ?_⟩
  conv => whnf
  rintro (_ | _) h3
  ·rw [if_neg (by rw [h3]; simp)]
   conv => whnf
   refine ⟨by omega, by omega, by rw [mk_size]; omega, ?_⟩
   rw [mk_toI]
   (conv => whnf) <;> rfl
  ·rw [if_pos h3]
   conv => whnf
   refine ⟨by omega, by omega, by rw [mk_size]; omega, ?_⟩
   rw [mk_toI]
   (conv => whnf) <;> rfl
 conv => whnf
 rw [cls_dg]
 rintro (_ | _) h2
 rotate_left
 ·have hdl := digL_le (c :: r)
  have hdig := digs_take (l := r) h2
  rw [tok1_dg h1 h2]
  generalize hL : c :: r = l at *
  conv => whnf
  refine ⟨_, x_digits l (by omega), ?_⟩
  conv => whnf
  refine ⟨by omega, by omega, by rw [mk_size]; omega, ?_⟩
  rw [mk_toI]
  conv => whnf
  refine ⟨_, x_parse _ hdig (by rw [List.length_take]; omega), ?_⟩
  conv => whnf
  rintro (_ | _) h3
  ·simp at h3
   rw [if_pos h3]
   (conv => whnf) <;> rfl
  ·simp at h3
   rw [if_neg h3]
   (conv => whnf) <;> rfl
 conv => whnf
 rw [cls_qt]
 rintro (_ | _) h3
 rotate_left
 ·have h3' : c = 34 := by simpa using h3
  subst h3'
  rw [tok1_qt]
  conv => whnf
  refine ⟨_, x_text (34 :: r) (by simp) (by omega), ?_⟩
  rw [show txt (List.drop 1 (34 :: r)) 1 [] = txt r 1 [] from rfl]
  conv => whnf
  rintro (_ | _) h4
  ·simp at h4
   rw [if_pos h4]
   (conv => whnf) <;> rfl
  ·simp at h4
   rw [if_neg h4]
   (conv => whnf) <;> rfl
 conv => whnf
 rw [cls_at]
 rintro (_ | _) h4
 rotate_left
 ·have h4' : c = 64 := by simpa using h4
  subst h4'
  rw [tok1_at]
  have hrl := runL_le r
  have hl' : (64 :: r).length = r.length + 1 := rfl
  conv => whnf
  refine ⟨by omega, by rw [mk_size]; omega, by omega, ?_⟩
  rw [show (mk (64 :: r)).extract (1 : Int).toNat (((mk (64 :: r)).size : Nat) : Int).toNat = mk r from mk_fromI (64 :: r) 1]
  conv => whnf
  refine ⟨_, x_run r (by omega), ?_⟩
  conv => whnf
  rintro (_ | _) h5
  rotate_left
  ·simp at h5
   rw [if_pos (by omega)]
   (conv => whnf) <;> rfl
  simp at h5
  rw [if_neg (by omega)]
  conv => whnf
  rintro (_ | _) h6
  rotate_left
  ·simp at h6
   rw [if_pos (by omega)]
   (conv => whnf) <;> rfl
  simp at h6
  rw [if_neg (by omega)]
  have hw : IntKind.i64.wrap ((runL r : Int) + 1) = ((runL r + 1 : Nat) : Int) := wrap_succ (by omega)
  conv => whnf
  rw [hw]
  refine ⟨by omega, by omega, by rw [mk_size]; omega, ?_⟩
  have e : (mk (64 :: r)).extract (1 : Int).toNat ((runL r + 1 : Nat) : Int).toNat = mk (r.take (runL r)) := by
   rw [Int.toNat_natCast, mk_ext]; rfl
  rw [e]
  conv => whnf
  rw [hw]
 rw [tok1_sy h1 h2 h3 h4]
 have hpos : 1 ≤ (c :: r).length := by simp
 generalize hL : c :: r = l at *
 obtain ⟨n0, e0, a1, a2, a3⟩ : ∃ n0 : Nat, (if (((mk l).size : Nat) : Int) < 2 then (((mk l).size : Nat) : Int) else 2) = ((n0 : Nat) : Int) ∧ n0 ≤ l.length ∧ (l.length < 2 → n0 = 1) ∧ (2 ≤ l.length → n0 = 2) := by
  rw [mk_size]
  by_cases h : l.length < 2
  ·exact ⟨l.length, by rw [if_pos (by omega)], by omega, by omega, by omega⟩
  ·exact ⟨2, by rw [if_neg (by omega)]; rfl, by omega, by omega, by omega⟩
 conv => whnf
 rw [e0]
 refine ⟨[], Nat, fun n => [(14, int n)], fun _ => [], fun n => n ≤ l.length ∧ n ≤ 2 ∧ (if 2 ≤ l.length ∧ symB (l.take 2) then ((⟨5, l.take 2, 0, 0⟩ : Tok), 2, (0 : Int)) else if symB (l.take 1) then (⟨5, l.take 1, 0, 0⟩, 1, 0) else (noTok, 0, 1)) =
  (if 2 ≤ n ∧ symB (l.take 2) then ((⟨5, l.take 2, 0, 0⟩ : Tok), 2, (0 : Int)) else if 1 ≤ n ∧ symB (l.take 1) then (⟨5, l.take 1, 0, 0⟩, 1, 0) else (noTok, 0, 1)), fun n => n, n0, ⟨a1, by omega, by
   by_cases h : l.length < 2
   ·rw [a2 h]; simp [show ¬ 2 ≤ l.length by omega]
   ·rw [a3 (by omega)]; simp [show 2 ≤ l.length by omega]⟩, ?_, ?_⟩
 ·refine ⟨rfl, ?_, ?_⟩ <;> repeat' (first | exact trivial | exact rfl | refine and_rfl ?_ | refine and_two ?_ ?_)
 rintro n ⟨b1, b2, hI⟩
 conv => whnf
 rintro (_ | _) h5
 ·simp at h5
  subst h5
  rw [hI]
  (conv => whnf) <;> rfl
 simp at h5
 conv => whnf
 refine ⟨by omega, by omega, by rw [mk_size]; omega, ?_⟩
 rw [mk_toI]
 conv => whnf
 refine ⟨_, x_symbol (l.take n) (by rw [List.length_take]; omega), ?_⟩
 conv => whnf
 rintro (_ | _) h6
 ·conv => whnf
  refine ⟨n - 1, ⟨by omega, by omega, by
   rw [hI]
   rcases (by omega : n = 1 ∨ n = 2) with rfl | rfl
   ·rw [h6]; simp
   ·rw [h6]; simp⟩, by dsimp only; omega, ?_⟩
  have hw : IntKind.i64.wrap ((n : Int) - 1) = ((n - 1 : Nat) : Int) := by rw [IntWalk.i64_in _ (by omega)]; omega
  refine ⟨rfl, ?_, ?_⟩ <;> repeat' (first | exact trivial | exact rfl | refine and_rfl ?_ | refine and_val hw ?_ | refine and_two ?_ ?_)
 ·rw [hI]
  conv => whnf
  refine ⟨by omega, by omega, by rw [mk_size]; omega, ?_⟩
  rw [mk_toI]
  rcases (by omega : n = 1 ∨ n = 2) with rfl | rfl
  ·rw [if_neg (by omega), if_pos ⟨by omega, h6⟩]
   (conv => whnf) <;> rfl
  ·rw [if_pos ⟨by omega, h6⟩]
   (conv => whnf) <;> rfl
end Go.Proofs.YtglndfgmlminpaaGreatDoor
namespace Go.Proofs.YtglndfgmlminpaaGreatDoor
open Go.RowKit
end Go.Proofs.YtglndfgmlminpaaGreatDoor
namespace Go.Proofs.YtglndfgmlminpaaGreatDoor
open Go.RowKit
theorem txt_len : ∀ (l : Bs) (i : Nat) (out : Bs), (txt l i out).2.2 = 0 → i + 1 ≤ (txt l i out).2.1 ∧ (txt l i out).2.1 ≤ i + l.length
 | [], i, out, h => by simp [txt] at h
 | c :: l, i, out, h => by
  by_cases h1 : (decide (c < 32) || decide (c > 126)) = true
  ·rw [txt_bad h1] at h; simp at h
  have h1 : (decide (c < 32) || decide (c > 126)) = false := by simpa using h1
  by_cases h2 : c = 34
  ·subst h2; rw [txt_end]; simp
  by_cases h3 : c = 92
  ·subst h3
   cases l with
   | nil => rw [txt_bs0] at h; simp at h
   | cons d l =>
    by_cases h4 : (d == 34 || d == 92) = true
    ·rw [txt_bs2 h4] at h ⊢
     split at h
     ·simp at h
     ·rename_i h5
      rw [if_neg h5]
      have := txt_len l (i + 2) (out ++ [d]) h
      simp only [List.length_cons]; omega
    ·rw [txt_bs1 (by simpa using h4)] at h; simp at h
  rw [txt_go h1 h2 h3] at h ⊢
  split at h
  ·simp at h
  ·rename_i h5
   rw [if_neg h5]
   have := txt_len l (i + 1) (out ++ [c]) h
   simp only [List.length_cons]; omega
theorem runL_pos {c : UInt8} {r : Bs} (h : isHd c = true) : 1 ≤ runL (c :: r) := by simp [runL, h]
theorem digL_pos {c : UInt8} {r : Bs} (h : isDg c = true) : 1 ≤ digL (c :: r) := by simp [digL, h]
theorem tok1_len (c : UInt8) (r : Bs) (h : (tok1 (c :: r)).2.2 = 0) : 1 ≤ (tok1 (c :: r)).2.1 ∧ (tok1 (c :: r)).2.1 ≤ (c :: r).length := by
 cases h1 : isHd c with
 | true =>
  have a := runL_pos (r := r) h1
  have b := runL_le (c :: r)
  rw [tok1_hd h1] at h ⊢
  split at h
  ·simp at h
  ·rename_i h2; rw [if_neg h2]; split <;> exact ⟨a, b⟩
 | false =>
 cases h2 : isDg c with
 | true =>
  have a := digL_pos (r := r) h2
  have b := digL_le (c :: r)
  rw [tok1_dg h1 h2] at h ⊢
  split at h
  ·rename_i h3; rw [if_pos h3]; exact ⟨a, b⟩
  ·rename_i h3; exact absurd h h3
 | false =>
 cases h3 : (c == 34) with
 | true =>
  have : c = 34 := by simpa using h3
  subst this
  rw [tok1_qt] at h ⊢
  split at h
  ·rename_i h4; rw [if_pos h4]; have := txt_len r 1 [] h4; simp only [List.length_cons]; omega
  ·rename_i h4; exact absurd h h4
 | false =>
 cases h4 : (c == 64) with
 | true =>
  have : c = 64 := by simpa using h4
  subst this
  have b := runL_le r
  rw [tok1_at] at h ⊢
  split at h
  ·simp at h
  ·rename_i h5; rw [if_neg h5]
   split at h
   ·simp at h
   ·rename_i h6; rw [if_neg h6]; simp only [List.length_cons]; omega
 | false =>
  rw [tok1_sy h1 h2 h3 h4] at h ⊢
  split at h
  ·rename_i h5; rw [if_pos h5]; exact ⟨by simp, h5.1⟩
  ·rename_i h5; rw [if_neg h5]
   split at h
   ·rename_i h6; rw [if_pos h6]; simp
   ·simp at h
theorem toksF_succ (f : Nat) (c : UInt8) (r : Bs) (at_ : Nat) (out : List Tok) : toksF (f + 1) (c :: r) at_ out = if out.length = 1000 then ([], at_, 3) else if (tok1 (c :: r)).2.2 = 0 then
  toksF f ((c :: r).drop ((tok1 (c :: r)).2.1 + skip ((c :: r).drop (tok1 (c :: r)).2.1))) (at_ + (tok1 (c :: r)).2.1 + skip ((c :: r).drop (tok1 (c :: r)).2.1)) (out ++ [{ (tok1 (c :: r)).1 with at_ := at_ }])
  else ([], at_ + (tok1 (c :: r)).2.1, (tok1 (c :: r)).2.2) := by
 conv => lhs; unfold toksF
 rw [if_neg (by simp)]
theorem toksF_fuel : ∀ (f g : Nat) (l : Bs) (at_ : Nat) (out : List Tok), l.length ≤ f → l.length ≤ g → toksF f l at_ out = toksF g l at_ out
 | 0, 0, l, at_, out, _, _ => rfl
 | 0, g + 1, l, at_, out, hf, _ => by
  have : l = [] := List.eq_nil_of_length_eq_zero (by omega)
  subst this; simp [toksF]
 | f + 1, 0, l, at_, out, _, hg => by
  have : l = [] := List.eq_nil_of_length_eq_zero (by omega)
  subst this; simp [toksF]
 | f + 1, g + 1, l, at_, out, hf, hg => by
  cases l with
  | nil => simp [toksF]
  | cons c r =>
   rw [toksF_succ, toksF_succ]
   split
   ·rfl
   ·split
    ·rename_i h
     have := tok1_len c r h
     simp only [List.length_cons] at hf hg this
     exact toksF_fuel f g _ _ _ (by rw [List.length_drop, List.length_cons]; omega) (by rw [List.length_drop, List.length_cons]; omega)
    ·rfl
def TKs (l : Bs) (at_ : Nat) (out : List Tok) : List Tok × Nat × Int := toksF l.length l at_ out
theorem TKs_nil (at_ : Nat) (out : List Tok) : TKs [] at_ out = (out, 0, 0) := rfl
theorem TKs_full {c : UInt8} {r : Bs} {at_ : Nat} {out : List Tok} (h : out.length = 1000) : TKs (c :: r) at_ out = ([], at_, 3) := by
 unfold TKs; rw [List.length_cons, toksF_succ, if_pos h]
theorem TKs_err {c : UInt8} {r : Bs} {at_ : Nat} {out : List Tok} (h : out.length ≠ 1000) (he : (tok1 (c :: r)).2.2 ≠ 0) : TKs (c :: r) at_ out = ([], at_ + (tok1 (c :: r)).2.1, (tok1 (c :: r)).2.2) := by
 unfold TKs; rw [List.length_cons, toksF_succ, if_neg h, if_neg he]
theorem TKs_ok {c : UInt8} {r : Bs} {at_ : Nat} {out : List Tok} (h : out.length ≠ 1000) (he : (tok1 (c :: r)).2.2 = 0) : TKs (c :: r) at_ out =
  TKs ((c :: r).drop ((tok1 (c :: r)).2.1 + skip ((c :: r).drop (tok1 (c :: r)).2.1))) (at_ + (tok1 (c :: r)).2.1 + skip ((c :: r).drop (tok1 (c :: r)).2.1)) (out ++ [{ (tok1 (c :: r)).1 with at_ := at_ }]) := by
 have hl := tok1_len c r he
 simp only [List.length_cons] at hl
 unfold TKs
 rw [List.length_cons, toksF_succ, if_neg h, if_pos he]
 exact toksF_fuel _ _ _ _ _ (by rw [List.length_drop, List.length_cons]; omega) (Nat.le_refl _)
theorem skp_le : ∀ (b : Bool) (l : Bs), skp b l ≤ l.length
 | _, [] => Nat.zero_le _
 | false, c :: l => by
  have h1 := skp_le false l
  have h2 := skp_le true l
  simp only [skp, List.length_cons]
  split
  ·omega
  ·split <;> omega
 | true, c :: l => by
  have h1 := skp_le false l
  have h2 := skp_le true l
  simp only [skp, List.length_cons]
  split <;> omega
theorem tokens_TKs (l : Bs) (h : l.length ≤ 4000) : tokens l = TKs (l.drop (skip l)) (skip l) [] := by
 unfold tokens TKs
 rw [if_neg (by omega)]
 exact toksF_fuel _ _ _ _ _ (by rw [List.length_drop]; omega) (Nat.le_refl _)
end Go.Proofs.YtglndfgmlminpaaGreatDoor
namespace Go.Proofs.YtglndfgmlminpaaGreatDoor
open Go.RowKit
abbrev tksV (p : List Tok × Nat × Int) : V := .tu [toks p.1, int p.2.1, int p.2.2]
theorem txt_le : ∀ (l : Bs) (i : Nat) (out : Bs), (txt l i out).2.1 ≤ i + l.length
 | [], i, out => by simp [txt]
 | c :: l, i, out => by
  by_cases h1 : (decide (c < 32) || decide (c > 126)) = true
  ·rw [txt_bad h1]; simp
  have h1 : (decide (c < 32) || decide (c > 126)) = false := by simpa using h1
  by_cases h2 : c = 34
  ·subst h2; rw [txt_end]; simp only [List.length_cons]; omega
  by_cases h3 : c = 92
  ·subst h3
   cases l with
   | nil => rw [txt_bs0]; simp
   | cons d l =>
    by_cases h4 : (d == 34 || d == 92) = true
    ·rw [txt_bs2 h4]
     split
     ·simp
     ·have := txt_le l (i + 2) (out ++ [d])
      simp only [List.length_cons]; omega
    ·rw [txt_bs1 (by simpa using h4)]; simp
  rw [txt_go h1 h2 h3]
  split
  ·simp
  ·have := txt_le l (i + 1) (out ++ [c])
   simp only [List.length_cons]; omega
theorem tok1_le' (c : UInt8) (r : Bs) : (tok1 (c :: r)).2.1 ≤ (c :: r).length := by
 by_cases h : (tok1 (c :: r)).2.2 = 0
 ·exact (tok1_len c r h).2
 cases h1 : isHd c with
 | true =>
  rw [tok1_hd h1] at h ⊢
  split at h <;> rename_i h2
  ·rw [if_pos h2]; simp
  ·split at h <;> simp at h
 | false =>
 cases h2 : isDg c with
 | true =>
  rw [tok1_dg h1 h2] at h ⊢
  split at h <;> rename_i h3
  ·simp at h
  ·rw [if_neg h3]; simp
 | false =>
 cases h3 : (c == 34) with
 | true =>
  have : c = 34 := by simpa using h3
  subst this
  rw [tok1_qt] at h ⊢
  split at h <;> rename_i h4
  ·simp at h
  ·rw [if_neg h4]; have := txt_le r 1 []; simp only [List.length_cons]; omega
 | false =>
 cases h4 : (c == 64) with
 | true =>
  have : c = 64 := by simpa using h4
  subst this
  rw [tok1_at] at h ⊢
  split at h <;> rename_i h5
  ·rw [if_pos h5]; simp
  ·split at h <;> rename_i h6
   ·rw [if_neg h5, if_pos h6]; simp
   ·simp at h
 | false =>
  rw [tok1_sy h1 h2 h3 h4] at h ⊢
  split at h <;> rename_i h5
  ·simp at h
  ·split at h <;> rename_i h6
   ·simp at h
   ·rw [if_neg h5, if_neg h6]; simp
theorem tok1_le (c : UInt8) (r : Bs) {n : Nat} (h : (c :: r).length ≤ n) : (tok1 (c :: r)).2.1 ≤ n := Nat.le_trans (tok1_le' c r) h
theorem x_tokens (l : Bs) (hl : l.length ≤ 281474976710656) : DCalls Tryz.prog 23 [bstr l] (tksV (tokens l)) := by
 refine sx Tryz.func23 (by kernel_rfl) ?_
 conv => whnf
 rintro (_ | _) h0
 rotate_left
 ·simp [mk_size] at h0
  rw [show tokens l = ([], 0, 3) by unfold tokens; rw [if_pos (by omega)]]
  (conv => whnf) <;> rfl
 simp [mk_size] at h0
 have hlen : l.length ≤ 4000 := by omega
 rw [tokens_TKs l hlen]
 conv => whnf
 refine ⟨_, x_skip l (by omega), ?_⟩
 have hsk : skip l ≤ l.length := skp_le false l
 generalize hR : TKs (l.drop (skip l)) (skip l) [] = R
 conv => whnf
 refine ⟨[(5, 48, 89, 4)], Nat × List Tok, fun ⟨k, out⟩ => [(6, int k), (5, .ow 48 0), (7, .un)], fun ⟨k, out⟩ => [(48, some (.row 0 89 4 true (out.map tokD))), (7, none)], fun ⟨k, out⟩ => k ≤ l.length ∧ out.length ≤ 1000 ∧ TKs (l.drop k) k out = R, fun x => l.length - x.1, (skip l, []), ⟨hsk, by simp, hR⟩, ?_, ?_⟩
 ·refine ⟨rfl, ?_, ?_⟩ <;> repeat' (first | exact trivial | exact rfl | refine and_rfl ?_ | refine and_two ?_ ?_)
 rintro ⟨k, out⟩ ⟨hk1, hk2, hk⟩
 conv => whnf
 rintro (_ | _) h2
 ·simp [mk_size] at h2
  rw [List.drop_eq_nil_of_le h2, TKs_nil] at hk
  rw [← hk]
  (conv => whnf) <;> rfl
 have h2 : k < l.length := by simp only [mk_size] at h2; simp at h2; omega
 have hd := drop_cons h2
 conv => whnf
 rintro (_ | _) h3
 rotate_left
 ·simp at h3
  rw [hd, TKs_full (by omega)] at hk
  rw [← hk]
  (conv => whnf) <;> rfl
 have h3 : out.length ≠ 1000 := by simp at h3; omega
 conv => whnf
 refine ⟨by omega, by rw [mk_size]; omega, by omega, ?_⟩
 rw [mk_fromI, hd]
 have hlc : (l[k] :: l.drop (k + 1)).length = l.length - k := by rw [← hd, List.length_drop]
 conv => whnf
 refine ⟨_, x_token l[k] (l.drop (k + 1)) (by omega), ?_⟩
 have hcr : l.drop k = l[k] :: l.drop (k + 1) := hd
 generalize l.drop (k + 1) = r at *
 have hdrop : ∀ a b, l.drop (k + a + b) = (l[k] :: r).drop (a + b) := fun a b => by rw [← hcr, List.drop_drop, Nat.add_assoc]
 generalize l[k] = c at *
 rw [hcr] at hk
 conv => whnf
 rintro (_ | _) h4
 rotate_left
 ·have h4 : (tok1 (c :: r)).2.2 ≠ 0 := by simpa using h4
  rw [TKs_err h3 h4] at hk
  rw [← hk]
  have hb : (tok1 (c :: r)).2.1 ≤ 281474976710656 := tok1_le c r (by omega)
  conv => whnf
  rw [show IntKind.i64.wrap ((k : Int) + ((tok1 (c :: r)).2.1 : Nat)) = ((k + (tok1 (c :: r)).2.1 : Nat) : Int) by rw [IntWalk.i64_in _ (by omega)]; omega]
  rfl
 have h4 : (tok1 (c :: r)).2.2 = 0 := by simpa using h4
 rw [TKs_ok h3 h4] at hk
 have hl4 := tok1_len c r h4
 have hw : IntKind.i64.wrap ((k : Int) + ((tok1 (c :: r)).2.1 : Nat)) = ((k + (tok1 (c :: r)).2.1 : Nat) : Int) := by rw [IntWalk.i64_in _ (by omega)]; omega
 conv => whnf
 refine ⟨by simp; omega, ?_⟩
 conv => whnf
 rw [hw]
 refine ⟨by omega, by rw [mk_size]; omega, by omega, ?_⟩
 rw [mk_fromI, ← List.drop_drop, hcr]
 have hsk2 : skip ((c :: r).drop (tok1 (c :: r)).2.1) ≤ ((c :: r).drop (tok1 (c :: r)).2.1).length := skp_le false _
 rw [List.length_drop] at hsk2
 conv => whnf
 refine ⟨_, x_skip ((c :: r).drop (tok1 (c :: r)).2.1) (by rw [List.length_drop]; omega), ?_⟩
 have hw2 : IntKind.i64.wrap (((k + (tok1 (c :: r)).2.1 : Nat) : Int) + ((skip ((c :: r).drop (tok1 (c :: r)).2.1) : Nat) : Int)) = ((k + (tok1 (c :: r)).2.1 + skip ((c :: r).drop (tok1 (c :: r)).2.1) : Nat) : Int) := by rw [IntWalk.i64_in _ (by omega)]; omega
 conv => whnf
 refine ⟨(k + (tok1 (c :: r)).2.1 + skip ((c :: r).drop (tok1 (c :: r)).2.1), out ++ [{ (tok1 (c :: r)).1 with at_ := k }]), ⟨by omega, by simp; omega, by rw [hdrop]; exact hk⟩, by dsimp only; omega, ?_⟩
 refine ⟨rfl, ?_, ?_⟩ <;> repeat' (first | exact trivial | exact rfl | refine and_rfl ?_ | refine and_val hw2 ?_ | refine and_two ?_ ?_ | (simp [tokD]; done))
end Go.Proofs.YtglndfgmlminpaaGreatDoor
namespace Go.Proofs.YtglndfgmlminpaaGreatDoor
open Go.RowKit
end Go.Proofs.YtglndfgmlminpaaGreatDoor
namespace Go.Proofs.YtglndfgmlminpaaGreatDoor
open Go.RowKit
section
variable {P : Program} {o : Oper} {E : Operand → V} {m : List (Option Bk)} {s d : TypeId} {x : Operand}
theorem byte_get {l : List UInt8} {i j : Nat} {d : D} (h : ((l.map byteD)[i]?.bind fun x => x[j]?) = some d) : j = 0 ∧ ∃ b, l[i]? = some b ∧ d = .cv (.int .u8 (b.toNat : Nat)) := by
 rw [List.getElem?_map] at h
 cases hi : l[i]? with
 | none => rw [hi] at h; cases h
 | some b =>
  rw [hi] at h
  cases j with
  | zero => simp [byteD] at h; exact ⟨rfl, b, rfl, h.symm⟩
  | succ j => simp [byteD] at h
theorem ot_make {ty e n dst : Nat} {i : TypeInfo} {l c : Operand} (ho : o.op = .makeSlice ty l c) (hl : E l = .cv (.int .i64 (n : Nat))) (hc : E c = .cv (.int .i64 (n : Nat))) (hd : o.dst = some dst) (hm : m[dst]? = some none)
  (ht : P.underlying ty = some (.slice e)) (hi : P.info? e = some i) (hz : i.zero = some (.int .u8 0)) (hsz : i.size = 1) (hb : i.bytes = 1) (hn : n ≤ 281474976710656) :
  OpTr P o E m (.ow dst 0) (m.set dst (some (.row 0 e 1 true ((List.replicate n 0).map byteD)))) := by
 intro B w0 N S t a w hs hr
 have h1 := hr l (by rw [ho]; simp [Op.operands])
 have h2 := hr c (by rw [ho]; simp [Op.operands])
 rw [hl] at h1; rw [hc] at h2
 generalize hu1 : a.eval l = u1 at h1
 generalize hu2 : a.eval c = u2 at h2
 cases h1; cases h2
 have hrun := run_make (P := P) w ty e i (.int .u8 0) ht hi hz .i64 .i64 n n (by omega) (by omega) (by rw [hb]; omega) (by omega)
 rw [hsz, Nat.mul_one] at hrun
 have hlen : ((List.replicate n (0 : UInt8)).map byteD).length = n := by simp
 have hpost := newK_row hs (dst := o.dst) (f := true) (xs := (List.replicate n (0 : UInt8)).map byteD) (us := madeCells (Value.int .u8 0).cells n) (ty := e) (sz := 1) (cap := n) (w1 := w) (.inl rfl) (by omega)
  (fun x hx => by obtain ⟨b, _, rfl⟩ := List.mem_map.1 hx; rfl) (by rw [size_madeCells]; omega) (by omega) (by simp only [maxLen]; omega)
  (fun i' j d' hd' => by
   obtain ⟨rfl, b, hb', rfl⟩ := byte_get hd'
   rw [List.getElem?_replicate] at hb'
   split at hb'
   ·rename_i hlt
    cases hb'
    refine ⟨.int .u8 0, ?_, .cv _ rfl⟩
    simp [madeCells, hlt]
    show (#[Value.int .u8 0])[i' % 1]! = _
    rw [Nat.mod_one]; rfl
   ·cases hb')
  (K := fun v m' => v = .ow dst 0 ∧ m' = m.set dst (some (.row 0 e 1 true ((List.replicate n 0).map byteD)))) (by
   unfold newK
   rw [hd]
   simp [hm, setK_eq])
 refine opOk_val (u := .slice (some ⟨w.heap.size, 0, none⟩) n n) (w' := w.alloc (.cells (madeCells (Value.int .u8 0).cells n) e)) ?_ ?_
 ·unfold execOp
  simp only [ho]
  refine run_v ?_
  rw [hu1, hu2]
  simpa using hrun
 ·rw [hlen] at hpost
  obtain ⟨N', S', v, m', h3, h4, rfl, rfl⟩ := hpost
  exact ⟨N', S', h3, h4⟩
theorem Sat.bytes {B : Fr} {w0 : World} {N : Names} {S : Sets} {t : List V} {a : Act} {w : World} (hs : Sat B w0 N S t m a w) {n k e g cap : Nat} {l l' : List UInt8} {us' : Array Value} {w' : World}
  (hm : m[n]? = some (some (.row k e 1 true (l.map byteD)))) (hn : N n = some (k, .slice (some ⟨g, 0, none⟩) l.length cap)) (hle : l.length ≤ cap) (hmax : cap ≤ maxLen) (hus : us'.size = cap)
  (hupd : Upd w w' g us' e) (hlen : l'.length = l.length) (hval : ∀ (j : Nat) (b : UInt8), l'[j]? = some b → us'[j]? = some (Value.int .u8 (b.toNat : Nat))) :
  ∃ N', Sat B w0 N' S t (m.set n (some (.row k e 1 true (l'.map byteD)))) a w' := by
 obtain ⟨hB, hg⟩ := hs.own n _ _ g hn rfl
 have hfr := row_new hs hm hn
 obtain ⟨N', e1, e2, e3⟩ := hs.set (w' := w') (d := n) (k := k) (v := .slice (some ⟨g, 0, none⟩) l.length cap) (b := .row k e 1 true (l'.map byteD)) (lt_of_get hm)
  (fun k0 v0 h => by rw [hn] at h; cases h; exact .inl ⟨rfl, rfl⟩)
  (hupd.low hs.low hB) (by rw [hupd.size]; exact Nat.le_refl _) (fun g' _ hk => hupd.other g' fun e => hk _ _ hn (by rw [e]; rfl))
  (fun g' hg' => by cases hg'; exact ⟨by rw [hupd.size]; exact hg, .inr ⟨_, _, hn, rfl⟩⟩)
  (fun N' e1 e2 e3 => by
   refine ⟨_, us'.toList.take l.length, e1, ⟨?_, .inr ⟨g, cap, us', ?_, Nat.zero_le _, hupd.new, ?_, hmax, by rw [hus, Nat.mul_one], ?_⟩⟩, ?_, by omega, ?_, fun _ => hfr⟩
   ·rw [List.length_take, List.length_map, hlen]; simp [hus]; omega
   ·rw [List.length_map, hlen]
   ·rw [List.length_map, hlen]; exact hle
   ·rw [List.length_map, hlen, Nat.mul_one]
   ·intro x hx; obtain ⟨b, _, rfl⟩ := List.mem_map.1 hx; rfl
   ·intro i j d hd
    obtain ⟨rfl, b, hb, rfl⟩ := byte_get hd
    have hi := lt_of_get hb
    refine ⟨_, ?_, .cv _ rfl⟩
    rw [show i * 1 + 0 = i by omega, List.getElem?_take, if_pos (by omega)]
    simpa using hval i b hb)
 exact ⟨N', e3⟩
theorem ot_copy {n k e lo hi ty : Nat} {f : Bool} {l ys : List UInt8} {c : Call} {x y : Operand} {t1 t2 : TypeId} (ho : o.op = .call c) (hc : c.callee = .builtin .copy) (ha : c.args = #[x, y]) (ht : c.argTypes = #[t1, t2])
  (hx : E x = .vw n k 1 lo hi) (hy : E y = bytesV f ys) (hm : m[n]? = some (some (.row k e 1 true (l.map byteD)))) (hys : ys ≠ []) (hle : ys.length ≤ hi - lo) (hhi : hi ≤ l.length)
  (hu : P.underlying t1 = some (.slice e)) (hsz : (P.info? e).map (·.size) = some 1) (hty : o.type = ty) :
  OpTr P o E m (.cv (.int .i64 (ys.length : Nat))) (m.set n (some (.row k e 1 true ((l.take lo ++ ys ++ l.drop (lo + ys.length)).map byteD)))) := by
 intro B w0 N S t a w hs hr
 have h1 := hr x (by rw [ho]; simp [Op.operands, Call.operands, ha, hc])
 have h2 := hr y (by rw [ho]; simp [Op.operands, Call.operands, ha, hc])
 rw [hx] at h1; rw [hy] at h2
 generalize hu1 : a.eval x = u1 at h1
 generalize hu2 : a.eval y = u2 at h2
 cases h1
 rename_i _ hv
 obtain ⟨k', v, hn, hk, hv⟩ := hv
 obtain ⟨rfl, b1, b2, b3⟩ := row_cells hs hm hn
 obtain ⟨A, len, cap, A', rfl, c1, c2, rfl, c4⟩ := hv rfl
 have hpos : 0 < ys.length := List.length_pos_iff.2 hys
 rcases b3 with ⟨b3, b4⟩ | ⟨g, cap', us, b3, b4, b5, b6, b7, b8⟩
 ·cases b3
  have : l = [] := by simpa using b4
  subst this
  simp at hhi; omega
 cases b3
 rw [List.length_map] at *
 have hA : A' = some ⟨g, lo, none⟩ := by
  rw [c4 (by omega)]
  simp [add_mk]
 subst hA
 cases h2
 rename_i h2
 generalize hxs : ys.map byteD = xs at h2
 cases h2 with
 | nil =>
  have : ys = [] := by simpa using hxs
  exact absurd this hys
 | sl _ _ b o' cap2 u hS hx hcap hcc hdd =>
  subst hxs
  have hcell : ∀ (j : Nat) (q : UInt8), ys[j]? = some q → w.cell? ⟨b, o' + j, none⟩ = some (Value.int .u8 (q.toNat : Nat)) := by
   intro j q hq
   have h0 : (((ys.map byteD)[j]?).bind fun x => x[0]?) = some (.cv (.int .u8 (q.toNat : Nat))) := by rw [List.getElem?_map, hq]; rfl
   have h3 := hcc j 0 _ h0
   have h4 := hdd j 0 _ h0
   generalize u j 0 = z at h3 h4
   cases h4
   rw [show o' + j = o' + j * 1 + 0 by omega]; exact h3
  rw [List.length_map] at hu2
  have hrun := run_copy_row (P := P) w t1 t2 ty e g lo (hi - lo) (cap - lo) ⟨b, o', none⟩ ys.length cap2 us e (ys.map fun q => Value.int .u8 (q.toNat : Nat)) hu hsz b4
   (by rw [List.length_map]; exact (Nat.min_eq_left hle).symm)
   (fun j v hv => by
    rw [List.getElem?_map, Option.map_eq_some_iff] at hv
    obtain ⟨q, hq, rfl⟩ := hv
    rw [add_mk]; exact hcell j q hq)
   (by rw [List.length_map]; omega) (fun v hv => by obtain ⟨q, _, rfl⟩ := List.mem_map.1 hv; rfl)
  rw [List.length_map] at hrun
  have hupd : Upd w (w.setRow g (us.toList.take lo ++ (ys.map fun q => Value.int .u8 (q.toNat : Nat)) ++ us.toList.drop (lo + ys.length)).toArray) g (us.toList.take lo ++ (ys.map fun q => Value.int .u8 (q.toNat : Nat)) ++ us.toList.drop (lo + ys.length)).toArray e :=
   ⟨rfl, rfl, rfl, by simp, setRow_heap w g us _ e (0, 0) b4, fun j hj => setRow_other w g j _ hj⟩
  have hul : us.toList.length = cap := by simp; omega
  obtain ⟨N', hs'⟩ := hs.bytes (l' := l.take lo ++ ys ++ l.drop (lo + ys.length)) hm hn b5 b6 (by simp; omega) hupd (by simp; omega) (fun j q hq => by
   have hold : ∀ (i : Nat) (q : UInt8), l[i]? = some q → us.toList[i]? = some (Value.int .u8 (q.toNat : Nat)) := by
    intro i q hq
    obtain ⟨h9, h10⟩ := b8 i 0 (.cv (.int .u8 (q.toNat : Nat))) (by rw [List.getElem?_map, hq]; rfl)
    have e1 : us.getD (i * 1 + 0) undef = .int .u8 (q.toNat : Nat) := by
     generalize us.getD (i * 1 + 0) undef = z at h10
     cases h10; rfl
    rw [show i * 1 + 0 = i by omega] at e1 h9
    rw [Array.getElem?_toList, Array.getElem?_eq_getElem h9, ← e1]
    simp [Array.getD_eq_getD_getElem?, Array.getElem?_eq_getElem h9]
   rw [List.getElem?_toArray]
   have hlo : (us.toList.take lo).length = lo := by rw [List.length_take]; omega
   have hlo' : (l.take lo).length = lo := by rw [List.length_take]; omega
   rw [List.append_assoc] at hq ⊢
   rcases Nat.lt_or_ge j lo with hj | hj
   ·rw [List.getElem?_append_left (by omega)] at hq ⊢
    rw [List.getElem?_take, if_pos hj] at hq ⊢
    exact hold j q hq
   ·rw [List.getElem?_append_right (by omega), hlo'] at hq
    rw [List.getElem?_append_right (by omega), hlo]
    rcases Nat.lt_or_ge (j - lo) ys.length with hj2 | hj2
    ·rw [List.getElem?_append_left hj2] at hq
     rw [List.getElem?_append_left (by rw [List.length_map]; exact hj2), List.getElem?_map, hq]; rfl
    ·rw [List.getElem?_append_right hj2] at hq
     rw [List.getElem?_append_right (by rw [List.length_map]; exact hj2), List.length_map]
     rw [List.getElem?_drop] at hq ⊢
     exact hold _ q hq)
  refine opOk_val (u := goInt ys.length) (w' := _) ?_ ⟨N', S, hs', .cv _⟩
  unfold execOp
  simp only [ho]
  subst hty
  simp [resolve, hc, ha, ht, invoke, builtin, hu1, hu2, hrun]
end
end Go.Proofs.YtglndfgmlminpaaGreatDoor
