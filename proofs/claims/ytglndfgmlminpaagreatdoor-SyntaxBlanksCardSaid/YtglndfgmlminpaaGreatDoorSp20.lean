/- Texts joined by pack.py: XLx22 XLx27 XLxP1 XLx24 -/
import Derived.Test.YtglndfgmlminpaaGreatDoorSp19
import Derived.Test.YtglndfgmlminpaaGreatDoorSp18
set_option maxHeartbeats 4000000
set_option maxRecDepth 100000
namespace Go.Proofs.YtglndfgmlminpaaGreatDoor
open Go.RowKit
abbrev teV (p : Bs × Int) : V := .tu [bstr p.1, int p.2]
theorem ne_nil' (l : Bs) {b : Bool} (h : (!sEq (mk l) (mk [])) = b) : l.isEmpty = !b := by rw [sEq_mk] at h; cases l <;> simp_all
theorem eq_nil' (l : Bs) {b : Bool} (h : sEq (mk l) (mk []) = b) : l.isEmpty = b := by rw [sEq_mk] at h; cases l <;> simp_all
theorem fin_te1 {t : Tok} {a : Bs} {e : Int} (h : textT t = (a, e)) : V.tu [bstr a, int e] = teV (textT t) := by rw [h]
theorem fin_te2 {t : Tok} {a : Bs} {e : Int} (h : textT t = (64 :: a, e)) : V.tu [.cv (.string (⟨#[64]⟩ ++ mk a)), int e] = teV (textT t) := by
 rw [h, show (⟨#[64]⟩ : ByteArray) ++ mk a = mk (64 :: a) from mk_app [64] a]
theorem runB (l : Bs) {b : Bool} (h : (((runL l : Nat) : Int) == (((mk l).size : Nat) : Int)) = b) : decide (runL l = l.length) = b := by
 rw [mk_size] at h; rw [← h, Bool.eq_iff_iff]; simp; omega
theorem lenB (l : Bs) : decide ((((mk l).size : Nat) : Int) ≤ 24) = decide (l.length ≤ 24) := by rw [mk_size, Bool.eq_iff_iff]; simp; omega
theorem te_int (l : Bs) (v a : Int) : textT ⟨3, l, v, a⟩ = if l.isEmpty = true ∧ 0 ≤ v ∧ validB v = true then (Lib.itoa v, 0) else ([], 1) := by
 unfold textT; cases l <;> simp
theorem te_name (l : Bs) (v a : Int) : textT ⟨1, l, v, a⟩ = if v ≠ 0 then ([], 1) else if wholeB l = true ∧ kwL l = false then (l, 0) else ([], 1) := by
 unfold textT; simp
theorem te_word (l : Bs) (v a : Int) : textT ⟨2, l, v, a⟩ = if v ≠ 0 then ([], 1) else if kwL l = true then (l, 0) else ([], 1) := by
 unfold textT; simp
theorem te_str (l : Bs) (v a : Int) : textT ⟨4, l, v, a⟩ = if v ≠ 0 then ([], 1) else if contB l = true then (34 :: (esc l ++ [34]), 0) else ([], 1) := by
 unfold textT; simp
theorem te_sym (l : Bs) (v a : Int) : textT ⟨5, l, v, a⟩ = if v ≠ 0 then ([], 1) else if symB l = true then (l, 0) else ([], 1) := by
 unfold textT; simp
theorem te_host (l : Bs) (v a : Int) : textT ⟨6, l, v, a⟩ = if v ≠ 0 then ([], 1) else if wholeB l = true then (64 :: l, 0) else ([], 1) := by
 unfold textT; simp
theorem te_no (K : Int) (l : Bs) (v a : Int) (h : K ≠ 1 ∧ K ≠ 2 ∧ K ≠ 3 ∧ K ≠ 4 ∧ K ≠ 5 ∧ K ≠ 6) : textT ⟨K, l, v, a⟩ = ([], 1) := by
 unfold textT; simp [h.1, h.2.1, h.2.2.1, h.2.2.2.1, h.2.2.2.2.1, h.2.2.2.2.2]
theorem xt_name (l : Bs) (v a : Int) (hl : l.length ≤ 1000000) (_hv : -9223372036854775808 ≤ v ∧ v ≤ 9223372036854775807) : DCalls Tryz.prog 52 [(⟨1, l, v, a⟩ : Tok).V] (teV (textT ⟨1, l, v, a⟩)) := by
 refine sxm [(92, false), (93, false)] Tryz.func52 (by kernel_rfl) ?_
 conv => whnf
 refine ⟨none, by kernel_rfl, ?_⟩
 conv => whnf
 rintro (_ | _) w1
 ·conv => whnf
  refine known false rfl ?_
  conv => whnf
  rintro (_ | _) v0
  rotate_left
  ·have v0 : v ≠ 0 := by simpa using v0
   conv => whnf
   exact fin_te1 (by rw [te_name]; simp [v0])
  have v0 : v = 0 := by simpa using v0
  conv => whnf
  refine known true rfl ?_
  conv => whnf
  refine known false rfl ?_
  conv => whnf
  refine known false rfl ?_
  conv => whnf
  refine known false rfl ?_
  conv => whnf
  refine known false rfl ?_
  conv => whnf
  exact fin_te1 (by rw [te_name]; simp [v0, wholeB, ne_nil' l w1])
 conv => whnf
 refine ⟨_, x_run l (by omega), ?_⟩
 conv => whnf
 rintro (_ | _) w2
 ·conv => whnf
  refine known false rfl ?_
  conv => whnf
  rintro (_ | _) v0
  rotate_left
  ·have v0 : v ≠ 0 := by simpa using v0
   conv => whnf
   exact fin_te1 (by rw [te_name]; simp [v0])
  have v0 : v = 0 := by simpa using v0
  conv => whnf
  refine known true rfl ?_
  conv => whnf
  refine known false rfl ?_
  conv => whnf
  refine known false rfl ?_
  conv => whnf
  refine known false rfl ?_
  conv => whnf
  refine known false rfl ?_
  conv => whnf
  exact fin_te1 (by rw [te_name]; simp [v0, wholeB, runB l w2])
 conv => whnf
 refine known false rfl ?_
 conv => whnf
 rintro (_ | _) v0
 rotate_left
 ·have v0 : v ≠ 0 := by simpa using v0
  conv => whnf
  exact fin_te1 (by rw [te_name]; simp [v0])
 have v0 : v = 0 := by simpa using v0
 conv => whnf
 refine known true rfl ?_
 conv => whnf
 rw [lenB]
 rintro (_ | _) w3
 ·conv => whnf
  refine known false rfl ?_
  conv => whnf
  refine known false rfl ?_
  conv => whnf
  refine known false rfl ?_
  conv => whnf
  refine known false rfl ?_
  conv => whnf
  exact fin_te1 (by rw [te_name]; simp [v0, wholeB, w3])
 conv => whnf
 refine ⟨_, x_keywordL l, ?_⟩
 conv => whnf
 rintro (_ | _) i4
 ·have i4 : kwL l = true := by simpa using i4
  conv => whnf
  refine known false rfl ?_
  conv => whnf
  refine known false rfl ?_
  conv => whnf
  refine known false rfl ?_
  conv => whnf
  refine known false rfl ?_
  conv => whnf
  exact fin_te1 (by rw [te_name]; simp [v0, i4])
 have i4 : kwL l = false := by simpa using i4
 conv => whnf
 exact fin_te1 (by rw [te_name]; simp [v0, wholeB, ne_nil' l w1, runB l w2, w3, i4])
theorem xt_word (l : Bs) (v a : Int) (hl : l.length ≤ 1000000) (_hv : -9223372036854775808 ≤ v ∧ v ≤ 9223372036854775807) : DCalls Tryz.prog 52 [(⟨2, l, v, a⟩ : Tok).V] (teV (textT ⟨2, l, v, a⟩)) := by
 refine sxm [(92, false), (93, false)] Tryz.func52 (by kernel_rfl) ?_
 conv => whnf
 refine ⟨none, by kernel_rfl, ?_⟩
 conv => whnf
 rintro (_ | _) w1
 ·conv => whnf
  refine known false rfl ?_
  conv => whnf
  rintro (_ | _) v0
  rotate_left
  ·have v0 : v ≠ 0 := by simpa using v0
   conv => whnf
   exact fin_te1 (by rw [te_word]; simp [v0])
  have v0 : v = 0 := by simpa using v0
  conv => whnf
  refine known false rfl ?_
  conv => whnf
  refine known true rfl ?_
  conv => whnf
  refine ⟨_, x_keywordL l, ?_⟩
  conv => whnf
  rintro (_ | _) i4
  ·conv => whnf
   refine known false rfl ?_
   conv => whnf
   refine known false rfl ?_
   conv => whnf
   refine known false rfl ?_
   conv => whnf
   exact fin_te1 (by rw [te_word]; simp [v0, i4])
  conv => whnf
  exact fin_te1 (by rw [te_word]; simp [v0, i4])
 conv => whnf
 refine ⟨_, x_run l (by omega), ?_⟩
 conv => whnf
 rintro (_ | _) w2
 ·conv => whnf
  refine known false rfl ?_
  conv => whnf
  rintro (_ | _) v0
  rotate_left
  ·have v0 : v ≠ 0 := by simpa using v0
   conv => whnf
   exact fin_te1 (by rw [te_word]; simp [v0])
  have v0 : v = 0 := by simpa using v0
  conv => whnf
  refine known false rfl ?_
  conv => whnf
  refine known true rfl ?_
  conv => whnf
  refine ⟨_, x_keywordL l, ?_⟩
  conv => whnf
  rintro (_ | _) i4
  ·conv => whnf
   refine known false rfl ?_
   conv => whnf
   refine known false rfl ?_
   conv => whnf
   refine known false rfl ?_
   conv => whnf
   exact fin_te1 (by rw [te_word]; simp [v0, i4])
  conv => whnf
  exact fin_te1 (by rw [te_word]; simp [v0, i4])
 conv => whnf
 refine known false rfl ?_
 conv => whnf
 rintro (_ | _) v0
 rotate_left
 ·have v0 : v ≠ 0 := by simpa using v0
  conv => whnf
  exact fin_te1 (by rw [te_word]; simp [v0])
 have v0 : v = 0 := by simpa using v0
 conv => whnf
 refine known false rfl ?_
 conv => whnf
 refine known true rfl ?_
 conv => whnf
 refine ⟨_, x_keywordL l, ?_⟩
 conv => whnf
 rintro (_ | _) i4
 ·conv => whnf
  refine known false rfl ?_
  conv => whnf
  refine known false rfl ?_
  conv => whnf
  refine known false rfl ?_
  conv => whnf
  exact fin_te1 (by rw [te_word]; simp [v0, i4])
 conv => whnf
 exact fin_te1 (by rw [te_word]; simp [v0, i4])
theorem xt_int (l : Bs) (v a : Int) (hl : l.length ≤ 1000000) (hv : -9223372036854775808 ≤ v ∧ v ≤ 9223372036854775807) : DCalls Tryz.prog 52 [(⟨3, l, v, a⟩ : Tok).V] (teV (textT ⟨3, l, v, a⟩)) := by
 refine sxm [(92, false), (93, false)] Tryz.func52 (by kernel_rfl) ?_
 conv => whnf
 refine ⟨none, by kernel_rfl, ?_⟩
 conv => whnf
 rintro (_ | _) w1
 ·conv => whnf
  refine known true rfl ?_
  conv => whnf
  rintro (_ | _) i1
  ·conv => whnf
   rintro (_ | _) v0
   rotate_left
   ·conv => whnf
    exact fin_te1 (by rw [te_int]; simp [eq_nil' l i1])
   have v0 : v = 0 := by simpa using v0
   conv => whnf
   refine known false rfl ?_
   conv => whnf
   refine known false rfl ?_
   conv => whnf
   refine known false rfl ?_
   conv => whnf
   refine known false rfl ?_
   conv => whnf
   refine known false rfl ?_
   conv => whnf
   exact fin_te1 (by rw [te_int]; simp [eq_nil' l i1])
  conv => whnf
  rintro (_ | _) i2
  ·have i2 : ¬ 0 ≤ v := by simpa using i2
   conv => whnf
   rintro (_ | _) v0
   rotate_left
   ·conv => whnf
    exact fin_te1 (by rw [te_int]; simp [i2])
   have v0 : v = 0 := by simpa using v0
   conv => whnf
   refine known false rfl ?_
   conv => whnf
   refine known false rfl ?_
   conv => whnf
   refine known false rfl ?_
   conv => whnf
   refine known false rfl ?_
   conv => whnf
   refine known false rfl ?_
   conv => whnf
   exact fin_te1 (by rw [te_int]; simp [i2])
  have i2 : 0 ≤ v := by simpa using i2
  conv => whnf
  refine ⟨_, x_valid v, ?_⟩
  conv => whnf
  rintro (_ | _) i3
  ·conv => whnf
   rintro (_ | _) v0
   rotate_left
   ·conv => whnf
    exact fin_te1 (by rw [te_int]; simp [i3])
   have v0 : v = 0 := by simpa using v0
   conv => whnf
   refine known false rfl ?_
   conv => whnf
   refine known false rfl ?_
   conv => whnf
   refine known false rfl ?_
   conv => whnf
   refine known false rfl ?_
   conv => whnf
   refine known false rfl ?_
   conv => whnf
   exact fin_te1 (by rw [te_int]; simp [i3])
  conv => whnf
  refine ⟨_, x_format v hv.1 hv.2, ?_⟩
  conv => whnf
  exact fin_te1 (by rw [te_int]; simp [eq_nil' l i1, i2, i3])
 conv => whnf
 refine ⟨_, x_run l (by omega), ?_⟩
 conv => whnf
 rintro (_ | _) w2
 ·conv => whnf
  refine known true rfl ?_
  conv => whnf
  rintro (_ | _) i1
  ·conv => whnf
   rintro (_ | _) v0
   rotate_left
   ·conv => whnf
    exact fin_te1 (by rw [te_int]; simp [eq_nil' l i1])
   have v0 : v = 0 := by simpa using v0
   conv => whnf
   refine known false rfl ?_
   conv => whnf
   refine known false rfl ?_
   conv => whnf
   refine known false rfl ?_
   conv => whnf
   refine known false rfl ?_
   conv => whnf
   refine known false rfl ?_
   conv => whnf
   exact fin_te1 (by rw [te_int]; simp [eq_nil' l i1])
  conv => whnf
  rintro (_ | _) i2
  ·have i2 : ¬ 0 ≤ v := by simpa using i2
   conv => whnf
   rintro (_ | _) v0
   rotate_left
   ·conv => whnf
    exact fin_te1 (by rw [te_int]; simp [i2])
   have v0 : v = 0 := by simpa using v0
   conv => whnf
   refine known false rfl ?_
   conv => whnf
   refine known false rfl ?_
   conv => whnf
   refine known false rfl ?_
   conv => whnf
   refine known false rfl ?_
   conv => whnf
   refine known false rfl ?_
   conv => whnf
   exact fin_te1 (by rw [te_int]; simp [i2])
  have i2 : 0 ≤ v := by simpa using i2
  conv => whnf
  refine ⟨_, x_valid v, ?_⟩
  conv => whnf
  rintro (_ | _) i3
  ·conv => whnf
   rintro (_ | _) v0
   rotate_left
   ·conv => whnf
    exact fin_te1 (by rw [te_int]; simp [i3])
   have v0 : v = 0 := by simpa using v0
   conv => whnf
   refine known false rfl ?_
   conv => whnf
   refine known false rfl ?_
   conv => whnf
   refine known false rfl ?_
   conv => whnf
   refine known false rfl ?_
   conv => whnf
   refine known false rfl ?_
   conv => whnf
   exact fin_te1 (by rw [te_int]; simp [i3])
  conv => whnf
  refine ⟨_, x_format v hv.1 hv.2, ?_⟩
  conv => whnf
  exact fin_te1 (by rw [te_int]; simp [eq_nil' l i1, i2, i3])
 conv => whnf
 refine known true rfl ?_
 conv => whnf
 rintro (_ | _) i1
 ·conv => whnf
  rintro (_ | _) v0
  rotate_left
  ·conv => whnf
   exact fin_te1 (by rw [te_int]; simp [eq_nil' l i1])
  have v0 : v = 0 := by simpa using v0
  conv => whnf
  refine known false rfl ?_
  conv => whnf
  refine known false rfl ?_
  conv => whnf
  refine known false rfl ?_
  conv => whnf
  refine known false rfl ?_
  conv => whnf
  refine known false rfl ?_
  conv => whnf
  exact fin_te1 (by rw [te_int]; simp [eq_nil' l i1])
 conv => whnf
 rintro (_ | _) i2
 ·have i2 : ¬ 0 ≤ v := by simpa using i2
  conv => whnf
  rintro (_ | _) v0
  rotate_left
  ·conv => whnf
   exact fin_te1 (by rw [te_int]; simp [i2])
  have v0 : v = 0 := by simpa using v0
  conv => whnf
  refine known false rfl ?_
  conv => whnf
  refine known false rfl ?_
  conv => whnf
  refine known false rfl ?_
  conv => whnf
  refine known false rfl ?_
  conv => whnf
  refine known false rfl ?_
  conv => whnf
  exact fin_te1 (by rw [te_int]; simp [i2])
 have i2 : 0 ≤ v := by simpa using i2
 conv => whnf
 refine ⟨_, x_valid v, ?_⟩
 conv => whnf
 rintro (_ | _) i3
 ·conv => whnf
  rintro (_ | _) v0
  rotate_left
  ·conv => whnf
   exact fin_te1 (by rw [te_int]; simp [i3])
  have v0 : v = 0 := by simpa using v0
  conv => whnf
  refine known false rfl ?_
  conv => whnf
  refine known false rfl ?_
  conv => whnf
  refine known false rfl ?_
  conv => whnf
  refine known false rfl ?_
  conv => whnf
  refine known false rfl ?_
  conv => whnf
  exact fin_te1 (by rw [te_int]; simp [i3])
 conv => whnf
 refine ⟨_, x_format v hv.1 hv.2, ?_⟩
 conv => whnf
 exact fin_te1 (by rw [te_int]; simp [eq_nil' l i1, i2, i3])
theorem xt_sym (l : Bs) (v a : Int) (hl : l.length ≤ 1000000) (_hv : -9223372036854775808 ≤ v ∧ v ≤ 9223372036854775807) : DCalls Tryz.prog 52 [(⟨5, l, v, a⟩ : Tok).V] (teV (textT ⟨5, l, v, a⟩)) := by
 refine sxm [(92, false), (93, false)] Tryz.func52 (by kernel_rfl) ?_
 conv => whnf
 refine ⟨none, by kernel_rfl, ?_⟩
 conv => whnf
 rintro (_ | _) w1
 ·conv => whnf
  refine known false rfl ?_
  conv => whnf
  rintro (_ | _) v0
  rotate_left
  ·have v0 : v ≠ 0 := by simpa using v0
   conv => whnf
   exact fin_te1 (by rw [te_sym]; simp [v0])
  have v0 : v = 0 := by simpa using v0
  conv => whnf
  refine known false rfl ?_
  conv => whnf
  refine known false rfl ?_
  conv => whnf
  refine known true rfl ?_
  conv => whnf
  refine ⟨_, x_symbol l (by omega), ?_⟩
  conv => whnf
  rintro (_ | _) i4
  ·conv => whnf
   refine known false rfl ?_
   conv => whnf
   refine known false rfl ?_
   conv => whnf
   exact fin_te1 (by rw [te_sym]; simp [v0, i4])
  conv => whnf
  exact fin_te1 (by rw [te_sym]; simp [v0, i4])
 conv => whnf
 refine ⟨_, x_run l (by omega), ?_⟩
 conv => whnf
 rintro (_ | _) w2
 ·conv => whnf
  refine known false rfl ?_
  conv => whnf
  rintro (_ | _) v0
  rotate_left
  ·have v0 : v ≠ 0 := by simpa using v0
   conv => whnf
   exact fin_te1 (by rw [te_sym]; simp [v0])
  have v0 : v = 0 := by simpa using v0
  conv => whnf
  refine known false rfl ?_
  conv => whnf
  refine known false rfl ?_
  conv => whnf
  refine known true rfl ?_
  conv => whnf
  refine ⟨_, x_symbol l (by omega), ?_⟩
  conv => whnf
  rintro (_ | _) i4
  ·conv => whnf
   refine known false rfl ?_
   conv => whnf
   refine known false rfl ?_
   conv => whnf
   exact fin_te1 (by rw [te_sym]; simp [v0, i4])
  conv => whnf
  exact fin_te1 (by rw [te_sym]; simp [v0, i4])
 conv => whnf
 refine known false rfl ?_
 conv => whnf
 rintro (_ | _) v0
 rotate_left
 ·have v0 : v ≠ 0 := by simpa using v0
  conv => whnf
  exact fin_te1 (by rw [te_sym]; simp [v0])
 have v0 : v = 0 := by simpa using v0
 conv => whnf
 refine known false rfl ?_
 conv => whnf
 refine known false rfl ?_
 conv => whnf
 refine known true rfl ?_
 conv => whnf
 refine ⟨_, x_symbol l (by omega), ?_⟩
 conv => whnf
 rintro (_ | _) i4
 ·conv => whnf
  refine known false rfl ?_
  conv => whnf
  refine known false rfl ?_
  conv => whnf
  exact fin_te1 (by rw [te_sym]; simp [v0, i4])
 conv => whnf
 exact fin_te1 (by rw [te_sym]; simp [v0, i4])
theorem xt_host (l : Bs) (v a : Int) (hl : l.length ≤ 1000000) (_hv : -9223372036854775808 ≤ v ∧ v ≤ 9223372036854775807) : DCalls Tryz.prog 52 [(⟨6, l, v, a⟩ : Tok).V] (teV (textT ⟨6, l, v, a⟩)) := by
 refine sxm [(92, false), (93, false)] Tryz.func52 (by kernel_rfl) ?_
 conv => whnf
 refine ⟨none, by kernel_rfl, ?_⟩
 conv => whnf
 rintro (_ | _) w1
 ·conv => whnf
  refine known false rfl ?_
  conv => whnf
  rintro (_ | _) v0
  rotate_left
  ·have v0 : v ≠ 0 := by simpa using v0
   conv => whnf
   exact fin_te1 (by rw [te_host]; simp [v0])
  have v0 : v = 0 := by simpa using v0
  conv => whnf
  refine known false rfl ?_
  conv => whnf
  refine known false rfl ?_
  conv => whnf
  refine known false rfl ?_
  conv => whnf
  refine known true rfl ?_
  conv => whnf
  refine known false rfl ?_
  conv => whnf
  exact fin_te1 (by rw [te_host]; simp [v0, wholeB, ne_nil' l w1])
 conv => whnf
 refine ⟨_, x_run l (by omega), ?_⟩
 conv => whnf
 rintro (_ | _) w2
 ·conv => whnf
  refine known false rfl ?_
  conv => whnf
  rintro (_ | _) v0
  rotate_left
  ·have v0 : v ≠ 0 := by simpa using v0
   conv => whnf
   exact fin_te1 (by rw [te_host]; simp [v0])
  have v0 : v = 0 := by simpa using v0
  conv => whnf
  refine known false rfl ?_
  conv => whnf
  refine known false rfl ?_
  conv => whnf
  refine known false rfl ?_
  conv => whnf
  refine known true rfl ?_
  conv => whnf
  refine known false rfl ?_
  conv => whnf
  exact fin_te1 (by rw [te_host]; simp [v0, wholeB, runB l w2])
 conv => whnf
 refine known false rfl ?_
 conv => whnf
 rintro (_ | _) v0
 rotate_left
 ·have v0 : v ≠ 0 := by simpa using v0
  conv => whnf
  exact fin_te1 (by rw [te_host]; simp [v0])
 have v0 : v = 0 := by simpa using v0
 conv => whnf
 refine known false rfl ?_
 conv => whnf
 refine known false rfl ?_
 conv => whnf
 refine known false rfl ?_
 conv => whnf
 refine known true rfl ?_
 conv => whnf
 rw [lenB]
 rintro (_ | _) w3
 ·conv => whnf
  refine known false rfl ?_
  conv => whnf
  exact fin_te1 (by rw [te_host]; simp [v0, wholeB, w3])
 conv => whnf
 refine ⟨by rw [mk_size]; simp [ByteArray.size]; omega, ?_⟩
 conv => whnf
 exact fin_te2 (by rw [te_host]; simp [v0, wholeB, ne_nil' l w1, runB l w2, w3])
theorem xt_no (K : Int) (l : Bs) (v a : Int) (hl : l.length ≤ 1000000) (_hv : -9223372036854775808 ≤ v ∧ v ≤ 9223372036854775807) (hK : K ≠ 1 ∧ K ≠ 2 ∧ K ≠ 3 ∧ K ≠ 4 ∧ K ≠ 5 ∧ K ≠ 6) : DCalls Tryz.prog 52 [(⟨K, l, v, a⟩ : Tok).V] (teV (textT ⟨K, l, v, a⟩)) := by
 refine sxm [(92, false), (93, false)] Tryz.func52 (by kernel_rfl) ?_
 conv => whnf
 refine ⟨none, by kernel_rfl, ?_⟩
 conv => whnf
 rintro (_ | _) w1
 ·conv => whnf
  refine known false (by simp; omega) ?_
  conv => whnf
  rintro (_ | _) v0
  rotate_left
  ·have v0 : v ≠ 0 := by simpa using v0
   conv => whnf
   exact fin_te1 (by rw [te_no _ _ _ _ hK])
  have v0 : v = 0 := by simpa using v0
  conv => whnf
  refine known false (by simp; omega) ?_
  conv => whnf
  refine known false (by simp; omega) ?_
  conv => whnf
  refine known false (by simp; omega) ?_
  conv => whnf
  refine known false (by simp; omega) ?_
  conv => whnf
  refine known false (by simp; omega) ?_
  conv => whnf
  exact fin_te1 (by rw [te_no _ _ _ _ hK])
 conv => whnf
 refine ⟨_, x_run l (by omega), ?_⟩
 conv => whnf
 rintro (_ | _) w2
 ·conv => whnf
  refine known false (by simp; omega) ?_
  conv => whnf
  rintro (_ | _) v0
  rotate_left
  ·have v0 : v ≠ 0 := by simpa using v0
   conv => whnf
   exact fin_te1 (by rw [te_no _ _ _ _ hK])
  have v0 : v = 0 := by simpa using v0
  conv => whnf
  refine known false (by simp; omega) ?_
  conv => whnf
  refine known false (by simp; omega) ?_
  conv => whnf
  refine known false (by simp; omega) ?_
  conv => whnf
  refine known false (by simp; omega) ?_
  conv => whnf
  refine known false (by simp; omega) ?_
  conv => whnf
  exact fin_te1 (by rw [te_no _ _ _ _ hK])
 conv => whnf
 refine known false (by simp; omega) ?_
 conv => whnf
 rintro (_ | _) v0
 rotate_left
 ·have v0 : v ≠ 0 := by simpa using v0
  conv => whnf
  exact fin_te1 (by rw [te_no _ _ _ _ hK])
 have v0 : v = 0 := by simpa using v0
 conv => whnf
 refine known false (by simp; omega) ?_
 conv => whnf
 refine known false (by simp; omega) ?_
 conv => whnf
 refine known false (by simp; omega) ?_
 conv => whnf
 refine known false (by simp; omega) ?_
 conv => whnf
 refine known false (by simp; omega) ?_
 conv => whnf
 exact fin_te1 (by rw [te_no _ _ _ _ hK])
end Go.Proofs.YtglndfgmlminpaaGreatDoor
namespace Go.Proofs.YtglndfgmlminpaaGreatDoor
open Go.RowKit
def okB (l : Bs) : Bool := l.all fun c => !(decide (c < 32) || decide (c > 126))
theorem contB_okB (l : Bs) : contB l = (decide (l.length ≤ 200) && okB l) := rfl
end Go.Proofs.YtglndfgmlminpaaGreatDoor
namespace Go.Proofs.YtglndfgmlminpaaGreatDoor
open Go.RowKit
theorem esc_cons (c : UInt8) (s : Bs) : esc (c :: s) = if sp c then 92 :: c :: esc s else c :: esc s := rfl
theorem sp_range {c : UInt8} (h : sp c = true) : (decide (c < 32) || decide (c > 126)) = false := by
 unfold sp at h; simp at h; rcases h with rfl | rfl <;> rfl
theorem okB_cons (c : UInt8) (s : Bs) : okB (c :: s) = (!(decide (c < 32) || decide (c > 126)) && okB s) := List.all_cons
theorem not_sp {c : UInt8} (h2 : c ≠ 34) (h3 : c ≠ 92) : sp c = false := by unfold sp; simp [h2, h3]
theorem txt_ok : ∀ (l : Bs) (i : Nat) (out : Bs), (txt l i out).2.2 = 0 → out.length ≤ 200 →
  ∃ s r, l = esc s ++ 34 :: r ∧ (txt l i out).1 = out ++ s ∧ (out ++ s).length ≤ 200 ∧ okB s = true ∧ (txt l i out).2.1 = i + (esc s).length + 1
 | [], i, out, h, _ => by simp [txt] at h
 | c :: l, i, out, h, ho => by
  by_cases h1 : (decide (c < 32) || decide (c > 126)) = true
  ·rw [txt_bad h1] at h; simp at h
  have h1 : (decide (c < 32) || decide (c > 126)) = false := by simpa using h1
  by_cases h2 : c = 34
  ·subst h2
   rw [txt_end]
   exact ⟨[], l, rfl, by simp, by simpa using ho, rfl, rfl⟩
  by_cases h3 : c = 92
  ·subst h3
   cases l with
   | nil => rw [txt_bs0] at h; simp at h
   | cons d l =>
    by_cases h4 : (d == 34 || d == 92) = true
    ·rw [txt_bs2 h4] at h ⊢
     split at h
     ·simp at h
     ·rename_i h5
      rw [if_neg h5]
      obtain ⟨s, r, e1, e2, e3, e4, e5⟩ := txt_ok l (i + 2) (out ++ [d]) h (by simp; omega)
      have hs : sp d = true := h4
      refine ⟨d :: s, r, ?_, ?_, ?_, ?_, ?_⟩
      ·rw [esc_cons, if_pos hs, e1]; rfl
      ·rw [e2]; simp
      ·simpa using e3
      ·rw [okB_cons, sp_range hs, e4]; rfl
      ·rw [e5, esc_cons, if_pos hs]; simp only [List.length_cons]; omega
    ·rw [txt_bs1 (by simpa using h4)] at h; simp at h
  rw [txt_go h1 h2 h3] at h ⊢
  split at h
  ·simp at h
  ·rename_i h5
   rw [if_neg h5]
   obtain ⟨s, r, e1, e2, e3, e4, e5⟩ := txt_ok l (i + 1) (out ++ [c]) h (by simp; omega)
   have hs : ¬ sp c = true := by rw [not_sp h2 h3]; simp
   refine ⟨c :: s, r, ?_, ?_, ?_, ?_, ?_⟩
   ·rw [esc_cons, if_neg hs, e1]; rfl
   ·rw [e2]; simp
   ·simpa using e3
   ·rw [okB_cons, h1, e4]; rfl
   ·rw [e5, esc_cons, if_neg hs]; simp only [List.length_cons]; omega
theorem txt_esc : ∀ (s : Bs) (i : Nat) (out r : Bs), okB s = true → (out ++ s).length ≤ 200 → txt (esc s ++ 34 :: r) i out = (out ++ s, i + (esc s).length + 1, 0)
 | [], i, out, r, _, _ => by rw [show esc [] ++ 34 :: r = 34 :: r from rfl, txt_end, List.append_nil]; rfl
 | c :: s, i, out, r, h, ho => by
  rw [okB_cons, Bool.and_eq_true] at h
  obtain ⟨h1, h2⟩ := h
  have h1 : (decide (c < 32) || decide (c > 126)) = false := by simpa using h1
  simp only [List.length_append, List.length_cons] at ho
  have hrec : ∀ j, txt (esc s ++ 34 :: r) j (out ++ [c]) = (out ++ [c] ++ s, j + (esc s).length + 1, 0) := fun j => txt_esc s j (out ++ [c]) r h2 (by simp; omega)
  rw [esc_cons]
  cases hs : sp c with
  | true =>
   rw [if_pos rfl]
   show txt (92 :: c :: (esc s ++ 34 :: r)) i out = _
   rw [txt_bs2 hs, if_neg (by omega), hrec]
   simp only [List.append_assoc, List.singleton_append, List.length_cons, Prod.mk.injEq, true_and, and_true]
   omega
  | false =>
   rw [if_neg (by simp)]
   show txt (c :: (esc s ++ 34 :: r)) i out = _
   have hn : c ≠ 34 ∧ c ≠ 92 := by unfold sp at hs; simpa using hs
   rw [txt_go h1 hn.1 hn.2, if_neg (by omega), hrec]
   simp only [List.append_assoc, List.singleton_append, List.length_cons, Prod.mk.injEq, true_and, and_true]
   omega
theorem tok1_text (c : UInt8) (r : Bs) (k : Int) (h : (tok1 (c :: r)).2.2 = 0) :
  textT { (tok1 (c :: r)).1 with at_ := k } = ((c :: r).take (tok1 (c :: r)).2.1, 0) ∧ (tok1 (c :: r)).1.at_ = 0 := by
 cases h1 : isHd c with
 | true =>
  have a := runL_pos (r := r) h1
  rw [tok1_hd h1] at h ⊢
  split at h
  ·simp at h
  ·rename_i h2; rw [if_neg h2]
   split
   ·rename_i h3
    refine ⟨?_, rfl⟩
    show textT ⟨2, _, 0, k⟩ = _
    rw [te_word]; simp [h3]
   ·rename_i h3
    refine ⟨?_, rfl⟩
    show textT ⟨1, _, 0, k⟩ = _
    rw [te_name]; simp [whole_take a (by omega), h3]
 | false =>
 cases h2 : isDg c with
 | true =>
  rw [tok1_dg h1 h2] at h ⊢
  split at h
  ·rename_i h3; rw [if_pos h3]
   refine ⟨?_, rfl⟩
   have hd := digs_take (l := r) h2
   generalize (c :: r).take (digL (c :: r)) = d at h3 hd
   show textT ⟨3, [], (pnum d).1, k⟩ = _
   have hp := decB_pnum d hd
   rw [hp] at h3 ⊢
   split at h3
   ·simp at h3
   ·rename_i h4
    rw [if_neg h4]
    split at h3
    ·simp at h3
    ·rename_i h5
     rw [if_neg h5, te_int, if_pos, itoa_dval hd (by simpa using h4)]
     refine ⟨rfl, by simp, ?_⟩
     unfold validB; simp; omega
  ·rename_i h3; exact absurd h h3
 | false =>
 cases h3 : (c == 34) with
 | true =>
  have : c = 34 := by simpa using h3
  subst this
  rw [tok1_qt] at h ⊢
  split at h
  ·rename_i h4; rw [if_pos h4]
   obtain ⟨s, r', e1, e2, e3, e4, e5⟩ := txt_ok r 1 [] h4 (by simp)
   refine ⟨?_, rfl⟩
   show textT ⟨4, (txt r 1 []).1, 0, k⟩ = _
   rw [e2, e5, List.nil_append, te_str]
   have : contB s = true := by rw [contB_okB, e4]; simpa using e3
   rw [if_neg (by simp), if_pos this, e1, show 1 + (esc s).length + 1 = (esc s ++ [34]).length + 1 by simp; omega, List.take_succ_cons,
    show esc s ++ 34 :: r' = (esc s ++ [34]) ++ r' by simp, List.take_left']
   rfl
  ·rename_i h4; exact absurd h h4
 | false =>
 cases h4 : (c == 64) with
 | true =>
  have : c = 64 := by simpa using h4
  subst this
  rw [tok1_at] at h ⊢
  split at h
  ·simp at h
  ·rename_i h5; rw [if_neg h5]
   split at h
   ·simp at h
   ·rename_i h6; rw [if_neg h6]
    refine ⟨?_, rfl⟩
    show textT ⟨6, _, 0, k⟩ = _
    rw [te_host]; simp [whole_take (l := r) (by omega) (by omega)]
 | false =>
  rw [tok1_sy h1 h2 h3 h4] at h ⊢
  split at h
  ·rename_i h5; rw [if_pos h5]
   refine ⟨?_, rfl⟩
   show textT ⟨5, _, 0, k⟩ = _
   rw [te_sym, if_neg (by simp), if_pos h5.2]
  ·rename_i h5; rw [if_neg h5]
   split at h
   ·rename_i h6; rw [if_pos h6]
    refine ⟨?_, rfl⟩
    show textT ⟨5, _, 0, k⟩ = _
    rw [te_sym, if_neg (by simp), if_pos h6]
   ·simp at h
theorem skip0 {c : UInt8} {l : Bs} (h1 : isBl c = false) (h2 : (c == 47 && l.head? == some 47) = false) : skip (c :: l) = 0 := by
 simp only [skip, skp, h1, h2, Bool.false_eq_true, if_false]
theorem hd_bl {c : UInt8} (h : isHd c = true) : isBl c = false ∧ (c == 47) = false := by
 constructor
 ·cases hb : isBl c with
  | false => rfl
  | true => rw [bl_hd hb] at h; cases h
 ·cases hb : c == 47 with
  | false => rfl
  | true => have : c = 47 := by simpa using hb
            subst this; cases h
theorem dg_bl {c : UInt8} (h : isDg c = true) : isBl c = false ∧ (c == 47) = false ∧ isHd c = false := by
 refine ⟨?_, ?_, ?_⟩
 ·cases hb : isBl c with
  | false => rfl
  | true => rw [bl_dg hb] at h; cases h
 ·cases hb : c == 47 with
  | false => rfl
  | true => have : c = 47 := by simpa using hb
            subst this; cases h
 ·have h1 := dg_int h
  rw [isHd_int]; simp; omega
theorem symS_hd : ∀ x ∈ symS, isHd (x.headD 0) = false ∧ isDg (x.headD 0) = false ∧ (x.headD 0 == 34) = false ∧ (x.headD 0 == 64) = false ∧ isBl (x.headD 0) = false ∧ x ≠ [] ∧ (x.length = 1 ∨ (x.length = 2 ∧ (x.headD 0 == 47) = false)) := by decide
theorem symB_bl (c : UInt8) {b : UInt8} (h : isBl b = true) : symB [c, b] = false := by
 unfold symB
 rcases bl_cases h with rfl | rfl | rfl <;> simp
theorem text_tok1 (t : Tok) (x : Bs) (h : textT t = (x, 0)) (r : Bs) (hr : sep r) :
  x ≠ [] ∧ tok1 (x ++ r) = ({ t with at_ := 0 }, x.length, 0) ∧ skip (x ++ r) = 0 := by
 obtain ⟨K, l, v, a⟩ := t
 by_cases h1 : K = 1
 ·subst h1
  rw [te_name] at h
  split at h
  ·cases h
  rename_i hv
  split at h
  ·rename_i hw
   have hx : l = x := congrArg Prod.fst h
   subst hx
   obtain ⟨w1, w2, w3⟩ := whole_elim hw.1
   have hra := runL_app w1 w2 hr
   cases l with
   | nil => exact absurd rfl w1
   | cons c l =>
    have hc : isHd c = true := by
     cases hc : isHd c with
     | true => rfl
     | false => simp [runL, hc] at w2
    have hv0 : v = 0 := by simpa using hv
    refine ⟨by simp, ?_, skip0 (hd_bl hc).1 (by rw [(hd_bl hc).2]; rfl)⟩
    rw [List.cons_append, tok1_hd hc, ← List.cons_append, hra, if_neg (by omega), List.take_left' rfl, if_neg (by rw [hw.2]; simp), hv0]
  ·cases h
 by_cases h2 : K = 2
 ·subst h2
  rw [te_word] at h
  split at h
  ·cases h
  rename_i hv
  split at h
  ·rename_i hw
   have hx : l = x := congrArg Prod.fst h
   subst hx
   obtain ⟨w1, w2, w3⟩ := whole_elim (kwL_whole hw)
   have hra := runL_app w1 w2 hr
   cases l with
   | nil => exact absurd rfl w1
   | cons c l =>
    have hc : isHd c = true := by
     cases hc : isHd c with
     | true => rfl
     | false => simp [runL, hc] at w2
    have hv0 : v = 0 := by simpa using hv
    refine ⟨by simp, ?_, skip0 (hd_bl hc).1 (by rw [(hd_bl hc).2]; rfl)⟩
    rw [List.cons_append, tok1_hd hc, ← List.cons_append, hra, if_neg (by omega), List.take_left' rfl, if_pos hw, hv0]
  ·cases h
 by_cases h3 : K = 3
 ·subst h3
  rw [te_int] at h
  split at h
  ·rename_i hw
   obtain ⟨w1, w2, w3⟩ := hw
   have hx : Lib.itoa v = x := congrArg Prod.fst h
   obtain ⟨n, rfl⟩ : ∃ n : Nat, v = n := ⟨v.toNat, by omega⟩
   rw [Lib.itoa_nonneg] at hx
   subst hx
   have hl : l = [] := by simpa using w1
   subst hl
   have hn : n ≤ 1000000000000 := by unfold validB at w3; simp at w3; omega
   have hp := pnum_itoa hn
   obtain ⟨d1, d2⟩ := digs_itoa n
   have hda := digL_app _ r d2 hr
   cases hx : Lib.decDigits n with
   | nil => exact absurd hx d1
   | cons c x =>
    rw [hx] at hp d2 hda
    have hc := d2 c (by simp)
    have hb := dg_bl hc
    refine ⟨by simp, ?_, skip0 hb.1 (by rw [hb.2.1]; rfl)⟩
    rw [List.cons_append, tok1_dg hb.2.2 hc, ← List.cons_append, hda, List.take_left' rfl, hp, if_pos rfl]
  ·cases h
 by_cases h4 : K = 4
 ·subst h4
  rw [te_str] at h
  split at h
  ·cases h
  rename_i hv
  split at h
  ·rename_i hw
   have hx : 34 :: (esc l ++ [34]) = x := congrArg Prod.fst h
   subst hx
   have hv0 : v = 0 := by simpa using hv
   rw [contB_okB, Bool.and_eq_true, decide_eq_true_eq] at hw
   have he : (34 :: (esc l ++ [34])) ++ r = 34 :: (esc l ++ 34 :: r) := by simp
   rw [he]
   refine ⟨by simp, ?_, skip0 rfl rfl⟩
   rw [tok1_qt, txt_esc l 1 [] r hw.2 (by simpa using hw.1), if_pos rfl, hv0]
   simp only [List.nil_append, List.length_cons, List.length_append, List.length_nil, Prod.mk.injEq, true_and, and_true]
   omega
  ·cases h
 by_cases h5 : K = 5
 ·subst h5
  rw [te_sym] at h
  split at h
  ·cases h
  rename_i hv
  split at h
  ·rename_i hw
   have hx : l = x := congrArg Prod.fst h
   subst hx
   have hv0 : v = 0 := by simpa using hv
   obtain ⟨s1, s2, s3, s4, s5, s6, s7⟩ := symS_hd l (symB_mem hw)
   refine ⟨s6, ?_⟩
   match l, s1, s2, s3, s4, s5, s6, s7, hw with
   | [c], s1, s2, s3, s4, s5, s6, s7, hw =>
    simp only [List.headD_cons] at s1 s2 s3 s4 s5 s7
    rw [List.cons_append, List.nil_append]
    constructor
    ·rw [tok1_sy s1 s2 s3 s4, if_neg, List.take_succ_cons, List.take_zero, if_pos hw, hv0]
     ·rfl
     ·rintro ⟨q1, q2⟩
      cases r with
      | nil => simp at q1
      | cons b r =>
       have := symB_bl c (hr b rfl)
       simp only [List.take_succ_cons, List.take_zero] at q2
       rw [this] at q2; cases q2
    ·refine skip0 s5 ?_
     cases r with
     | nil => simp
     | cons b r =>
      have hb := hr b rfl
      have : (b == 47) = false := by rcases bl_cases hb with rfl | rfl | rfl <;> rfl
      have : b ≠ 47 := by simpa using this
      simp [this]
   | [c, d], s1, s2, s3, s4, s5, s6, s7, hw =>
    simp only [List.headD_cons] at s1 s2 s3 s4 s5 s7
    have s8 : (c == 47) = false := by
     rcases s7 with s7 | s7
     ·simp at s7
     ·exact s7.2
    show tok1 (c :: d :: r) = _ ∧ skip (c :: d :: r) = 0
    refine ⟨?_, skip0 s5 (by rw [s8]; rfl)⟩
    rw [tok1_sy s1 s2 s3 s4, if_pos ⟨by simp, by simpa using hw⟩, hv0]
    rfl
   | c :: d :: e :: l, s1, s2, s3, s4, s5, s6, s7, hw => simp at s7
  ·cases h
 by_cases h6 : K = 6
 ·subst h6
  rw [te_host] at h
  split at h
  ·cases h
  rename_i hv
  split at h
  ·rename_i hw
   have hx : 64 :: l = x := congrArg Prod.fst h
   subst hx
   have hv0 : v = 0 := by simpa using hv
   obtain ⟨w1, w2, w3⟩ := whole_elim hw
   have hra := runL_app w1 w2 hr
   have hl : l.length ≠ 0 := by simpa using w1
   refine ⟨by simp, ?_, skip0 rfl rfl⟩
   rw [List.cons_append, tok1_at, hra, if_neg hl, if_neg (by omega), List.take_left' rfl, hv0]
   rfl
  ·cases h
 rw [te_no K l v a ⟨h1, h2, h3, h4, h5, h6⟩] at h
 cases h
end Go.Proofs.YtglndfgmlminpaaGreatDoor
namespace Go.Proofs.YtglndfgmlminpaaGreatDoor
open Go.RowKit
def strD (b : Bs) : List D := [.cv (.string (mk b))]
abbrev strsV (l : List Bs) : V := .sl true 1 (l.map strD)
theorem join_lib : ∀ xs : List Bs, Lib.join xs [32] = joinSp xs
 | [] => rfl
 | [a] => by simp [Lib.join, joinSp]
 | a :: b :: l => by
  have := join_lib (b :: l)
  unfold Lib.join at this ⊢
  rw [joinSp, ← this]
  simp [List.intercalate, List.intersperse]
theorem x_sjoin (xs : List Bs) (hn : xs.length ≤ 140737488355328) (hl : (joinSp xs).length ≤ 140737488355328) : DCalls Tryz.prog 37 [strsV xs, bstr [32]] (bstr (joinSp xs)) := by
 refine ⟨⟨_, Tryz.func37, by kernel_rfl, by kernel_rfl⟩, fun w vs hi hvs => ?_⟩
 obtain ⟨v0, v1, rfl⟩ : ∃ v0 v1, vs = [v0, v1] := by
  have := hvs.1
  match vs, this with
  | [a, b], _ => exact ⟨a, b, rfl⟩
 have r0 := hvs.2 0 _ rfl
 have r1 := hvs.2 1 _ rfl
 simp only [List.getD_eq_getElem?_getD, List.getElem?_cons_zero, List.getElem?_cons_succ, Option.getD_some] at r0 r1
 cases r1
 cases r0
 rename_i hr
 generalize hxs : xs.map strD = ys at hr
 cases hr with
 | nil _ A cap =>
  have : xs = [] := by simpa using hxs
  subst this
  refine (Any.strings_Join_none Tryz.lays156 Tryz.Builder_Extra_156 A cap (mk [32]) w).mono ?_
  rintro e w' ⟨rfl, rfl⟩
  exact ⟨_, rfl, .cv _, Below.refl _ _⟩
 | sl _ _ b o' cap u hS hx hcap hc hd =>
  subst hxs
  rw [List.length_map] at hcap ⊢
  have hmm : (xs.map mk).map (·.data.toList) = xs := by rw [List.map_map]; exact List.map_id' xs
  have h := Tryz.strings_Join b o' cap (xs.map mk) (mk [32]) w (fun j x hj => by
   rw [List.getElem?_map, Option.map_eq_some_iff] at hj
   obtain ⟨y, hy, rfl⟩ := hj
   have h0 : (((xs.map strD)[j]?).bind fun x => x[0]?) = some (.cv (.string (mk y))) := by rw [List.getElem?_map, hy]; rfl
   have h3 := hc j 0 _ h0
   have h4 := hd j 0 _ h0
   generalize u j 0 = z at h3 h4
   cases h4
   rw [show o' + j = o' + j * 1 + 0 by omega]; exact h3) hS (by rw [List.length_map]; exact hn) (by rw [List.length_map]; exact hcap) (by rw [hmm, show (mk [32]).data.toList = [32] from rfl, join_lib]; exact hl)
  rw [hmm, show (mk [32]).data.toList = [32] from rfl, join_lib, List.length_map] at h
  refine h.mono ?_
  rintro e w' ⟨rfl, hb⟩
  exact ⟨_, rfl, .cv _, hb⟩
theorem itoa_len (n : Int) (h : validB n = true) (h0 : 0 ≤ n) : (Lib.itoa n).length ≤ 13 := by
 obtain ⟨k, rfl⟩ : ∃ k : Nat, n = k := ⟨n.toNat, by omega⟩
 rw [Lib.itoa_nonneg]
 refine decDigits_len 12 k ?_
 unfold validB at h; simp at h; omega
theorem textT_len (t : Tok) : (textT t).1.length ≤ 2 * t.text.length + 13 := by
 unfold textT
 split
 ·rename_i h; have := itoa_len t.val h.2.2.2 h.2.2.1; simp only; omega
 split
 ·simp
 split
 ·simp only; omega
 split
 ·simp only [List.length_cons]; omega
 split
 ·have h1 := esc_len t.text; have h2 := ex_le t.text; simp only [List.length_cons, List.length_append, List.length_nil]; omega
 ·simp
theorem texts_cons (t : Tok) (l : List Tok) : texts (t :: l) = if (textT t).2 = 0 then (if (texts l).2 = 0 then ((textT t).1 :: (texts l).1, 0) else ([], (texts l).2)) else ([], (textT t).2) := rfl
theorem joinSp_len : ∀ (xs : List Bs) (B : Nat), (∀ x ∈ xs, x.length ≤ B) → (joinSp xs).length ≤ xs.length * (B + 1)
 | [], B, _ => by simp [joinSp]
 | [a], B, h => by have := h a (by simp); simp [joinSp]; omega
 | a :: b :: l, B, h => by
  have h1 := h a (by simp)
  have h2 := joinSp_len (b :: l) B fun x hx => h x (by simp at hx ⊢; exact .inr hx)
  simp only [joinSp, List.length_append, List.length_cons] at h2 ⊢
  rw [Nat.add_mul _ 1]
  omega
theorem texts_mem : ∀ (l : List Tok) (x : Bs), x ∈ (texts l).1 → ∃ t ∈ l, x = (textT t).1
 | [], x, h => by simp [texts] at h
 | t :: l, x, h => by
  rw [texts_cons] at h
  split at h
  ·split at h
   ·rcases List.mem_cons.1 h with rfl | h
    ·exact ⟨t, by simp, rfl⟩
    ·obtain ⟨s, h1, h2⟩ := texts_mem l x h
     exact ⟨s, by simp [h1], h2⟩
   ·simp at h
  ·simp at h
theorem texts_len : ∀ (l : List Tok), (texts l).1.length ≤ l.length
 | [] => by simp [texts]
 | t :: l => by
  have := texts_len l
  rw [texts_cons]
  split
  ·split
   ·simp only [List.length_cons]; omega
   ·simp
  ·simp
theorem texts_err : ∀ (l : List Tok), (texts l).2 ≠ 0 → (texts l).1 = []
 | [], h => rfl
 | t :: l, h => by
  rw [texts_cons] at h ⊢
  split at h
  ·split at h
   ·exact absurd rfl h
   ·rename_i h1 h2; rw [if_pos h1, if_neg h2]
  ·rename_i h1; rw [if_neg h1]
end Go.Proofs.YtglndfgmlminpaaGreatDoor
