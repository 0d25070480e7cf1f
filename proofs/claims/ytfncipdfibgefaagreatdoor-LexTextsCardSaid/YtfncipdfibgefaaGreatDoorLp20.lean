/- Texts joined by pack.py: XLx22 XLx23h -/
import Derived.Test.YtfncipdfibgefaaGreatDoorLp19
/-
  Contracts of lex: the text of a token.
-/
namespace Go.Proofs.YtfncipdfibgefaaGreatDoor
open Go.RowKit

abbrev teV (p : Bs × Int) : V := .tu [bstr p.1, int p.2]
theorem fin_te {p q : Bs × Int} (h : p = q) : teV p = teV q := by rw [h]
theorem ne_nil' (l : Bs) {b : Bool} (h : (!sEq (mk l) (mk [])) = b) : l.isEmpty = !b := by rw [sEq_mk] at h; cases l <;> simp_all
theorem eq_nil' (l : Bs) {b : Bool} (h : sEq (mk l) (mk []) = b) : l.isEmpty = b := by rw [sEq_mk] at h; cases l <;> simp_all
theorem fin_te1 {t : Tok} {a : Bs} {e : Int} (h : textT t = (a, e)) : V.tu [bstr a, int e] = teV (textT t) := by rw [h]
theorem fin_te2 {t : Tok} {a : Bs} {e : Int} (h : textT t = (64 :: a, e)) : V.tu [.cv (.string (⟨#[64]⟩ ++ mk a)), int e] = teV (textT t) := by
  rw [h, show (⟨#[64]⟩ : ByteArray) ++ mk a = mk (64 :: a) from mk_app [64] a]
theorem runB (l : Bs) {b : Bool} (h : (((runL l : Nat) : Int) == (((mk l).size : Nat) : Int)) = b) : decide (runL l = l.length) = b := by
  rw [mk_size] at h; rw [← h, Bool.eq_iff_iff]; simp; omega
theorem lenB (l : Bs) : decide ((((mk l).size : Nat) : Int) ≤ 24) = decide (l.length ≤ 24) := by rw [mk_size, Bool.eq_iff_iff]; simp; omega

/-- What textT comes to, kind by kind. -/
theorem te_int (l : Bs) (v a : Int) : textT ⟨3, l, v, a⟩ = if l.isEmpty = true ∧ 0 ≤ v ∧ validB v = true then (Lib.itoa v, 0) else ([], 1) := by
  unfold textT; cases l <;> simp
theorem te_name (l : Bs) (v a : Int) : textT ⟨1, l, v, a⟩ = if v ≠ 0 then ([], 1) else if wholeB l = true ∧ kwL l = false then (l, 0) else ([], 1) := by
  unfold textT; simp
theorem te_word (l : Bs) (v a : Int) : textT ⟨2, l, v, a⟩ = if v ≠ 0 then ([], 1) else if kwL l = true then (l, 0) else ([], 1) := by
  unfold textT; simp
theorem te_str (l : Bs) (v a : Int) : textT ⟨4, l, v, a⟩ = if v ≠ 0 then ([], 1) else if contB l = true then (34 :: (esc l ++ [34]), 0) else ([], 1) := by
  unfold textT; simp
theorem te_sym (l : Bs) (v a : Int) : textT ⟨5, l, v, a⟩ = if v ≠ 0 then ([], 1) else if symB l = true then (l, 0) else ([], 1) := by
  unfold textT; simp
theorem te_host (l : Bs) (v a : Int) : textT ⟨6, l, v, a⟩ = if v ≠ 0 then ([], 1) else if wholeB l = true then (64 :: l, 0) else ([], 1) := by
  unfold textT; simp
theorem te_no (K : Int) (l : Bs) (v a : Int) (h : K ≠ 1 ∧ K ≠ 2 ∧ K ≠ 3 ∧ K ≠ 4 ∧ K ≠ 5 ∧ K ≠ 6) : textT ⟨K, l, v, a⟩ = ([], 1) := by
  unfold textT; simp [h.1, h.2.1, h.2.2.1, h.2.2.2.1, h.2.2.2.2.1, h.2.2.2.2.2]

set_option maxHeartbeats 4000000 in
set_option maxRecDepth 100000 in
theorem xt_name (l : Bs) (v a : Int) (hl : l.length ≤ 1000000) (_hv : -9223372036854775808 ≤ v ∧ v ≤ 9223372036854775807) : DCalls Tryz.prog 14 [(⟨1, l, v, a⟩ : Tok).V] (teV (textT ⟨1, l, v, a⟩)) := by
  refine sxm [(30, false), (31, false)] Tryz.func14 (by kernel_rfl) ?_
  conv => whnf
  refine ⟨none, by kernel_rfl, ?_⟩
  conv => whnf
  rintro (_ | _) w1
  · conv => whnf
    refine known false rfl ?_
    conv => whnf
    rintro (_ | _) v0
    rotate_left
    · have v0 : v ≠ 0 := by simpa using v0
      conv => whnf
      exact fin_te1 (by rw [te_name]; simp [v0])
    have v0 : v = 0 := by simpa using v0
    conv => whnf
    refine known true rfl ?_
    conv => whnf
    refine known false rfl ?_
    conv => whnf
    refine known false rfl ?_
    conv => whnf
    refine known false rfl ?_
    conv => whnf
    refine known false rfl ?_
    conv => whnf
    exact fin_te1 (by rw [te_name]; simp [v0, wholeB, ne_nil' l w1])
  conv => whnf
  refine ⟨_, x_run l (by omega), ?_⟩
  conv => whnf
  rintro (_ | _) w2
  · conv => whnf
    refine known false rfl ?_
    conv => whnf
    rintro (_ | _) v0
    rotate_left
    · have v0 : v ≠ 0 := by simpa using v0
      conv => whnf
      exact fin_te1 (by rw [te_name]; simp [v0])
    have v0 : v = 0 := by simpa using v0
    conv => whnf
    refine known true rfl ?_
    conv => whnf
    refine known false rfl ?_
    conv => whnf
    refine known false rfl ?_
    conv => whnf
    refine known false rfl ?_
    conv => whnf
    refine known false rfl ?_
    conv => whnf
    exact fin_te1 (by rw [te_name]; simp [v0, wholeB, runB l w2])
  conv => whnf
  refine known false rfl ?_
  conv => whnf
  rintro (_ | _) v0
  rotate_left
  · have v0 : v ≠ 0 := by simpa using v0
    conv => whnf
    exact fin_te1 (by rw [te_name]; simp [v0])
  have v0 : v = 0 := by simpa using v0
  conv => whnf
  refine known true rfl ?_
  conv => whnf
  rw [lenB]
  rintro (_ | _) w3
  · conv => whnf
    refine known false rfl ?_
    conv => whnf
    refine known false rfl ?_
    conv => whnf
    refine known false rfl ?_
    conv => whnf
    refine known false rfl ?_
    conv => whnf
    exact fin_te1 (by rw [te_name]; simp [v0, wholeB, w3])
  conv => whnf
  refine ⟨_, x_keywordL l, ?_⟩
  conv => whnf
  rintro (_ | _) i4
  · have i4 : kwL l = true := by simpa using i4
    conv => whnf
    refine known false rfl ?_
    conv => whnf
    refine known false rfl ?_
    conv => whnf
    refine known false rfl ?_
    conv => whnf
    refine known false rfl ?_
    conv => whnf
    exact fin_te1 (by rw [te_name]; simp [v0, i4])
  have i4 : kwL l = false := by simpa using i4
  conv => whnf
  exact fin_te1 (by rw [te_name]; simp [v0, wholeB, ne_nil' l w1, runB l w2, w3, i4])

set_option maxHeartbeats 4000000 in
set_option maxRecDepth 100000 in
theorem xt_word (l : Bs) (v a : Int) (hl : l.length ≤ 1000000) (_hv : -9223372036854775808 ≤ v ∧ v ≤ 9223372036854775807) : DCalls Tryz.prog 14 [(⟨2, l, v, a⟩ : Tok).V] (teV (textT ⟨2, l, v, a⟩)) := by
  refine sxm [(30, false), (31, false)] Tryz.func14 (by kernel_rfl) ?_
  conv => whnf
  refine ⟨none, by kernel_rfl, ?_⟩
  conv => whnf
  rintro (_ | _) w1
  · conv => whnf
    refine known false rfl ?_
    conv => whnf
    rintro (_ | _) v0
    rotate_left
    · have v0 : v ≠ 0 := by simpa using v0
      conv => whnf
      exact fin_te1 (by rw [te_word]; simp [v0])
    have v0 : v = 0 := by simpa using v0
    conv => whnf
    refine known false rfl ?_
    conv => whnf
    refine known true rfl ?_
    conv => whnf
    refine ⟨_, x_keywordL l, ?_⟩
    conv => whnf
    rintro (_ | _) i4
    · conv => whnf
      refine known false rfl ?_
      conv => whnf
      refine known false rfl ?_
      conv => whnf
      refine known false rfl ?_
      conv => whnf
      exact fin_te1 (by rw [te_word]; simp [v0, i4])
    conv => whnf
    exact fin_te1 (by rw [te_word]; simp [v0, i4])
  conv => whnf
  refine ⟨_, x_run l (by omega), ?_⟩
  conv => whnf
  rintro (_ | _) w2
  · conv => whnf
    refine known false rfl ?_
    conv => whnf
    rintro (_ | _) v0
    rotate_left
    · have v0 : v ≠ 0 := by simpa using v0
      conv => whnf
      exact fin_te1 (by rw [te_word]; simp [v0])
    have v0 : v = 0 := by simpa using v0
    conv => whnf
    refine known false rfl ?_
    conv => whnf
    refine known true rfl ?_
    conv => whnf
    refine ⟨_, x_keywordL l, ?_⟩
    conv => whnf
    rintro (_ | _) i4
    · conv => whnf
      refine known false rfl ?_
      conv => whnf
      refine known false rfl ?_
      conv => whnf
      refine known false rfl ?_
      conv => whnf
      exact fin_te1 (by rw [te_word]; simp [v0, i4])
    conv => whnf
    exact fin_te1 (by rw [te_word]; simp [v0, i4])
  conv => whnf
  refine known false rfl ?_
  conv => whnf
  rintro (_ | _) v0
  rotate_left
  · have v0 : v ≠ 0 := by simpa using v0
    conv => whnf
    exact fin_te1 (by rw [te_word]; simp [v0])
  have v0 : v = 0 := by simpa using v0
  conv => whnf
  refine known false rfl ?_
  conv => whnf
  refine known true rfl ?_
  conv => whnf
  refine ⟨_, x_keywordL l, ?_⟩
  conv => whnf
  rintro (_ | _) i4
  · conv => whnf
    refine known false rfl ?_
    conv => whnf
    refine known false rfl ?_
    conv => whnf
    refine known false rfl ?_
    conv => whnf
    exact fin_te1 (by rw [te_word]; simp [v0, i4])
  conv => whnf
  exact fin_te1 (by rw [te_word]; simp [v0, i4])

set_option maxHeartbeats 4000000 in
set_option maxRecDepth 100000 in
theorem xt_int (l : Bs) (v a : Int) (hl : l.length ≤ 1000000) (hv : -9223372036854775808 ≤ v ∧ v ≤ 9223372036854775807) : DCalls Tryz.prog 14 [(⟨3, l, v, a⟩ : Tok).V] (teV (textT ⟨3, l, v, a⟩)) := by
  refine sxm [(30, false), (31, false)] Tryz.func14 (by kernel_rfl) ?_
  conv => whnf
  refine ⟨none, by kernel_rfl, ?_⟩
  conv => whnf
  rintro (_ | _) w1
  · conv => whnf
    refine known true rfl ?_
    conv => whnf
    rintro (_ | _) i1
    · conv => whnf
      rintro (_ | _) v0
      rotate_left
      · conv => whnf
        exact fin_te1 (by rw [te_int]; simp [eq_nil' l i1])
      have v0 : v = 0 := by simpa using v0
      conv => whnf
      refine known false rfl ?_
      conv => whnf
      refine known false rfl ?_
      conv => whnf
      refine known false rfl ?_
      conv => whnf
      refine known false rfl ?_
      conv => whnf
      refine known false rfl ?_
      conv => whnf
      exact fin_te1 (by rw [te_int]; simp [eq_nil' l i1])
    conv => whnf
    rintro (_ | _) i2
    · have i2 : ¬ 0 ≤ v := by simpa using i2
      conv => whnf
      rintro (_ | _) v0
      rotate_left
      · conv => whnf
        exact fin_te1 (by rw [te_int]; simp [i2])
      have v0 : v = 0 := by simpa using v0
      conv => whnf
      refine known false rfl ?_
      conv => whnf
      refine known false rfl ?_
      conv => whnf
      refine known false rfl ?_
      conv => whnf
      refine known false rfl ?_
      conv => whnf
      refine known false rfl ?_
      conv => whnf
      exact fin_te1 (by rw [te_int]; simp [i2])
    have i2 : 0 ≤ v := by simpa using i2
    conv => whnf
    refine ⟨_, x_valid v, ?_⟩
    conv => whnf
    rintro (_ | _) i3
    · conv => whnf
      rintro (_ | _) v0
      rotate_left
      · conv => whnf
        exact fin_te1 (by rw [te_int]; simp [i3])
      have v0 : v = 0 := by simpa using v0
      conv => whnf
      refine known false rfl ?_
      conv => whnf
      refine known false rfl ?_
      conv => whnf
      refine known false rfl ?_
      conv => whnf
      refine known false rfl ?_
      conv => whnf
      refine known false rfl ?_
      conv => whnf
      exact fin_te1 (by rw [te_int]; simp [i3])
    conv => whnf
    refine ⟨_, x_format v hv.1 hv.2, ?_⟩
    conv => whnf
    exact fin_te1 (by rw [te_int]; simp [eq_nil' l i1, i2, i3])
  conv => whnf
  refine ⟨_, x_run l (by omega), ?_⟩
  conv => whnf
  rintro (_ | _) w2
  · conv => whnf
    refine known true rfl ?_
    conv => whnf
    rintro (_ | _) i1
    · conv => whnf
      rintro (_ | _) v0
      rotate_left
      · conv => whnf
        exact fin_te1 (by rw [te_int]; simp [eq_nil' l i1])
      have v0 : v = 0 := by simpa using v0
      conv => whnf
      refine known false rfl ?_
      conv => whnf
      refine known false rfl ?_
      conv => whnf
      refine known false rfl ?_
      conv => whnf
      refine known false rfl ?_
      conv => whnf
      refine known false rfl ?_
      conv => whnf
      exact fin_te1 (by rw [te_int]; simp [eq_nil' l i1])
    conv => whnf
    rintro (_ | _) i2
    · have i2 : ¬ 0 ≤ v := by simpa using i2
      conv => whnf
      rintro (_ | _) v0
      rotate_left
      · conv => whnf
        exact fin_te1 (by rw [te_int]; simp [i2])
      have v0 : v = 0 := by simpa using v0
      conv => whnf
      refine known false rfl ?_
      conv => whnf
      refine known false rfl ?_
      conv => whnf
      refine known false rfl ?_
      conv => whnf
      refine known false rfl ?_
      conv => whnf
      refine known false rfl ?_
      conv => whnf
      exact fin_te1 (by rw [te_int]; simp [i2])
    have i2 : 0 ≤ v := by simpa using i2
    conv => whnf
    refine ⟨_, x_valid v, ?_⟩
    conv => whnf
    rintro (_ | _) i3
    · conv => whnf
      rintro (_ | _) v0
      rotate_left
      · conv => whnf
        exact fin_te1 (by rw [te_int]; simp [i3])
      have v0 : v = 0 := by simpa using v0
      conv => whnf
      refine known false rfl ?_
      conv => whnf
      refine known false rfl ?_
      conv => whnf
      refine known false rfl ?_
      conv => whnf
      refine known false rfl ?_
      conv => whnf
      refine known false rfl ?_
      conv => whnf
      exact fin_te1 (by rw [te_int]; simp [i3])
    conv => whnf
    refine ⟨_, x_format v hv.1 hv.2, ?_⟩
    conv => whnf
    exact fin_te1 (by rw [te_int]; simp [eq_nil' l i1, i2, i3])
  conv => whnf
  refine known true rfl ?_
  conv => whnf
  rintro (_ | _) i1
  · conv => whnf
    rintro (_ | _) v0
    rotate_left
    · conv => whnf
      exact fin_te1 (by rw [te_int]; simp [eq_nil' l i1])
    have v0 : v = 0 := by simpa using v0
    conv => whnf
    refine known false rfl ?_
    conv => whnf
    refine known false rfl ?_
    conv => whnf
    refine known false rfl ?_
    conv => whnf
    refine known false rfl ?_
    conv => whnf
    refine known false rfl ?_
    conv => whnf
    exact fin_te1 (by rw [te_int]; simp [eq_nil' l i1])
  conv => whnf
  rintro (_ | _) i2
  · have i2 : ¬ 0 ≤ v := by simpa using i2
    conv => whnf
    rintro (_ | _) v0
    rotate_left
    · conv => whnf
      exact fin_te1 (by rw [te_int]; simp [i2])
    have v0 : v = 0 := by simpa using v0
    conv => whnf
    refine known false rfl ?_
    conv => whnf
    refine known false rfl ?_
    conv => whnf
    refine known false rfl ?_
    conv => whnf
    refine known false rfl ?_
    conv => whnf
    refine known false rfl ?_
    conv => whnf
    exact fin_te1 (by rw [te_int]; simp [i2])
  have i2 : 0 ≤ v := by simpa using i2
  conv => whnf
  refine ⟨_, x_valid v, ?_⟩
  conv => whnf
  rintro (_ | _) i3
  · conv => whnf
    rintro (_ | _) v0
    rotate_left
    · conv => whnf
      exact fin_te1 (by rw [te_int]; simp [i3])
    have v0 : v = 0 := by simpa using v0
    conv => whnf
    refine known false rfl ?_
    conv => whnf
    refine known false rfl ?_
    conv => whnf
    refine known false rfl ?_
    conv => whnf
    refine known false rfl ?_
    conv => whnf
    refine known false rfl ?_
    conv => whnf
    exact fin_te1 (by rw [te_int]; simp [i3])
  conv => whnf
  refine ⟨_, x_format v hv.1 hv.2, ?_⟩
  conv => whnf
  exact fin_te1 (by rw [te_int]; simp [eq_nil' l i1, i2, i3])

set_option maxHeartbeats 4000000 in
set_option maxRecDepth 100000 in
theorem xt_sym (l : Bs) (v a : Int) (hl : l.length ≤ 1000000) (_hv : -9223372036854775808 ≤ v ∧ v ≤ 9223372036854775807) : DCalls Tryz.prog 14 [(⟨5, l, v, a⟩ : Tok).V] (teV (textT ⟨5, l, v, a⟩)) := by
  refine sxm [(30, false), (31, false)] Tryz.func14 (by kernel_rfl) ?_
  conv => whnf
  refine ⟨none, by kernel_rfl, ?_⟩
  conv => whnf
  rintro (_ | _) w1
  · conv => whnf
    refine known false rfl ?_
    conv => whnf
    rintro (_ | _) v0
    rotate_left
    · have v0 : v ≠ 0 := by simpa using v0
      conv => whnf
      exact fin_te1 (by rw [te_sym]; simp [v0])
    have v0 : v = 0 := by simpa using v0
    conv => whnf
    refine known false rfl ?_
    conv => whnf
    refine known false rfl ?_
    conv => whnf
    refine known true rfl ?_
    conv => whnf
    refine ⟨_, x_symbol l (by omega), ?_⟩
    conv => whnf
    rintro (_ | _) i4
    · conv => whnf
      refine known false rfl ?_
      conv => whnf
      refine known false rfl ?_
      conv => whnf
      exact fin_te1 (by rw [te_sym]; simp [v0, i4])
    conv => whnf
    exact fin_te1 (by rw [te_sym]; simp [v0, i4])
  conv => whnf
  refine ⟨_, x_run l (by omega), ?_⟩
  conv => whnf
  rintro (_ | _) w2
  · conv => whnf
    refine known false rfl ?_
    conv => whnf
    rintro (_ | _) v0
    rotate_left
    · have v0 : v ≠ 0 := by simpa using v0
      conv => whnf
      exact fin_te1 (by rw [te_sym]; simp [v0])
    have v0 : v = 0 := by simpa using v0
    conv => whnf
    refine known false rfl ?_
    conv => whnf
    refine known false rfl ?_
    conv => whnf
    refine known true rfl ?_
    conv => whnf
    refine ⟨_, x_symbol l (by omega), ?_⟩
    conv => whnf
    rintro (_ | _) i4
    · conv => whnf
      refine known false rfl ?_
      conv => whnf
      refine known false rfl ?_
      conv => whnf
      exact fin_te1 (by rw [te_sym]; simp [v0, i4])
    conv => whnf
    exact fin_te1 (by rw [te_sym]; simp [v0, i4])
  conv => whnf
  refine known false rfl ?_
  conv => whnf
  rintro (_ | _) v0
  rotate_left
  · have v0 : v ≠ 0 := by simpa using v0
    conv => whnf
    exact fin_te1 (by rw [te_sym]; simp [v0])
  have v0 : v = 0 := by simpa using v0
  conv => whnf
  refine known false rfl ?_
  conv => whnf
  refine known false rfl ?_
  conv => whnf
  refine known true rfl ?_
  conv => whnf
  refine ⟨_, x_symbol l (by omega), ?_⟩
  conv => whnf
  rintro (_ | _) i4
  · conv => whnf
    refine known false rfl ?_
    conv => whnf
    refine known false rfl ?_
    conv => whnf
    exact fin_te1 (by rw [te_sym]; simp [v0, i4])
  conv => whnf
  exact fin_te1 (by rw [te_sym]; simp [v0, i4])

set_option maxHeartbeats 4000000 in
set_option maxRecDepth 100000 in
theorem xt_host (l : Bs) (v a : Int) (hl : l.length ≤ 1000000) (_hv : -9223372036854775808 ≤ v ∧ v ≤ 9223372036854775807) : DCalls Tryz.prog 14 [(⟨6, l, v, a⟩ : Tok).V] (teV (textT ⟨6, l, v, a⟩)) := by
  refine sxm [(30, false), (31, false)] Tryz.func14 (by kernel_rfl) ?_
  conv => whnf
  refine ⟨none, by kernel_rfl, ?_⟩
  conv => whnf
  rintro (_ | _) w1
  · conv => whnf
    refine known false rfl ?_
    conv => whnf
    rintro (_ | _) v0
    rotate_left
    · have v0 : v ≠ 0 := by simpa using v0
      conv => whnf
      exact fin_te1 (by rw [te_host]; simp [v0])
    have v0 : v = 0 := by simpa using v0
    conv => whnf
    refine known false rfl ?_
    conv => whnf
    refine known false rfl ?_
    conv => whnf
    refine known false rfl ?_
    conv => whnf
    refine known true rfl ?_
    conv => whnf
    refine known false rfl ?_
    conv => whnf
    exact fin_te1 (by rw [te_host]; simp [v0, wholeB, ne_nil' l w1])
  conv => whnf
  refine ⟨_, x_run l (by omega), ?_⟩
  conv => whnf
  rintro (_ | _) w2
  · conv => whnf
    refine known false rfl ?_
    conv => whnf
    rintro (_ | _) v0
    rotate_left
    · have v0 : v ≠ 0 := by simpa using v0
      conv => whnf
      exact fin_te1 (by rw [te_host]; simp [v0])
    have v0 : v = 0 := by simpa using v0
    conv => whnf
    refine known false rfl ?_
    conv => whnf
    refine known false rfl ?_
    conv => whnf
    refine known false rfl ?_
    conv => whnf
    refine known true rfl ?_
    conv => whnf
    refine known false rfl ?_
    conv => whnf
    exact fin_te1 (by rw [te_host]; simp [v0, wholeB, runB l w2])
  conv => whnf
  refine known false rfl ?_
  conv => whnf
  rintro (_ | _) v0
  rotate_left
  · have v0 : v ≠ 0 := by simpa using v0
    conv => whnf
    exact fin_te1 (by rw [te_host]; simp [v0])
  have v0 : v = 0 := by simpa using v0
  conv => whnf
  refine known false rfl ?_
  conv => whnf
  refine known false rfl ?_
  conv => whnf
  refine known false rfl ?_
  conv => whnf
  refine known true rfl ?_
  conv => whnf
  rw [lenB]
  rintro (_ | _) w3
  · conv => whnf
    refine known false rfl ?_
    conv => whnf
    exact fin_te1 (by rw [te_host]; simp [v0, wholeB, w3])
  conv => whnf
  refine ⟨by rw [mk_size]; simp [ByteArray.size]; omega, ?_⟩
  conv => whnf
  exact fin_te2 (by rw [te_host]; simp [v0, wholeB, ne_nil' l w1, runB l w2, w3])

set_option maxHeartbeats 4000000 in
set_option maxRecDepth 100000 in
theorem xt_no (K : Int) (l : Bs) (v a : Int) (hl : l.length ≤ 1000000) (_hv : -9223372036854775808 ≤ v ∧ v ≤ 9223372036854775807) (hK : K ≠ 1 ∧ K ≠ 2 ∧ K ≠ 3 ∧ K ≠ 4 ∧ K ≠ 5 ∧ K ≠ 6) : DCalls Tryz.prog 14 [(⟨K, l, v, a⟩ : Tok).V] (teV (textT ⟨K, l, v, a⟩)) := by
  refine sxm [(30, false), (31, false)] Tryz.func14 (by kernel_rfl) ?_
  conv => whnf
  refine ⟨none, by kernel_rfl, ?_⟩
  conv => whnf
  rintro (_ | _) w1
  · conv => whnf
    refine known false (by simp; omega) ?_
    conv => whnf
    rintro (_ | _) v0
    rotate_left
    · have v0 : v ≠ 0 := by simpa using v0
      conv => whnf
      exact fin_te1 (by rw [te_no _ _ _ _ hK])
    have v0 : v = 0 := by simpa using v0
    conv => whnf
    refine known false (by simp; omega) ?_
    conv => whnf
    refine known false (by simp; omega) ?_
    conv => whnf
    refine known false (by simp; omega) ?_
    conv => whnf
    refine known false (by simp; omega) ?_
    conv => whnf
    refine known false (by simp; omega) ?_
    conv => whnf
    exact fin_te1 (by rw [te_no _ _ _ _ hK])
  conv => whnf
  refine ⟨_, x_run l (by omega), ?_⟩
  conv => whnf
  rintro (_ | _) w2
  · conv => whnf
    refine known false (by simp; omega) ?_
    conv => whnf
    rintro (_ | _) v0
    rotate_left
    · have v0 : v ≠ 0 := by simpa using v0
      conv => whnf
      exact fin_te1 (by rw [te_no _ _ _ _ hK])
    have v0 : v = 0 := by simpa using v0
    conv => whnf
    refine known false (by simp; omega) ?_
    conv => whnf
    refine known false (by simp; omega) ?_
    conv => whnf
    refine known false (by simp; omega) ?_
    conv => whnf
    refine known false (by simp; omega) ?_
    conv => whnf
    refine known false (by simp; omega) ?_
    conv => whnf
    exact fin_te1 (by rw [te_no _ _ _ _ hK])
  conv => whnf
  refine known false (by simp; omega) ?_
  conv => whnf
  rintro (_ | _) v0
  rotate_left
  · have v0 : v ≠ 0 := by simpa using v0
    conv => whnf
    exact fin_te1 (by rw [te_no _ _ _ _ hK])
  have v0 : v = 0 := by simpa using v0
  conv => whnf
  refine known false (by simp; omega) ?_
  conv => whnf
  refine known false (by simp; omega) ?_
  conv => whnf
  refine known false (by simp; omega) ?_
  conv => whnf
  refine known false (by simp; omega) ?_
  conv => whnf
  refine known false (by simp; omega) ?_
  conv => whnf
  exact fin_te1 (by rw [te_no _ _ _ _ hK])

end Go.Proofs.YtfncipdfibgefaaGreatDoor
/-
  Contracts of lex: the text of a string token: what the walks share.
-/
namespace Go.Proofs.YtfncipdfibgefaaGreatDoor
open Go.RowKit

theorem contB_len {l : Bs} (h : contB l = true) : l.length ≤ 200 := by unfold contB at h; simp at h; exact h.1
theorem fin_te4 {t : Tok} {a : Bs} {e : Int} (h : textT t = (34 :: (a ++ [34]), e)) : V.tu [.cv (.string (⟨#[34]⟩ ++ mk a ++ ⟨#[34]⟩)), int e] = teV (textT t) := by
  rw [h, show (⟨#[34]⟩ : ByteArray) ++ mk a ++ ⟨#[34]⟩ = mk (34 :: (a ++ [34])) by rw [show (⟨#[34]⟩ : ByteArray) = mk [34] from rfl, mk_app, mk_app]; rfl]

def tmS : List (Nat × Bool) := [(30, false), (31, false)]

end Go.Proofs.YtfncipdfibgefaaGreatDoor
