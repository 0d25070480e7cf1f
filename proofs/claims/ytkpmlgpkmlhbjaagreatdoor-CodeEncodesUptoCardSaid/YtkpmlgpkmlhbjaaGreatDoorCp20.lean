/- Texts joined by pack.py: XLx22 XLx24 XCd10 XCd11 -/
import Derived.Test.YtkpmlgpkmlhbjaaGreatDoorCp19
import Derived.Test.YtkpmlgpkmlhbjaaGreatDoorCp14
namespace Go.Proofs.YtkpmlgpkmlhbjaaGreatDoor
open Go.RowKit
abbrev teV (p : Bs × Int) : V := .tu [bstr p.1, int p.2]
theorem ne_nil' (l : Bs) {b : Bool} (h : (!sEq (mk l) (mk [])) = b) : l.isEmpty = !b := by rw [sEq_mk] at h; cases l <;> simp_all
theorem eq_nil' (l : Bs) {b : Bool} (h : sEq (mk l) (mk []) = b) : l.isEmpty = b := by rw [sEq_mk] at h; cases l <;> simp_all
theorem fin_te1 {t : Tok} {a : Bs} {e : Int} (h : textT t = (a, e)) : V.tu [bstr a, int e] = teV (textT t) := by rw [h]
theorem fin_te2 {t : Tok} {a : Bs} {e : Int} (h : textT t = (64 :: a, e)) : V.tu [.cv (.string (⟨#[64]⟩ ++ mk a)), int e] = teV (textT t) := by
  rw [h, show (⟨#[64]⟩ : ByteArray) ++ mk a = mk (64 :: a) from mk_app [64] a]
theorem runB (l : Bs) {b : Bool} (h : (((runL l : Nat) : Int) == (((mk l).size : Nat) : Int)) = b) : decide (runL l = l.length) = b := by
  rw [mk_size] at h; rw [← h, Bool.eq_iff_iff]; simp; omega
theorem lenB (l : Bs) : decide ((((mk l).size : Nat) : Int) ≤ 24) = decide (l.length ≤ 24) := by rw [mk_size, Bool.eq_iff_iff]; simp; omega
theorem te_int (l : Bs) (v a : Int) : textT ⟨3, l, v, a⟩ = if l.isEmpty = true ∧ 0 ≤ v ∧ validB v = true then (Lib.itoa v, 0) else ([], 1) := by
  unfold textT; cases l <;> simp
theorem te_name (l : Bs) (v a : Int) : textT ⟨1, l, v, a⟩ = if v ≠ 0 then ([], 1) else if wholeB l = true ∧ kwL l = false then (l, 0) else ([], 1) := by
  unfold textT; simp
theorem te_word (l : Bs) (v a : Int) : textT ⟨2, l, v, a⟩ = if v ≠ 0 then ([], 1) else if kwL l = true then (l, 0) else ([], 1) := by
  unfold textT; simp
theorem te_str (l : Bs) (v a : Int) : textT ⟨4, l, v, a⟩ = if v ≠ 0 then ([], 1) else if contB l = true then (34 :: (esc l ++ [34]), 0) else ([], 1) := by
  unfold textT; simp
theorem te_sym (l : Bs) (v a : Int) : textT ⟨5, l, v, a⟩ = if v ≠ 0 then ([], 1) else if symB l = true then (l, 0) else ([], 1) := by
  unfold textT; simp
theorem te_host (l : Bs) (v a : Int) : textT ⟨6, l, v, a⟩ = if v ≠ 0 then ([], 1) else if wholeB l = true then (64 :: l, 0) else ([], 1) := by
  unfold textT; simp
theorem te_no (K : Int) (l : Bs) (v a : Int) (h : K ≠ 1 ∧ K ≠ 2 ∧ K ≠ 3 ∧ K ≠ 4 ∧ K ≠ 5 ∧ K ≠ 6) : textT ⟨K, l, v, a⟩ = ([], 1) := by
  unfold textT; simp [h.1, h.2.1, h.2.2.1, h.2.2.2.1, h.2.2.2.2.1, h.2.2.2.2.2]
set_option maxHeartbeats 4000000 in
set_option maxRecDepth 100000 in
theorem xt_name (l : Bs) (v a : Int) (hl : l.length ≤ 1000000) (_hv : -9223372036854775808 ≤ v ∧ v ≤ 9223372036854775807) : DCalls Tryz.prog 112 [(⟨1, l, v, a⟩ : Tok).V] (teV (textT ⟨1, l, v, a⟩)) := by
  refine sxm [(142, false), (143, false)] Tryz.func112 (by kernel_rfl) ?_
  conv => whnf
  refine ⟨none, by kernel_rfl, ?_⟩
  conv => whnf
  rintro (_ | _) w1
  · conv => whnf
    refine known false rfl ?_
    conv => whnf
    rintro (_ | _) v0
    rotate_left
    · have v0 : v ≠ 0 := by simpa using v0
      conv => whnf
      exact fin_te1 (by rw [te_name]; simp [v0])
    have v0 : v = 0 := by simpa using v0
    conv => whnf
    refine known true rfl ?_
    conv => whnf
    refine known false rfl ?_
    conv => whnf
    refine known false rfl ?_
    conv => whnf
    refine known false rfl ?_
    conv => whnf
    refine known false rfl ?_
    conv => whnf
    exact fin_te1 (by rw [te_name]; simp [v0, wholeB, ne_nil' l w1])
  conv => whnf
  refine ⟨_, x_run l (by omega), ?_⟩
  conv => whnf
  rintro (_ | _) w2
  · conv => whnf
    refine known false rfl ?_
    conv => whnf
    rintro (_ | _) v0
    rotate_left
    · have v0 : v ≠ 0 := by simpa using v0
      conv => whnf
      exact fin_te1 (by rw [te_name]; simp [v0])
    have v0 : v = 0 := by simpa using v0
    conv => whnf
    refine known true rfl ?_
    conv => whnf
    refine known false rfl ?_
    conv => whnf
    refine known false rfl ?_
    conv => whnf
    refine known false rfl ?_
    conv => whnf
    refine known false rfl ?_
    conv => whnf
    exact fin_te1 (by rw [te_name]; simp [v0, wholeB, runB l w2])
  conv => whnf
  refine known false rfl ?_
  conv => whnf
  rintro (_ | _) v0
  rotate_left
  · have v0 : v ≠ 0 := by simpa using v0
    conv => whnf
    exact fin_te1 (by rw [te_name]; simp [v0])
  have v0 : v = 0 := by simpa using v0
  conv => whnf
  refine known true rfl ?_
  conv => whnf
  rw [lenB]
  rintro (_ | _) w3
  · conv => whnf
    refine known false rfl ?_
    conv => whnf
    refine known false rfl ?_
    conv => whnf
    refine known false rfl ?_
    conv => whnf
    refine known false rfl ?_
    conv => whnf
    exact fin_te1 (by rw [te_name]; simp [v0, wholeB, w3])
  conv => whnf
  refine ⟨_, x_keywordL l, ?_⟩
  conv => whnf
  rintro (_ | _) i4
  · have i4 : kwL l = true := by simpa using i4
    conv => whnf
    refine known false rfl ?_
    conv => whnf
    refine known false rfl ?_
    conv => whnf
    refine known false rfl ?_
    conv => whnf
    refine known false rfl ?_
    conv => whnf
    exact fin_te1 (by rw [te_name]; simp [v0, i4])
  have i4 : kwL l = false := by simpa using i4
  conv => whnf
  exact fin_te1 (by rw [te_name]; simp [v0, wholeB, ne_nil' l w1, runB l w2, w3, i4])
set_option maxHeartbeats 4000000 in
set_option maxRecDepth 100000 in
theorem xt_word (l : Bs) (v a : Int) (hl : l.length ≤ 1000000) (_hv : -9223372036854775808 ≤ v ∧ v ≤ 9223372036854775807) : DCalls Tryz.prog 112 [(⟨2, l, v, a⟩ : Tok).V] (teV (textT ⟨2, l, v, a⟩)) := by
  refine sxm [(142, false), (143, false)] Tryz.func112 (by kernel_rfl) ?_
  conv => whnf
  refine ⟨none, by kernel_rfl, ?_⟩
  conv => whnf
  rintro (_ | _) w1
  · conv => whnf
    refine known false rfl ?_
    conv => whnf
    rintro (_ | _) v0
    rotate_left
    · have v0 : v ≠ 0 := by simpa using v0
      conv => whnf
      exact fin_te1 (by rw [te_word]; simp [v0])
    have v0 : v = 0 := by simpa using v0
    conv => whnf
    refine known false rfl ?_
    conv => whnf
    refine known true rfl ?_
    conv => whnf
    refine ⟨_, x_keywordL l, ?_⟩
    conv => whnf
    rintro (_ | _) i4
    · conv => whnf
      refine known false rfl ?_
      conv => whnf
      refine known false rfl ?_
      conv => whnf
      refine known false rfl ?_
      conv => whnf
      exact fin_te1 (by rw [te_word]; simp [v0, i4])
    conv => whnf
    exact fin_te1 (by rw [te_word]; simp [v0, i4])
  conv => whnf
  refine ⟨_, x_run l (by omega), ?_⟩
  conv => whnf
  rintro (_ | _) w2
  · conv => whnf
    refine known false rfl ?_
    conv => whnf
    rintro (_ | _) v0
    rotate_left
    · have v0 : v ≠ 0 := by simpa using v0
      conv => whnf
      exact fin_te1 (by rw [te_word]; simp [v0])
    have v0 : v = 0 := by simpa using v0
    conv => whnf
    refine known false rfl ?_
    conv => whnf
    refine known true rfl ?_
    conv => whnf
    refine ⟨_, x_keywordL l, ?_⟩
    conv => whnf
    rintro (_ | _) i4
    · conv => whnf
      refine known false rfl ?_
      conv => whnf
      refine known false rfl ?_
      conv => whnf
      refine known false rfl ?_
      conv => whnf
      exact fin_te1 (by rw [te_word]; simp [v0, i4])
    conv => whnf
    exact fin_te1 (by rw [te_word]; simp [v0, i4])
  conv => whnf
  refine known false rfl ?_
  conv => whnf
  rintro (_ | _) v0
  rotate_left
  · have v0 : v ≠ 0 := by simpa using v0
    conv => whnf
    exact fin_te1 (by rw [te_word]; simp [v0])
  have v0 : v = 0 := by simpa using v0
  conv => whnf
  refine known false rfl ?_
  conv => whnf
  refine known true rfl ?_
  conv => whnf
  refine ⟨_, x_keywordL l, ?_⟩
  conv => whnf
  rintro (_ | _) i4
  · conv => whnf
    refine known false rfl ?_
    conv => whnf
    refine known false rfl ?_
    conv => whnf
    refine known false rfl ?_
    conv => whnf
    exact fin_te1 (by rw [te_word]; simp [v0, i4])
  conv => whnf
  exact fin_te1 (by rw [te_word]; simp [v0, i4])
set_option maxHeartbeats 4000000 in
set_option maxRecDepth 100000 in
theorem xt_int (l : Bs) (v a : Int) (hl : l.length ≤ 1000000) (hv : -9223372036854775808 ≤ v ∧ v ≤ 9223372036854775807) : DCalls Tryz.prog 112 [(⟨3, l, v, a⟩ : Tok).V] (teV (textT ⟨3, l, v, a⟩)) := by
  refine sxm [(142, false), (143, false)] Tryz.func112 (by kernel_rfl) ?_
  conv => whnf
  refine ⟨none, by kernel_rfl, ?_⟩
  conv => whnf
  rintro (_ | _) w1
  · conv => whnf
    refine known true rfl ?_
    conv => whnf
    rintro (_ | _) i1
    · conv => whnf
      rintro (_ | _) v0
      rotate_left
      · conv => whnf
        exact fin_te1 (by rw [te_int]; simp [eq_nil' l i1])
      have v0 : v = 0 := by simpa using v0
      conv => whnf
      refine known false rfl ?_
      conv => whnf
      refine known false rfl ?_
      conv => whnf
      refine known false rfl ?_
      conv => whnf
      refine known false rfl ?_
      conv => whnf
      refine known false rfl ?_
      conv => whnf
      exact fin_te1 (by rw [te_int]; simp [eq_nil' l i1])
    conv => whnf
    rintro (_ | _) i2
    · have i2 : ¬ 0 ≤ v := by simpa using i2
      conv => whnf
      rintro (_ | _) v0
      rotate_left
      · conv => whnf
        exact fin_te1 (by rw [te_int]; simp [i2])
      have v0 : v = 0 := by simpa using v0
      conv => whnf
      refine known false rfl ?_
      conv => whnf
      refine known false rfl ?_
      conv => whnf
      refine known false rfl ?_
      conv => whnf
      refine known false rfl ?_
      conv => whnf
      refine known false rfl ?_
      conv => whnf
      exact fin_te1 (by rw [te_int]; simp [i2])
    have i2 : 0 ≤ v := by simpa using i2
    conv => whnf
    refine ⟨_, x_valid v, ?_⟩
    conv => whnf
    rintro (_ | _) i3
    · conv => whnf
      rintro (_ | _) v0
      rotate_left
      · conv => whnf
        exact fin_te1 (by rw [te_int]; simp [i3])
      have v0 : v = 0 := by simpa using v0
      conv => whnf
      refine known false rfl ?_
      conv => whnf
      refine known false rfl ?_
      conv => whnf
      refine known false rfl ?_
      conv => whnf
      refine known false rfl ?_
      conv => whnf
      refine known false rfl ?_
      conv => whnf
      exact fin_te1 (by rw [te_int]; simp [i3])
    conv => whnf
    refine ⟨_, x_format v hv.1 hv.2, ?_⟩
    conv => whnf
    exact fin_te1 (by rw [te_int]; simp [eq_nil' l i1, i2, i3])
  conv => whnf
  refine ⟨_, x_run l (by omega), ?_⟩
  conv => whnf
  rintro (_ | _) w2
  · conv => whnf
    refine known true rfl ?_
    conv => whnf
    rintro (_ | _) i1
    · conv => whnf
      rintro (_ | _) v0
      rotate_left
      · conv => whnf
        exact fin_te1 (by rw [te_int]; simp [eq_nil' l i1])
      have v0 : v = 0 := by simpa using v0
      conv => whnf
      refine known false rfl ?_
      conv => whnf
      refine known false rfl ?_
      conv => whnf
      refine known false rfl ?_
      conv => whnf
      refine known false rfl ?_
      conv => whnf
      refine known false rfl ?_
      conv => whnf
      exact fin_te1 (by rw [te_int]; simp [eq_nil' l i1])
    conv => whnf
    rintro (_ | _) i2
    · have i2 : ¬ 0 ≤ v := by simpa using i2
      conv => whnf
      rintro (_ | _) v0
      rotate_left
      · conv => whnf
        exact fin_te1 (by rw [te_int]; simp [i2])
      have v0 : v = 0 := by simpa using v0
      conv => whnf
      refine known false rfl ?_
      conv => whnf
      refine known false rfl ?_
      conv => whnf
      refine known false rfl ?_
      conv => whnf
      refine known false rfl ?_
      conv => whnf
      refine known false rfl ?_
      conv => whnf
      exact fin_te1 (by rw [te_int]; simp [i2])
    have i2 : 0 ≤ v := by simpa using i2
    conv => whnf
    refine ⟨_, x_valid v, ?_⟩
    conv => whnf
    rintro (_ | _) i3
    · conv => whnf
      rintro (_ | _) v0
      rotate_left
      · conv => whnf
        exact fin_te1 (by rw [te_int]; simp [i3])
      have v0 : v = 0 := by simpa using v0
      conv => whnf
      refine known false rfl ?_
      conv => whnf
      refine known false rfl ?_
      conv => whnf
      refine known false rfl ?_
      conv => whnf
      refine known false rfl ?_
      conv => whnf
      refine known false rfl ?_
      conv => whnf
      exact fin_te1 (by rw [te_int]; simp [i3])
    conv => whnf
    refine ⟨_, x_format v hv.1 hv.2, ?_⟩
    conv => whnf
    exact fin_te1 (by rw [te_int]; simp [eq_nil' l i1, i2, i3])
  conv => whnf
  refine known true rfl ?_
  conv => whnf
  rintro (_ | _) i1
  · conv => whnf
    rintro (_ | _) v0
    rotate_left
    · conv => whnf
      exact fin_te1 (by rw [te_int]; simp [eq_nil' l i1])
    have v0 : v = 0 := by simpa using v0
    conv => whnf
    refine known false rfl ?_
    conv => whnf
    refine known false rfl ?_
    conv => whnf
    refine known false rfl ?_
    conv => whnf
    refine known false rfl ?_
    conv => whnf
    refine known false rfl ?_
    conv => whnf
    exact fin_te1 (by rw [te_int]; simp [eq_nil' l i1])
  conv => whnf
  rintro (_ | _) i2
  · have i2 : ¬ 0 ≤ v := by simpa using i2
    conv => whnf
    rintro (_ | _) v0
    rotate_left
    · conv => whnf
      exact fin_te1 (by rw [te_int]; simp [i2])
    have v0 : v = 0 := by simpa using v0
    conv => whnf
    refine known false rfl ?_
    conv => whnf
    refine known false rfl ?_
    conv => whnf
    refine known false rfl ?_
    conv => whnf
    refine known false rfl ?_
    conv => whnf
    refine known false rfl ?_
    conv => whnf
    exact fin_te1 (by rw [te_int]; simp [i2])
  have i2 : 0 ≤ v := by simpa using i2
  conv => whnf
  refine ⟨_, x_valid v, ?_⟩
  conv => whnf
  rintro (_ | _) i3
  · conv => whnf
    rintro (_ | _) v0
    rotate_left
    · conv => whnf
      exact fin_te1 (by rw [te_int]; simp [i3])
    have v0 : v = 0 := by simpa using v0
    conv => whnf
    refine known false rfl ?_
    conv => whnf
    refine known false rfl ?_
    conv => whnf
    refine known false rfl ?_
    conv => whnf
    refine known false rfl ?_
    conv => whnf
    refine known false rfl ?_
    conv => whnf
    exact fin_te1 (by rw [te_int]; simp [i3])
  conv => whnf
  refine ⟨_, x_format v hv.1 hv.2, ?_⟩
  conv => whnf
  exact fin_te1 (by rw [te_int]; simp [eq_nil' l i1, i2, i3])
set_option maxHeartbeats 4000000 in
set_option maxRecDepth 100000 in
theorem xt_sym (l : Bs) (v a : Int) (hl : l.length ≤ 1000000) (_hv : -9223372036854775808 ≤ v ∧ v ≤ 9223372036854775807) : DCalls Tryz.prog 112 [(⟨5, l, v, a⟩ : Tok).V] (teV (textT ⟨5, l, v, a⟩)) := by
  refine sxm [(142, false), (143, false)] Tryz.func112 (by kernel_rfl) ?_
  conv => whnf
  refine ⟨none, by kernel_rfl, ?_⟩
  conv => whnf
  rintro (_ | _) w1
  · conv => whnf
    refine known false rfl ?_
    conv => whnf
    rintro (_ | _) v0
    rotate_left
    · have v0 : v ≠ 0 := by simpa using v0
      conv => whnf
      exact fin_te1 (by rw [te_sym]; simp [v0])
    have v0 : v = 0 := by simpa using v0
    conv => whnf
    refine known false rfl ?_
    conv => whnf
    refine known false rfl ?_
    conv => whnf
    refine known true rfl ?_
    conv => whnf
    refine ⟨_, x_symbol l (by omega), ?_⟩
    conv => whnf
    rintro (_ | _) i4
    · conv => whnf
      refine known false rfl ?_
      conv => whnf
      refine known false rfl ?_
      conv => whnf
      exact fin_te1 (by rw [te_sym]; simp [v0, i4])
    conv => whnf
    exact fin_te1 (by rw [te_sym]; simp [v0, i4])
  conv => whnf
  refine ⟨_, x_run l (by omega), ?_⟩
  conv => whnf
  rintro (_ | _) w2
  · conv => whnf
    refine known false rfl ?_
    conv => whnf
    rintro (_ | _) v0
    rotate_left
    · have v0 : v ≠ 0 := by simpa using v0
      conv => whnf
      exact fin_te1 (by rw [te_sym]; simp [v0])
    have v0 : v = 0 := by simpa using v0
    conv => whnf
    refine known false rfl ?_
    conv => whnf
    refine known false rfl ?_
    conv => whnf
    refine known true rfl ?_
    conv => whnf
    refine ⟨_, x_symbol l (by omega), ?_⟩
    conv => whnf
    rintro (_ | _) i4
    · conv => whnf
      refine known false rfl ?_
      conv => whnf
      refine known false rfl ?_
      conv => whnf
      exact fin_te1 (by rw [te_sym]; simp [v0, i4])
    conv => whnf
    exact fin_te1 (by rw [te_sym]; simp [v0, i4])
  conv => whnf
  refine known false rfl ?_
  conv => whnf
  rintro (_ | _) v0
  rotate_left
  · have v0 : v ≠ 0 := by simpa using v0
    conv => whnf
    exact fin_te1 (by rw [te_sym]; simp [v0])
  have v0 : v = 0 := by simpa using v0
  conv => whnf
  refine known false rfl ?_
  conv => whnf
  refine known false rfl ?_
  conv => whnf
  refine known true rfl ?_
  conv => whnf
  refine ⟨_, x_symbol l (by omega), ?_⟩
  conv => whnf
  rintro (_ | _) i4
  · conv => whnf
    refine known false rfl ?_
    conv => whnf
    refine known false rfl ?_
    conv => whnf
    exact fin_te1 (by rw [te_sym]; simp [v0, i4])
  conv => whnf
  exact fin_te1 (by rw [te_sym]; simp [v0, i4])
set_option maxHeartbeats 4000000 in
set_option maxRecDepth 100000 in
theorem xt_host (l : Bs) (v a : Int) (hl : l.length ≤ 1000000) (_hv : -9223372036854775808 ≤ v ∧ v ≤ 9223372036854775807) : DCalls Tryz.prog 112 [(⟨6, l, v, a⟩ : Tok).V] (teV (textT ⟨6, l, v, a⟩)) := by
  refine sxm [(142, false), (143, false)] Tryz.func112 (by kernel_rfl) ?_
  conv => whnf
  refine ⟨none, by kernel_rfl, ?_⟩
  conv => whnf
  rintro (_ | _) w1
  · conv => whnf
    refine known false rfl ?_
    conv => whnf
    rintro (_ | _) v0
    rotate_left
    · have v0 : v ≠ 0 := by simpa using v0
      conv => whnf
      exact fin_te1 (by rw [te_host]; simp [v0])
    have v0 : v = 0 := by simpa using v0
    conv => whnf
    refine known false rfl ?_
    conv => whnf
    refine known false rfl ?_
    conv => whnf
    refine known false rfl ?_
    conv => whnf
    refine known true rfl ?_
    conv => whnf
    refine known false rfl ?_
    conv => whnf
    exact fin_te1 (by rw [te_host]; simp [v0, wholeB, ne_nil' l w1])
  conv => whnf
  refine ⟨_, x_run l (by omega), ?_⟩
  conv => whnf
  rintro (_ | _) w2
  · conv => whnf
    refine known false rfl ?_
    conv => whnf
    rintro (_ | _) v0
    rotate_left
    · have v0 : v ≠ 0 := by simpa using v0
      conv => whnf
      exact fin_te1 (by rw [te_host]; simp [v0])
    have v0 : v = 0 := by simpa using v0
    conv => whnf
    refine known false rfl ?_
    conv => whnf
    refine known false rfl ?_
    conv => whnf
    refine known false rfl ?_
    conv => whnf
    refine known true rfl ?_
    conv => whnf
    refine known false rfl ?_
    conv => whnf
    exact fin_te1 (by rw [te_host]; simp [v0, wholeB, runB l w2])
  conv => whnf
  refine known false rfl ?_
  conv => whnf
  rintro (_ | _) v0
  rotate_left
  · have v0 : v ≠ 0 := by simpa using v0
    conv => whnf
    exact fin_te1 (by rw [te_host]; simp [v0])
  have v0 : v = 0 := by simpa using v0
  conv => whnf
  refine known false rfl ?_
  conv => whnf
  refine known false rfl ?_
  conv => whnf
  refine known false rfl ?_
  conv => whnf
  refine known true rfl ?_
  conv => whnf
  rw [lenB]
  rintro (_ | _) w3
  · conv => whnf
    refine known false rfl ?_
    conv => whnf
    exact fin_te1 (by rw [te_host]; simp [v0, wholeB, w3])
  conv => whnf
  refine ⟨by rw [mk_size]; simp [ByteArray.size]; omega, ?_⟩
  conv => whnf
  exact fin_te2 (by rw [te_host]; simp [v0, wholeB, ne_nil' l w1, runB l w2, w3])
set_option maxHeartbeats 4000000 in
set_option maxRecDepth 100000 in
theorem xt_no (K : Int) (l : Bs) (v a : Int) (hl : l.length ≤ 1000000) (_hv : -9223372036854775808 ≤ v ∧ v ≤ 9223372036854775807) (hK : K ≠ 1 ∧ K ≠ 2 ∧ K ≠ 3 ∧ K ≠ 4 ∧ K ≠ 5 ∧ K ≠ 6) : DCalls Tryz.prog 112 [(⟨K, l, v, a⟩ : Tok).V] (teV (textT ⟨K, l, v, a⟩)) := by
  refine sxm [(142, false), (143, false)] Tryz.func112 (by kernel_rfl) ?_
  conv => whnf
  refine ⟨none, by kernel_rfl, ?_⟩
  conv => whnf
  rintro (_ | _) w1
  · conv => whnf
    refine known false (by simp; omega) ?_
    conv => whnf
    rintro (_ | _) v0
    rotate_left
    · have v0 : v ≠ 0 := by simpa using v0
      conv => whnf
      exact fin_te1 (by rw [te_no _ _ _ _ hK])
    have v0 : v = 0 := by simpa using v0
    conv => whnf
    refine known false (by simp; omega) ?_
    conv => whnf
    refine known false (by simp; omega) ?_
    conv => whnf
    refine known false (by simp; omega) ?_
    conv => whnf
    refine known false (by simp; omega) ?_
    conv => whnf
    refine known false (by simp; omega) ?_
    conv => whnf
    exact fin_te1 (by rw [te_no _ _ _ _ hK])
  conv => whnf
  refine ⟨_, x_run l (by omega), ?_⟩
  conv => whnf
  rintro (_ | _) w2
  · conv => whnf
    refine known false (by simp; omega) ?_
    conv => whnf
    rintro (_ | _) v0
    rotate_left
    · have v0 : v ≠ 0 := by simpa using v0
      conv => whnf
      exact fin_te1 (by rw [te_no _ _ _ _ hK])
    have v0 : v = 0 := by simpa using v0
    conv => whnf
    refine known false (by simp; omega) ?_
    conv => whnf
    refine known false (by simp; omega) ?_
    conv => whnf
    refine known false (by simp; omega) ?_
    conv => whnf
    refine known false (by simp; omega) ?_
    conv => whnf
    refine known false (by simp; omega) ?_
    conv => whnf
    exact fin_te1 (by rw [te_no _ _ _ _ hK])
  conv => whnf
  refine known false (by simp; omega) ?_
  conv => whnf
  rintro (_ | _) v0
  rotate_left
  · have v0 : v ≠ 0 := by simpa using v0
    conv => whnf
    exact fin_te1 (by rw [te_no _ _ _ _ hK])
  have v0 : v = 0 := by simpa using v0
  conv => whnf
  refine known false (by simp; omega) ?_
  conv => whnf
  refine known false (by simp; omega) ?_
  conv => whnf
  refine known false (by simp; omega) ?_
  conv => whnf
  refine known false (by simp; omega) ?_
  conv => whnf
  refine known false (by simp; omega) ?_
  conv => whnf
  exact fin_te1 (by rw [te_no _ _ _ _ hK])
end Go.Proofs.YtkpmlgpkmlhbjaaGreatDoor
namespace Go.Proofs.YtkpmlgpkmlhbjaaGreatDoor
open Go.RowKit
def strD (b : Bs) : List D := [.cv (.string (mk b))]
abbrev strsV (l : List Bs) : V := .sl true 1 (l.map strD)
theorem join_lib : ∀ xs : List Bs, Lib.join xs [32] = joinSp xs
  | [] => rfl
  | [a] => by simp [Lib.join, joinSp]
  | a :: b :: l => by
    have := join_lib (b :: l)
    unfold Lib.join at this ⊢
    rw [joinSp, ← this]
    simp [List.intercalate, List.intersperse]
theorem x_sjoin (xs : List Bs) (hn : xs.length ≤ 140737488355328) (hl : (joinSp xs).length ≤ 140737488355328) : DCalls Tryz.prog 74 [strsV xs, bstr [32]] (bstr (joinSp xs)) := by
  refine ⟨⟨_, Tryz.func74, by kernel_rfl, by kernel_rfl⟩, fun w vs hi hvs => ?_⟩
  obtain ⟨v0, v1, rfl⟩ : ∃ v0 v1, vs = [v0, v1] := by
    have := hvs.1
    match vs, this with
    | [a, b], _ => exact ⟨a, b, rfl⟩
  have r0 := hvs.2 0 _ rfl
  have r1 := hvs.2 1 _ rfl
  simp only [List.getD_eq_getElem?_getD, List.getElem?_cons_zero, List.getElem?_cons_succ, Option.getD_some] at r0 r1
  cases r1
  cases r0
  rename_i hr
  generalize hxs : xs.map strD = ys at hr
  cases hr with
  | nil _ A cap =>
    have : xs = [] := by simpa using hxs
    subst this
    refine (Any.strings_Join_none Tryz.lays156 Tryz.Builder_Extra_156 A cap (mk [32]) w).mono ?_
    rintro e w' ⟨rfl, rfl⟩
    exact ⟨_, rfl, .cv _, Below.refl _ _⟩
  | sl _ _ b o' cap u hS hx hcap hc hd =>
    subst hxs
    rw [List.length_map] at hcap ⊢
    have hmm : (xs.map mk).map (·.data.toList) = xs := by rw [List.map_map]; exact List.map_id' xs
    have h := Tryz.strings_Join b o' cap (xs.map mk) (mk [32]) w (fun j x hj => by
      rw [List.getElem?_map, Option.map_eq_some_iff] at hj
      obtain ⟨y, hy, rfl⟩ := hj
      have h0 : (((xs.map strD)[j]?).bind fun x => x[0]?) = some (.cv (.string (mk y))) := by rw [List.getElem?_map, hy]; rfl
      have h3 := hc j 0 _ h0
      have h4 := hd j 0 _ h0
      generalize u j 0 = z at h3 h4
      cases h4
      rw [show o' + j = o' + j * 1 + 0 by omega]; exact h3) hS (by rw [List.length_map]; exact hn) (by rw [List.length_map]; exact hcap) (by rw [hmm, show (mk [32]).data.toList = [32] from rfl, join_lib]; exact hl)
    rw [hmm, show (mk [32]).data.toList = [32] from rfl, join_lib, List.length_map] at h
    refine h.mono ?_
    rintro e w' ⟨rfl, hb⟩
    exact ⟨_, rfl, .cv _, hb⟩
theorem itoa_len (n : Int) (h : validB n = true) (h0 : 0 ≤ n) : (Lib.itoa n).length ≤ 13 := by
  obtain ⟨k, rfl⟩ : ∃ k : Nat, n = k := ⟨n.toNat, by omega⟩
  rw [Lib.itoa_nonneg]
  refine decDigits_len 12 k ?_
  unfold validB at h; simp at h; omega
theorem textT_len (t : Tok) : (textT t).1.length ≤ 2 * t.text.length + 13 := by
  unfold textT
  split
  · rename_i h; have := itoa_len t.val h.2.2.2 h.2.2.1; simp only; omega
  split
  · simp
  split
  · simp only; omega
  split
  · simp only [List.length_cons]; omega
  split
  · have h1 := esc_len t.text; have h2 := ex_le t.text; simp only [List.length_cons, List.length_append, List.length_nil]; omega
  · simp
theorem texts_cons (t : Tok) (l : List Tok) : texts (t :: l) = if (textT t).2 = 0 then (if (texts l).2 = 0 then ((textT t).1 :: (texts l).1, 0) else ([], (texts l).2)) else ([], (textT t).2) := rfl
theorem joinSp_len : ∀ (xs : List Bs) (B : Nat), (∀ x ∈ xs, x.length ≤ B) → (joinSp xs).length ≤ xs.length * (B + 1)
  | [], B, _ => by simp [joinSp]
  | [a], B, h => by have := h a (by simp); simp [joinSp]; omega
  | a :: b :: l, B, h => by
    have h1 := h a (by simp)
    have h2 := joinSp_len (b :: l) B fun x hx => h x (by simp at hx ⊢; exact .inr hx)
    simp only [joinSp, List.length_append, List.length_cons] at h2 ⊢
    rw [Nat.add_mul _ 1]
    omega
end Go.Proofs.YtkpmlgpkmlhbjaaGreatDoor
namespace Go.Proofs.YtkpmlgpkmlhbjaaGreatDoor
open Go.RowKit
def spl : Nat → Bs → List Bs × Nat
  | 0, _ => ([], 0)
  | f + 1, s => if (openP s).2.2 = 0 then ((openP s).1 :: (spl f (s.drop (openP s).2.1)).1, (openP s).2.1 + (spl f (s.drop (openP s).2.1)).2) else ([], 0)
def splitP (s : Bs) : List Bs × Nat := spl s.length s
theorem open_len {s : Bs} (h : (openP s).2.2 = 0) : 8 ≤ (openP s).2.1 ∧ (openP s).2.1 ≤ s.length := by
  unfold openP at h ⊢
  split at h
  · simp at h
  rename_i h1
  rw [if_neg h1]
  split at h
  · simp at h
  rename_i h2
  rw [if_neg h2]
  split at h
  · simp at h
  rename_i h3
  rw [if_neg h3]
  split at h
  · rename_i h4
    rw [if_pos h4]
    dsimp only
    omega
  · simp at h
theorem spl_fuel : ∀ (f g : Nat) (s : Bs), s.length ≤ f → s.length ≤ g → spl f s = spl g s
  | 0, 0, _, _, _ => rfl
  | 0, g + 1, s, h, _ => by
    have : s = [] := List.eq_nil_of_length_eq_zero (by omega)
    subst this
    unfold spl
    rw [if_neg (by decide)]
  | f + 1, 0, s, _, h => by
    have : s = [] := List.eq_nil_of_length_eq_zero (by omega)
    subst this
    unfold spl
    rw [if_neg (by decide)]
  | f + 1, g + 1, s, h, h' => by
    unfold spl
    split
    · rename_i ho
      have hl := open_len ho
      rw [spl_fuel f g (s.drop (openP s).2.1) (by rw [List.length_drop]; omega) (by rw [List.length_drop]; omega)]
    · rfl
theorem split_ok {s : Bs} (h : (openP s).2.2 = 0) : splitP s = ((openP s).1 :: (splitP (s.drop (openP s).2.1)).1, (openP s).2.1 + (splitP (s.drop (openP s).2.1)).2) := by
  have hl := open_len h
  unfold splitP
  obtain ⟨n, hn⟩ : ∃ n, s.length = n + 1 := ⟨s.length - 1, by omega⟩
  rw [hn]
  conv => lhs; unfold spl
  rw [if_pos h, spl_fuel n (s.drop (openP s).2.1).length (s.drop (openP s).2.1) (by rw [List.length_drop]; omega) (Nat.le_refl _)]
theorem split_err {s : Bs} (h : (openP s).2.2 ≠ 0) : splitP s = ([], 0) := by
  unfold splitP
  cases s.length with
  | zero => rfl
  | succ n => unfold spl; rw [if_neg h]
theorem split_nil : splitP [] = ([], 0) := rfl
abbrev splV (p : List Bs × Nat) : V := .tu [strsV p.1, int p.2]
theorem fin_spl {p q : List Bs × Nat} (h : p = q) : splV p = splV q := by rw [h]
set_option maxHeartbeats 2000000 in
set_option maxRecDepth 100000 in
theorem x_split (l : Bs) (hl : l.length ≤ 4398046511104) : DCalls Tryz.prog 47 [bstr l] (splV (splitP l)) := by
  refine sx Tryz.func47 (by kernel_rfl) ?_
  generalize hR : splitP l = R
  conv => whnf
  refine ⟨[(4, 26, 9, 1)], Nat × List Bs, fun ⟨k, acc⟩ => [(5, int k), (4, .ow 26 0)], fun ⟨k, acc⟩ => [(26, some (.row 0 9 1 true (acc.map strD)))], fun ⟨k, acc⟩ => k ≤ l.length ∧ acc.length ≤ k ∧ (acc ++ (splitP (l.drop k)).1, k + (splitP (l.drop k)).2) = R, fun x => l.length - x.1, (0, []), ⟨by omega, by simp, by rw [List.drop_zero, hR]; simp⟩, ?_, ?_⟩
  · refine ⟨rfl, ?_, ?_⟩ <;> repeat' (first | exact trivial | exact rfl | refine and_rfl ?_ | refine and_two ?_ ?_)
  rintro ⟨k, acc⟩ ⟨hk1, hk2, hk⟩
  conv => whnf
  rintro (_ | _) h2
  · have h2 : l.length ≤ k := by simp [mk_size] at h2; omega
    rw [List.drop_eq_nil_of_le h2, split_nil] at hk
    conv => whnf
    refine ⟨_, _, ot_slice3 tok rfl rfl rfl rfl rfl rfl rfl, ?_⟩
    conv => whnf
    exact fin_spl (p := (acc, k)) (by rw [← hk]; simp)
  have h2 : k < l.length := by simp [mk_size] at h2; omega
  conv => whnf
  refine ⟨by omega, by rw [mk_size]; omega, by omega, ?_⟩
  rw [mkF]
  conv => whnf
  refine ⟨_, x_open (l.drop k) (by rw [List.length_drop]; omega), ?_⟩
  conv => whnf
  rintro (_ | _) h3
  rotate_left
  · have h3 : (openP (l.drop k)).2.2 ≠ 0 := by simpa using h3
    rw [split_err h3] at hk
    conv => whnf
    refine ⟨_, _, ot_slice3 tok rfl rfl rfl rfl rfl rfl rfl, ?_⟩
    conv => whnf
    exact fin_spl (p := (acc, k)) (by rw [← hk]; simp)
  have h3 : (openP (l.drop k)).2.2 = 0 := by simpa using h3
  have hol := open_len h3
  rw [List.length_drop] at hol
  rw [split_ok h3, List.drop_drop] at hk
  conv => whnf
  refine ⟨by simp; omega, ?_⟩
  have hw : IntKind.i64.wrap ((k : Int) + ((openP (l.drop k)).2.1 : Nat)) = ((k + (openP (l.drop k)).2.1 : Nat) : Int) := by rw [IntWalk.i64_in _ (by omega)]; omega
  conv => whnf
  refine ⟨(k + (openP (l.drop k)).2.1, acc ++ [(openP (l.drop k)).1]), ⟨by omega, by simp; omega, by rw [← hk]; simp [Nat.add_assoc]⟩, by dsimp only; omega, ?_⟩
  refine ⟨rfl, ?_, ?_⟩ <;> repeat' (first | exact trivial | exact rfl | refine and_rfl ?_ | refine and_val hw ?_ | refine and_two ?_ ?_ | (simp [strD]; done))
set_option maxHeartbeats 2000000 in
set_option maxRecDepth 100000 in
theorem x_rsplit (l : Bs) (hl : l.length ≤ 4398046511104) : DCalls Tryz.prog 67 [bstr l] (splV (splitP l)) := by
  refine sx Tryz.func67 (by kernel_rfl) ?_
  generalize hR : splitP l = R
  conv => whnf
  refine ⟨[(4, 24, 9, 1)], Nat × List Bs, fun ⟨k, acc⟩ => [(5, int k), (4, .ow 24 0)], fun ⟨k, acc⟩ => [(24, some (.row 0 9 1 true (acc.map strD)))], fun ⟨k, acc⟩ => k ≤ l.length ∧ acc.length ≤ k ∧ (acc ++ (splitP (l.drop k)).1, k + (splitP (l.drop k)).2) = R, fun x => l.length - x.1, (0, []), ⟨by omega, by simp, by rw [List.drop_zero, hR]; simp⟩, ?_, ?_⟩
  · refine ⟨rfl, ?_, ?_⟩ <;> repeat' (first | exact trivial | exact rfl | refine and_rfl ?_ | refine and_two ?_ ?_)
  rintro ⟨k, acc⟩ ⟨hk1, hk2, hk⟩
  conv => whnf
  refine ⟨by omega, by rw [mk_size]; omega, by omega, ?_⟩
  rw [mkF]
  conv => whnf
  refine ⟨_, x_ropen (l.drop k) (by rw [List.length_drop]; omega), ?_⟩
  conv => whnf
  rintro (_ | _) h3
  rotate_left
  · have h3 : (openP (l.drop k)).2.2 ≠ 0 := by simpa using h3
    rw [split_err h3] at hk
    conv => whnf
    exact fin_spl (p := (acc, k)) (by rw [← hk]; simp)
  have h3 : (openP (l.drop k)).2.2 = 0 := by simpa using h3
  have hol := open_len h3
  rw [List.length_drop] at hol
  rw [split_ok h3, List.drop_drop] at hk
  conv => whnf
  refine ⟨by simp; omega, ?_⟩
  have hw : IntKind.i64.wrap ((k : Int) + ((openP (l.drop k)).2.1 : Nat)) = ((k + (openP (l.drop k)).2.1 : Nat) : Int) := by rw [IntWalk.i64_in _ (by omega)]; omega
  conv => whnf
  refine ⟨(k + (openP (l.drop k)).2.1, acc ++ [(openP (l.drop k)).1]), ⟨by omega, by simp; omega, by rw [← hk]; simp [Nat.add_assoc]⟩, by dsimp only; omega, ?_⟩
  refine ⟨rfl, ?_, ?_⟩ <;> repeat' (first | exact trivial | exact rfl | refine and_rfl ?_ | refine and_val hw ?_ | refine and_two ?_ ?_ | (simp [strD]; done))
end Go.Proofs.YtkpmlgpkmlhbjaaGreatDoor
namespace Go.Proofs.YtkpmlgpkmlhbjaaGreatDoor
open Go.RowKit
def joinB : List Bs → Bs → Bs × Int
  | [], acc => (acc, 0)
  | b :: l, acc => if b.length > 262136 ∨ acc.length + (8 + b.length) > 262144 then ([], 3) else joinB l (acc ++ (four b.length ++ (four (crc b) ++ b)))
def joinF (l : List Bs) : Bs × Int := joinB l []
theorem seal_ok {b : Bs} (h : b.length ≤ 262136) : sealP b = (four b.length ++ (four (crc b) ++ b), 0) := by unfold sealP; rw [if_neg (by omega)]
theorem seal_err {b : Bs} (h : b.length > 262136) : sealP b = ([], 3) := by unfold sealP; rw [if_pos h]
theorem frame_len (b : Bs) : (four b.length ++ (four (crc b) ++ b)).length = 8 + b.length := by simp [four_len]; omega
def tot : List Bs → Nat
  | [] => 0
  | b :: l => 8 + b.length + tot l
def frames : List Bs → Bs
  | [] => []
  | b :: l => (four b.length ++ (four (crc b) ++ b)) ++ frames l
theorem frames_app : ∀ (a b : List Bs), frames (a ++ b) = frames a ++ frames b
  | [], b => rfl
  | x :: a, b => by simp only [List.cons_append, frames, frames_app a b, List.append_assoc]
theorem tot_app : ∀ (a b : List Bs), tot (a ++ b) = tot a + tot b
  | [], b => by simp [tot]
  | x :: a, b => by simp only [List.cons_append, tot, tot_app a b]; omega
theorem frames_len : ∀ l : List Bs, (frames l).length = tot l
  | [] => rfl
  | b :: l => by simp only [frames, tot, List.length_append, frames_len l]; have := frame_len b; simp only [List.length_append] at this; omega
theorem joinB_eq : ∀ (l : List Bs) (acc : Bs), joinB l acc = if acc.length + tot l > 262144 ∧ l ≠ [] then ([], 3) else (acc ++ frames l, 0)
  | [], acc => by simp [joinB, frames]
  | b :: l, acc => by
    unfold joinB
    by_cases h : b.length > 262136 ∨ acc.length + (8 + b.length) > 262144
    · rw [if_pos h, if_pos ⟨by unfold tot; omega, by simp⟩]
    · rw [if_neg h, joinB_eq l]
      rw [List.length_append, frame_len]
      by_cases h2 : acc.length + (8 + b.length) + tot l > 262144 ∧ l ≠ []
      · rw [if_pos h2, if_pos ⟨by unfold tot; omega, by simp⟩]
      · rw [if_neg h2]
        have : ¬ (acc.length + tot (b :: l) > 262144 ∧ b :: l ≠ []) := by
          rintro ⟨h3, _⟩
          unfold tot at h3
          apply h2
          refine ⟨by omega, ?_⟩
          rintro rfl
          simp only [tot] at h3
          omega
        rw [if_neg this, frames, List.append_assoc]
theorem joinF_eq (l : List Bs) : joinF l = if tot l > 262144 then ([], 3) else (frames l, 0) := by
  unfold joinF
  rw [joinB_eq]
  by_cases h : tot l > 262144
  · rw [if_pos h, if_pos ⟨by simpa using h, by rintro rfl; simp [tot] at h⟩]
  · rw [if_neg h, if_neg (by simp; omega)]; rfl
set_option maxHeartbeats 2000000 in
set_option maxRecDepth 100000 in
theorem x_join4 (l : List Bs) (hl : l.length ≤ 8796093022207) (hb : ∀ b ∈ l, b.length ≤ 140737488355328) : DCalls Tryz.prog 43 [strsV l] (teV (joinF l)) := by
  refine sxm [(1000009, false)] Tryz.func43 (by kernel_rfl) ?_
  generalize hR : joinF l = R
  have hR : joinB l [] = R := hR
  conv => whnf
  refine ⟨[(4, 32, 5, 1)], Nat × Bs, fun ⟨k, acc⟩ => [(11, int k), (4, .ow 32 0)], fun ⟨k, acc⟩ => [(32, some (.row 0 5 1 true (acc.map byteD)))], fun ⟨k, acc⟩ => k ≤ l.length ∧ acc.length ≤ 262144 ∧ joinB (l.drop k) acc = R, fun x => l.length - x.1, (0, []), ⟨by omega, by simp, hR⟩, ?_, ?_⟩
  · refine ⟨rfl, ?_, ?_⟩ <;> repeat' (first | exact trivial | exact rfl | refine and_rfl ?_ | refine and_two ?_ ?_)
  rintro ⟨k, acc⟩ ⟨hk1, hk2, hk⟩
  conv => whnf
  rintro (_ | _) h2
  · have h2 : l.length ≤ k := by simp at h2; omega
    rw [List.drop_eq_nil_of_le h2] at hk
    subst hk
    conv => whnf
    refine ⟨_, _, ot_string (l := acc) (e := 5) rfl rfl rfl (by kernel_rfl) (by kernel_rfl) (by kernel_rfl), ?_⟩
    (conv => whnf) <;> rfl
  have h2 : k < l.length := by simp at h2; omega
  rw [List.drop_eq_getElem_cons h2] at hk
  have hbk := hb l[k] (List.getElem_mem h2)
  conv => whnf
  refine ⟨by omega, _, get_map strD h2, ?_⟩
  conv => whnf
  refine ⟨_, x_seal l[k] hbk, ?_⟩
  unfold joinB at hk
  generalize l[k] = b at *
  by_cases h3 : b.length > 262136
  · rw [if_pos (.inl h3)] at hk
    subst hk
    rw [seal_err h3]
    conv => whnf
    refine known true rfl ?_
    (conv => whnf) <;> rfl
  have hfl := frame_len b
  rw [seal_ok (by omega)]
  generalize four b.length ++ (four (crc b) ++ b) = s at *
  conv => whnf
  refine known false rfl ?_
  have hw : IntKind.i64.wrap ((((acc.map byteD).length : Nat) : Int) + (((mk s).size : Nat) : Int)) = ((acc.length + s.length : Nat) : Int) := by rw [mk_size, List.length_map, IntWalk.i64_in _ (by omega)]; omega
  conv => whnf
  rw [hw]
  rintro (_ | _) h4
  rotate_left
  · have h4 : acc.length + s.length > 262144 := by simp at h4; omega
    rw [if_pos (.inr (by omega))] at hk
    subst hk
    (conv => whnf) <;> rfl
  have h4 : acc.length + s.length ≤ 262144 := by simp at h4; omega
  rw [if_neg (by omega)] at hk
  conv => whnf
  refine ⟨_, _, ot_appendS (l := acc) (s := mk s) rfl rfl rfl rfl rfl rfl rfl (by kernel_rfl) (by kernel_rfl) (by kernel_rfl) (by rw [mk_size]; omega), ?_⟩
  conv => whnf
  refine ⟨(k + 1, acc ++ s), ⟨h2, by rw [List.length_append]; omega, hk⟩, by dsimp only; omega, ?_⟩
  refine ⟨rfl, ?_, ?_⟩ <;> repeat' (first | exact trivial | exact rfl | refine and_rfl ?_ | refine and_val (wrap_succ (by omega)) ?_ | refine and_two ?_ ?_)
set_option maxHeartbeats 2000000 in
set_option maxRecDepth 100000 in
theorem x_rjoin4 (l : List Bs) (hl : l.length ≤ 8796093022207) (hb : ∀ b ∈ l, b.length ≤ 140737488355328) : DCalls Tryz.prog 46 [strsV l] (teV (joinF l)) := by
  refine sxm [(1000009, false)] Tryz.func46 (by kernel_rfl) ?_
  rw [joinF_eq]
  conv => whnf
  refine ⟨[], Nat × Nat, fun ⟨k, z⟩ => [(12, int k), (4, int z)], fun _ => [], fun ⟨k, z⟩ => k ≤ l.length ∧ z ≤ 262144 ∧ z = tot (l.take k) ∧ z + tot (l.drop k) = tot l ∧ ∀ b ∈ l.take k, b.length ≤ 262136, fun x => l.length - x.1, (0, 0), ⟨by omega, by omega, rfl, by simp, by simp⟩, ?_, ?_⟩
  · refine ⟨rfl, ?_, ?_⟩ <;> repeat' (first | exact trivial | exact rfl | refine and_rfl ?_ | refine and_two ?_ ?_)
  rintro ⟨k, z⟩ ⟨hk1, hz, hk, hk', hks⟩
  conv => whnf
  rintro (_ | _) h2
  rotate_left
  · have h2 : k < l.length := by simp at h2; omega
    rw [List.drop_eq_getElem_cons h2] at hk'
    simp only [tot] at hk'
    have hbk := hb l[k] (List.getElem_mem h2)
    have hT : l.take (k + 1) = l.take k ++ [l[k]] := List.take_succ_eq_append_getElem h2
    have hg := get_map strD h2
    generalize l[k] = b at *
    conv => whnf
    refine ⟨by omega, _, hg, ?_⟩
    conv => whnf
    rintro (_ | _) h3
    rotate_left
    · have h3 : b.length > 262136 := by simp [mk_size] at h3; omega
      rw [if_pos (by omega)]
      (conv => whnf) <;> rfl
    have h3 : b.length ≤ 262136 := by simp [mk_size] at h3; omega
    have hw : IntKind.i64.wrap (IntKind.i64.wrap ((z : Int) + 8) + (((mk b).size : Nat) : Int)) = ((z + 8 + b.length : Nat) : Int) := by rw [mk_size, IntWalk.i64_in ((z : Int) + 8) (by omega), IntWalk.i64_in _ (by omega)]; omega
    conv => whnf
    refine ⟨by omega, _, hg, ?_⟩
    conv => whnf
    rw [hw]
    rintro (_ | _) h4
    rotate_left
    · have h4 : z + 8 + b.length > 262144 := by simp at h4; omega
      rw [if_pos (by omega)]
      (conv => whnf) <;> rfl
    have h4 : z + 8 + b.length ≤ 262144 := by simp at h4; omega
    conv => whnf
    refine ⟨by omega, _, hg, ?_⟩
    conv => whnf
    refine ⟨(k + 1, z + 8 + b.length), ⟨h2, h4, by rw [hT, tot_app, ← hk]; simp only [tot]; omega, by omega, by
      intro c hc
      rw [hT] at hc
      rcases List.mem_append.1 hc with hc | hc
      · exact hks c hc
      · rw [List.mem_singleton.1 hc]; exact h3⟩, by dsimp only; omega, ?_⟩
    refine ⟨rfl, ?_, ?_⟩ <;> repeat' (first | exact trivial | exact rfl | refine and_rfl ?_ | refine and_val (wrap_succ (by omega)) ?_ | refine and_val hw ?_ | refine and_two ?_ ?_)
  have h2 : l.length ≤ k := by simp at h2; omega
  rw [List.drop_eq_nil_of_le h2] at hk'
  rw [List.take_of_length_le h2] at hk hks
  simp only [tot, Nat.add_zero] at hk'
  rw [if_neg (by omega)]
  clear h2
  have hbyte : ∃ i, Tryz.prog.info? 5 = some i ∧ i.zero = some (.int .u8 0) ∧ i.size = 1 ∧ i.bytes = 1 := byteInfo
  obtain ⟨i8, s1, s2, s3, s4⟩ := hbyte
  conv => whnf
  refine ⟨_, _, ot_make0 (n := z) (sz := 1) (dst := 42) (e := 5) rfl rfl rfl rfl rfl (by kernel_rfl) s1 s2 s3 (by omega) (by rw [s4]; omega) (by omega), ?_⟩
  conv => whnf
  refine ⟨[], Nat, fun k => [(45, int k), (6, .ow 42 0), (42, .un)], fun k => [(42, some (.row 0 5 1 true ((frames (l.take k)).map byteD)))], fun k => k ≤ l.length ∧ (frames (l.take k)).length ≤ z, fun k => l.length - k, 0, ⟨by omega, by simp [frames]⟩, ?_, ?_⟩
  · refine ⟨rfl, ?_, ?_⟩ <;> repeat' (first | exact trivial | exact rfl | refine and_rfl ?_ | refine and_two ?_ ?_)
  rintro k ⟨hq1, hq2⟩
  conv => whnf
  rintro (_ | _) h2
  · have h2 : l.length ≤ k := by simp at h2; omega
    rw [List.take_of_length_le h2]
    conv => whnf
    refine ⟨_, _, ot_string (l := frames l) (e := 5) rfl rfl rfl (by kernel_rfl) (by kernel_rfl) (by kernel_rfl), ?_⟩
    (conv => whnf) <;> rfl
  have h2 : k < l.length := by simp at h2; omega
  have hbk := hb l[k] (List.getElem_mem h2)
  have hbs := hks l[k] (List.getElem_mem h2)
  have hT : l.take (k + 1) = l.take k ++ [l[k]] := List.take_succ_eq_append_getElem h2
  have hF : frames (l.take (k + 1)) = frames (l.take k) ++ (four l[k].length ++ (four (crc l[k]) ++ l[k])) := by rw [hT, frames_app]; simp [frames]
  have hFl : (frames (l.take (k + 1))).length ≤ z := by
    rw [frames_len, hk]
    have := tot_app (l.take (k + 1)) (l.drop (k + 1))
    rw [List.take_append_drop] at this
    omega
  conv => whnf
  refine ⟨by omega, _, get_map strD h2, ?_⟩
  conv => whnf
  refine ⟨_, x_rseal l[k] hbk, ?_⟩
  rw [seal_ok hbs]
  rw [hF] at hFl
  generalize four l[k].length ++ (four (crc l[k]) ++ l[k]) = s at *
  rw [List.length_append] at hFl
  generalize hA : frames (l.take k) = A at *
  conv => whnf
  refine ⟨_, _, ot_appendS (l := A) (s := mk s) rfl rfl rfl rfl rfl rfl rfl (by kernel_rfl) (by kernel_rfl) (by kernel_rfl) (by rw [mk_size]; omega), ?_⟩
  conv => whnf
  refine ⟨k + 1, ⟨h2, by rw [hF, List.length_append]; omega⟩, by dsimp only; omega, ?_⟩
  refine ⟨rfl, ?_, ?_⟩ <;> repeat' (first | exact trivial | exact rfl | refine and_rfl ?_ | refine and_val (wrap_succ (by omega)) ?_ | refine and_two ?_ ?_ | (rw [hF]; rfl))
end Go.Proofs.YtkpmlgpkmlhbjaaGreatDoor
