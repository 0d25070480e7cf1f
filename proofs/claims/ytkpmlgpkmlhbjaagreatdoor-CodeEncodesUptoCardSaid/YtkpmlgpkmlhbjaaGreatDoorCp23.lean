/- Texts joined by pack.py: XLx28 -/
import Derived.Test.YtkpmlgpkmlhbjaaGreatDoorCp21
namespace Go.Proofs.YtkpmlgpkmlhbjaaGreatDoor
open Go.RowKit
theorem x_rrun0 (l : Bs) (hl : l.length ≤ 281474976710656) : DCalls Tryz.prog 146 [bstr l, int 0] (int (runL l : Nat)) := by
  have := x_rrun l 0 (Nat.zero_le _) (by omega)
  rw [List.drop_zero, Nat.zero_add] at this
  exact this
theorem lenP (l : Bs) {b : Bool} (h : decide ((((mk l).size : Nat) : Int) > 0) = b) : l.isEmpty = !b := by
  rw [mk_size] at h; rw [← h]; cases l <;> simp
theorem fin_te5 {t : Tok} {a : Bs} {e : Int} (h : textT t = (34 :: (a ++ [34]), e)) : V.tu [bstr (34 :: (a ++ [34])), int e] = teV (textT t) := by rw [h]
theorem x_rformat' (v : Int) (h0 : 0 ≤ v) (h : validB v = true) : DCalls Tryz.prog 52 [int v] (bstr (Lib.itoa v)) := by
  obtain ⟨n, rfl⟩ : ∃ n : Nat, v = n := ⟨v.toNat, by omega⟩
  exact x_rformat n (by unfold validB at h; simp at h; omega)
theorem len200 (l : Bs) {b : Bool} (h : decide (l.length ≤ 200) = b) (ho : okB l = true) : contB l = b := by rw [contB_okB, ho, h]; simp
set_option maxHeartbeats 4000000 in
set_option maxRecDepth 100000 in
theorem xr_name (l : Bs) (v a : Int) (hl : l.length ≤ 281474976710656) : DCalls Tryz.prog 116 [(⟨1, l, v, a⟩ : Tok).V] (teV (textT ⟨1, l, v, a⟩)) := by
  refine sx Tryz.func116 (by kernel_rfl) ?_
  conv => whnf
  refine known true rfl ?_
  conv => whnf
  rintro (_ | _) v0
  rotate_left
  · have v0 : v ≠ 0 := by simpa using v0
    conv => whnf
    exact fin_te1 (by rw [te_name]; simp [v0])
  have v0 : v = 0 := by simpa using v0
  conv => whnf
  refine ⟨none, by kernel_rfl, ?_⟩
  conv => whnf
  rintro (_ | _) w1
  · conv => whnf
    refine known true rfl ?_
    conv => whnf
    refine known false rfl ?_
    conv => whnf
    refine known false rfl ?_
    conv => whnf
    refine known false rfl ?_
    conv => whnf
    refine known false rfl ?_
    conv => whnf
    refine known false rfl ?_
    conv => whnf
    exact fin_te1 (by rw [te_name]; simp [v0, wholeB, lenP l w1])
  conv => whnf
  rw [lenB]
  rintro (_ | _) w2
  · conv => whnf
    refine known true rfl ?_
    conv => whnf
    refine known false rfl ?_
    conv => whnf
    refine known false rfl ?_
    conv => whnf
    refine known false rfl ?_
    conv => whnf
    refine known false rfl ?_
    conv => whnf
    refine known false rfl ?_
    conv => whnf
    exact fin_te1 (by rw [te_name]; simp [v0, wholeB, w2])
  conv => whnf
  refine ⟨_, x_rrun0 l hl, ?_⟩
  conv => whnf
  refine known true rfl ?_
  conv => whnf
  rintro (_ | _) w3
  · conv => whnf
    refine known false rfl ?_
    conv => whnf
    refine known false rfl ?_
    conv => whnf
    refine known false rfl ?_
    conv => whnf
    refine known false rfl ?_
    conv => whnf
    refine known false rfl ?_
    conv => whnf
    exact fin_te1 (by rw [te_name]; simp [v0, wholeB, runB l w3])
  conv => whnf
  refine ⟨_, x_rkeywordL l, ?_⟩
  conv => whnf
  rintro (_ | _) i4
  · have i4 : kwL l = true := by simpa using i4
    conv => whnf
    refine known false rfl ?_
    conv => whnf
    refine known false rfl ?_
    conv => whnf
    refine known false rfl ?_
    conv => whnf
    refine known false rfl ?_
    conv => whnf
    refine known false rfl ?_
    conv => whnf
    exact fin_te1 (by rw [te_name]; simp [v0, i4])
  have i4 : kwL l = false := by simpa using i4
  conv => whnf
  exact fin_te1 (by rw [te_name]; simp [v0, wholeB, lenP l w1, w2, runB l w3, i4])
set_option maxHeartbeats 4000000 in
set_option maxRecDepth 100000 in
theorem xr_word (l : Bs) (v a : Int) (hl : l.length ≤ 281474976710656) : DCalls Tryz.prog 116 [(⟨2, l, v, a⟩ : Tok).V] (teV (textT ⟨2, l, v, a⟩)) := by
  refine sx Tryz.func116 (by kernel_rfl) ?_
  conv => whnf
  refine known true rfl ?_
  conv => whnf
  rintro (_ | _) v0
  rotate_left
  · have v0 : v ≠ 0 := by simpa using v0
    conv => whnf
    exact fin_te1 (by rw [te_word]; simp [v0])
  have v0 : v = 0 := by simpa using v0
  conv => whnf
  refine ⟨none, by kernel_rfl, ?_⟩
  conv => whnf
  rintro (_ | _) w1
  · conv => whnf
    refine known false rfl ?_
    conv => whnf
    refine known true rfl ?_
    conv => whnf
    refine ⟨_, x_rkeywordL l, ?_⟩
    conv => whnf
    rintro (_ | _) i4
    · conv => whnf
      refine known false rfl ?_
      conv => whnf
      refine known false rfl ?_
      conv => whnf
      refine known false rfl ?_
      conv => whnf
      refine known false rfl ?_
      conv => whnf
      exact fin_te1 (by rw [te_word]; simp [v0, i4])
    conv => whnf
    exact fin_te1 (by rw [te_word]; simp [v0, i4])
  conv => whnf
  rw [lenB]
  rintro (_ | _) w2
  · conv => whnf
    refine known false rfl ?_
    conv => whnf
    refine known true rfl ?_
    conv => whnf
    refine ⟨_, x_rkeywordL l, ?_⟩
    conv => whnf
    rintro (_ | _) i4
    · conv => whnf
      refine known false rfl ?_
      conv => whnf
      refine known false rfl ?_
      conv => whnf
      refine known false rfl ?_
      conv => whnf
      refine known false rfl ?_
      conv => whnf
      exact fin_te1 (by rw [te_word]; simp [v0, i4])
    conv => whnf
    exact fin_te1 (by rw [te_word]; simp [v0, i4])
  conv => whnf
  refine ⟨_, x_rrun0 l hl, ?_⟩
  conv => whnf
  refine known false rfl ?_
  conv => whnf
  refine known true rfl ?_
  conv => whnf
  refine ⟨_, x_rkeywordL l, ?_⟩
  conv => whnf
  rintro (_ | _) i4
  · conv => whnf
    refine known false rfl ?_
    conv => whnf
    refine known false rfl ?_
    conv => whnf
    refine known false rfl ?_
    conv => whnf
    refine known false rfl ?_
    conv => whnf
    exact fin_te1 (by rw [te_word]; simp [v0, i4])
  conv => whnf
  exact fin_te1 (by rw [te_word]; simp [v0, i4])
set_option maxHeartbeats 4000000 in
set_option maxRecDepth 100000 in
theorem xr_int (l : Bs) (v a : Int) (hl : l.length ≤ 281474976710656) : DCalls Tryz.prog 116 [(⟨3, l, v, a⟩ : Tok).V] (teV (textT ⟨3, l, v, a⟩)) := by
  refine sx Tryz.func116 (by kernel_rfl) ?_
  conv => whnf
  refine known false rfl ?_
  conv => whnf
  refine ⟨none, by kernel_rfl, ?_⟩
  conv => whnf
  rintro (_ | _) w1
  · conv => whnf
    refine known false rfl ?_
    conv => whnf
    refine known false rfl ?_
    conv => whnf
    refine known false rfl ?_
    conv => whnf
    refine known false rfl ?_
    conv => whnf
    refine known true rfl ?_
    conv => whnf
    rintro (_ | _) i1
    · conv => whnf
      refine known false rfl ?_
      conv => whnf
      exact fin_te1 (by rw [te_int]; simp [eq_nil' l i1])
    conv => whnf
    rintro (_ | _) i2
    · have i2 : ¬ 0 ≤ v := by simpa using i2
      conv => whnf
      refine known false rfl ?_
      conv => whnf
      exact fin_te1 (by rw [te_int]; simp [i2])
    have i2 : 0 ≤ v := by simpa using i2
    conv => whnf
    refine ⟨_, x_rvalid v, ?_⟩
    conv => whnf
    rintro (_ | _) i3
    · conv => whnf
      refine known false rfl ?_
      conv => whnf
      exact fin_te1 (by rw [te_int]; simp [i3])
    conv => whnf
    refine ⟨_, x_rformat' v i2 i3, ?_⟩
    conv => whnf
    exact fin_te1 (by rw [te_int]; simp [eq_nil' l i1, i2, i3])
  conv => whnf
  rw [lenB]
  rintro (_ | _) w2
  · conv => whnf
    refine known false rfl ?_
    conv => whnf
    refine known false rfl ?_
    conv => whnf
    refine known false rfl ?_
    conv => whnf
    refine known false rfl ?_
    conv => whnf
    refine known true rfl ?_
    conv => whnf
    rintro (_ | _) i1
    · conv => whnf
      refine known false rfl ?_
      conv => whnf
      exact fin_te1 (by rw [te_int]; simp [eq_nil' l i1])
    conv => whnf
    rintro (_ | _) i2
    · have i2 : ¬ 0 ≤ v := by simpa using i2
      conv => whnf
      refine known false rfl ?_
      conv => whnf
      exact fin_te1 (by rw [te_int]; simp [i2])
    have i2 : 0 ≤ v := by simpa using i2
    conv => whnf
    refine ⟨_, x_rvalid v, ?_⟩
    conv => whnf
    rintro (_ | _) i3
    · conv => whnf
      refine known false rfl ?_
      conv => whnf
      exact fin_te1 (by rw [te_int]; simp [i3])
    conv => whnf
    refine ⟨_, x_rformat' v i2 i3, ?_⟩
    conv => whnf
    exact fin_te1 (by rw [te_int]; simp [eq_nil' l i1, i2, i3])
  conv => whnf
  refine ⟨_, x_rrun0 l hl, ?_⟩
  conv => whnf
  refine known false rfl ?_
  conv => whnf
  refine known false rfl ?_
  conv => whnf
  refine known false rfl ?_
  conv => whnf
  refine known false rfl ?_
  conv => whnf
  refine known true rfl ?_
  conv => whnf
  rintro (_ | _) i1
  · conv => whnf
    refine known false rfl ?_
    conv => whnf
    exact fin_te1 (by rw [te_int]; simp [eq_nil' l i1])
  conv => whnf
  rintro (_ | _) i2
  · have i2 : ¬ 0 ≤ v := by simpa using i2
    conv => whnf
    refine known false rfl ?_
    conv => whnf
    exact fin_te1 (by rw [te_int]; simp [i2])
  have i2 : 0 ≤ v := by simpa using i2
  conv => whnf
  refine ⟨_, x_rvalid v, ?_⟩
  conv => whnf
  rintro (_ | _) i3
  · conv => whnf
    refine known false rfl ?_
    conv => whnf
    exact fin_te1 (by rw [te_int]; simp [i3])
  conv => whnf
  refine ⟨_, x_rformat' v i2 i3, ?_⟩
  conv => whnf
  exact fin_te1 (by rw [te_int]; simp [eq_nil' l i1, i2, i3])
set_option maxHeartbeats 4000000 in
set_option maxRecDepth 100000 in
theorem xr_str (l : Bs) (v a : Int) (hl : l.length ≤ 281474976710656) : DCalls Tryz.prog 116 [(⟨4, l, v, a⟩ : Tok).V] (teV (textT ⟨4, l, v, a⟩)) := by
  refine sx Tryz.func116 (by kernel_rfl) ?_
  conv => whnf
  refine known true rfl ?_
  conv => whnf
  rintro (_ | _) v0
  rotate_left
  · have v0 : v ≠ 0 := by simpa using v0
    conv => whnf
    exact fin_te1 (by rw [te_str]; simp [v0])
  have v0 : v = 0 := by simpa using v0
  conv => whnf
  refine ⟨none, by kernel_rfl, ?_⟩
  conv => whnf
  rintro (_ | _) w1
  · conv => whnf
    refine known false rfl ?_
    conv => whnf
    refine known false rfl ?_
    conv => whnf
    refine known false rfl ?_
    conv => whnf
    refine known false rfl ?_
    conv => whnf
    refine known false rfl ?_
    conv => whnf
    refine known true rfl ?_
    have hq := x_quoted l hl
    unfold qV at hq
    cases ho : okB l with
    | false =>
      rw [if_neg (by simp [ho])] at hq
      conv => whnf
      refine ⟨_, hq, ?_⟩
      conv => whnf
      refine known false rfl ?_
      conv => whnf
      exact fin_te1 (by rw [te_str]; simp [v0, contB_okB, ho])
    | true =>
      rw [if_pos ho] at hq
      conv => whnf
      refine ⟨_, hq, ?_⟩
      conv => whnf
      rintro (_ | _) i5
      · conv => whnf
        exact fin_te1 (by rw [te_str]; simp [v0, len200 l i5 ho])
      conv => whnf
      exact fin_te5 (by rw [te_str]; simp [v0, len200 l i5 ho])
  conv => whnf
  rw [lenB]
  rintro (_ | _) w2
  · conv => whnf
    refine known false rfl ?_
    conv => whnf
    refine known false rfl ?_
    conv => whnf
    refine known false rfl ?_
    conv => whnf
    refine known false rfl ?_
    conv => whnf
    refine known false rfl ?_
    conv => whnf
    refine known true rfl ?_
    have hq := x_quoted l hl
    unfold qV at hq
    cases ho : okB l with
    | false =>
      rw [if_neg (by simp [ho])] at hq
      conv => whnf
      refine ⟨_, hq, ?_⟩
      conv => whnf
      refine known false rfl ?_
      conv => whnf
      exact fin_te1 (by rw [te_str]; simp [v0, contB_okB, ho])
    | true =>
      rw [if_pos ho] at hq
      conv => whnf
      refine ⟨_, hq, ?_⟩
      conv => whnf
      rintro (_ | _) i5
      · conv => whnf
        exact fin_te1 (by rw [te_str]; simp [v0, len200 l i5 ho])
      conv => whnf
      exact fin_te5 (by rw [te_str]; simp [v0, len200 l i5 ho])
  conv => whnf
  refine ⟨_, x_rrun0 l hl, ?_⟩
  conv => whnf
  refine known false rfl ?_
  conv => whnf
  refine known false rfl ?_
  conv => whnf
  refine known false rfl ?_
  conv => whnf
  refine known false rfl ?_
  conv => whnf
  refine known false rfl ?_
  conv => whnf
  refine known true rfl ?_
  have hq := x_quoted l hl
  unfold qV at hq
  cases ho : okB l with
  | false =>
    rw [if_neg (by simp [ho])] at hq
    conv => whnf
    refine ⟨_, hq, ?_⟩
    conv => whnf
    refine known false rfl ?_
    conv => whnf
    exact fin_te1 (by rw [te_str]; simp [v0, contB_okB, ho])
  | true =>
    rw [if_pos ho] at hq
    conv => whnf
    refine ⟨_, hq, ?_⟩
    conv => whnf
    rintro (_ | _) i5
    · conv => whnf
      exact fin_te1 (by rw [te_str]; simp [v0, len200 l i5 ho])
    conv => whnf
    exact fin_te5 (by rw [te_str]; simp [v0, len200 l i5 ho])
set_option maxHeartbeats 4000000 in
set_option maxRecDepth 100000 in
theorem xr_sym (l : Bs) (v a : Int) (hl : l.length ≤ 281474976710656) : DCalls Tryz.prog 116 [(⟨5, l, v, a⟩ : Tok).V] (teV (textT ⟨5, l, v, a⟩)) := by
  refine sx Tryz.func116 (by kernel_rfl) ?_
  conv => whnf
  refine known true rfl ?_
  conv => whnf
  rintro (_ | _) v0
  rotate_left
  · have v0 : v ≠ 0 := by simpa using v0
    conv => whnf
    exact fin_te1 (by rw [te_sym]; simp [v0])
  have v0 : v = 0 := by simpa using v0
  conv => whnf
  refine ⟨none, by kernel_rfl, ?_⟩
  conv => whnf
  rintro (_ | _) w1
  · conv => whnf
    refine known false rfl ?_
    conv => whnf
    refine known false rfl ?_
    conv => whnf
    refine known true rfl ?_
    conv => whnf
    refine ⟨_, x_rsymbol l (by omega), ?_⟩
    conv => whnf
    rintro (_ | _) i4
    · conv => whnf
      refine known false rfl ?_
      conv => whnf
      refine known false rfl ?_
      conv => whnf
      refine known false rfl ?_
      conv => whnf
      exact fin_te1 (by rw [te_sym]; simp [v0, i4])
    conv => whnf
    exact fin_te1 (by rw [te_sym]; simp [v0, i4])
  conv => whnf
  rw [lenB]
  rintro (_ | _) w2
  · conv => whnf
    refine known false rfl ?_
    conv => whnf
    refine known false rfl ?_
    conv => whnf
    refine known true rfl ?_
    conv => whnf
    refine ⟨_, x_rsymbol l (by omega), ?_⟩
    conv => whnf
    rintro (_ | _) i4
    · conv => whnf
      refine known false rfl ?_
      conv => whnf
      refine known false rfl ?_
      conv => whnf
      refine known false rfl ?_
      conv => whnf
      exact fin_te1 (by rw [te_sym]; simp [v0, i4])
    conv => whnf
    exact fin_te1 (by rw [te_sym]; simp [v0, i4])
  conv => whnf
  refine ⟨_, x_rrun0 l hl, ?_⟩
  conv => whnf
  refine known false rfl ?_
  conv => whnf
  refine known false rfl ?_
  conv => whnf
  refine known true rfl ?_
  conv => whnf
  refine ⟨_, x_rsymbol l (by omega), ?_⟩
  conv => whnf
  rintro (_ | _) i4
  · conv => whnf
    refine known false rfl ?_
    conv => whnf
    refine known false rfl ?_
    conv => whnf
    refine known false rfl ?_
    conv => whnf
    exact fin_te1 (by rw [te_sym]; simp [v0, i4])
  conv => whnf
  exact fin_te1 (by rw [te_sym]; simp [v0, i4])
set_option maxHeartbeats 4000000 in
set_option maxRecDepth 100000 in
theorem xr_host (l : Bs) (v a : Int) (hl : l.length ≤ 281474976710656) : DCalls Tryz.prog 116 [(⟨6, l, v, a⟩ : Tok).V] (teV (textT ⟨6, l, v, a⟩)) := by
  refine sx Tryz.func116 (by kernel_rfl) ?_
  conv => whnf
  refine known true rfl ?_
  conv => whnf
  rintro (_ | _) v0
  rotate_left
  · have v0 : v ≠ 0 := by simpa using v0
    conv => whnf
    exact fin_te1 (by rw [te_host]; simp [v0])
  have v0 : v = 0 := by simpa using v0
  conv => whnf
  refine ⟨none, by kernel_rfl, ?_⟩
  conv => whnf
  rintro (_ | _) w1
  · conv => whnf
    refine known false rfl ?_
    conv => whnf
    refine known false rfl ?_
    conv => whnf
    refine known false rfl ?_
    conv => whnf
    refine known true rfl ?_
    conv => whnf
    refine known false rfl ?_
    conv => whnf
    refine known false rfl ?_
    conv => whnf
    exact fin_te1 (by rw [te_host]; simp [v0, wholeB, lenP l w1])
  conv => whnf
  rw [lenB]
  rintro (_ | _) w2
  · conv => whnf
    refine known false rfl ?_
    conv => whnf
    refine known false rfl ?_
    conv => whnf
    refine known false rfl ?_
    conv => whnf
    refine known true rfl ?_
    conv => whnf
    refine known false rfl ?_
    conv => whnf
    refine known false rfl ?_
    conv => whnf
    exact fin_te1 (by rw [te_host]; simp [v0, wholeB, w2])
  conv => whnf
  refine ⟨_, x_rrun0 l hl, ?_⟩
  conv => whnf
  refine known false rfl ?_
  conv => whnf
  refine known false rfl ?_
  conv => whnf
  refine known false rfl ?_
  conv => whnf
  refine known true rfl ?_
  conv => whnf
  rintro (_ | _) w3
  · conv => whnf
    refine known false rfl ?_
    conv => whnf
    refine known false rfl ?_
    conv => whnf
    exact fin_te1 (by rw [te_host]; simp [v0, wholeB, runB l w3])
  conv => whnf
  refine ⟨by rw [mk_size, show (⟨#[64]⟩ : ByteArray).size = 1 from rfl]; dsimp only; omega, ?_⟩
  conv => whnf
  exact fin_te2 (by rw [te_host]; simp [v0, wholeB, lenP l w1, w2, runB l w3])
set_option maxHeartbeats 4000000 in
set_option maxRecDepth 100000 in
theorem xr_no (K : Int) (l : Bs) (v a : Int) (hl : l.length ≤ 281474976710656) (hK : K ≠ 1 ∧ K ≠ 2 ∧ K ≠ 3 ∧ K ≠ 4 ∧ K ≠ 5 ∧ K ≠ 6) : DCalls Tryz.prog 116 [(⟨K, l, v, a⟩ : Tok).V] (teV (textT ⟨K, l, v, a⟩)) := by
  refine sx Tryz.func116 (by kernel_rfl) ?_
  conv => whnf
  refine known true (by simp; omega) ?_
  conv => whnf
  rintro (_ | _) v0
  rotate_left
  · have v0 : v ≠ 0 := by simpa using v0
    conv => whnf
    exact fin_te1 (by rw [te_no _ _ _ _ hK])
  have v0 : v = 0 := by simpa using v0
  conv => whnf
  refine ⟨none, by kernel_rfl, ?_⟩
  conv => whnf
  rintro (_ | _) w1
  · conv => whnf
    refine known false (by simp; omega) ?_
    conv => whnf
    refine known false (by simp; omega) ?_
    conv => whnf
    refine known false (by simp; omega) ?_
    conv => whnf
    refine known false (by simp; omega) ?_
    conv => whnf
    refine known false (by simp; omega) ?_
    conv => whnf
    refine known false (by simp; omega) ?_
    conv => whnf
    exact fin_te1 (by rw [te_no _ _ _ _ hK])
  conv => whnf
  rw [lenB]
  rintro (_ | _) w2
  · conv => whnf
    refine known false (by simp; omega) ?_
    conv => whnf
    refine known false (by simp; omega) ?_
    conv => whnf
    refine known false (by simp; omega) ?_
    conv => whnf
    refine known false (by simp; omega) ?_
    conv => whnf
    refine known false (by simp; omega) ?_
    conv => whnf
    refine known false (by simp; omega) ?_
    conv => whnf
    exact fin_te1 (by rw [te_no _ _ _ _ hK])
  conv => whnf
  refine ⟨_, x_rrun0 l hl, ?_⟩
  conv => whnf
  refine known false (by simp; omega) ?_
  conv => whnf
  refine known false (by simp; omega) ?_
  conv => whnf
  refine known false (by simp; omega) ?_
  conv => whnf
  refine known false (by simp; omega) ?_
  conv => whnf
  refine known false (by simp; omega) ?_
  conv => whnf
  refine known false (by simp; omega) ?_
  conv => whnf
  exact fin_te1 (by rw [te_no _ _ _ _ hK])
theorem x_rtextOfG (t : Tok) (hl : t.text.length ≤ 281474976710656) : DCalls Tryz.prog 116 [t.V] (teV (textT t)) := by
  obtain ⟨K, l, v, a⟩ := t
  by_cases h1 : K = 1
  · subst h1; exact xr_name l v a hl
  by_cases h2 : K = 2
  · subst h2; exact xr_word l v a hl
  by_cases h3 : K = 3
  · subst h3; exact xr_int l v a hl
  by_cases h4 : K = 4
  · subst h4; exact xr_str l v a hl
  by_cases h5 : K = 5
  · subst h5; exact xr_sym l v a hl
  by_cases h6 : K = 6
  · subst h6; exact xr_host l v a hl
  exact xr_no K l v a hl ⟨h1, h2, h3, h4, h5, h6⟩
end Go.Proofs.YtkpmlgpkmlhbjaaGreatDoor
