/- Texts joined by pack.py: XLx22 XLx27 XLxP1 XLx24 XLxP2 -/
import Derived.Test.YtglndfgmlminpaaGreatDoorSq20
set_option maxHeartbeats 4000000
set_option maxRecDepth 100000
namespace Go.Proofs.YtglndfgmlminpaaGreatDoor
section
open Go.RowKit
abbrev teV (p : Bs × Int) : V := .tu [bc_ p.1, int p.2]
theorem o3_ (l : Bs) {b : Bool} (h : (!sEq (mk l) (mk [])) = b) : l.isEmpty = !b := by rw [a2_] at h; cases l <;> simp_all
theorem da_ (l : Bs) {b : Bool} (h : sEq (mk l) (mk []) = b) : l.isEmpty = b := by rw [a2_] at h; cases l <;> simp_all
theorem V_ {t : Tok} {a : Bs} {e : Int} (h : aa_ t = (a, e)) : V.tu [bc_ a, int e] = teV (aa_ t) := by rw [h]
theorem fin_te2 {t : Tok} {a : Bs} {e : Int} (h : aa_ t = (64 :: a, e)) : V.tu [.cv (.string (⟨#[64]⟩ ++ mk a)), int e] = teV (aa_ t) := by
 rw [h, show (⟨#[64]⟩ : ByteArray) ++ mk a = mk (64 :: a) from a3_ [64] a]
theorem runB (l : Bs) {b : Bool} (h : (((bk_ l : Nat) : Int) == (((mk l).size : Nat) : Int)) = b) : decide (bk_ l = l.length) = b := by
 rw [P_] at h; rw [← h, z_]; simp; omega
theorem lenB (l : Bs) : decide ((((mk l).size : Nat) : Int) ≤ 24) = decide (l.length ≤ 24) := by rw [P_, z_]; simp; omega
theorem bo_ (l : Bs) (v a : Int) : aa_ ⟨3, l, v, a⟩ = if l.isEmpty = true ∧ 0 ≤ v ∧ en_ v = true then (Lib.itoa v, 0) else ([], 1) := by
 unfold aa_; cases l <;> simp
theorem c8_ (l : Bs) (v a : Int) : aa_ ⟨1, l, v, a⟩ = if v ≠ 0 then ([], 1) else if ba_ l = true ∧ kwL l = false then (l, 0) else ([], 1) := by
 unfold aa_; simp
theorem cm_ (l : Bs) (v a : Int) : aa_ ⟨2, l, v, a⟩ = if v ≠ 0 then ([], 1) else if kwL l = true then (l, 0) else ([], 1) := by
 unfold aa_; simp
theorem dd_ (l : Bs) (v a : Int) : aa_ ⟨4, l, v, a⟩ = if v ≠ 0 then ([], 1) else if cl_ l = true then (34 :: (esc l ++ [34]), 0) else ([], 1) := by
 unfold aa_; simp
theorem dp_ (l : Bs) (v a : Int) : aa_ ⟨5, l, v, a⟩ = if v ≠ 0 then ([], 1) else if kd_ l = true then (l, 0) else ([], 1) := by
 unfold aa_; simp
theorem dh_ (l : Bs) (v a : Int) : aa_ ⟨6, l, v, a⟩ = if v ≠ 0 then ([], 1) else if ba_ l = true then (64 :: l, 0) else ([], 1) := by
 unfold aa_; simp
theorem mk_ (K : Int) (l : Bs) (v a : Int) (h : K ≠ 1 ∧ K ≠ 2 ∧ K ≠ 3 ∧ K ≠ 4 ∧ K ≠ 5 ∧ K ≠ 6) : aa_ ⟨K, l, v, a⟩ = ([], 1) := by
 unfold aa_; simp [h.1, h.2.1, h.2.2.1, h.2.2.2.1, h.2.2.2.2.1, h.2.2.2.2.2]
theorem xt_name (l : Bs) (v a : Int) (hl : l.length ≤ 1000000) (_hv : -9223372036854775808 ≤ v ∧ v ≤ 9223372036854775807) : DCalls Tryz.prog 52 [(⟨1, l, v, a⟩ : Tok).V] (teV (aa_ ⟨1, l, v, a⟩)) := by
 refine sxm [(92, false), (93, false)] Tryz.func52 kR ?_
 conv => whnf
 refine ⟨none, kR, ?_⟩
 conv => whnf
 rintro (_ | _) w1
 ·conv => whnf
  refine kF ?_
  conv => whnf
  rintro (_ | _) v0
  rotate_left
  ·have v0 : v ≠ 0 := by simpa using v0
   conv => whnf
   exact V_ (by rw [c8_]; simp [v0])
  have v0 : v = 0 := by simpa using v0
  conv => whnf
  refine kT ?_
  conv => whnf
  refine kF ?_
  conv => whnf
  refine kF ?_
  conv => whnf
  refine kF ?_
  conv => whnf
  refine kF ?_
  conv => whnf
  exact V_ (by rw [c8_]; simp [v0, ba_, o3_ l w1])
 conv => whnf
 refine ⟨_, mf_ l oM, ?_⟩
 conv => whnf
 rintro (_ | _) w2
 ·conv => whnf
  refine kF ?_
  conv => whnf
  rintro (_ | _) v0
  rotate_left
  ·have v0 : v ≠ 0 := by simpa using v0
   conv => whnf
   exact V_ (by rw [c8_]; simp [v0])
  have v0 : v = 0 := by simpa using v0
  conv => whnf
  refine kT ?_
  conv => whnf
  refine kF ?_
  conv => whnf
  refine kF ?_
  conv => whnf
  refine kF ?_
  conv => whnf
  refine kF ?_
  conv => whnf
  exact V_ (by rw [c8_]; simp [v0, ba_, runB l w2])
 conv => whnf
 refine kF ?_
 conv => whnf
 rintro (_ | _) v0
 rotate_left
 ·have v0 : v ≠ 0 := by simpa using v0
  conv => whnf
  exact V_ (by rw [c8_]; simp [v0])
 have v0 : v = 0 := by simpa using v0
 conv => whnf
 refine kT ?_
 conv => whnf
 rw [lenB]
 rintro (_ | _) w3
 ·conv => whnf
  refine kF ?_
  conv => whnf
  refine kF ?_
  conv => whnf
  refine kF ?_
  conv => whnf
  refine kF ?_
  conv => whnf
  exact V_ (by rw [c8_]; simp [v0, ba_, w3])
 conv => whnf
 refine ⟨_, ef_ l, ?_⟩
 conv => whnf
 rintro (_ | _) i4
 ·have i4 : kwL l = true := by simpa using i4
  conv => whnf
  refine kF ?_
  conv => whnf
  refine kF ?_
  conv => whnf
  refine kF ?_
  conv => whnf
  refine kF ?_
  conv => whnf
  exact V_ (by rw [c8_]; simp [v0, i4])
 have i4 : kwL l = false := by simpa using i4
 conv => whnf
 exact V_ (by rw [c8_]; simp [v0, ba_, o3_ l w1, runB l w2, w3, i4])
theorem xt_word (l : Bs) (v a : Int) (hl : l.length ≤ 1000000) (_hv : -9223372036854775808 ≤ v ∧ v ≤ 9223372036854775807) : DCalls Tryz.prog 52 [(⟨2, l, v, a⟩ : Tok).V] (teV (aa_ ⟨2, l, v, a⟩)) := by
 refine sxm [(92, false), (93, false)] Tryz.func52 kR ?_
 conv => whnf
 refine ⟨none, kR, ?_⟩
 conv => whnf
 rintro (_ | _) w1
 ·conv => whnf
  refine kF ?_
  conv => whnf
  rintro (_ | _) v0
  rotate_left
  ·have v0 : v ≠ 0 := by simpa using v0
   conv => whnf
   exact V_ (by rw [cm_]; simp [v0])
  have v0 : v = 0 := by simpa using v0
  conv => whnf
  refine kF ?_
  conv => whnf
  refine kT ?_
  conv => whnf
  refine ⟨_, ef_ l, ?_⟩
  conv => whnf
  rintro (_ | _) i4
  ·conv => whnf
   refine kF ?_
   conv => whnf
   refine kF ?_
   conv => whnf
   refine kF ?_
   conv => whnf
   exact V_ (by rw [cm_]; simp [v0, i4])
  conv => whnf
  exact V_ (by rw [cm_]; simp [v0, i4])
 conv => whnf
 refine ⟨_, mf_ l oM, ?_⟩
 conv => whnf
 rintro (_ | _) w2
 ·conv => whnf
  refine kF ?_
  conv => whnf
  rintro (_ | _) v0
  rotate_left
  ·have v0 : v ≠ 0 := by simpa using v0
   conv => whnf
   exact V_ (by rw [cm_]; simp [v0])
  have v0 : v = 0 := by simpa using v0
  conv => whnf
  refine kF ?_
  conv => whnf
  refine kT ?_
  conv => whnf
  refine ⟨_, ef_ l, ?_⟩
  conv => whnf
  rintro (_ | _) i4
  ·conv => whnf
   refine kF ?_
   conv => whnf
   refine kF ?_
   conv => whnf
   refine kF ?_
   conv => whnf
   exact V_ (by rw [cm_]; simp [v0, i4])
  conv => whnf
  exact V_ (by rw [cm_]; simp [v0, i4])
 conv => whnf
 refine kF ?_
 conv => whnf
 rintro (_ | _) v0
 rotate_left
 ·have v0 : v ≠ 0 := by simpa using v0
  conv => whnf
  exact V_ (by rw [cm_]; simp [v0])
 have v0 : v = 0 := by simpa using v0
 conv => whnf
 refine kF ?_
 conv => whnf
 refine kT ?_
 conv => whnf
 refine ⟨_, ef_ l, ?_⟩
 conv => whnf
 rintro (_ | _) i4
 ·conv => whnf
  refine kF ?_
  conv => whnf
  refine kF ?_
  conv => whnf
  refine kF ?_
  conv => whnf
  exact V_ (by rw [cm_]; simp [v0, i4])
 conv => whnf
 exact V_ (by rw [cm_]; simp [v0, i4])
theorem xt_int (l : Bs) (v a : Int) (hl : l.length ≤ 1000000) (hv : -9223372036854775808 ≤ v ∧ v ≤ 9223372036854775807) : DCalls Tryz.prog 52 [(⟨3, l, v, a⟩ : Tok).V] (teV (aa_ ⟨3, l, v, a⟩)) := by
 refine sxm [(92, false), (93, false)] Tryz.func52 kR ?_
 conv => whnf
 refine ⟨none, kR, ?_⟩
 conv => whnf
 rintro (_ | _) w1
 ·conv => whnf
  refine kT ?_
  conv => whnf
  rintro (_ | _) i1
  ·conv => whnf
   rintro (_ | _) v0
   rotate_left
   ·conv => whnf
    exact V_ (by rw [bo_]; simp [da_ l i1])
   have v0 : v = 0 := by simpa using v0
   conv => whnf
   refine kF ?_
   conv => whnf
   refine kF ?_
   conv => whnf
   refine kF ?_
   conv => whnf
   refine kF ?_
   conv => whnf
   refine kF ?_
   conv => whnf
   exact V_ (by rw [bo_]; simp [da_ l i1])
  conv => whnf
  rintro (_ | _) i2
  ·have i2 : ¬ 0 ≤ v := by simpa using i2
   conv => whnf
   rintro (_ | _) v0
   rotate_left
   ·conv => whnf
    exact V_ (by rw [bo_]; simp [i2])
   have v0 : v = 0 := by simpa using v0
   conv => whnf
   refine kF ?_
   conv => whnf
   refine kF ?_
   conv => whnf
   refine kF ?_
   conv => whnf
   refine kF ?_
   conv => whnf
   refine kF ?_
   conv => whnf
   exact V_ (by rw [bo_]; simp [i2])
  have i2 : 0 ≤ v := by simpa using i2
  conv => whnf
  refine ⟨_, oa_ v, ?_⟩
  conv => whnf
  rintro (_ | _) i3
  ·conv => whnf
   rintro (_ | _) v0
   rotate_left
   ·conv => whnf
    exact V_ (by rw [bo_]; simp [i3])
   have v0 : v = 0 := by simpa using v0
   conv => whnf
   refine kF ?_
   conv => whnf
   refine kF ?_
   conv => whnf
   refine kF ?_
   conv => whnf
   refine kF ?_
   conv => whnf
   refine kF ?_
   conv => whnf
   exact V_ (by rw [bo_]; simp [i3])
  conv => whnf
  refine ⟨_, of_ v hv.1 hv.2, ?_⟩
  conv => whnf
  exact V_ (by rw [bo_]; simp [da_ l i1, i2, i3])
 conv => whnf
 refine ⟨_, mf_ l oM, ?_⟩
 conv => whnf
 rintro (_ | _) w2
 ·conv => whnf
  refine kT ?_
  conv => whnf
  rintro (_ | _) i1
  ·conv => whnf
   rintro (_ | _) v0
   rotate_left
   ·conv => whnf
    exact V_ (by rw [bo_]; simp [da_ l i1])
   have v0 : v = 0 := by simpa using v0
   conv => whnf
   refine kF ?_
   conv => whnf
   refine kF ?_
   conv => whnf
   refine kF ?_
   conv => whnf
   refine kF ?_
   conv => whnf
   refine kF ?_
   conv => whnf
   exact V_ (by rw [bo_]; simp [da_ l i1])
  conv => whnf
  rintro (_ | _) i2
  ·have i2 : ¬ 0 ≤ v := by simpa using i2
   conv => whnf
   rintro (_ | _) v0
   rotate_left
   ·conv => whnf
    exact V_ (by rw [bo_]; simp [i2])
   have v0 : v = 0 := by simpa using v0
   conv => whnf
   refine kF ?_
   conv => whnf
   refine kF ?_
   conv => whnf
   refine kF ?_
   conv => whnf
   refine kF ?_
   conv => whnf
   refine kF ?_
   conv => whnf
   exact V_ (by rw [bo_]; simp [i2])
  have i2 : 0 ≤ v := by simpa using i2
  conv => whnf
  refine ⟨_, oa_ v, ?_⟩
  conv => whnf
  rintro (_ | _) i3
  ·conv => whnf
   rintro (_ | _) v0
   rotate_left
   ·conv => whnf
    exact V_ (by rw [bo_]; simp [i3])
   have v0 : v = 0 := by simpa using v0
   conv => whnf
   refine kF ?_
   conv => whnf
   refine kF ?_
   conv => whnf
   refine kF ?_
   conv => whnf
   refine kF ?_
   conv => whnf
   refine kF ?_
   conv => whnf
   exact V_ (by rw [bo_]; simp [i3])
  conv => whnf
  refine ⟨_, of_ v hv.1 hv.2, ?_⟩
  conv => whnf
  exact V_ (by rw [bo_]; simp [da_ l i1, i2, i3])
 conv => whnf
 refine kT ?_
 conv => whnf
 rintro (_ | _) i1
 ·conv => whnf
  rintro (_ | _) v0
  rotate_left
  ·conv => whnf
   exact V_ (by rw [bo_]; simp [da_ l i1])
  have v0 : v = 0 := by simpa using v0
  conv => whnf
  refine kF ?_
  conv => whnf
  refine kF ?_
  conv => whnf
  refine kF ?_
  conv => whnf
  refine kF ?_
  conv => whnf
  refine kF ?_
  conv => whnf
  exact V_ (by rw [bo_]; simp [da_ l i1])
 conv => whnf
 rintro (_ | _) i2
 ·have i2 : ¬ 0 ≤ v := by simpa using i2
  conv => whnf
  rintro (_ | _) v0
  rotate_left
  ·conv => whnf
   exact V_ (by rw [bo_]; simp [i2])
  have v0 : v = 0 := by simpa using v0
  conv => whnf
  refine kF ?_
  conv => whnf
  refine kF ?_
  conv => whnf
  refine kF ?_
  conv => whnf
  refine kF ?_
  conv => whnf
  refine kF ?_
  conv => whnf
  exact V_ (by rw [bo_]; simp [i2])
 have i2 : 0 ≤ v := by simpa using i2
 conv => whnf
 refine ⟨_, oa_ v, ?_⟩
 conv => whnf
 rintro (_ | _) i3
 ·conv => whnf
  rintro (_ | _) v0
  rotate_left
  ·conv => whnf
   exact V_ (by rw [bo_]; simp [i3])
  have v0 : v = 0 := by simpa using v0
  conv => whnf
  refine kF ?_
  conv => whnf
  refine kF ?_
  conv => whnf
  refine kF ?_
  conv => whnf
  refine kF ?_
  conv => whnf
  refine kF ?_
  conv => whnf
  exact V_ (by rw [bo_]; simp [i3])
 conv => whnf
 refine ⟨_, of_ v hv.1 hv.2, ?_⟩
 conv => whnf
 exact V_ (by rw [bo_]; simp [da_ l i1, i2, i3])
theorem xt_sym (l : Bs) (v a : Int) (hl : l.length ≤ 1000000) (_hv : -9223372036854775808 ≤ v ∧ v ≤ 9223372036854775807) : DCalls Tryz.prog 52 [(⟨5, l, v, a⟩ : Tok).V] (teV (aa_ ⟨5, l, v, a⟩)) := by
 refine sxm [(92, false), (93, false)] Tryz.func52 kR ?_
 conv => whnf
 refine ⟨none, kR, ?_⟩
 conv => whnf
 rintro (_ | _) w1
 ·conv => whnf
  refine kF ?_
  conv => whnf
  rintro (_ | _) v0
  rotate_left
  ·have v0 : v ≠ 0 := by simpa using v0
   conv => whnf
   exact V_ (by rw [dp_]; simp [v0])
  have v0 : v = 0 := by simpa using v0
  conv => whnf
  refine kF ?_
  conv => whnf
  refine kF ?_
  conv => whnf
  refine kT ?_
  conv => whnf
  refine ⟨_, j8_ l oM, ?_⟩
  conv => whnf
  rintro (_ | _) i4
  ·conv => whnf
   refine kF ?_
   conv => whnf
   refine kF ?_
   conv => whnf
   exact V_ (by rw [dp_]; simp [v0, i4])
  conv => whnf
  exact V_ (by rw [dp_]; simp [v0, i4])
 conv => whnf
 refine ⟨_, mf_ l oM, ?_⟩
 conv => whnf
 rintro (_ | _) w2
 ·conv => whnf
  refine kF ?_
  conv => whnf
  rintro (_ | _) v0
  rotate_left
  ·have v0 : v ≠ 0 := by simpa using v0
   conv => whnf
   exact V_ (by rw [dp_]; simp [v0])
  have v0 : v = 0 := by simpa using v0
  conv => whnf
  refine kF ?_
  conv => whnf
  refine kF ?_
  conv => whnf
  refine kT ?_
  conv => whnf
  refine ⟨_, j8_ l oM, ?_⟩
  conv => whnf
  rintro (_ | _) i4
  ·conv => whnf
   refine kF ?_
   conv => whnf
   refine kF ?_
   conv => whnf
   exact V_ (by rw [dp_]; simp [v0, i4])
  conv => whnf
  exact V_ (by rw [dp_]; simp [v0, i4])
 conv => whnf
 refine kF ?_
 conv => whnf
 rintro (_ | _) v0
 rotate_left
 ·have v0 : v ≠ 0 := by simpa using v0
  conv => whnf
  exact V_ (by rw [dp_]; simp [v0])
 have v0 : v = 0 := by simpa using v0
 conv => whnf
 refine kF ?_
 conv => whnf
 refine kF ?_
 conv => whnf
 refine kT ?_
 conv => whnf
 refine ⟨_, j8_ l oM, ?_⟩
 conv => whnf
 rintro (_ | _) i4
 ·conv => whnf
  refine kF ?_
  conv => whnf
  refine kF ?_
  conv => whnf
  exact V_ (by rw [dp_]; simp [v0, i4])
 conv => whnf
 exact V_ (by rw [dp_]; simp [v0, i4])
theorem xt_host (l : Bs) (v a : Int) (hl : l.length ≤ 1000000) (_hv : -9223372036854775808 ≤ v ∧ v ≤ 9223372036854775807) : DCalls Tryz.prog 52 [(⟨6, l, v, a⟩ : Tok).V] (teV (aa_ ⟨6, l, v, a⟩)) := by
 refine sxm [(92, false), (93, false)] Tryz.func52 kR ?_
 conv => whnf
 refine ⟨none, kR, ?_⟩
 conv => whnf
 rintro (_ | _) w1
 ·conv => whnf
  refine kF ?_
  conv => whnf
  rintro (_ | _) v0
  rotate_left
  ·have v0 : v ≠ 0 := by simpa using v0
   conv => whnf
   exact V_ (by rw [dh_]; simp [v0])
  have v0 : v = 0 := by simpa using v0
  conv => whnf
  refine kF ?_
  conv => whnf
  refine kF ?_
  conv => whnf
  refine kF ?_
  conv => whnf
  refine kT ?_
  conv => whnf
  refine kF ?_
  conv => whnf
  exact V_ (by rw [dh_]; simp [v0, ba_, o3_ l w1])
 conv => whnf
 refine ⟨_, mf_ l oM, ?_⟩
 conv => whnf
 rintro (_ | _) w2
 ·conv => whnf
  refine kF ?_
  conv => whnf
  rintro (_ | _) v0
  rotate_left
  ·have v0 : v ≠ 0 := by simpa using v0
   conv => whnf
   exact V_ (by rw [dh_]; simp [v0])
  have v0 : v = 0 := by simpa using v0
  conv => whnf
  refine kF ?_
  conv => whnf
  refine kF ?_
  conv => whnf
  refine kF ?_
  conv => whnf
  refine kT ?_
  conv => whnf
  refine kF ?_
  conv => whnf
  exact V_ (by rw [dh_]; simp [v0, ba_, runB l w2])
 conv => whnf
 refine kF ?_
 conv => whnf
 rintro (_ | _) v0
 rotate_left
 ·have v0 : v ≠ 0 := by simpa using v0
  conv => whnf
  exact V_ (by rw [dh_]; simp [v0])
 have v0 : v = 0 := by simpa using v0
 conv => whnf
 refine kF ?_
 conv => whnf
 refine kF ?_
 conv => whnf
 refine kF ?_
 conv => whnf
 refine kT ?_
 conv => whnf
 rw [lenB]
 rintro (_ | _) w3
 ·conv => whnf
  refine kF ?_
  conv => whnf
  exact V_ (by rw [dh_]; simp [v0, ba_, w3])
 conv => whnf
 refine ⟨by rw [P_]; simp [ByteArray.size]; omega, ?_⟩
 conv => whnf
 exact fin_te2 (by rw [dh_]; simp [v0, ba_, o3_ l w1, runB l w2, w3])
theorem xt_no (K : Int) (l : Bs) (v a : Int) (hl : l.length ≤ 1000000) (_hv : -9223372036854775808 ≤ v ∧ v ≤ 9223372036854775807) (hK : K ≠ 1 ∧ K ≠ 2 ∧ K ≠ 3 ∧ K ≠ 4 ∧ K ≠ 5 ∧ K ≠ 6) : DCalls Tryz.prog 52 [(⟨K, l, v, a⟩ : Tok).V] (teV (aa_ ⟨K, l, v, a⟩)) := by
 refine sxm [(92, false), (93, false)] Tryz.func52 kR ?_
 conv => whnf
 refine ⟨none, kR, ?_⟩
 conv => whnf
 rintro (_ | _) w1
 ·conv => whnf
  refine Q_ false sO ?_
  conv => whnf
  rintro (_ | _) v0
  rotate_left
  ·have v0 : v ≠ 0 := by simpa using v0
   conv => whnf
   exact V_ (by rw [mk_ _ _ _ _ hK])
  have v0 : v = 0 := by simpa using v0
  conv => whnf
  refine Q_ false sO ?_
  conv => whnf
  refine Q_ false sO ?_
  conv => whnf
  refine Q_ false sO ?_
  conv => whnf
  refine Q_ false sO ?_
  conv => whnf
  refine Q_ false sO ?_
  conv => whnf
  exact V_ (by rw [mk_ _ _ _ _ hK])
 conv => whnf
 refine ⟨_, mf_ l oM, ?_⟩
 conv => whnf
 rintro (_ | _) w2
 ·conv => whnf
  refine Q_ false sO ?_
  conv => whnf
  rintro (_ | _) v0
  rotate_left
  ·have v0 : v ≠ 0 := by simpa using v0
   conv => whnf
   exact V_ (by rw [mk_ _ _ _ _ hK])
  have v0 : v = 0 := by simpa using v0
  conv => whnf
  refine Q_ false sO ?_
  conv => whnf
  refine Q_ false sO ?_
  conv => whnf
  refine Q_ false sO ?_
  conv => whnf
  refine Q_ false sO ?_
  conv => whnf
  refine Q_ false sO ?_
  conv => whnf
  exact V_ (by rw [mk_ _ _ _ _ hK])
 conv => whnf
 refine Q_ false sO ?_
 conv => whnf
 rintro (_ | _) v0
 rotate_left
 ·have v0 : v ≠ 0 := by simpa using v0
  conv => whnf
  exact V_ (by rw [mk_ _ _ _ _ hK])
 have v0 : v = 0 := by simpa using v0
 conv => whnf
 refine Q_ false sO ?_
 conv => whnf
 refine Q_ false sO ?_
 conv => whnf
 refine Q_ false sO ?_
 conv => whnf
 refine Q_ false sO ?_
 conv => whnf
 refine Q_ false sO ?_
 conv => whnf
 exact V_ (by rw [mk_ _ _ _ _ hK])
end
section
open Go.RowKit
def okB (l : Bs) : Bool := l.all fun c => !(decide (c < 32) || decide (c > 126))
theorem fo_ (l : Bs) : cl_ l = (decide (l.length ≤ 200) && okB l) := rfl
abbrev qV (l : Bs) : V := if okB l = true then .tu [bc_ (34 :: (esc l ++ [34])), boo (decide (l.length ≤ 200))] else .tu [bc_ [], boo false]
theorem fin_q0 {l : Bs} (h : okB l = false) : V.tu [bc_ [], boo false] = qV l := by unfold qV; rw [if_neg (by simp [h])]
theorem fin_q1 {l a : Bs} {b : Bool} (h : okB l = true) (ha : a = 34 :: (esc l ++ [34])) (hb : b = decide (l.length ≤ 200)) : V.tu [bc_ a, boo b] = qV l := by unfold qV; rw [if_pos h, ha, hb]
theorem esc_upto {l : Bs} {k : Nat} (h : k < l.length) : esc (l.take (k + 1)) = esc (l.take k) ++ esc [l[k]] := by
 rw [← esc_app, List.take_append_getElem]
theorem and_bs {a b : Bs} {p : Prop} (e : a = b) (h : p) : V.cv (.string (mk a)) = V.cv (.string (mk b)) ∧ p := ⟨by rw [e], h⟩
theorem od_ (l : Bs) (hl : l.length ≤ 281474976710656) : DCalls Tryz.prog 155 [bc_ l] (qV l) := by
 refine sx Tryz.func155 kR ?_
 conv => whnf
 refine ⟨[], Nat, fun k => [(8, int k), (4, bc_ (34 :: esc (l.take k)))], fun _ => [], fun k => k ≤ l.length ∧ okB (l.drop k) = okB l, fun k => l.length - k, 0, ⟨l_ _, rfl⟩, ?_, ?_⟩
 ·exact eN
 rintro k ⟨hk1, hk⟩
 have hE : (esc (l.take k)).length ≤ 562949953421312 := by
  have h1 := d6_ (l.take k)
  have h2 := ex_le (l.take k)
  have h3 : (l.take k).length ≤ 281474976710656 := by rw [B_]; omega
  omega
 conv => whnf
 rintro (_ | _) h2
 ·have h2 : l.length ≤ k := by simp [P_] at h2; omega
  rw [k_ h2] at hk
  rw [M_ h2] at hE ⊢
  conv => whnf
  refine ⟨by rw [P_, show (⟨#[34]⟩ : ByteArray).size = 1 from rfl, b_]; omega, ?_⟩
  conv => whnf
  rw [show mk (34 :: esc l) ++ (⟨#[34]⟩ : ByteArray) = mk (34 :: (esc l ++ [34])) from a3_ (34 :: esc l) [34]]
  exact fin_q1 (by rw [← hk]; rfl) rfl (by rw [P_, z_]; simp; omega)
 have h2 : k < l.length := by simp [P_] at h2; omega
 have hw : IntKind.i64.wrap (((k : Nat) : Int) + 1) = ((k + 1 : Nat) : Int) := R_ oM
 rw [ao_ h2] at hk
 conv => whnf
 refine ⟨oM, _, bn_ h2, ?_⟩
 conv => whnf
 rintro (_ | _) h3
 rotate_left
 ·conv => whnf
  exact fin_q0 (by rw [← hk]; unfold okB; rw [List.all_cons, ff_]; simp at *; omega)
 conv => whnf
 refine ⟨oM, _, bn_ h2, ?_⟩
 conv => whnf
 rintro (_ | _) h4
 rotate_left
 ·conv => whnf
  exact fin_q0 (by rw [← hk]; unfold okB; rw [List.all_cons, ff_]; simp at *; omega)
 have hr : (decide (l[k] < 32) || decide (l[k] > 126)) = false := by rw [ff_]; simp at *; omega
 have hk : okB (l.drop (k + 1)) = okB l := by rw [← hk]; unfold okB; rw [List.all_cons, hr]; rfl
 clear h3 h4
 have hsp : sp l[k] = (decide ((l[k].toNat : Int) = 34) || decide ((l[k].toNat : Int) = 92)) := by unfold sp; rw [cr_, cr_]; rfl
 have hU := esc_upto h2
 rw [esc_one] at hU
 conv => whnf
 refine ⟨oM, _, bn_ h2, ?_⟩
 conv => whnf
 rintro (_ | _) h3
 ·conv => whnf
  refine ⟨oM, _, bn_ h2, ?_⟩
  conv => whnf
  rintro (_ | _) h4
  ·have hs : sp l[k] = false := by rw [hsp]; simp at *; exact ⟨h3, h4⟩
   rw [hs, if_neg sI] at hU
   conv => whnf
   rw [hw]
   refine ⟨oM, oM, by rw [P_]; omega, ?_⟩
   rw [ep_ h2]
   conv => whnf
   rw [a3_]
   refine ⟨by rw [P_, P_]; simp; omega, ?_⟩
   conv => whnf
   refine ⟨k + 1, ⟨h2, hk⟩, by dsimp only; omega, ?_⟩
   refine ⟨rfl, ?_, ?_⟩ <;> repeat' (first | exact trivial | exact rfl | refine am_ ?_ | refine aw_ hw ?_ | refine and_bs (by rw [hU]; rfl) ?_ | refine ah_ ?_ ?_)
  have hs : sp l[k] = true := by rw [hsp]; simp at *; exact .inr h4
  rw [hs, if_pos rfl] at hU
  conv => whnf
  refine ⟨by rw [P_, show (⟨#[92]⟩ : ByteArray).size = 1 from rfl, b_]; omega, ?_⟩
  conv => whnf
  rw [hw]
  refine ⟨oM, oM, by rw [P_]; omega, ?_⟩
  rw [ep_ h2]
  conv => whnf
  rw [show mk (34 :: esc (l.take k)) ++ (⟨#[92]⟩ : ByteArray) = mk (34 :: (esc (l.take k) ++ [92])) from a3_ _ [92], a3_]
  refine ⟨by rw [P_, P_]; simp; omega, ?_⟩
  conv => whnf
  refine ⟨k + 1, ⟨h2, hk⟩, by dsimp only; omega, ?_⟩
  refine ⟨rfl, ?_, ?_⟩ <;> repeat' (first | exact trivial | exact rfl | refine am_ ?_ | refine aw_ hw ?_ | refine and_bs (by rw [hU]; simp) ?_ | refine ah_ ?_ ?_)
 have hs : sp l[k] = true := by rw [hsp]; simp at *; exact .inl h3
 rw [hs, if_pos rfl] at hU
 conv => whnf
 refine ⟨by rw [P_, show (⟨#[92]⟩ : ByteArray).size = 1 from rfl, b_]; omega, ?_⟩
 conv => whnf
 rw [hw]
 refine ⟨oM, oM, by rw [P_]; omega, ?_⟩
 rw [ep_ h2]
 conv => whnf
 rw [show mk (34 :: esc (l.take k)) ++ (⟨#[92]⟩ : ByteArray) = mk (34 :: (esc (l.take k) ++ [92])) from a3_ _ [92], a3_]
 refine ⟨by rw [P_, P_]; simp; omega, ?_⟩
 conv => whnf
 refine ⟨k + 1, ⟨h2, hk⟩, by dsimp only; omega, ?_⟩
 refine ⟨rfl, ?_, ?_⟩ <;> repeat' (first | exact trivial | exact rfl | refine am_ ?_ | refine aw_ hw ?_ | refine and_bs (by rw [hU]; simp) ?_ | refine ah_ ?_ ?_)
end
section
open Go.RowKit
theorem kn_ (c : UInt8) (s : Bs) : esc (c :: s) = if sp c then 92 :: c :: esc s else c :: esc s := rfl
theorem sp_range {c : UInt8} (h : sp c = true) : (decide (c < 32) || decide (c > 126)) = false := by
 unfold sp at h; simp at h; rcases h with rfl | rfl <;> rfl
theorem okB_cons (c : UInt8) (s : Bs) : okB (c :: s) = (!(decide (c < 32) || decide (c > 126)) && okB s) := List.all_cons
theorem not_sp {c : UInt8} (h2 : c ≠ 34) (h3 : c ≠ 92) : sp c = false := by unfold sp; simp [h2, h3]
theorem txt_ok : ∀ (l : Bs) (i : Nat) (out : Bs), (txt l i out).2.2 = 0 → out.length ≤ 200 →
  ∃ s r, l = esc s ++ 34 :: r ∧ (txt l i out).1 = out ++ s ∧ (out ++ s).length ≤ 200 ∧ okB s = true ∧ (txt l i out).2.1 = i + (esc s).length + 1
 | [], i, out, h, _ => by simp [txt] at h
 | c :: l, i, out, h, ho => by
  by_cases h1 : (decide (c < 32) || decide (c > 126)) = true
  ·rw [hd_ h1] at h; simp at h
  have h1 : (decide (c < 32) || decide (c > 126)) = false := by simpa using h1
  by_cases h2 : c = 34
  ·subst h2
   rw [k0_]
   exact ⟨[], l, rfl, by simp, by simpa using ho, rfl, rfl⟩
  by_cases h3 : c = 92
  ·subst h3
   cases l with
   | nil => rw [k2_] at h; simp at h
   | cons d l =>
    by_cases h4 : (d == 34 || d == 92) = true
    ·rw [hc_ h4] at h ⊢
     split at h
     ·simp at h
     ·rename_i h5
      rw [if_neg h5]
      obtain ⟨s, r, e1, e2, e3, e4, e5⟩ := txt_ok l (i + 2) (out ++ [d]) h sO
      have hs : sp d = true := h4
      refine ⟨d :: s, r, ?_, ?_, ?_, ?_, ?_⟩
      ·rw [kn_, if_pos hs, e1]; rfl
      ·rw [e2]; simp
      ·simpa using e3
      ·rw [okB_cons, sp_range hs, e4]; rfl
      ·rw [e5, kn_, if_pos hs]; simp only [b_]; omega
    ·rw [k1_ (by simpa using h4)] at h; simp at h
  rw [qe_ h1 h2 h3] at h ⊢
  split at h
  ·simp at h
  ·rename_i h5
   rw [if_neg h5]
   obtain ⟨s, r, e1, e2, e3, e4, e5⟩ := txt_ok l (i + 1) (out ++ [c]) h sO
   have hs : ¬ sp c = true := by rw [not_sp h2 h3]; simp
   refine ⟨c :: s, r, ?_, ?_, ?_, ?_, ?_⟩
   ·rw [kn_, if_neg hs, e1]; rfl
   ·rw [e2]; simp
   ·simpa using e3
   ·rw [okB_cons, h1, e4]; rfl
   ·rw [e5, kn_, if_neg hs]; simp only [b_]; omega
theorem qh_ (c : UInt8) (r : Bs) (k : Int) (h : (cb_ (c :: r)).2.2 = 0) :
  aa_ { (cb_ (c :: r)).1 with at_ := k } = ((c :: r).take (cb_ (c :: r)).2.1, 0) ∧ (cb_ (c :: r)).1.at_ = 0 := by
 cases h1 : lr_ c with
 | true =>
  have a := os_ (r := r) h1
  rw [k5_ h1] at h ⊢
  split at h
  ·simp at h
  ·rename_i h2; rw [if_neg h2]
   split
   ·rename_i h3
    refine ⟨?_, rfl⟩
    show aa_ ⟨2, _, 0, k⟩ = _
    rw [cm_]; simp [h3]
   ·rename_i h3
    refine ⟨?_, rfl⟩
    show aa_ ⟨1, _, 0, k⟩ = _
    rw [c8_]; simp [my_ a oM, h3]
 | false =>
 cases h2 : ht_ c with
 | true =>
  rw [k6_ h1 h2] at h ⊢
  split at h
  ·rename_i h3; rw [if_pos h3]
   refine ⟨?_, rfl⟩
   have hd := il_ (l := r) h2
   generalize (c :: r).take (gc_ (c :: r)) = d at h3 hd
   show aa_ ⟨3, [], (kf_ d).1, k⟩ = _
   have hp := im_ d hd
   rw [hp] at h3 ⊢
   split at h3
   ·simp at h3
   ·rename_i h4
    rw [if_neg h4]
    split at h3
    ·simp at h3
    ·rename_i h5
     rw [if_neg h5, bo_, if_pos, itoa_dval hd (by simpa using h4)]
     refine ⟨rfl, by simp, ?_⟩
     unfold en_; simp; omega
  ·rename_i h3; exact absurd h h3
 | false =>
 cases h3 : (c == 34) with
 | true =>
  have : c = 34 := by simpa using h3
  subst this
  rw [k4_] at h ⊢
  split at h
  ·rename_i h4; rw [if_pos h4]
   obtain ⟨s, r', e1, e2, e3, e4, e5⟩ := txt_ok r 1 [] h4 sI
   refine ⟨?_, rfl⟩
   show aa_ ⟨4, (txt r 1 []).1, 0, k⟩ = _
   rw [e2, e5, List.nil_append, dd_]
   have : cl_ s = true := by rw [fo_, e4]; simpa using e3
   rw [if_neg sI, if_pos this, e1, show 1 + (esc s).length + 1 = (esc s ++ [34]).length + 1 by simp; omega, List.take_succ_cons,
    show esc s ++ 34 :: r' = (esc s ++ [34]) ++ r' by simp, List.take_left']
   rfl
  ·rename_i h4; exact absurd h h4
 | false =>
 cases h4 : (c == 64) with
 | true =>
  have : c = 64 := by simpa using h4
  subst this
  rw [k7_] at h ⊢
  split at h
  ·simp at h
  ·rename_i h5; rw [if_neg h5]
   split at h
   ·simp at h
   ·rename_i h6; rw [if_neg h6]
    refine ⟨?_, rfl⟩
    show aa_ ⟨6, _, 0, k⟩ = _
    rw [dh_]; simp [my_ (l := r) oM oM]
 | false =>
  rw [k3_ h1 h2 h3 h4] at h ⊢
  split at h
  ·rename_i h5; rw [if_pos h5]
   refine ⟨?_, rfl⟩
   show aa_ ⟨5, _, 0, k⟩ = _
   rw [dp_, if_neg sI, if_pos h5.2]
  ·rename_i h5; rw [if_neg h5]
   split at h
   ·rename_i h6; rw [if_pos h6]
    refine ⟨?_, rfl⟩
    show aa_ ⟨5, _, 0, k⟩ = _
    rw [dp_, if_neg sI, if_pos h6]
   ·simp at h
end
section
open Go.RowKit
def bl_ (b : Bs) : List D := [.cv (.string (mk b))]
abbrev qj_ (l : List Bs) : V := .sl true 1 (l.map bl_)
theorem itoa_len (n : Int) (h : en_ n = true) (h0 : 0 ≤ n) : (Lib.itoa n).length ≤ 13 := by
 obtain ⟨k, rfl⟩ : ∃ k : Nat, n = k := ⟨n.toNat, oM⟩
 rw [Lib.itoa_nonneg]
 refine f1_ 12 k ?_
 unfold en_ at h; simp at h; omega
theorem qi_ (t : Tok) : (aa_ t).1.length ≤ 2 * t.text.length + 13 := by
 unfold aa_
 split
 ·rename_i h; have := itoa_len t.val h.2.2.2 h.2.2.1; simp only; omega
 split
 ·simp
 split
 ·simp only; omega
 split
 ·simp only [b_]; omega
 split
 ·have h1 := d6_ t.text; have h2 := ex_le t.text; simp only [b_, a_, c_]; omega
 ·simp
end
section
open Go.RowKit
theorem fd_ : ∀ (b : Bool) (l : Bs), skip (l.drop (skp b l)) = 0
 | _, [] => by simp [skip, skp]
 | false, c :: l => by
  cases h1 : isBl c with
  | true => simp only [skp, h1, if_true, List.drop_succ_cons]; exact fd_ false l
  | false =>
   cases h2 : c == 47 && l.head? == some 47 with
   | true => simp only [skp, h1, h2, if_true, y_, if_false, List.drop_succ_cons]; exact fd_ true l
   | false => simp only [skp, h1, h2, y_, if_false, List.drop_zero]
 | true, c :: l => by
  cases h1 : c == 10 with
  | true => simp only [skp, h1, if_true, List.drop_succ_cons]; exact fd_ false l
  | false => simp only [skp, h1, y_, if_false, List.drop_succ_cons]; exact fd_ true l
def LxR : Bs → Nat → List Tok → Prop
 | L, _, [] => L = []
 | L, k, t :: ts => ∃ n, L ≠ [] ∧ skip L = 0 ∧ 1 ≤ n ∧ n ≤ L.length ∧ cb_ L = ({ t with at_ := 0 }, n, 0) ∧ t.at_ = k ∧ LxR (L.drop (n + skip (L.drop n))) (k + n + skip (L.drop n)) ts
theorem toksF_Rd : ∀ (f : Nat) (L : Bs) (k : Nat) (out : List Tok), L.length ≤ f → skip L = 0 → (ex_ f L k out).2.2 = 0 → ∃ ts, ex_ f L k out = (out ++ ts, 0, 0) ∧ LxR L k ts
 | 0, L, k, out, hf, _, _ => by
  have : L = [] := List.length_eq_zero_iff.1 oM
  subst this
  exact ⟨[], by simp [ex_], rfl⟩
 | f + 1, [], k, out, _, _, _ => ⟨[], by simp [ex_], rfl⟩
 | f + 1, c :: r, k, out, hf, hs, h => by
  rw [ds_] at h ⊢
  split at h
  ·simp at h
  rename_i h1
  rw [if_neg h1]
  split at h
  ·rename_i h2
   rw [if_pos h2]
   obtain ⟨l1, l2⟩ := fv_ c r h2
   obtain ⟨t1, t2⟩ := qh_ c r k h2
   generalize ht : cb_ (c :: r) = T at h h2 l1 l2 t1 t2 ⊢
   obtain ⟨t0, n, e⟩ := T
   simp only at h h2 l1 l2 t1 t2 ⊢
   subst h2
   have hlen : ((c :: r).drop (n + skip ((c :: r).drop n))).length ≤ f := by simp only [p_, b_] at *; omega
   have hsk : skip ((c :: r).drop (n + skip ((c :: r).drop n))) = 0 := by rw [← List.drop_drop]; exact fd_ false _
   obtain ⟨ts, e1, e2⟩ := toksF_Rd f _ _ _ hlen hsk h
   refine ⟨{ t0 with at_ := k } :: ts, by rw [e1]; simp, n, by simp, hs, l1, l2, ?_, rfl, e2⟩
   rw [ht]
   obtain ⟨a, b, d, g⟩ := t0
   simp only at t2
   subst t2
   rfl
  ·rename_i h2; exact absurd h h2
theorem tokens_Rd {s : Bs} (h : (al_ s).2.2 = 0) : ∃ ts, al_ s = (ts, 0, 0) ∧ s.length ≤ 4000 ∧ LxR (s.drop (skip s)) (skip s) ts := by
 unfold al_ at h ⊢
 split at h
 ·simp at h
 ·rename_i h1
  rw [if_neg h1]
  obtain ⟨ts, e1, e2⟩ := toksF_Rd s.length (s.drop (skip s)) (skip s) [] sI (fd_ false s) h
  exact ⟨ts, by rw [e1]; simp, oM, e2⟩
def own (s : Bs) : Nat → List Tok → Prop
 | _, [] => True
 | e, t :: ts => ∃ k : Nat, t.at_ = k ∧ (aa_ t).2 = 0 ∧ e ≤ k ∧ k + (aa_ t).1.length ≤ s.length ∧ (s.drop k).take (aa_ t).1.length = (aa_ t).1 ∧ own s (k + (aa_ t).1.length) ts
theorem own_le {s : Bs} {e e' : Nat} (he : e' ≤ e) : ∀ {ts : List Tok}, own s e ts → own s e' ts
 | [], _ => trivial
 | t :: ts, ⟨k, h1, h2, h3, h4⟩ => ⟨k, h1, h2, oM, h4⟩
theorem Rd_own {s : Bs} : ∀ (ts : List Tok) (k : Nat), k ≤ s.length → LxR (s.drop k) k ts → own s k ts
 | [], k, _, _ => trivial
 | t :: ts, k, hk, ⟨n, h1, h2, h3, h4, h5, h6, h7⟩ => by
  have ht : aa_ t = ((s.drop k).take n, 0) := by
   cases hd : s.drop k with
   | nil => exact absurd hd h1
   | cons c r =>
    rw [hd] at h5
    have := (qh_ c r 0 (by rw [h5])).1
    rw [h5] at this
    exact this
  rw [p_] at h4
  have hl : ((s.drop k).take n).length = n := by rw [B_, p_]; omega
  rw [List.drop_drop] at h7
  have hz := ga_ false ((s.drop k).drop n)
  rw [p_, p_] at hz
  refine ⟨k, h6, by rw [ht], f_ _, by rw [ht]; simp only [hl]; omega, by rw [ht]; simp only [hl], ?_⟩
  rw [ht]; simp only [hl]
  have h8 := Rd_own (s := s) ts (k + n + skip ((s.drop k).drop n)) (by unfold skip at *; omega) (by rw [show k + n + skip ((s.drop k).drop n) = k + (n + skip ((s.drop k).drop n)) by omega] at h7 ⊢; exact h7)
  exact own_le oM h8
theorem qg_ : ∀ (f : Nat) (L : Bs) (k : Nat) (out : List Tok), (ex_ f L k out).2.2 ≠ 0 → (ex_ f L k out).1 = [] ∧ (ex_ f L k out).2.1 ≤ k + L.length
 | 0, L, k, out, h => by simp [ex_] at h
 | f + 1, [], k, out, h => by simp [ex_] at h
 | f + 1, c :: r, k, out, h => by
  rw [ds_] at h ⊢
  split at h
  ·rename_i h1; rw [if_pos h1]; exact ⟨rfl, by simp⟩
  rename_i h1
  rw [if_neg h1]
  split at h
  ·rename_i h2
   rw [if_pos h2]
   obtain ⟨l1, l2⟩ := fv_ c r h2
   obtain ⟨e1, e2⟩ := qg_ f _ _ _ h
   refine ⟨e1, w_ e2 ?_⟩
   have hz := ga_ false ((c :: r).drop (cb_ (c :: r)).2.1)
   rw [p_] at hz
   rw [p_]
   unfold skip
   omega
  ·rename_i h2
   rw [if_neg h2]
   exact ⟨rfl, Nat.add_le_add_left (tok1_le' c r) k⟩
theorem tokens_err {s : Bs} (h : (al_ s).2.2 ≠ 0) : (al_ s).1 = [] ∧ (al_ s).2.1 ≤ s.length := by
 unfold al_ at h ⊢
 split at h
 ·rename_i h1; rw [if_pos h1]; exact ⟨rfl, l_ _⟩
 ·rename_i h1
  rw [if_neg h1]
  obtain ⟨e1, e2⟩ := qg_ _ _ _ _ h
  have := ga_ false s
  rw [p_] at e2
  simp only [skip] at *
  exact ⟨e1, oM⟩
theorem tokens_own {s : Bs} (h : (al_ s).2.2 = 0) : own s 0 (al_ s).1 := by
 obtain ⟨ts, e1, e2, e3⟩ := tokens_Rd h
 rw [e1]
 exact own_le (l_ _) (Rd_own ts (skip s) (ga_ false s) e3)
def placed : Nat → List Tok → List Tok
 | _, [] => []
 | k, t :: ts => { t with at_ := k } :: placed (k + (aa_ t).1.length + 1) ts
end
end Go.Proofs.YtglndfgmlminpaaGreatDoor
