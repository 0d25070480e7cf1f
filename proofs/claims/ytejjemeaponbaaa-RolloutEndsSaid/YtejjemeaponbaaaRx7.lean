/-
  Contracts of the packages rollout and faasref20, part seven: the example of the chapter.
-/
import Derived.Test.YtejjemeaponbaaaRx6
namespace Go.Proofs.Ytejjemeaponbaaa
open Go.RowKit

theorem known {c : Bool} (b : Bool) {K : Bool → Prop} (hc : c = b) (h : K b) : ∀ b', c = b' → K b' := fun b' e => by subst e; rw [hc]; exact h

def live : ByteArray := ⟨#[108, 105, 118, 101]⟩
def aw1 : RO := ⟨1, live, 1, 2, 100, [(100, 10), (1000, 5)], 0, 0⟩
def aw2 : RO := ⟨1, live, 1, 2, 1000, [(100, 10), (1000, 5)], 1, 10⟩
def aw3 : RO := ⟨2, live, 2, 0, 0, [(100, 10), (1000, 5)], 1, 15⟩
def aw4 : RO := ⟨3, live, 1, 0, 0, [(100, 10), (1000, 5)], 1, 12⟩
theorem aw_start : startR live 1 0 0 2 [(100, 10), (1000, 5)] 0 = (aw1, 0) := by kernel_rfl
theorem aw_left : leftR aw1 4 = (11, 0) := by kernel_rfl
theorem aw_same : nextR aw1 true 9 = (aw1, 0) := by kernel_rfl
theorem aw_s : nextR aw1 true 10 = (aw2, 0) := by kernel_rfl
theorem aw_d : nextR aw2 true 15 = (aw3, 0) := by kernel_rfl
theorem aw_b : alarmedR aw2 2 12 = (aw4, 0) := by kernel_rfl
theorem aw_e : nextR aw3 true 20 = (zeroRO, 10) := by kernel_rfl
theorem aw_f : nextR aw2 false 9 = (zeroRO, 11) := by kernel_rfl
theorem aw_c1 : checkS [(100, 10)] = 10 := by kernel_rfl
theorem aw_c0 : checkS [] = 3 := by kernel_rfl
theorem aw_v1 : okB aw1 = true := by kernel_rfl
theorem aw_v0 : okB zeroRO = false := by kernel_rfl
theorem aw_nm : live.size ≤ maxLen := by decide

set_option maxRecDepth 100000 in
theorem x_awake : DCalls Try.prog 13 [] (boo true) := by
  have c1 := x_start live 1 0 0 2 [(100, 10), (1000, 5)] 0 aw_nm
  rw [aw_start] at c1
  have c2 := x_valid aw1 aw_nm
  rw [aw_v1] at c2
  have c3 := x_left aw1 4 aw_nm
  rw [aw_left] at c3
  have c4 := x_next aw1 true 9 aw_nm
  rw [aw_same] at c4
  have c5 := x_next aw1 true 10 aw_nm
  rw [aw_s] at c5
  have c6 := x_next aw2 true 15 aw_nm
  rw [aw_d] at c6
  have c7 := x_alarmed aw2 2 12 aw_nm
  rw [aw_b] at c7
  have c8 := x_next aw3 true 20 aw_nm
  rw [aw_e] at c8
  have c9 := x_abortR aw2 9 aw_nm
  rw [aw_f] at c9
  have c10 := x_check [(100, 10)]
  rw [aw_c1] at c10
  have c11 := x_check []
  rw [aw_c0] at c11
  have c12 := x_valid zeroRO (by decide)
  rw [aw_v0] at c12
  refine sx Try.func13 (by kernel_rfl) ?_
  refine ⟨_, c1, ?_⟩
  refine known false rfl ?_
  refine known false rfl ?_
  refine known false rfl ?_
  refine ⟨_, c2, ?_⟩
  refine known false rfl ?_
  refine ⟨_, c3, ?_⟩
  refine ⟨_, c4, ?_⟩
  refine known false rfl ?_
  refine known false rfl ?_
  refine known false rfl ?_
  refine known false rfl ?_
  refine ⟨_, c5, ?_⟩
  refine ⟨_, c6, ?_⟩
  refine ⟨_, c7, ?_⟩
  refine known false rfl ?_
  refine known false rfl ?_
  refine known false rfl ?_
  refine known false rfl ?_
  refine known false rfl ?_
  refine known false rfl ?_
  refine ⟨_, eq_alias _ _ _ _ _ _ _ _, ?_⟩
  refine known false (by kernel_rfl) ?_
  refine known false rfl ?_
  refine known false rfl ?_
  refine ⟨_, c8, ?_⟩
  refine ⟨_, c9, ?_⟩
  refine known true rfl ?_
  refine known true rfl ?_
  refine ⟨by decide, by decide, by decide, ?_⟩
  refine ⟨_, c10, ?_⟩
  refine known true rfl ?_
  refine ⟨_, c11, ?_⟩
  refine known true rfl ?_
  refine ⟨_, c12, ?_⟩
  rfl

end Go.Proofs.Ytejjemeaponbaaa
