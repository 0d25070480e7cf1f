/-
  Contracts of the packages rollout and faasref20, part six: alarms, aborts, starts.
-/
import Derived.Test.YtejjemeaponbaaaRx5
namespace Go.Proofs.Ytejjemeaponbaaa
open Go.RowKit

set_option maxRecDepth 100000 in
theorem x_ralarmed (r : RO) (s now : Int) (hn : r.nm.size ≤ maxLen) : DCalls Try.prog 19 [r.V, int s, int now] (roR (alarmedR r s now)) := by
  refine sx Try.func19 (by kernel_rfl) ?_
  have e10 : runE r ≠ 0 → alarmedR r s now = (zeroRO, 10) := fun h1 => by unfold alarmedR; rw [if_pos h1]
  refine ⟨_, x_rvalid r hn, ?_⟩
  rintro (_ | _) h1
  rotate_left
  · rw [e10 (by simp at h1; simp [runE, h1])]; rfl
  rintro (_ | _) h2
  rotate_left
  · rw [e10 (by simp at h2; simp [runE, h2])]; rfl
  simp at h1 h2
  have hr0 : runE r = 0 := by simp [runE, h1, h2]
  have e2 : (s < 0 ∨ s > 2) → alarmedR r s now = (zeroRO, 2) := fun h => by unfold alarmedR; rw [if_neg (by simp [hr0]), if_pos h]
  refine ⟨_, x_time now, ?_⟩
  rintro (_ | _) h3
  rotate_left
  · have e : alarmedR r s now = (zeroRO, 2) := by
      simp at h3
      by_cases hs : s < 0 ∨ s > 2
      · exact e2 hs
      · have : clockE r.si now = 2 := by simp [clockE, h3]
        unfold alarmedR; rw [if_neg (by simp [hr0]), if_neg hs, if_pos (by simp [this]), this]
    rw [e]; rfl
  rintro (_ | _) h4
  rotate_left
  · rw [e2 (by simp at h4; omega)]; rfl
  rintro (_ | _) h5
  rotate_left
  · rw [e2 (by simp at h5; omega)]; rfl
  simp at h3 h4 h5
  rintro (_ | _) h6
  rotate_left
  · simp at h6
    have hc : clockE r.si now = 11 := by simp [clockE, h3, h6]
    have e : alarmedR r s now = (zeroRO, 11) := by unfold alarmedR; rw [if_neg (by simp [hr0]), if_neg (by omega), if_pos (by simp [hc]), hc]
    rw [e]; rfl
  simp at h6
  have hc : clockE r.si now = 0 := by unfold clockE; rw [if_neg (by simp [h3]), if_neg (by omega)]
  obtain ⟨l1, l8, a0, a1, s0, s1⟩ := ok_parts h1
  rintro (_ | _) h7
  · simp at h7
    have e : alarmedR r s now = nextR r (s == 1) now := by unfold alarmedR; rw [if_neg (by simp [hr0]), if_neg (by omega), if_neg (by simp [hc]), if_neg h7]
    rw [e]
    refine ⟨_, x_rnext r (s == 1) now hn, ?_⟩
    rfl
  · simp at h7
    have e : alarmedR r s now = (r, 0) := by unfold alarmedR; rw [if_neg (by simp [hr0]), if_neg (by omega), if_neg (by simp [hc]), if_pos h7]
    rw [e]
    refine ⟨_, x_rown r (by omega), ?_⟩
    rfl

theorem x_abortR (r : RO) (now : Int) (hn : r.nm.size ≤ maxLen) : DCalls Try.prog 20 [r.V, int now] (roR (nextR r false now)) := by
  refine sx Try.func20 (by kernel_rfl) ?_
  refine ⟨_, x_next r false now hn, ?_⟩
  rfl
theorem x_rabortR (r : RO) (now : Int) (hn : r.nm.size ≤ maxLen) : DCalls Try.prog 21 [r.V, int now] (roR (nextR r false now)) := by
  refine sx Try.func21 (by kernel_rfl) ?_
  refine ⟨_, x_rnext r false now hn, ?_⟩
  rfl

def beginX (nm : ByteArray) (s c v k : Int) : ByteArray × Int × Int × Int × Int := chF nm s c v (beginE s c k) nm s k 0
def startR (nm : ByteArray) (s c v k : Int) (l : List Stg) (now : Int) : RO × Int :=
  if checkS l ≠ 0 then (zeroRO, checkS l) else if instB now = false then (zeroRO, 2)
  else if (beginX nm s c v k).2.2.2.2 ≠ 0 then (zeroRO, (beginX nm s c v k).2.2.2.2)
  else (⟨1, (beginX nm s c v k).1, (beginX nm s c v k).2.1, (beginX nm s c v k).2.2.1, wAt l 0, l, 0, now⟩, 0)

set_option maxRecDepth 100000 in
theorem x_start (nm : ByteArray) (s c v k : Int) (l : List Stg) (now : Int) (hn : nm.size ≤ maxLen) : DCalls Try.prog 10 [alV nm s c v, int k, stgs l, int now] (roR (startR nm s c v k l now)) := by
  refine sx Try.func10 (by kernel_rfl) ?_
  refine ⟨_, x_check l, ?_⟩
  rintro (_ | _) h1
  rotate_left
  · simp at h1
    have e : startR nm s c v k l now = (zeroRO, checkS l) := by unfold startR; rw [if_pos h1]
    rw [e]; rfl
  simp at h1
  obtain ⟨l1, l8⟩ := checkS_len h1
  refine ⟨_, x_instant now, ?_⟩
  rintro (_ | _) h2
  rotate_left
  · simp at h2
    have e : startR nm s c v k l now = (zeroRO, 2) := by unfold startR; rw [if_neg (by simp [h1]), if_pos h2]
    rw [e]; rfl
  simp at h2
  have hb := x_begin nm s c v k hn
  change DCalls _ _ _ (alR (beginX nm s c v k)) at hb
  generalize hx : beginX nm s c v k = x at hb
  refine ⟨_, hb, ?_⟩
  rintro (_ | _) h3
  rotate_left
  · simp at h3
    have e : startR nm s c v k l now = (zeroRO, x.2.2.2.2) := by unfold startR; rw [if_neg (by simp [h1]), if_neg (by simp [h2]), hx, if_pos h3]
    rw [e]; rfl
  simp at h3
  have e : startR nm s c v k l now = (⟨1, x.1, x.2.1, x.2.2.1, wAt l 0, l, 0, now⟩, 0) := by unfold startR; rw [if_neg (by simp [h1]), if_neg (by simp [h2]), hx, if_neg (by simp [h3])]
  rw [e]
  refine ⟨by omega, _, wAt_of (l := l) (a := 0) (by omega) (by omega), ?_⟩
  refine ⟨_, x_own ⟨1, x.1, x.2.1, x.2.2.1, wAt l 0, l, 0, now⟩ l1 l8, ?_⟩
  rfl

set_option maxRecDepth 100000 in
theorem x_rstart (nm : ByteArray) (s c v k : Int) (l : List Stg) (now : Int) (hn : nm.size ≤ maxLen) : DCalls Try.prog 11 [alV nm s c v, int k, stgs l, int now] (roR (startR nm s c v k l now)) := by
  refine sx Try.func11 (by kernel_rfl) ?_
  refine ⟨_, x_rcheck l, ?_⟩
  rintro (_ | _) h1
  rotate_left
  · simp at h1
    have e : startR nm s c v k l now = (zeroRO, checkS l) := by unfold startR; rw [if_pos h1]
    rw [e]; rfl
  simp at h1
  obtain ⟨l1, l8⟩ := checkS_len h1
  refine ⟨_, x_time now, ?_⟩
  rintro (_ | _) h2
  rotate_left
  · simp at h2
    have e : startR nm s c v k l now = (zeroRO, 2) := by unfold startR; rw [if_neg (by simp [h1]), if_pos h2]
    rw [e]; rfl
  simp at h2
  have hb := x_rbegin nm s c v k hn
  change DCalls _ _ _ (alR (beginX nm s c v k)) at hb
  generalize hx : beginX nm s c v k = x at hb
  refine ⟨_, hb, ?_⟩
  rintro (_ | _) h3
  rotate_left
  · simp at h3
    have e : startR nm s c v k l now = (zeroRO, x.2.2.2.2) := by unfold startR; rw [if_neg (by simp [h1]), if_neg (by simp [h2]), hx, if_pos h3]
    rw [e]; rfl
  simp at h3
  have e : startR nm s c v k l now = (⟨1, x.1, x.2.1, x.2.2.1, wAt l 0, l, 0, now⟩, 0) := by unfold startR; rw [if_neg (by simp [h1]), if_neg (by simp [h2]), hx, if_neg (by simp [h3])]
  rw [e]
  refine ⟨by omega, _, wAt_of (l := l) (a := 0) (by omega) (by omega), ?_⟩
  have hf : ∀ x ∈ l.map stD, ∀ d ∈ x, ∃ v : Value, d = .cv v ∧ v.oneCell' = true := stD_flat l
  refine ⟨some (.one 2 (.one 4 (.alt 0 (.one 1 (.one 3 (.one 5 (.one 6 (.one 7 (.done)))))) (.alt 1 (.alt 0 (.one 3 (.one 5 (.one 6 (.one 7 (.done))))) (.alt 3 (.one 0 (.one 5 (.one 6 (.one 7 (.done))))) (.stop))) (.stop))))), by kernel_rfl, ?_⟩
  refine ⟨⟨.inr fun x hx d hd => (hf x hx d hd).imp fun _ h => h.1, by simp; omega, ?_⟩, ⟨⟨.inr fun x hx d hd => (hf x hx d hd).imp fun _ h => h.1, by simp; omega, ?_⟩, ⟨.inr fun x hx d hd => (hf x hx d hd).imp fun _ h => h.1, by simp; omega, ?_⟩, trivial⟩, trivial⟩ <;> rfl

end Go.Proofs.Ytejjemeaponbaaa
