/-
  The law AliasShiftsMonotonically: the cases joined.
-/
import Derived.Test.YtffecbepmlaekaaLaw17Shifts
namespace Go.Proofs.Ytffecbepmlaekaa
open Go.RowKit

theorem chF_ok_of {n : ByteArray} {s c v E : Int} {n' : ByteArray} {s' c' v' : Int} (h : (chF n s c v E n' s' c' v').2.2.2.2 = 0) : chk n s c v = 0 ∧ E = 0 ∧ chF n s c v E n' s' c' v' = (n', s', c', v', 0) := by
  unfold chF at *
  by_cases h1 : chk n s c v = 0
  · by_cases h2 : E = 0
    · simp [h1, h2]
    · simp [h1, h2] at h
  · simp [h1] at h

theorem chk_zero {n : ByteArray} {s c v : Int} (h : chk n s c v = 0) : nameB n = true ∧ inB s 1 32 = true ∧ inB c 0 32 = true ∧ inB v 0 1000 = true ∧ c ≠ s ∧ (c = 0 → v = 0) := by
  unfold chk at h
  cases h1 : nameB n
  · simp [h1] at h
  cases h2 : (inB s 1 32 && inB c 0 32 && inB v 0 1000)
  · simp only [h1, h2] at h; simp at h
  simp only [h1, h2] at h
  simp only [Bool.and_eq_true] at h2
  by_cases h3 : c = 0 ∧ v ≠ 0 ∨ c = s
  · simp [h3] at h
  · refine ⟨rfl, h2.1.1, h2.1.2, h2.2, fun e => h3 (.inr e), fun e => ?_⟩
    by_cases hv : v = 0
    · exact hv
    · exact absurd (.inl ⟨e, hv⟩) h3

theorem chk_mk {n : ByteArray} {s c v : Int} (h1 : nameB n = true) (h2 : inB s 1 32 = true) (h3 : inB c 0 32 = true) (h4 : inB v 0 1000 = true) (h5 : c ≠ s) (h6 : c = 0 → v = 0) : chk n s c v = 0 := by
  unfold chk
  simp only [h1, h2, h3, h4]
  simp
  exact ⟨h6, h5⟩

theorem shiftE_zero {c k : Int} (h : shiftE c k = 0) : inB k 0 1000 = true ∧ c ≠ 0 := by
  unfold shiftE at h
  cases h1 : inB k 0 1000
  · simp [h1] at h
  · by_cases h2 : c = 0
    · simp [h1, h2] at h
    · exact ⟨rfl, h2⟩

theorem shifts_any (n : ByteArray) (s c v low high : Int) (id : ByteArray) (w : World) (hn : n.size ≤ maxLen) (hid : id.size ≤ maxLen) :
    Calls Try.prog 6 #[.agg #[.string n, .int .i64 s, .int .i64 c, .int .i64 v], .int .i64 low, .int .i64 high, .string id] w fun e w' => e = .returned (.bool true) ∧ Below w.heap.size w w' := by
  by_cases e1 : (chF n s c v (shiftE c low) n s c low).2.2.2.2 = 0
  rotate_left
  · exact shifts_no n s c v low high id w hn _ _ rfl rfl (.inl (by simpa using e1))
  by_cases e2 : (chF n s c v (shiftE c high) n s c high).2.2.2.2 = 0
  rotate_left
  · exact shifts_no n s c v low high id w hn _ _ rfl rfl (.inr (.inl ⟨by simpa using e1, by simpa using e2⟩))
  by_cases e3 : high < low
  · exact shifts_no n s c v low high id w hn _ _ rfl rfl (.inr (.inr ⟨by simpa using e1, by simpa using e2, e3⟩))
  obtain ⟨k1, E1, R1⟩ := chF_ok_of e1
  obtain ⟨_, E2, R2⟩ := chF_ok_of e2
  obtain ⟨z1, z2, z3, z4, z5, z6⟩ := chk_zero k1
  obtain ⟨l1, c0⟩ := shiftE_zero E1
  obtain ⟨l2, _⟩ := shiftE_zero E2
  have q1 : chk n s c low = 0 := chk_mk z1 z2 z3 l1 z5 (fun e => absurd e c0)
  have q2 : chk n s c high = 0 := chk_mk z1 z2 z3 l2 z5 (fun e => absurd e c0)
  have hlh : low ≤ high := by omega
  have hb := bucketI_range (keyS n id)
  rw [inB_iff] at l1 l2
  have hcs : (c != s) = true := by simpa using z5
  have hsc : (s != c) = true := by simpa using fun e => z5 e.symm
  have hsc2 : (s == c) = false := by simpa using fun e => z5 e.symm
  have hcs2 : (c == s) = false := by simpa using z5
  cases hi : idB id
  · have P1 : pickF n s c low id = (0, 4) := by simp [pickF, q1, hi]
    have P2 : pickF n s c high id = (0, 4) := by simp [pickF, q2, hi]
    exact shifts_badid n s c v low high id w hn hid R1 R2 hlh P1 P2
  by_cases b1 : bucketI (keyS n id) < low
  · have P1 : pickF n s c low id = (c, 0) := by simp [pickF, q1, hi, c0, b1]
    have P2 : pickF n s c high id = (c, 0) := by simp [pickF, q2, hi, c0, show bucketI (keyS n id) < high by omega]
    exact shifts_cc n s c v low high id w hn hid R1 R2 hlh P1 P2 hcs hsc hsc2 hcs2 (by omega) (by show movedL _ _ _ = _; simp [movedL, mvB, pickA, P1, P2])
  · have P1 : pickF n s c low id = (s, 0) := by simp [pickF, q1, hi, b1]
    by_cases b2 : bucketI (keyS n id) < high
    · have P2 : pickF n s c high id = (c, 0) := by simp [pickF, q2, hi, c0, b2]
      exact shifts_sc n s c v low high id w hn hid R1 R2 hlh P1 P2 hcs hsc hsc2 hcs2 (by show movedL _ _ _ = _; simp [movedL, mvB, pickA, P1, P2, List.filter_cons]; exact fun e => z5 e.symm)
    · have P2 : pickF n s c high id = (s, 0) := by simp [pickF, q2, hi, b2]
      exact shifts_ss n s c v low high id w hn hid R1 R2 hlh P1 P2 hcs hsc hsc2 hcs2 (by omega) (by show movedL _ _ _ = _; simp [movedL, mvB, pickA, P1, P2])

end Go.Proofs.Ytffecbepmlaekaa
