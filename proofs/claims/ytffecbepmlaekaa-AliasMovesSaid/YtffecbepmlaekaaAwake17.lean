/-
  The law's own examples (faaslaw17.awake) hold.
-/
import Derived.Test.YtffecbepmlaekaaAlias7
import Derived.Test.YtffecbepmlaekaaSame
namespace Go.Proofs.Ytffecbepmlaekaa
open Go.RowKit

def live : ByteArray := ⟨#[108, 105, 118, 101]⟩
theorem live_size : live.size ≤ maxLen := by decide
theorem aw1 : chF ⟨#[108, 105, 118, 101]⟩ 3 0 0 (beginE 3 0 4) ⟨#[108, 105, 118, 101]⟩ 3 4 0 = (⟨#[108, 105, 118, 101]⟩, 3, 4, 0, 0) := by decide +kernel
theorem aw2 : chk ⟨#[108, 105, 118, 101]⟩ 3 4 0 = 0 := by decide +kernel
theorem aw3 : chk ⟨#[76]⟩ 3 0 0 = 4 := by decide +kernel
theorem aw4 : chk ⟨#[108, 105, 118, 101]⟩ 0 0 0 = 2 := by decide +kernel
theorem aw5 : pickF ⟨#[108, 105, 118, 101]⟩ 3 4 0 ⟨#[101, 49]⟩ = (3, 0) := by decide +kernel
theorem aw6 : chF ⟨#[108, 105, 118, 101]⟩ 3 4 0 (shiftE 4 1000) ⟨#[108, 105, 118, 101]⟩ 3 4 1000 = (⟨#[108, 105, 118, 101]⟩, 3, 4, 1000, 0) := by decide +kernel
theorem aw7 : pickF ⟨#[108, 105, 118, 101]⟩ 3 4 1000 ⟨#[101, 49]⟩ = (4, 0) := by decide +kernel
theorem aw8 : movedL (⟨#[108, 105, 118, 101]⟩, 3, 4, 0) (⟨#[108, 105, 118, 101]⟩, 3, 4, 1000) [⟨#[120]⟩, ⟨#[97, 32, 98]⟩, ⟨#[121]⟩] = [⟨#[120]⟩, ⟨#[121]⟩] := by decide +kernel


theorem aw9 : chF ⟨#[108, 105, 118, 101]⟩ 3 4 1000 (canE 4) ⟨#[108, 105, 118, 101]⟩ 4 0 0 = (⟨#[108, 105, 118, 101]⟩, 4, 0, 0, 0) := by decide +kernel
theorem aw10 : chF ⟨#[108, 105, 118, 101]⟩ 3 4 1000 (canE 4) ⟨#[108, 105, 118, 101]⟩ 3 0 0 = (⟨#[108, 105, 118, 101]⟩, 3, 0, 0, 0) := by decide +kernel
theorem aw11 : chF ⟨#[108, 105, 118, 101]⟩ 3 4 1000 (pointE 7) ⟨#[108, 105, 118, 101]⟩ 7 0 0 = (⟨#[108, 105, 118, 101]⟩, 7, 0, 0, 0) := by decide +kernel

theorem awBegin (w : World) : Calls Try.prog 12 #[.agg #[.string ⟨#[108, 105, 118, 101]⟩, .int .i64 3, .int .i64 0, .int .i64 0], .int .i64 4] w fun e w' => e = .returned (.tuple #[.agg #[.string ⟨#[108, 105, 118, 101]⟩, .int .i64 3, .int .i64 4, .int .i64 0], .int .i64 0]) ∧ Below w.heap.size w w' := by
  have h := begin_any ⟨#[108, 105, 118, 101]⟩ 3 0 0 4 w live_size
  rw [aw1] at h; exact h
theorem awChk1 (w : World) : Calls Try.prog 8 #[.agg #[.string ⟨#[108, 105, 118, 101]⟩, .int .i64 3, .int .i64 4, .int .i64 0]] w fun e w' => e = .returned (.int .i64 0) ∧ Below w.heap.size w w' := by
  have h := check_any ⟨#[108, 105, 118, 101]⟩ 3 4 0 w live_size
  rw [aw2] at h; exact h
theorem awChk2 (w : World) : Calls Try.prog 8 #[.agg #[.string ⟨#[76]⟩, .int .i64 3, .int .i64 0, .int .i64 0]] w fun e w' => e = .returned (.int .i64 4) ∧ Below w.heap.size w w' := by
  have h := check_any ⟨#[76]⟩ 3 0 0 w (by decide)
  rw [aw3] at h; exact h
theorem awChk3 (w : World) : Calls Try.prog 8 #[.agg #[.string ⟨#[108, 105, 118, 101]⟩, .int .i64 0, .int .i64 0, .int .i64 0]] w fun e w' => e = .returned (.int .i64 2) ∧ Below w.heap.size w w' := by
  have h := check_any ⟨#[108, 105, 118, 101]⟩ 0 0 0 w live_size
  rw [aw4] at h; exact h
theorem awPick1 (w : World) : Calls Try.prog 21 #[.agg #[.string ⟨#[108, 105, 118, 101]⟩, .int .i64 3, .int .i64 4, .int .i64 0], .string ⟨#[101, 49]⟩] w fun e w' => e = .returned (.tuple #[.int .i64 3, .int .i64 0]) ∧ Below w.heap.size w w' := by
  have h := pick_any ⟨#[108, 105, 118, 101]⟩ 3 4 0 ⟨#[101, 49]⟩ w live_size (by decide)
  rw [aw5] at h; exact h
theorem awShift (w : World) : Calls Try.prog 14 #[.agg #[.string ⟨#[108, 105, 118, 101]⟩, .int .i64 3, .int .i64 4, .int .i64 0], .int .i64 1000] w fun e w' => e = .returned (.tuple #[.agg #[.string ⟨#[108, 105, 118, 101]⟩, .int .i64 3, .int .i64 4, .int .i64 1000], .int .i64 0]) ∧ Below w.heap.size w w' := by
  have h := shift_any ⟨#[108, 105, 118, 101]⟩ 3 4 0 1000 w live_size
  rw [aw6] at h; exact h
theorem awPick2 (w : World) : Calls Try.prog 21 #[.agg #[.string ⟨#[108, 105, 118, 101]⟩, .int .i64 3, .int .i64 4, .int .i64 1000], .string ⟨#[101, 49]⟩] w fun e w' => e = .returned (.tuple #[.int .i64 4, .int .i64 0]) ∧ Below w.heap.size w w' := by
  have h := pick_any ⟨#[108, 105, 118, 101]⟩ 3 4 1000 ⟨#[101, 49]⟩ w live_size (by decide)
  rw [aw7] at h; exact h
theorem awPromote (w : World) : Calls Try.prog 16 #[.agg #[.string ⟨#[108, 105, 118, 101]⟩, .int .i64 3, .int .i64 4, .int .i64 1000]] w fun e w' => e = .returned (.tuple #[.agg #[.string ⟨#[108, 105, 118, 101]⟩, .int .i64 4, .int .i64 0, .int .i64 0], .int .i64 0]) ∧ Below w.heap.size w w' := by
  have h := promote_any ⟨#[108, 105, 118, 101]⟩ 3 4 1000 w live_size
  rw [aw9] at h; exact h
theorem awAbort (w : World) : Calls Try.prog 18 #[.agg #[.string ⟨#[108, 105, 118, 101]⟩, .int .i64 3, .int .i64 4, .int .i64 1000]] w fun e w' => e = .returned (.tuple #[.agg #[.string ⟨#[108, 105, 118, 101]⟩, .int .i64 3, .int .i64 0, .int .i64 0], .int .i64 0]) ∧ Below w.heap.size w w' := by
  have h := abort_any ⟨#[108, 105, 118, 101]⟩ 3 4 1000 w live_size
  rw [aw10] at h; exact h
theorem awPoint (w : World) : Calls Try.prog 10 #[.agg #[.string ⟨#[108, 105, 118, 101]⟩, .int .i64 3, .int .i64 4, .int .i64 1000], .int .i64 7] w fun e w' => e = .returned (.tuple #[.agg #[.string ⟨#[108, 105, 118, 101]⟩, .int .i64 7, .int .i64 0, .int .i64 0], .int .i64 0]) ∧ Below w.heap.size w w' := by
  have h := point_any ⟨#[108, 105, 118, 101]⟩ 3 4 1000 7 w live_size
  rw [aw11] at h; exact h

set_option maxHeartbeats 4000000 in
set_option maxRecDepth 100000 in
theorem awake_any (w : World) :
    Calls Try.prog 20 #[] w fun e w' => e = .returned (.bool true) ∧ Below w.heap.size w w' := by
  go_enter Try.func20, Try.ntmps20
  go_wp2_with fail
  refine (awBegin _).mono ?_
  rintro e w1 ⟨rfl, hb1⟩
  have bw1 : Below w.heap.size w w1 := ((Below.refl _ _).alloc (Nat.le_refl _) _).trans (hb1.mono (by simp))
  have nA : Blk w1 w.heap.size 23 #[.string ⟨#[108, 105, 118, 101]⟩, .int .i64 3, .int .i64 0, .int .i64 0] := (Blk.new w _ _).below hb1 (by simp)
  have lA := nA.lt
  obtain ⟨c0A, c1A, c2A, c3A, -, -, -⟩ := al_cells nA
  have HA := Lib.hid nA; clear nA
  have BW1 := Lib.hid bw1; clear hb1 bw1
  go_wp2_with fail
  refine (awChk1 _).mono ?_
  rintro e w2 ⟨rfl, hb2⟩
  have bw2 : Below w1.heap.size w1 w2 := ((Below.refl _ _).alloc (Nat.le_refl _) _).trans (hb2.mono (by simp))
  have nB : Blk w2 w1.heap.size 23 #[.string ⟨#[108, 105, 118, 101]⟩, .int .i64 3, .int .i64 4, .int .i64 0] := (Blk.new w1 _ _).below hb2 (by simp)
  have nA : Blk w2 (w.heap.size) 23 #[.string ⟨#[108, 105, 118, 101]⟩, .int .i64 3, .int .i64 0, .int .i64 0] := HA.out.below bw2 lA
  clear HA lA c0A c1A c2A c3A
  have lA := nA.lt
  obtain ⟨c0A, c1A, c2A, c3A, -, -, -⟩ := al_cells nA
  have HA := Lib.hid nA; clear nA
  have lB := nB.lt
  obtain ⟨c0B, c1B, c2B, c3B, -, -, -⟩ := al_cells nB
  have HB := Lib.hid nB; clear nB
  have BW2 := Lib.hid (BW1.out.trans (bw2.mono BW1.out.size)); clear hb2 bw2 BW1
  go_wp2_with fail
  refine (awChk2 _).mono ?_
  rintro e w3 ⟨rfl, hb3⟩
  have bw3 : Below w2.heap.size w2 w3 := hb3
  have nA : Blk w3 (w.heap.size) 23 #[.string ⟨#[108, 105, 118, 101]⟩, .int .i64 3, .int .i64 0, .int .i64 0] := HA.out.below bw3 lA
  clear HA lA c0A c1A c2A c3A
  have nB : Blk w3 (w1.heap.size) 23 #[.string ⟨#[108, 105, 118, 101]⟩, .int .i64 3, .int .i64 4, .int .i64 0] := HB.out.below bw3 lB
  clear HB lB c0B c1B c2B c3B
  have lA := nA.lt
  obtain ⟨c0A, c1A, c2A, c3A, -, -, -⟩ := al_cells nA
  have HA := Lib.hid nA; clear nA
  have lB := nB.lt
  obtain ⟨c0B, c1B, c2B, c3B, -, -, -⟩ := al_cells nB
  have HB := Lib.hid nB; clear nB
  have BW3 := Lib.hid (BW2.out.trans (bw3.mono BW2.out.size)); clear hb3 bw3 BW2
  go_wp2_with fail
  refine (awChk3 _).mono ?_
  rintro e w4 ⟨rfl, hb4⟩
  have bw4 : Below w3.heap.size w3 w4 := hb4
  have nA : Blk w4 (w.heap.size) 23 #[.string ⟨#[108, 105, 118, 101]⟩, .int .i64 3, .int .i64 0, .int .i64 0] := HA.out.below bw4 lA
  clear HA lA c0A c1A c2A c3A
  have nB : Blk w4 (w1.heap.size) 23 #[.string ⟨#[108, 105, 118, 101]⟩, .int .i64 3, .int .i64 4, .int .i64 0] := HB.out.below bw4 lB
  clear HB lB c0B c1B c2B c3B
  have lA := nA.lt
  obtain ⟨c0A, c1A, c2A, c3A, -, -, -⟩ := al_cells nA
  have HA := Lib.hid nA; clear nA
  have lB := nB.lt
  obtain ⟨c0B, c1B, c2B, c3B, -, -, -⟩ := al_cells nB
  have HB := Lib.hid nB; clear nB
  have BW4 := Lib.hid (BW3.out.trans (bw4.mono BW3.out.size)); clear hb4 bw4 BW3
  go_wp2_with fail
  refine (awPick1 _).mono ?_
  rintro e w5 ⟨rfl, hb5⟩
  have bw5 : Below w4.heap.size w4 w5 := hb5
  have nA : Blk w5 (w.heap.size) 23 #[.string ⟨#[108, 105, 118, 101]⟩, .int .i64 3, .int .i64 0, .int .i64 0] := HA.out.below bw5 lA
  clear HA lA c0A c1A c2A c3A
  have nB : Blk w5 (w1.heap.size) 23 #[.string ⟨#[108, 105, 118, 101]⟩, .int .i64 3, .int .i64 4, .int .i64 0] := HB.out.below bw5 lB
  clear HB lB c0B c1B c2B c3B
  have lA := nA.lt
  obtain ⟨c0A, c1A, c2A, c3A, -, -, -⟩ := al_cells nA
  have HA := Lib.hid nA; clear nA
  have lB := nB.lt
  obtain ⟨c0B, c1B, c2B, c3B, -, -, -⟩ := al_cells nB
  have HB := Lib.hid nB; clear nB
  have BW5 := Lib.hid (BW4.out.trans (bw5.mono BW4.out.size)); clear hb5 bw5 BW4
  go_wp2_with fail
  refine (awShift _).mono ?_
  rintro e w6 ⟨rfl, hb6⟩
  have bw6 : Below w5.heap.size w5 w6 := hb6
  have nA : Blk w6 (w.heap.size) 23 #[.string ⟨#[108, 105, 118, 101]⟩, .int .i64 3, .int .i64 0, .int .i64 0] := HA.out.below bw6 lA
  clear HA lA c0A c1A c2A c3A
  have nB : Blk w6 (w1.heap.size) 23 #[.string ⟨#[108, 105, 118, 101]⟩, .int .i64 3, .int .i64 4, .int .i64 0] := HB.out.below bw6 lB
  clear HB lB c0B c1B c2B c3B
  have lA := nA.lt
  obtain ⟨c0A, c1A, c2A, c3A, -, -, -⟩ := al_cells nA
  have HA := Lib.hid nA; clear nA
  have lB := nB.lt
  obtain ⟨c0B, c1B, c2B, c3B, -, -, -⟩ := al_cells nB
  have HB := Lib.hid nB; clear nB
  have BW6 := Lib.hid (BW5.out.trans (bw6.mono BW5.out.size)); clear hb6 bw6 BW5
  go_wp2_with fail
  refine (awPick2 _).mono ?_
  rintro e w7 ⟨rfl, hb7⟩
  have bw7 : Below w6.heap.size w6 w7 := ((Below.refl _ _).alloc (Nat.le_refl _) _).trans (hb7.mono (by simp))
  have nC : Blk w7 w6.heap.size 23 #[.string ⟨#[108, 105, 118, 101]⟩, .int .i64 3, .int .i64 4, .int .i64 1000] := (Blk.new w6 _ _).below hb7 (by simp)
  have nA : Blk w7 (w.heap.size) 23 #[.string ⟨#[108, 105, 118, 101]⟩, .int .i64 3, .int .i64 0, .int .i64 0] := HA.out.below bw7 lA
  clear HA lA c0A c1A c2A c3A
  have nB : Blk w7 (w1.heap.size) 23 #[.string ⟨#[108, 105, 118, 101]⟩, .int .i64 3, .int .i64 4, .int .i64 0] := HB.out.below bw7 lB
  clear HB lB c0B c1B c2B c3B
  have lA := nA.lt
  obtain ⟨c0A, c1A, c2A, c3A, -, -, -⟩ := al_cells nA
  have HA := Lib.hid nA; clear nA
  have lB := nB.lt
  obtain ⟨c0B, c1B, c2B, c3B, -, -, -⟩ := al_cells nB
  have HB := Lib.hid nB; clear nB
  have lC := nC.lt
  obtain ⟨c0C, c1C, c2C, c3C, -, -, -⟩ := al_cells nC
  have HC := Lib.hid nC; clear nC
  have BW7 := Lib.hid (BW6.out.trans (bw7.mono BW6.out.size)); clear hb7 bw7 BW6
  go_wp2_with fail
  refine (moved_any ⟨#[108, 105, 118, 101]⟩ ⟨#[108, 105, 118, 101]⟩ 3 4 0 3 4 1000 _ 3 3 [⟨#[120]⟩, ⟨#[97, 32, 98]⟩, ⟨#[121]⟩] _ live_size live_size ?_ (Rd.fresh w7 9 _ _ 3 rfl (by simp)) (by omega)).mono ?_
  · intro s hs
    simp at hs
    rcases hs with rfl | rfl | rfl <;> decide
  rw [aw8]
  rintro e w8 ⟨v8, rfl, hown8, hb8⟩
  obtain ⟨A8, cap8, rfl⟩ := own_parts hown8
  have bw8 : Below w7.heap.size w7 w8 := ((Below.refl _ _).alloc (Nat.le_refl _) _).trans (hb8.mono (by simp))
  have Hown8 := Lib.hid hown8; clear hown8
  have nA : Blk w8 (w.heap.size) 23 #[.string ⟨#[108, 105, 118, 101]⟩, .int .i64 3, .int .i64 0, .int .i64 0] := HA.out.below bw8 lA
  clear HA lA c0A c1A c2A c3A
  have nB : Blk w8 (w1.heap.size) 23 #[.string ⟨#[108, 105, 118, 101]⟩, .int .i64 3, .int .i64 4, .int .i64 0] := HB.out.below bw8 lB
  clear HB lB c0B c1B c2B c3B
  have nC : Blk w8 (w6.heap.size) 23 #[.string ⟨#[108, 105, 118, 101]⟩, .int .i64 3, .int .i64 4, .int .i64 1000] := HC.out.below bw8 lC
  clear HC lC c0C c1C c2C c3C
  have lA := nA.lt
  obtain ⟨c0A, c1A, c2A, c3A, -, -, -⟩ := al_cells nA
  have HA := Lib.hid nA; clear nA
  have lB := nB.lt
  obtain ⟨c0B, c1B, c2B, c3B, -, -, -⟩ := al_cells nB
  have HB := Lib.hid nB; clear nB
  have lC := nC.lt
  obtain ⟨c0C, c1C, c2C, c3C, -, -, -⟩ := al_cells nC
  have HC := Lib.hid nC; clear nC
  have BW8 := Lib.hid (BW7.out.trans (bw8.mono BW7.out.size)); clear hb8 bw8 BW7
  go_wp2_with fail
  refine (same_any A8 _ 2 2 cap8 2 [⟨#[120]⟩, ⟨#[121]⟩] [⟨#[120]⟩, ⟨#[121]⟩] _ ?_ (Rd.fresh w8 9 _ _ 2 rfl (by simp)) (by decide)).mono ?_
  · exact ((Rd.of_own Hown8.out).below ((Below.refl _ _).alloc (Nat.le_refl _) _)).more (by simp)
  rintro e w9 ⟨rfl, hb9⟩
  rw [show decide (([⟨#[120]⟩, ⟨#[121]⟩] : List ByteArray) = [⟨#[120]⟩, ⟨#[121]⟩]) = true from by decide]
  have bw9 : Below w8.heap.size w8 w9 := ((Below.refl _ _).alloc (Nat.le_refl _) _).trans (hb9.mono (by simp))
  clear Hown8
  have nA : Blk w9 (w.heap.size) 23 #[.string ⟨#[108, 105, 118, 101]⟩, .int .i64 3, .int .i64 0, .int .i64 0] := HA.out.below bw9 lA
  clear HA lA c0A c1A c2A c3A
  have nB : Blk w9 (w1.heap.size) 23 #[.string ⟨#[108, 105, 118, 101]⟩, .int .i64 3, .int .i64 4, .int .i64 0] := HB.out.below bw9 lB
  clear HB lB c0B c1B c2B c3B
  have nC : Blk w9 (w6.heap.size) 23 #[.string ⟨#[108, 105, 118, 101]⟩, .int .i64 3, .int .i64 4, .int .i64 1000] := HC.out.below bw9 lC
  clear HC lC c0C c1C c2C c3C
  have lA := nA.lt
  obtain ⟨c0A, c1A, c2A, c3A, -, -, -⟩ := al_cells nA
  have HA := Lib.hid nA; clear nA
  have lB := nB.lt
  obtain ⟨c0B, c1B, c2B, c3B, -, -, -⟩ := al_cells nB
  have HB := Lib.hid nB; clear nB
  have lC := nC.lt
  obtain ⟨c0C, c1C, c2C, c3C, -, -, -⟩ := al_cells nC
  have HC := Lib.hid nC; clear nC
  have BW9 := Lib.hid (BW8.out.trans (bw9.mono BW8.out.size)); clear hb9 bw9 BW8
  go_wp2_with fail
  refine (awPromote _).mono ?_
  rintro e w10 ⟨rfl, hb10⟩
  have bw10 : Below w9.heap.size w9 w10 := hb10
  have nA : Blk w10 (w.heap.size) 23 #[.string ⟨#[108, 105, 118, 101]⟩, .int .i64 3, .int .i64 0, .int .i64 0] := HA.out.below bw10 lA
  clear HA lA c0A c1A c2A c3A
  have nB : Blk w10 (w1.heap.size) 23 #[.string ⟨#[108, 105, 118, 101]⟩, .int .i64 3, .int .i64 4, .int .i64 0] := HB.out.below bw10 lB
  clear HB lB c0B c1B c2B c3B
  have nC : Blk w10 (w6.heap.size) 23 #[.string ⟨#[108, 105, 118, 101]⟩, .int .i64 3, .int .i64 4, .int .i64 1000] := HC.out.below bw10 lC
  clear HC lC c0C c1C c2C c3C
  have lA := nA.lt
  obtain ⟨c0A, c1A, c2A, c3A, -, -, -⟩ := al_cells nA
  have HA := Lib.hid nA; clear nA
  have lB := nB.lt
  obtain ⟨c0B, c1B, c2B, c3B, -, -, -⟩ := al_cells nB
  have HB := Lib.hid nB; clear nB
  have lC := nC.lt
  obtain ⟨c0C, c1C, c2C, c3C, -, -, -⟩ := al_cells nC
  have HC := Lib.hid nC; clear nC
  have BW10 := Lib.hid (BW9.out.trans (bw10.mono BW9.out.size)); clear hb10 bw10 BW9
  go_wp2_with fail
  refine (awAbort _).mono ?_
  rintro e w11 ⟨rfl, hb11⟩
  have bw11 : Below w10.heap.size w10 w11 := ((Below.refl _ _).alloc (Nat.le_refl _) _).trans (hb11.mono (by simp))
  have nD : Blk w11 w10.heap.size 23 #[.string ⟨#[108, 105, 118, 101]⟩, .int .i64 4, .int .i64 0, .int .i64 0] := (Blk.new w10 _ _).below hb11 (by simp)
  have nA : Blk w11 (w.heap.size) 23 #[.string ⟨#[108, 105, 118, 101]⟩, .int .i64 3, .int .i64 0, .int .i64 0] := HA.out.below bw11 lA
  clear HA lA c0A c1A c2A c3A
  have nB : Blk w11 (w1.heap.size) 23 #[.string ⟨#[108, 105, 118, 101]⟩, .int .i64 3, .int .i64 4, .int .i64 0] := HB.out.below bw11 lB
  clear HB lB c0B c1B c2B c3B
  have nC : Blk w11 (w6.heap.size) 23 #[.string ⟨#[108, 105, 118, 101]⟩, .int .i64 3, .int .i64 4, .int .i64 1000] := HC.out.below bw11 lC
  clear HC lC c0C c1C c2C c3C
  have lA := nA.lt
  obtain ⟨c0A, c1A, c2A, c3A, -, -, -⟩ := al_cells nA
  have HA := Lib.hid nA; clear nA
  have lB := nB.lt
  obtain ⟨c0B, c1B, c2B, c3B, -, -, -⟩ := al_cells nB
  have HB := Lib.hid nB; clear nB
  have lC := nC.lt
  obtain ⟨c0C, c1C, c2C, c3C, -, -, -⟩ := al_cells nC
  have HC := Lib.hid nC; clear nC
  have lD := nD.lt
  obtain ⟨c0D, c1D, c2D, c3D, -, -, -⟩ := al_cells nD
  have HD := Lib.hid nD; clear nD
  have BW11 := Lib.hid (BW10.out.trans (bw11.mono BW10.out.size)); clear hb11 bw11 BW10
  go_wp2_with fail
  refine (awPoint _).mono ?_
  rintro e w12 ⟨rfl, hb12⟩
  have bw12 : Below w11.heap.size w11 w12 := ((Below.refl _ _).alloc (Nat.le_refl _) _).trans (hb12.mono (by simp))
  have nE : Blk w12 w11.heap.size 23 #[.string ⟨#[108, 105, 118, 101]⟩, .int .i64 3, .int .i64 0, .int .i64 0] := (Blk.new w11 _ _).below hb12 (by simp)
  have nA : Blk w12 (w.heap.size) 23 #[.string ⟨#[108, 105, 118, 101]⟩, .int .i64 3, .int .i64 0, .int .i64 0] := HA.out.below bw12 lA
  clear HA lA c0A c1A c2A c3A
  have nB : Blk w12 (w1.heap.size) 23 #[.string ⟨#[108, 105, 118, 101]⟩, .int .i64 3, .int .i64 4, .int .i64 0] := HB.out.below bw12 lB
  clear HB lB c0B c1B c2B c3B
  have nC : Blk w12 (w6.heap.size) 23 #[.string ⟨#[108, 105, 118, 101]⟩, .int .i64 3, .int .i64 4, .int .i64 1000] := HC.out.below bw12 lC
  clear HC lC c0C c1C c2C c3C
  have nD : Blk w12 (w10.heap.size) 23 #[.string ⟨#[108, 105, 118, 101]⟩, .int .i64 4, .int .i64 0, .int .i64 0] := HD.out.below bw12 lD
  clear HD lD c0D c1D c2D c3D
  have lA := nA.lt
  obtain ⟨c0A, c1A, c2A, c3A, -, -, -⟩ := al_cells nA
  have HA := Lib.hid nA; clear nA
  have lB := nB.lt
  obtain ⟨c0B, c1B, c2B, c3B, -, -, -⟩ := al_cells nB
  have HB := Lib.hid nB; clear nB
  have lC := nC.lt
  obtain ⟨c0C, c1C, c2C, c3C, -, -, -⟩ := al_cells nC
  have HC := Lib.hid nC; clear nC
  have lD := nD.lt
  obtain ⟨c0D, c1D, c2D, c3D, -, -, -⟩ := al_cells nD
  have HD := Lib.hid nD; clear nD
  have lE := nE.lt
  obtain ⟨c0E, c1E, c2E, c3E, -, -, -⟩ := al_cells nE
  have HE := Lib.hid nE; clear nE
  have BW12 := Lib.hid (BW11.out.trans (bw12.mono BW11.out.size)); clear hb12 bw12 BW11
  go_wp2
  go_ret
  exact ⟨rfl, BW12.out.alloc BW12.out.size _⟩

end Go.Proofs.Ytffecbepmlaekaa
