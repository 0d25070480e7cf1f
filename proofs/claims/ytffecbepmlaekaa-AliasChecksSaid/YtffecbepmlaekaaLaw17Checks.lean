/-
  The walk of the law AliasChecks: it returns true, and what was there before is as it was.
-/
import Derived.Test.YtffecbepmlaekaaAwake17
namespace Go.Proofs.Ytffecbepmlaekaa
open Go.RowKit

theorem set4 {w : World} {b : Nat} {t : TypeId} {x0 x1 x2 x3 y0 y1 y2 y3 : Value} (h : Blk w b t #[x0, x1, x2, x3]) :
    Blk ((((w.setCell ⟨b, 0, none⟩ y0).setCell ⟨b, 1, none⟩ y1).setCell ⟨b, 2, none⟩ y2).setCell ⟨b, 3, none⟩ y3) b t #[y0, y1, y2, y3] := by
  have := (((h.set_ 0 y0).set_ 1 y1).set_ 2 y2).set_ 3 y3
  simpa using this
theorem far4 {w : World} {b g : Nat} {t : TypeId} {cs : Array Value} {y0 y1 y2 y3 : Value} (h : Blk w g t cs) (hg : g ≠ b) :
    Blk ((((w.setCell ⟨b, 0, none⟩ y0).setCell ⟨b, 1, none⟩ y1).setCell ⟨b, 2, none⟩ y2).setCell ⟨b, 3, none⟩ y3) g t cs :=
  (((h.far hg y0).far hg y1).far hg y2).far hg y3
theorem below4 {w0 w : World} {b B : Nat} {y0 y1 y2 y3 : Value} (h : Below B w0 w) (hb : B ≤ b) :
    Below B w0 ((((w.setCell ⟨b, 0, none⟩ y0).setCell ⟨b, 1, none⟩ y1).setCell ⟨b, 2, none⟩ y2).setCell ⟨b, 3, none⟩ y3) :=
  (((h.setCell hb _).setCell hb _).setCell hb _).setCell hb _
theorem al_frozen {w : World} {b : Nat} {t : TypeId} {x0 x1 x2 x3 : Value} (h : Blk w b t #[x0, x1, x2, x3]) :
    w.frozen? ⟨b, 0, none⟩ = false ∧ w.frozen? ⟨b, 1, none⟩ = false ∧ w.frozen? ⟨b, 2, none⟩ = false ∧ w.frozen? ⟨b, 3, none⟩ = false := ⟨h.frozen 0, h.frozen 1, h.frozen 2, h.frozen 3⟩

set_option maxHeartbeats 8000000 in
set_option maxRecDepth 100000 in
theorem checks_any (n : ByteArray) (s c v k : Int) (w : World) (hn : n.size ≤ maxLen) :
    Calls Try.prog 3 #[.agg #[.string n, .int .i64 s, .int .i64 c, .int .i64 v], .int .i64 k] w fun e w' => e = .returned (.bool true) ∧ Below w.heap.size w w' := by
  obtain ⟨p0, q0, r0, s0, e0, hR0⟩ : ∃ y0 y1 y2 y3 y4, chF n s c v (pointE k) n k 0 0 = (y0, y1, y2, y3, y4) := ⟨_, _, _, _, _, rfl⟩
  have HR0 := Lib.hid hR0; clear hR0
  obtain ⟨p1, q1, r1, s1, e1, hR1⟩ : ∃ y0 y1 y2 y3 y4, chF n s c v (beginE s c k) n s k 0 = (y0, y1, y2, y3, y4) := ⟨_, _, _, _, _, rfl⟩
  have HR1 := Lib.hid hR1; clear hR1
  obtain ⟨p2, q2, r2, s2, e2, hR2⟩ : ∃ y0 y1 y2 y3 y4, chF n s c v (shiftE c k) n s c k = (y0, y1, y2, y3, y4) := ⟨_, _, _, _, _, rfl⟩
  have HR2 := Lib.hid hR2; clear hR2
  obtain ⟨p3, q3, r3, s3, e3, hR3⟩ : ∃ y0 y1 y2 y3 y4, chF n s c v (canE c) n c 0 0 = (y0, y1, y2, y3, y4) := ⟨_, _, _, _, _, rfl⟩
  have HR3 := Lib.hid hR3; clear hR3
  obtain ⟨p4, q4, r4, s4, e4, hR4⟩ : ∃ y0 y1 y2 y3 y4, chF n s c v (canE c) n s 0 0 = (y0, y1, y2, y3, y4) := ⟨_, _, _, _, _, rfl⟩
  have HR4 := Lib.hid hR4; clear hR4
  go_enter Try.func3, Try.ntmps3
  go_wp2_with fail
  have bA : Blk (w.alloc (.cells #[.string n, .int .i64 s, .int .i64 c, .int .i64 v] 23)) w.heap.size 23 #[.string n, .int .i64 s, .int .i64 c, .int .i64 v] := Blk.new w _ _
  obtain ⟨c0A, c1A, c2A, c3A, -, -, -⟩ := al_cells bA
  have x0 := ov_cell (B := w.heap.size + 1) c0A (by omega)
  have x1 := ov_cell (B := w.heap.size + 1) c1A (by omega)
  have x2 := ov_cell (B := w.heap.size + 1) c2A (by omega)
  have x3 := ov_cell (B := w.heap.size + 1) c3A (by omega)
  refine wp_region_ov (w0 := w.alloc (.cells #[.string n, .int .i64 s, .int .i64 c, .int .i64 v] 23)) (B := w.heap.size + 1) (by kernel_rfl) (by kernel_rfl) (Below.refl _ _) ?_
  repeat (go_big_quiet_step (first
    | (go_at_call 8; exact Calls.ov_of (by simp) (check_any n s c v _ hn))
    | (go_at_call 9; exact Calls.ov_of (by simp) (rcheck_any n s c v _ hn))))
  refine wpQuiet_nil ?_
  intro _ hw'
  obtain ⟨z, rfl⟩ := hw'
  have hb1 := ov_below z
  clear x0 x1 x2 x3 c0A c1A c2A c3A bA
  generalize ov z = w1 at hb1
  clear z
  have bw1 : Below w.heap.size w w1 := ((Below.refl _ _).alloc (Nat.le_refl _) _).trans (hb1.mono (by omega))
  have nA : Blk w1 w.heap.size 23 #[.string n, .int .i64 s, .int .i64 c, .int .i64 v] := (Blk.new w _ _).below hb1 (by omega)
  have BW1 := Lib.hid bw1; clear bw1 hb1
  have lA := nA.lt
  obtain ⟨c0A, c1A, c2A, c3A, -, -, -⟩ := al_cells nA
  obtain ⟨f0A, f1A, f2A, f3A⟩ := al_frozen nA
  have HA := Lib.hid nA; clear nA
  go_wp2_with fail
  refine (point_any n s c v k _ hn).mono ?_
  rw [HR0.out]; unfold alT
  rintro e w2 ⟨rfl, hb2⟩
  have nA : Blk w2 (w.heap.size) 23 #[.string n, .int .i64 s, .int .i64 c, .int .i64 v] := HA.out.below hb2 (by omega)
  have BW2 := Lib.hid (BW1.out.trans (hb2.mono BW1.out.size)); clear hb2 BW1
  clear HA lA c0A c1A c2A c3A f0A f1A f2A f3A
  have lA := nA.lt
  obtain ⟨c0A, c1A, c2A, c3A, -, -, -⟩ := al_cells nA
  obtain ⟨f0A, f1A, f2A, f3A⟩ := al_frozen nA
  have HA := Lib.hid nA; clear nA
  go_wp2_with fail
  refine (rpoint_any n s c v k _ hn).mono ?_
  rw [HR0.out]; unfold alT
  rintro e w3 ⟨rfl, hb3⟩
  have oAX : (w.heap.size) < w2.heap.size := lA
  have nA : Blk w3 (w.heap.size) 23 #[.string n, .int .i64 s, .int .i64 c, .int .i64 v] := (HA.out.alloc _).below hb3 (by simp; omega)
  have nX : Blk w3 w2.heap.size 23 #[.string p0, .int .i64 q0, .int .i64 r0, .int .i64 s0] := (Blk.new w2 _ _).below hb3 (by simp)
  have bw3 : Below w2.heap.size w2 w3 := ((Below.refl _ _).alloc (Nat.le_refl _) _).trans (hb3.mono (by simp))
  have BW3 := Lib.hid (BW2.out.trans (bw3.mono BW2.out.size)); clear bw3 hb3 BW2
  clear HA lA c0A c1A c2A c3A f0A f1A f2A f3A
  have lA := nA.lt
  obtain ⟨c0A, c1A, c2A, c3A, -, -, -⟩ := al_cells nA
  obtain ⟨f0A, f1A, f2A, f3A⟩ := al_frozen nA
  have HA := Lib.hid nA; clear nA
  have lX := nX.lt
  obtain ⟨c0X, c1X, c2X, c3X, -, -, -⟩ := al_cells nX
  obtain ⟨f0X, f1X, f2X, f3X⟩ := al_frozen nX
  have HX := Lib.hid nX; clear nX
  go_wp2_with fail
  refine (begin_any n s c v k _ hn).mono ?_
  rw [HR1.out]; unfold alT
  rintro e w4 ⟨rfl, hb4⟩
  have oAY : (w.heap.size) < w3.heap.size := lA
  have oXY : (w2.heap.size) < w3.heap.size := lX
  have nA : Blk w4 (w.heap.size) 23 #[.string n, .int .i64 s, .int .i64 c, .int .i64 v] := (HA.out.alloc _).below hb4 (by simp; omega)
  have nX : Blk w4 (w2.heap.size) 23 #[.string p0, .int .i64 q0, .int .i64 r0, .int .i64 s0] := (HX.out.alloc _).below hb4 (by simp; omega)
  have nY : Blk w4 w3.heap.size 23 #[.string p0, .int .i64 q0, .int .i64 r0, .int .i64 s0] := (Blk.new w3 _ _).below hb4 (by simp)
  have bw4 : Below w3.heap.size w3 w4 := ((Below.refl _ _).alloc (Nat.le_refl _) _).trans (hb4.mono (by simp))
  have BW4 := Lib.hid (BW3.out.trans (bw4.mono BW3.out.size)); clear bw4 hb4 BW3
  clear HA lA c0A c1A c2A c3A f0A f1A f2A f3A
  clear HX lX c0X c1X c2X c3X f0X f1X f2X f3X
  have lA := nA.lt
  obtain ⟨c0A, c1A, c2A, c3A, -, -, -⟩ := al_cells nA
  obtain ⟨f0A, f1A, f2A, f3A⟩ := al_frozen nA
  have HA := Lib.hid nA; clear nA
  have lX := nX.lt
  obtain ⟨c0X, c1X, c2X, c3X, -, -, -⟩ := al_cells nX
  obtain ⟨f0X, f1X, f2X, f3X⟩ := al_frozen nX
  have HX := Lib.hid nX; clear nX
  have lY := nY.lt
  obtain ⟨c0Y, c1Y, c2Y, c3Y, -, -, -⟩ := al_cells nY
  obtain ⟨f0Y, f1Y, f2Y, f3Y⟩ := al_frozen nY
  have HY := Lib.hid nY; clear nY
  go_wp2_with fail
  refine (rbegin_any n s c v k _ hn).mono ?_
  rw [HR1.out]; unfold alT
  rintro e w5 ⟨rfl, hb5⟩
  have nA : Blk w5 (w.heap.size) 23 #[.string n, .int .i64 s, .int .i64 c, .int .i64 v] := (far4 HA.out (by omega)).below hb5 (by simp; omega)
  have nY : Blk w5 (w3.heap.size) 23 #[.string p0, .int .i64 q0, .int .i64 r0, .int .i64 s0] := (far4 HY.out (by omega)).below hb5 (by simp; omega)
  have nX : Blk w5 (w2.heap.size) 23 #[.string p1, .int .i64 q1, .int .i64 r1, .int .i64 s1] := (set4 HX.out).below hb5 (by simp; omega)
  have BW5 := Lib.hid ((below4 BW4.out (by omega)).trans (hb5.mono (by simp; have := BW4.out.size; omega))); clear hb5 BW4
  clear HA lA c0A c1A c2A c3A f0A f1A f2A f3A
  clear HX lX c0X c1X c2X c3X f0X f1X f2X f3X
  clear HY lY c0Y c1Y c2Y c3Y f0Y f1Y f2Y f3Y
  have lA := nA.lt
  obtain ⟨c0A, c1A, c2A, c3A, -, -, -⟩ := al_cells nA
  obtain ⟨f0A, f1A, f2A, f3A⟩ := al_frozen nA
  have HA := Lib.hid nA; clear nA
  have lX := nX.lt
  obtain ⟨c0X, c1X, c2X, c3X, -, -, -⟩ := al_cells nX
  obtain ⟨f0X, f1X, f2X, f3X⟩ := al_frozen nX
  have HX := Lib.hid nX; clear nX
  have lY := nY.lt
  obtain ⟨c0Y, c1Y, c2Y, c3Y, -, -, -⟩ := al_cells nY
  obtain ⟨f0Y, f1Y, f2Y, f3Y⟩ := al_frozen nY
  have HY := Lib.hid nY; clear nY
  go_wp2_with fail
  refine (shift_any n s c v k _ hn).mono ?_
  rw [HR2.out]; unfold alT
  rintro e w6 ⟨rfl, hb6⟩
  have nA : Blk w6 (w.heap.size) 23 #[.string n, .int .i64 s, .int .i64 c, .int .i64 v] := (far4 HA.out (by omega)).below hb6 (by simp; omega)
  have nX : Blk w6 (w2.heap.size) 23 #[.string p1, .int .i64 q1, .int .i64 r1, .int .i64 s1] := (far4 HX.out (by omega)).below hb6 (by simp; omega)
  have nY : Blk w6 (w3.heap.size) 23 #[.string p1, .int .i64 q1, .int .i64 r1, .int .i64 s1] := (set4 HY.out).below hb6 (by simp; omega)
  have BW6 := Lib.hid ((below4 BW5.out (by omega)).trans (hb6.mono (by simp; have := BW5.out.size; omega))); clear hb6 BW5
  clear HA lA c0A c1A c2A c3A f0A f1A f2A f3A
  clear HX lX c0X c1X c2X c3X f0X f1X f2X f3X
  clear HY lY c0Y c1Y c2Y c3Y f0Y f1Y f2Y f3Y
  have lA := nA.lt
  obtain ⟨c0A, c1A, c2A, c3A, -, -, -⟩ := al_cells nA
  obtain ⟨f0A, f1A, f2A, f3A⟩ := al_frozen nA
  have HA := Lib.hid nA; clear nA
  have lX := nX.lt
  obtain ⟨c0X, c1X, c2X, c3X, -, -, -⟩ := al_cells nX
  obtain ⟨f0X, f1X, f2X, f3X⟩ := al_frozen nX
  have HX := Lib.hid nX; clear nX
  have lY := nY.lt
  obtain ⟨c0Y, c1Y, c2Y, c3Y, -, -, -⟩ := al_cells nY
  obtain ⟨f0Y, f1Y, f2Y, f3Y⟩ := al_frozen nY
  have HY := Lib.hid nY; clear nY
  go_wp2_with fail
  refine (rshift_any n s c v k _ hn).mono ?_
  rw [HR2.out]; unfold alT
  rintro e w7 ⟨rfl, hb7⟩
  have nA : Blk w7 (w.heap.size) 23 #[.string n, .int .i64 s, .int .i64 c, .int .i64 v] := (far4 HA.out (by omega)).below hb7 (by simp; omega)
  have nY : Blk w7 (w3.heap.size) 23 #[.string p1, .int .i64 q1, .int .i64 r1, .int .i64 s1] := (far4 HY.out (by omega)).below hb7 (by simp; omega)
  have nX : Blk w7 (w2.heap.size) 23 #[.string p2, .int .i64 q2, .int .i64 r2, .int .i64 s2] := (set4 HX.out).below hb7 (by simp; omega)
  have BW7 := Lib.hid ((below4 BW6.out (by omega)).trans (hb7.mono (by simp; have := BW6.out.size; omega))); clear hb7 BW6
  clear HA lA c0A c1A c2A c3A f0A f1A f2A f3A
  clear HX lX c0X c1X c2X c3X f0X f1X f2X f3X
  clear HY lY c0Y c1Y c2Y c3Y f0Y f1Y f2Y f3Y
  have lA := nA.lt
  obtain ⟨c0A, c1A, c2A, c3A, -, -, -⟩ := al_cells nA
  obtain ⟨f0A, f1A, f2A, f3A⟩ := al_frozen nA
  have HA := Lib.hid nA; clear nA
  have lX := nX.lt
  obtain ⟨c0X, c1X, c2X, c3X, -, -, -⟩ := al_cells nX
  obtain ⟨f0X, f1X, f2X, f3X⟩ := al_frozen nX
  have HX := Lib.hid nX; clear nX
  have lY := nY.lt
  obtain ⟨c0Y, c1Y, c2Y, c3Y, -, -, -⟩ := al_cells nY
  obtain ⟨f0Y, f1Y, f2Y, f3Y⟩ := al_frozen nY
  have HY := Lib.hid nY; clear nY
  go_wp2_with fail
  refine (promote_any n s c v _ hn).mono ?_
  rw [HR3.out]; unfold alT
  rintro e w8 ⟨rfl, hb8⟩
  have nA : Blk w8 (w.heap.size) 23 #[.string n, .int .i64 s, .int .i64 c, .int .i64 v] := (far4 HA.out (by omega)).below hb8 (by simp; omega)
  have nX : Blk w8 (w2.heap.size) 23 #[.string p2, .int .i64 q2, .int .i64 r2, .int .i64 s2] := (far4 HX.out (by omega)).below hb8 (by simp; omega)
  have nY : Blk w8 (w3.heap.size) 23 #[.string p2, .int .i64 q2, .int .i64 r2, .int .i64 s2] := (set4 HY.out).below hb8 (by simp; omega)
  have BW8 := Lib.hid ((below4 BW7.out (by omega)).trans (hb8.mono (by simp; have := BW7.out.size; omega))); clear hb8 BW7
  clear HA lA c0A c1A c2A c3A f0A f1A f2A f3A
  clear HX lX c0X c1X c2X c3X f0X f1X f2X f3X
  clear HY lY c0Y c1Y c2Y c3Y f0Y f1Y f2Y f3Y
  have lA := nA.lt
  obtain ⟨c0A, c1A, c2A, c3A, -, -, -⟩ := al_cells nA
  obtain ⟨f0A, f1A, f2A, f3A⟩ := al_frozen nA
  have HA := Lib.hid nA; clear nA
  have lX := nX.lt
  obtain ⟨c0X, c1X, c2X, c3X, -, -, -⟩ := al_cells nX
  obtain ⟨f0X, f1X, f2X, f3X⟩ := al_frozen nX
  have HX := Lib.hid nX; clear nX
  have lY := nY.lt
  obtain ⟨c0Y, c1Y, c2Y, c3Y, -, -, -⟩ := al_cells nY
  obtain ⟨f0Y, f1Y, f2Y, f3Y⟩ := al_frozen nY
  have HY := Lib.hid nY; clear nY
  go_wp2_with fail
  refine (rpromote_any n s c v _ hn).mono ?_
  rw [HR3.out]; unfold alT
  rintro e w9 ⟨rfl, hb9⟩
  have nA : Blk w9 (w.heap.size) 23 #[.string n, .int .i64 s, .int .i64 c, .int .i64 v] := (far4 HA.out (by omega)).below hb9 (by simp; omega)
  have nY : Blk w9 (w3.heap.size) 23 #[.string p2, .int .i64 q2, .int .i64 r2, .int .i64 s2] := (far4 HY.out (by omega)).below hb9 (by simp; omega)
  have nX : Blk w9 (w2.heap.size) 23 #[.string p3, .int .i64 q3, .int .i64 r3, .int .i64 s3] := (set4 HX.out).below hb9 (by simp; omega)
  have BW9 := Lib.hid ((below4 BW8.out (by omega)).trans (hb9.mono (by simp; have := BW8.out.size; omega))); clear hb9 BW8
  clear HA lA c0A c1A c2A c3A f0A f1A f2A f3A
  clear HX lX c0X c1X c2X c3X f0X f1X f2X f3X
  clear HY lY c0Y c1Y c2Y c3Y f0Y f1Y f2Y f3Y
  have lA := nA.lt
  obtain ⟨c0A, c1A, c2A, c3A, -, -, -⟩ := al_cells nA
  obtain ⟨f0A, f1A, f2A, f3A⟩ := al_frozen nA
  have HA := Lib.hid nA; clear nA
  have lX := nX.lt
  obtain ⟨c0X, c1X, c2X, c3X, -, -, -⟩ := al_cells nX
  obtain ⟨f0X, f1X, f2X, f3X⟩ := al_frozen nX
  have HX := Lib.hid nX; clear nX
  have lY := nY.lt
  obtain ⟨c0Y, c1Y, c2Y, c3Y, -, -, -⟩ := al_cells nY
  obtain ⟨f0Y, f1Y, f2Y, f3Y⟩ := al_frozen nY
  have HY := Lib.hid nY; clear nY
  go_wp2_with fail
  refine (abort_any n s c v _ hn).mono ?_
  rw [HR4.out]; unfold alT
  rintro e w10 ⟨rfl, hb10⟩
  have nA : Blk w10 (w.heap.size) 23 #[.string n, .int .i64 s, .int .i64 c, .int .i64 v] := (far4 HA.out (by omega)).below hb10 (by simp; omega)
  have nX : Blk w10 (w2.heap.size) 23 #[.string p3, .int .i64 q3, .int .i64 r3, .int .i64 s3] := (far4 HX.out (by omega)).below hb10 (by simp; omega)
  have nY : Blk w10 (w3.heap.size) 23 #[.string p3, .int .i64 q3, .int .i64 r3, .int .i64 s3] := (set4 HY.out).below hb10 (by simp; omega)
  have BW10 := Lib.hid ((below4 BW9.out (by omega)).trans (hb10.mono (by simp; have := BW9.out.size; omega))); clear hb10 BW9
  clear HA lA c0A c1A c2A c3A f0A f1A f2A f3A
  clear HX lX c0X c1X c2X c3X f0X f1X f2X f3X
  clear HY lY c0Y c1Y c2Y c3Y f0Y f1Y f2Y f3Y
  have lA := nA.lt
  obtain ⟨c0A, c1A, c2A, c3A, -, -, -⟩ := al_cells nA
  obtain ⟨f0A, f1A, f2A, f3A⟩ := al_frozen nA
  have HA := Lib.hid nA; clear nA
  have lX := nX.lt
  obtain ⟨c0X, c1X, c2X, c3X, -, -, -⟩ := al_cells nX
  obtain ⟨f0X, f1X, f2X, f3X⟩ := al_frozen nX
  have HX := Lib.hid nX; clear nX
  have lY := nY.lt
  obtain ⟨c0Y, c1Y, c2Y, c3Y, -, -, -⟩ := al_cells nY
  obtain ⟨f0Y, f1Y, f2Y, f3Y⟩ := al_frozen nY
  have HY := Lib.hid nY; clear nY
  go_wp2_with fail
  refine (rabort_any n s c v _ hn).mono ?_
  rw [HR4.out]; unfold alT
  rintro e w11 ⟨rfl, hb11⟩
  have nA : Blk w11 (w.heap.size) 23 #[.string n, .int .i64 s, .int .i64 c, .int .i64 v] := (far4 HA.out (by omega)).below hb11 (by simp; omega)
  have nY : Blk w11 (w3.heap.size) 23 #[.string p3, .int .i64 q3, .int .i64 r3, .int .i64 s3] := (far4 HY.out (by omega)).below hb11 (by simp; omega)
  have nX : Blk w11 (w2.heap.size) 23 #[.string p4, .int .i64 q4, .int .i64 r4, .int .i64 s4] := (set4 HX.out).below hb11 (by simp; omega)
  have BW11 := Lib.hid ((below4 BW10.out (by omega)).trans (hb11.mono (by simp; have := BW10.out.size; omega))); clear hb11 BW10
  clear HA lA c0A c1A c2A c3A f0A f1A f2A f3A
  clear HX lX c0X c1X c2X c3X f0X f1X f2X f3X
  clear HY lY c0Y c1Y c2Y c3Y f0Y f1Y f2Y f3Y
  have lA := nA.lt
  obtain ⟨c0A, c1A, c2A, c3A, -, -, -⟩ := al_cells nA
  obtain ⟨f0A, f1A, f2A, f3A⟩ := al_frozen nA
  have HA := Lib.hid nA; clear nA
  have lX := nX.lt
  obtain ⟨c0X, c1X, c2X, c3X, -, -, -⟩ := al_cells nX
  obtain ⟨f0X, f1X, f2X, f3X⟩ := al_frozen nX
  have HX := Lib.hid nX; clear nX
  have lY := nY.lt
  obtain ⟨c0Y, c1Y, c2Y, c3Y, -, -, -⟩ := al_cells nY
  obtain ⟨f0Y, f1Y, f2Y, f3Y⟩ := al_frozen nY
  have HY := Lib.hid nY; clear nY
  go_wp2_with fail
  refine (awake_any _).mono ?_
  rintro e w12 ⟨rfl, hb12⟩
  have nA : Blk w12 (w.heap.size) 23 #[.string n, .int .i64 s, .int .i64 c, .int .i64 v] := (far4 HA.out (by omega)).below hb12 (by simp; omega)
  have nX : Blk w12 (w2.heap.size) 23 #[.string p4, .int .i64 q4, .int .i64 r4, .int .i64 s4] := (far4 HX.out (by omega)).below hb12 (by simp; omega)
  have nY : Blk w12 (w3.heap.size) 23 #[.string p4, .int .i64 q4, .int .i64 r4, .int .i64 s4] := (set4 HY.out).below hb12 (by simp; omega)
  have BW12 := Lib.hid ((below4 BW11.out (by omega)).trans (hb12.mono (by simp; have := BW11.out.size; omega))); clear hb12 BW11
  clear HA lA c0A c1A c2A c3A f0A f1A f2A f3A
  clear HX lX c0X c1X c2X c3X f0X f1X f2X f3X
  clear HY lY c0Y c1Y c2Y c3Y f0Y f1Y f2Y f3Y
  have lA := nA.lt
  obtain ⟨c0A, c1A, c2A, c3A, -, -, -⟩ := al_cells nA
  obtain ⟨f0A, f1A, f2A, f3A⟩ := al_frozen nA
  have HA := Lib.hid nA; clear nA
  have lX := nX.lt
  obtain ⟨c0X, c1X, c2X, c3X, -, -, -⟩ := al_cells nX
  obtain ⟨f0X, f1X, f2X, f3X⟩ := al_frozen nX
  have HX := Lib.hid nX; clear nX
  have lY := nY.lt
  obtain ⟨c0Y, c1Y, c2Y, c3Y, -, -, -⟩ := al_cells nY
  obtain ⟨f0Y, f1Y, f2Y, f3Y⟩ := al_frozen nY
  have HY := Lib.hid nY; clear nY
  go_wp2
  go_ret
  exact ⟨rfl, BW12.out⟩

end Go.Proofs.Ytffecbepmlaekaa
