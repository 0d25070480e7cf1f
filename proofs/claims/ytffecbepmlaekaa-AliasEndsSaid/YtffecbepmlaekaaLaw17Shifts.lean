/-
  The walk of the law AliasShiftsMonotonically: it returns true, and what was there before is as it was.
-/
import Derived.Test.YtffecbepmlaekaaAwake17
namespace Go.Proofs.Ytffecbepmlaekaa
open Go.RowKit


set_option maxHeartbeats 4000000 in
theorem shifts_no (n : ByteArray) (s c v low high : Int) (id : ByteArray) (w : World) (hn : n.size ≤ maxLen) (r1 r2 : ByteArray × Int × Int × Int × Int)
    (H1 : Hid (chF n s c v (shiftE c low) n s c low = r1)) (H2 : Hid (chF n s c v (shiftE c high) n s c high = r2))
    (hb : ((r1.2.2.2.2 != 0) = true) ∨ ((r1.2.2.2.2 != 0) = false ∧ (r2.2.2.2.2 != 0) = true) ∨ ((r1.2.2.2.2 != 0) = false ∧ (r2.2.2.2.2 != 0) = false ∧ high < low)) :
    Calls Try.prog 6 #[.agg #[.string n, .int .i64 s, .int .i64 c, .int .i64 v], .int .i64 low, .int .i64 high, .string id] w fun e w' => e = .returned (.bool true) ∧ Below w.heap.size w w' := by
  rcases hb with g1 | ⟨g1, g2⟩ | ⟨g1, g2, g3⟩
  all_goals
    go_enter Try.func6, Try.ntmps6
    go_wp2_with fail
    refine (shift_any n s c v low _ hn).mono ?_
    rw [H1.out]; unfold alT
    rintro e w1 ⟨rfl, hb1⟩
    have nA : Blk w1 (w.heap.size) 23 #[.string n, .int .i64 s, .int .i64 c, .int .i64 v] := (Blk.new w 23 #[.string n, .int .i64 s, .int .i64 c, .int .i64 v]).below hb1 (by simp only [World.size_alloc]; omega)
    have bw1 : Below w.heap.size w w1 := ((Below.refl _ _).alloc (by omega) _).trans (hb1.mono (by simp only [World.size_alloc]; omega))
    have lA := nA.lt
    have c0A : w1.cell? ⟨w.heap.size, 0, none⟩ = some (.string n) := nA.cell 0
    have f0A := nA.frozen 0
    have c1A : w1.cell? ⟨w.heap.size, 1, none⟩ = some (.int .i64 s) := nA.cell 1
    have f1A := nA.frozen 1
    have c2A : w1.cell? ⟨w.heap.size, 2, none⟩ = some (.int .i64 c) := nA.cell 2
    have f2A := nA.frozen 2
    have c3A : w1.cell? ⟨w.heap.size, 3, none⟩ = some (.int .i64 v) := nA.cell 3
    have f3A := nA.frozen 3
    have HA := Lib.hid nA; clear nA
    have BW1 := Lib.hid bw1; clear bw1 hb1
    go_wp2_with fail
    refine (shift_any n s c v high _ hn).mono ?_
    rw [H2.out]; unfold alT
    rintro e w2 ⟨rfl, hb2⟩
    have oAX : w.heap.size < w1.heap.size := by have := lA; omega
    have nA : Blk w2 (w.heap.size) 23 #[.string n, .int .i64 s, .int .i64 c, .int .i64 v] := (HA.out.alloc _).below hb2 (by simp only [World.size_alloc]; omega)
    have nX : Blk w2 (w1.heap.size) 23 #[.string r1.1, .int .i64 r1.2.1, .int .i64 r1.2.2.1, .int .i64 r1.2.2.2.1] := (Blk.new w1 23 #[.string r1.1, .int .i64 r1.2.1, .int .i64 r1.2.2.1, .int .i64 r1.2.2.2.1]).below hb2 (by simp only [World.size_alloc]; omega)
    have zz := BW1.out.size
    have bw2 : Below w.heap.size w w2 := (BW1.out.alloc (by omega) _).trans (hb2.mono (by simp only [World.size_alloc]; omega))
    clear HA lA c0A c1A c2A c3A f0A f1A f2A f3A
    have lA := nA.lt
    have c0A : w2.cell? ⟨w.heap.size, 0, none⟩ = some (.string n) := nA.cell 0
    have f0A := nA.frozen 0
    have c1A : w2.cell? ⟨w.heap.size, 1, none⟩ = some (.int .i64 s) := nA.cell 1
    have f1A := nA.frozen 1
    have c2A : w2.cell? ⟨w.heap.size, 2, none⟩ = some (.int .i64 c) := nA.cell 2
    have f2A := nA.frozen 2
    have c3A : w2.cell? ⟨w.heap.size, 3, none⟩ = some (.int .i64 v) := nA.cell 3
    have f3A := nA.frozen 3
    have HA := Lib.hid nA; clear nA
    have lX := nX.lt
    have c0X : w2.cell? ⟨w1.heap.size, 0, none⟩ = some (.string r1.1) := nX.cell 0
    have f0X := nX.frozen 0
    have c1X : w2.cell? ⟨w1.heap.size, 1, none⟩ = some (.int .i64 r1.2.1) := nX.cell 1
    have f1X := nX.frozen 1
    have c2X : w2.cell? ⟨w1.heap.size, 2, none⟩ = some (.int .i64 r1.2.2.1) := nX.cell 2
    have f2X := nX.frozen 2
    have c3X : w2.cell? ⟨w1.heap.size, 3, none⟩ = some (.int .i64 r1.2.2.2.1) := nX.cell 3
    have f3X := nX.frozen 3
    have HX := Lib.hid nX; clear nX
    have BW2 := Lib.hid bw2; clear bw2 hb2 BW1 zz
    go_wp2_with fail
    refine (awake_any _).mono ?_
    rintro e w3 ⟨rfl, hb3⟩
    have oAY : w.heap.size < w2.heap.size := by have := lA; omega
    have oXY : w1.heap.size < w2.heap.size := by have := lX; omega
    have nA : Blk w3 (w.heap.size) 23 #[.string n, .int .i64 s, .int .i64 c, .int .i64 v] := (HA.out.alloc _).below hb3 (by simp only [World.size_alloc]; omega)
    have nX : Blk w3 (w1.heap.size) 23 #[.string r1.1, .int .i64 r1.2.1, .int .i64 r1.2.2.1, .int .i64 r1.2.2.2.1] := (HX.out.alloc _).below hb3 (by simp only [World.size_alloc]; omega)
    have nY : Blk w3 (w2.heap.size) 23 #[.string r2.1, .int .i64 r2.2.1, .int .i64 r2.2.2.1, .int .i64 r2.2.2.2.1] := (Blk.new w2 23 #[.string r2.1, .int .i64 r2.2.1, .int .i64 r2.2.2.1, .int .i64 r2.2.2.2.1]).below hb3 (by simp only [World.size_alloc]; omega)
    have zz := BW2.out.size
    have bw3 : Below w.heap.size w w3 := (BW2.out.alloc (by omega) _).trans (hb3.mono (by simp only [World.size_alloc]; omega))
    clear HA lA c0A c1A c2A c3A f0A f1A f2A f3A
    clear HX lX c0X c1X c2X c3X f0X f1X f2X f3X
    have lA := nA.lt
    have c0A : w3.cell? ⟨w.heap.size, 0, none⟩ = some (.string n) := nA.cell 0
    have f0A := nA.frozen 0
    have c1A : w3.cell? ⟨w.heap.size, 1, none⟩ = some (.int .i64 s) := nA.cell 1
    have f1A := nA.frozen 1
    have c2A : w3.cell? ⟨w.heap.size, 2, none⟩ = some (.int .i64 c) := nA.cell 2
    have f2A := nA.frozen 2
    have c3A : w3.cell? ⟨w.heap.size, 3, none⟩ = some (.int .i64 v) := nA.cell 3
    have f3A := nA.frozen 3
    have HA := Lib.hid nA; clear nA
    have lX := nX.lt
    have c0X : w3.cell? ⟨w1.heap.size, 0, none⟩ = some (.string r1.1) := nX.cell 0
    have f0X := nX.frozen 0
    have c1X : w3.cell? ⟨w1.heap.size, 1, none⟩ = some (.int .i64 r1.2.1) := nX.cell 1
    have f1X := nX.frozen 1
    have c2X : w3.cell? ⟨w1.heap.size, 2, none⟩ = some (.int .i64 r1.2.2.1) := nX.cell 2
    have f2X := nX.frozen 2
    have c3X : w3.cell? ⟨w1.heap.size, 3, none⟩ = some (.int .i64 r1.2.2.2.1) := nX.cell 3
    have f3X := nX.frozen 3
    have HX := Lib.hid nX; clear nX
    have lY := nY.lt
    have c0Y : w3.cell? ⟨w2.heap.size, 0, none⟩ = some (.string r2.1) := nY.cell 0
    have f0Y := nY.frozen 0
    have c1Y : w3.cell? ⟨w2.heap.size, 1, none⟩ = some (.int .i64 r2.2.1) := nY.cell 1
    have f1Y := nY.frozen 1
    have c2Y : w3.cell? ⟨w2.heap.size, 2, none⟩ = some (.int .i64 r2.2.2.1) := nY.cell 2
    have f2Y := nY.frozen 2
    have c3Y : w3.cell? ⟨w2.heap.size, 3, none⟩ = some (.int .i64 r2.2.2.2.1) := nY.cell 3
    have f3Y := nY.frozen 3
    have HY := Lib.hid nY; clear nY
    have BW3 := Lib.hid bw3; clear bw3 hb3 BW2 zz
    go_wp2
    go_ret
    exact ⟨rfl, BW3.out⟩

set_option maxHeartbeats 4000000 in
theorem shifts_badid (n : ByteArray) (s c v low high : Int) (id : ByteArray) (w : World) (hn : n.size ≤ maxLen) (hid : id.size ≤ maxLen)
    (H1 : Hid (chF n s c v (shiftE c low) n s c low = (n, s, c, low, 0))) (H2 : Hid (chF n s c v (shiftE c high) n s c high = (n, s, c, high, 0))) (_hlh : low ≤ high)
    (P1 : Hid (pickF n s c low id = (0, 4))) (P2 : Hid (pickF n s c high id = (0, 4))) :
    Calls Try.prog 6 #[.agg #[.string n, .int .i64 s, .int .i64 c, .int .i64 v], .int .i64 low, .int .i64 high, .string id] w fun e w' => e = .returned (.bool true) ∧ Below w.heap.size w w' := by
  all_goals
    go_enter Try.func6, Try.ntmps6
    go_wp2_with fail
    refine (shift_any n s c v low _ hn).mono ?_
    rw [H1.out]; unfold alT
    rintro e w1 ⟨rfl, hb1⟩
    have nA : Blk w1 (w.heap.size) 23 #[.string n, .int .i64 s, .int .i64 c, .int .i64 v] := (Blk.new w 23 #[.string n, .int .i64 s, .int .i64 c, .int .i64 v]).below hb1 (by simp only [World.size_alloc]; omega)
    have bw1 : Below w.heap.size w w1 := ((Below.refl _ _).alloc (by omega) _).trans (hb1.mono (by simp only [World.size_alloc]; omega))
    have lA := nA.lt
    have c0A : w1.cell? ⟨w.heap.size, 0, none⟩ = some (.string n) := nA.cell 0
    have f0A := nA.frozen 0
    have c1A : w1.cell? ⟨w.heap.size, 1, none⟩ = some (.int .i64 s) := nA.cell 1
    have f1A := nA.frozen 1
    have c2A : w1.cell? ⟨w.heap.size, 2, none⟩ = some (.int .i64 c) := nA.cell 2
    have f2A := nA.frozen 2
    have c3A : w1.cell? ⟨w.heap.size, 3, none⟩ = some (.int .i64 v) := nA.cell 3
    have f3A := nA.frozen 3
    have HA := Lib.hid nA; clear nA
    have BW1 := Lib.hid bw1; clear bw1 hb1
    go_wp2_with fail
    refine (shift_any n s c v high _ hn).mono ?_
    rw [H2.out]; unfold alT
    rintro e w2 ⟨rfl, hb2⟩
    have oAX : w.heap.size < w1.heap.size := by have := lA; omega
    have nA : Blk w2 (w.heap.size) 23 #[.string n, .int .i64 s, .int .i64 c, .int .i64 v] := (HA.out.alloc _).below hb2 (by simp only [World.size_alloc]; omega)
    have nX : Blk w2 (w1.heap.size) 23 #[.string n, .int .i64 s, .int .i64 c, .int .i64 low] := (Blk.new w1 23 #[.string n, .int .i64 s, .int .i64 c, .int .i64 low]).below hb2 (by simp only [World.size_alloc]; omega)
    have zz := BW1.out.size
    have bw2 : Below w.heap.size w w2 := (BW1.out.alloc (by omega) _).trans (hb2.mono (by simp only [World.size_alloc]; omega))
    clear HA lA c0A c1A c2A c3A f0A f1A f2A f3A
    have lA := nA.lt
    have c0A : w2.cell? ⟨w.heap.size, 0, none⟩ = some (.string n) := nA.cell 0
    have f0A := nA.frozen 0
    have c1A : w2.cell? ⟨w.heap.size, 1, none⟩ = some (.int .i64 s) := nA.cell 1
    have f1A := nA.frozen 1
    have c2A : w2.cell? ⟨w.heap.size, 2, none⟩ = some (.int .i64 c) := nA.cell 2
    have f2A := nA.frozen 2
    have c3A : w2.cell? ⟨w.heap.size, 3, none⟩ = some (.int .i64 v) := nA.cell 3
    have f3A := nA.frozen 3
    have HA := Lib.hid nA; clear nA
    have lX := nX.lt
    have c0X : w2.cell? ⟨w1.heap.size, 0, none⟩ = some (.string n) := nX.cell 0
    have f0X := nX.frozen 0
    have c1X : w2.cell? ⟨w1.heap.size, 1, none⟩ = some (.int .i64 s) := nX.cell 1
    have f1X := nX.frozen 1
    have c2X : w2.cell? ⟨w1.heap.size, 2, none⟩ = some (.int .i64 c) := nX.cell 2
    have f2X := nX.frozen 2
    have c3X : w2.cell? ⟨w1.heap.size, 3, none⟩ = some (.int .i64 low) := nX.cell 3
    have f3X := nX.frozen 3
    have HX := Lib.hid nX; clear nX
    have BW2 := Lib.hid bw2; clear bw2 hb2 BW1 zz
    go_wp2_with fail
    refine (pick_any n s c low id _ hn hid).mono ?_
    rw [P1.out]
    rintro e w3 ⟨rfl, hb3⟩
    have oAY : w.heap.size < w2.heap.size := by have := lA; omega
    have oXY : w1.heap.size < w2.heap.size := by have := lX; omega
    have nA : Blk w3 (w.heap.size) 23 #[.string n, .int .i64 s, .int .i64 c, .int .i64 v] := (HA.out.alloc _).below hb3 (by simp only [World.size_alloc]; omega)
    have nX : Blk w3 (w1.heap.size) 23 #[.string n, .int .i64 s, .int .i64 c, .int .i64 low] := (HX.out.alloc _).below hb3 (by simp only [World.size_alloc]; omega)
    have nY : Blk w3 (w2.heap.size) 23 #[.string n, .int .i64 s, .int .i64 c, .int .i64 high] := (Blk.new w2 23 #[.string n, .int .i64 s, .int .i64 c, .int .i64 high]).below hb3 (by simp only [World.size_alloc]; omega)
    have zz := BW2.out.size
    have bw3 : Below w.heap.size w w3 := (BW2.out.alloc (by omega) _).trans (hb3.mono (by simp only [World.size_alloc]; omega))
    clear HA lA c0A c1A c2A c3A f0A f1A f2A f3A
    clear HX lX c0X c1X c2X c3X f0X f1X f2X f3X
    have lA := nA.lt
    have c0A : w3.cell? ⟨w.heap.size, 0, none⟩ = some (.string n) := nA.cell 0
    have f0A := nA.frozen 0
    have c1A : w3.cell? ⟨w.heap.size, 1, none⟩ = some (.int .i64 s) := nA.cell 1
    have f1A := nA.frozen 1
    have c2A : w3.cell? ⟨w.heap.size, 2, none⟩ = some (.int .i64 c) := nA.cell 2
    have f2A := nA.frozen 2
    have c3A : w3.cell? ⟨w.heap.size, 3, none⟩ = some (.int .i64 v) := nA.cell 3
    have f3A := nA.frozen 3
    have HA := Lib.hid nA; clear nA
    have lX := nX.lt
    have c0X : w3.cell? ⟨w1.heap.size, 0, none⟩ = some (.string n) := nX.cell 0
    have f0X := nX.frozen 0
    have c1X : w3.cell? ⟨w1.heap.size, 1, none⟩ = some (.int .i64 s) := nX.cell 1
    have f1X := nX.frozen 1
    have c2X : w3.cell? ⟨w1.heap.size, 2, none⟩ = some (.int .i64 c) := nX.cell 2
    have f2X := nX.frozen 2
    have c3X : w3.cell? ⟨w1.heap.size, 3, none⟩ = some (.int .i64 low) := nX.cell 3
    have f3X := nX.frozen 3
    have HX := Lib.hid nX; clear nX
    have lY := nY.lt
    have c0Y : w3.cell? ⟨w2.heap.size, 0, none⟩ = some (.string n) := nY.cell 0
    have f0Y := nY.frozen 0
    have c1Y : w3.cell? ⟨w2.heap.size, 1, none⟩ = some (.int .i64 s) := nY.cell 1
    have f1Y := nY.frozen 1
    have c2Y : w3.cell? ⟨w2.heap.size, 2, none⟩ = some (.int .i64 c) := nY.cell 2
    have f2Y := nY.frozen 2
    have c3Y : w3.cell? ⟨w2.heap.size, 3, none⟩ = some (.int .i64 high) := nY.cell 3
    have f3Y := nY.frozen 3
    have HY := Lib.hid nY; clear nY
    have BW3 := Lib.hid bw3; clear bw3 hb3 BW2 zz
    go_wp2_with fail
    refine (pick_any n s c high id _ hn hid).mono ?_
    rw [P2.out]
    rintro e w4 ⟨rfl, hb4⟩
    have nA : Blk w4 (w.heap.size) 23 #[.string n, .int .i64 s, .int .i64 c, .int .i64 v] := HA.out.below hb4 lA
    have nX : Blk w4 (w1.heap.size) 23 #[.string n, .int .i64 s, .int .i64 c, .int .i64 low] := HX.out.below hb4 lX
    have nY : Blk w4 (w2.heap.size) 23 #[.string n, .int .i64 s, .int .i64 c, .int .i64 high] := HY.out.below hb4 lY
    have zz := BW3.out.size
    have bw4 : Below w.heap.size w w4 := BW3.out.trans (hb4.mono (by omega))
    clear HA lA c0A c1A c2A c3A f0A f1A f2A f3A
    clear HX lX c0X c1X c2X c3X f0X f1X f2X f3X
    clear HY lY c0Y c1Y c2Y c3Y f0Y f1Y f2Y f3Y
    have lA := nA.lt
    have c0A : w4.cell? ⟨w.heap.size, 0, none⟩ = some (.string n) := nA.cell 0
    have f0A := nA.frozen 0
    have c1A : w4.cell? ⟨w.heap.size, 1, none⟩ = some (.int .i64 s) := nA.cell 1
    have f1A := nA.frozen 1
    have c2A : w4.cell? ⟨w.heap.size, 2, none⟩ = some (.int .i64 c) := nA.cell 2
    have f2A := nA.frozen 2
    have c3A : w4.cell? ⟨w.heap.size, 3, none⟩ = some (.int .i64 v) := nA.cell 3
    have f3A := nA.frozen 3
    have HA := Lib.hid nA; clear nA
    have lX := nX.lt
    have c0X : w4.cell? ⟨w1.heap.size, 0, none⟩ = some (.string n) := nX.cell 0
    have f0X := nX.frozen 0
    have c1X : w4.cell? ⟨w1.heap.size, 1, none⟩ = some (.int .i64 s) := nX.cell 1
    have f1X := nX.frozen 1
    have c2X : w4.cell? ⟨w1.heap.size, 2, none⟩ = some (.int .i64 c) := nX.cell 2
    have f2X := nX.frozen 2
    have c3X : w4.cell? ⟨w1.heap.size, 3, none⟩ = some (.int .i64 low) := nX.cell 3
    have f3X := nX.frozen 3
    have HX := Lib.hid nX; clear nX
    have lY := nY.lt
    have c0Y : w4.cell? ⟨w2.heap.size, 0, none⟩ = some (.string n) := nY.cell 0
    have f0Y := nY.frozen 0
    have c1Y : w4.cell? ⟨w2.heap.size, 1, none⟩ = some (.int .i64 s) := nY.cell 1
    have f1Y := nY.frozen 1
    have c2Y : w4.cell? ⟨w2.heap.size, 2, none⟩ = some (.int .i64 c) := nY.cell 2
    have f2Y := nY.frozen 2
    have c3Y : w4.cell? ⟨w2.heap.size, 3, none⟩ = some (.int .i64 high) := nY.cell 3
    have f3Y := nY.frozen 3
    have HY := Lib.hid nY; clear nY
    have BW4 := Lib.hid bw4; clear bw4 hb4 BW3 zz
    go_wp2_with fail
    refine (awake_any _).mono ?_
    rintro e w5 ⟨rfl, hb5⟩
    have nA : Blk w5 (w.heap.size) 23 #[.string n, .int .i64 s, .int .i64 c, .int .i64 v] := HA.out.below hb5 lA
    have nX : Blk w5 (w1.heap.size) 23 #[.string n, .int .i64 s, .int .i64 c, .int .i64 low] := HX.out.below hb5 lX
    have nY : Blk w5 (w2.heap.size) 23 #[.string n, .int .i64 s, .int .i64 c, .int .i64 high] := HY.out.below hb5 lY
    have zz := BW4.out.size
    have bw5 : Below w.heap.size w w5 := BW4.out.trans (hb5.mono (by omega))
    clear HA lA c0A c1A c2A c3A f0A f1A f2A f3A
    clear HX lX c0X c1X c2X c3X f0X f1X f2X f3X
    clear HY lY c0Y c1Y c2Y c3Y f0Y f1Y f2Y f3Y
    have lA := nA.lt
    have c0A : w5.cell? ⟨w.heap.size, 0, none⟩ = some (.string n) := nA.cell 0
    have f0A := nA.frozen 0
    have c1A : w5.cell? ⟨w.heap.size, 1, none⟩ = some (.int .i64 s) := nA.cell 1
    have f1A := nA.frozen 1
    have c2A : w5.cell? ⟨w.heap.size, 2, none⟩ = some (.int .i64 c) := nA.cell 2
    have f2A := nA.frozen 2
    have c3A : w5.cell? ⟨w.heap.size, 3, none⟩ = some (.int .i64 v) := nA.cell 3
    have f3A := nA.frozen 3
    have HA := Lib.hid nA; clear nA
    have lX := nX.lt
    have c0X : w5.cell? ⟨w1.heap.size, 0, none⟩ = some (.string n) := nX.cell 0
    have f0X := nX.frozen 0
    have c1X : w5.cell? ⟨w1.heap.size, 1, none⟩ = some (.int .i64 s) := nX.cell 1
    have f1X := nX.frozen 1
    have c2X : w5.cell? ⟨w1.heap.size, 2, none⟩ = some (.int .i64 c) := nX.cell 2
    have f2X := nX.frozen 2
    have c3X : w5.cell? ⟨w1.heap.size, 3, none⟩ = some (.int .i64 low) := nX.cell 3
    have f3X := nX.frozen 3
    have HX := Lib.hid nX; clear nX
    have lY := nY.lt
    have c0Y : w5.cell? ⟨w2.heap.size, 0, none⟩ = some (.string n) := nY.cell 0
    have f0Y := nY.frozen 0
    have c1Y : w5.cell? ⟨w2.heap.size, 1, none⟩ = some (.int .i64 s) := nY.cell 1
    have f1Y := nY.frozen 1
    have c2Y : w5.cell? ⟨w2.heap.size, 2, none⟩ = some (.int .i64 c) := nY.cell 2
    have f2Y := nY.frozen 2
    have c3Y : w5.cell? ⟨w2.heap.size, 3, none⟩ = some (.int .i64 high) := nY.cell 3
    have f3Y := nY.frozen 3
    have HY := Lib.hid nY; clear nY
    have BW5 := Lib.hid bw5; clear bw5 hb5 BW4 zz
    go_wp2
    go_ret
    exact ⟨rfl, BW5.out⟩

set_option maxHeartbeats 4000000 in
theorem shifts_cc (n : ByteArray) (s c v low high : Int) (id : ByteArray) (w : World) (hn : n.size ≤ maxLen) (hid : id.size ≤ maxLen)
    (H1 : Hid (chF n s c v (shiftE c low) n s c low = (n, s, c, low, 0))) (H2 : Hid (chF n s c v (shiftE c high) n s c high = (n, s, c, high, 0))) (_hlh : low ≤ high)
    (P1 : Hid (pickF n s c low id = (c, 0))) (P2 : Hid (pickF n s c high id = (c, 0))) (_hcs : (c != s) = true) (_hsc : (s != c) = true) (_hsc2 : (s == c) = false) (_hcs2 : (c == s) = false) (hl' : ¬ low = 0)
    (M : Hid (movedL (n, s, c, low) (n, s, c, high) [id] = [])) :
    Calls Try.prog 6 #[.agg #[.string n, .int .i64 s, .int .i64 c, .int .i64 v], .int .i64 low, .int .i64 high, .string id] w fun e w' => e = .returned (.bool true) ∧ Below w.heap.size w w' := by
  cases hl : (low == 0) <;> cases hh : (high == 1000)
  rotate_left 2
  · exact absurd (by simpa using hl) hl'
  · exact absurd (by simpa using hl) hl'
  all_goals clear hl'
  all_goals
    go_enter Try.func6, Try.ntmps6
    go_wp2_with fail
    refine (shift_any n s c v low _ hn).mono ?_
    rw [H1.out]; unfold alT
    rintro e w1 ⟨rfl, hb1⟩
    have nA : Blk w1 (w.heap.size) 23 #[.string n, .int .i64 s, .int .i64 c, .int .i64 v] := (Blk.new w 23 #[.string n, .int .i64 s, .int .i64 c, .int .i64 v]).below hb1 (by simp only [World.size_alloc]; omega)
    have bw1 : Below w.heap.size w w1 := ((Below.refl _ _).alloc (by omega) _).trans (hb1.mono (by simp only [World.size_alloc]; omega))
    have lA := nA.lt
    have c0A : w1.cell? ⟨w.heap.size, 0, none⟩ = some (.string n) := nA.cell 0
    have f0A := nA.frozen 0
    have c1A : w1.cell? ⟨w.heap.size, 1, none⟩ = some (.int .i64 s) := nA.cell 1
    have f1A := nA.frozen 1
    have c2A : w1.cell? ⟨w.heap.size, 2, none⟩ = some (.int .i64 c) := nA.cell 2
    have f2A := nA.frozen 2
    have c3A : w1.cell? ⟨w.heap.size, 3, none⟩ = some (.int .i64 v) := nA.cell 3
    have f3A := nA.frozen 3
    have HA := Lib.hid nA; clear nA
    have BW1 := Lib.hid bw1; clear bw1 hb1
    go_wp2_with fail
    refine (shift_any n s c v high _ hn).mono ?_
    rw [H2.out]; unfold alT
    rintro e w2 ⟨rfl, hb2⟩
    have oAX : w.heap.size < w1.heap.size := by have := lA; omega
    have nA : Blk w2 (w.heap.size) 23 #[.string n, .int .i64 s, .int .i64 c, .int .i64 v] := (HA.out.alloc _).below hb2 (by simp only [World.size_alloc]; omega)
    have nX : Blk w2 (w1.heap.size) 23 #[.string n, .int .i64 s, .int .i64 c, .int .i64 low] := (Blk.new w1 23 #[.string n, .int .i64 s, .int .i64 c, .int .i64 low]).below hb2 (by simp only [World.size_alloc]; omega)
    have zz := BW1.out.size
    have bw2 : Below w.heap.size w w2 := (BW1.out.alloc (by omega) _).trans (hb2.mono (by simp only [World.size_alloc]; omega))
    clear HA lA c0A c1A c2A c3A f0A f1A f2A f3A
    have lA := nA.lt
    have c0A : w2.cell? ⟨w.heap.size, 0, none⟩ = some (.string n) := nA.cell 0
    have f0A := nA.frozen 0
    have c1A : w2.cell? ⟨w.heap.size, 1, none⟩ = some (.int .i64 s) := nA.cell 1
    have f1A := nA.frozen 1
    have c2A : w2.cell? ⟨w.heap.size, 2, none⟩ = some (.int .i64 c) := nA.cell 2
    have f2A := nA.frozen 2
    have c3A : w2.cell? ⟨w.heap.size, 3, none⟩ = some (.int .i64 v) := nA.cell 3
    have f3A := nA.frozen 3
    have HA := Lib.hid nA; clear nA
    have lX := nX.lt
    have c0X : w2.cell? ⟨w1.heap.size, 0, none⟩ = some (.string n) := nX.cell 0
    have f0X := nX.frozen 0
    have c1X : w2.cell? ⟨w1.heap.size, 1, none⟩ = some (.int .i64 s) := nX.cell 1
    have f1X := nX.frozen 1
    have c2X : w2.cell? ⟨w1.heap.size, 2, none⟩ = some (.int .i64 c) := nX.cell 2
    have f2X := nX.frozen 2
    have c3X : w2.cell? ⟨w1.heap.size, 3, none⟩ = some (.int .i64 low) := nX.cell 3
    have f3X := nX.frozen 3
    have HX := Lib.hid nX; clear nX
    have BW2 := Lib.hid bw2; clear bw2 hb2 BW1 zz
    go_wp2_with fail
    refine (pick_any n s c low id _ hn hid).mono ?_
    rw [P1.out]
    rintro e w3 ⟨rfl, hb3⟩
    have oAY : w.heap.size < w2.heap.size := by have := lA; omega
    have oXY : w1.heap.size < w2.heap.size := by have := lX; omega
    have nA : Blk w3 (w.heap.size) 23 #[.string n, .int .i64 s, .int .i64 c, .int .i64 v] := (HA.out.alloc _).below hb3 (by simp only [World.size_alloc]; omega)
    have nX : Blk w3 (w1.heap.size) 23 #[.string n, .int .i64 s, .int .i64 c, .int .i64 low] := (HX.out.alloc _).below hb3 (by simp only [World.size_alloc]; omega)
    have nY : Blk w3 (w2.heap.size) 23 #[.string n, .int .i64 s, .int .i64 c, .int .i64 high] := (Blk.new w2 23 #[.string n, .int .i64 s, .int .i64 c, .int .i64 high]).below hb3 (by simp only [World.size_alloc]; omega)
    have zz := BW2.out.size
    have bw3 : Below w.heap.size w w3 := (BW2.out.alloc (by omega) _).trans (hb3.mono (by simp only [World.size_alloc]; omega))
    clear HA lA c0A c1A c2A c3A f0A f1A f2A f3A
    clear HX lX c0X c1X c2X c3X f0X f1X f2X f3X
    have lA := nA.lt
    have c0A : w3.cell? ⟨w.heap.size, 0, none⟩ = some (.string n) := nA.cell 0
    have f0A := nA.frozen 0
    have c1A : w3.cell? ⟨w.heap.size, 1, none⟩ = some (.int .i64 s) := nA.cell 1
    have f1A := nA.frozen 1
    have c2A : w3.cell? ⟨w.heap.size, 2, none⟩ = some (.int .i64 c) := nA.cell 2
    have f2A := nA.frozen 2
    have c3A : w3.cell? ⟨w.heap.size, 3, none⟩ = some (.int .i64 v) := nA.cell 3
    have f3A := nA.frozen 3
    have HA := Lib.hid nA; clear nA
    have lX := nX.lt
    have c0X : w3.cell? ⟨w1.heap.size, 0, none⟩ = some (.string n) := nX.cell 0
    have f0X := nX.frozen 0
    have c1X : w3.cell? ⟨w1.heap.size, 1, none⟩ = some (.int .i64 s) := nX.cell 1
    have f1X := nX.frozen 1
    have c2X : w3.cell? ⟨w1.heap.size, 2, none⟩ = some (.int .i64 c) := nX.cell 2
    have f2X := nX.frozen 2
    have c3X : w3.cell? ⟨w1.heap.size, 3, none⟩ = some (.int .i64 low) := nX.cell 3
    have f3X := nX.frozen 3
    have HX := Lib.hid nX; clear nX
    have lY := nY.lt
    have c0Y : w3.cell? ⟨w2.heap.size, 0, none⟩ = some (.string n) := nY.cell 0
    have f0Y := nY.frozen 0
    have c1Y : w3.cell? ⟨w2.heap.size, 1, none⟩ = some (.int .i64 s) := nY.cell 1
    have f1Y := nY.frozen 1
    have c2Y : w3.cell? ⟨w2.heap.size, 2, none⟩ = some (.int .i64 c) := nY.cell 2
    have f2Y := nY.frozen 2
    have c3Y : w3.cell? ⟨w2.heap.size, 3, none⟩ = some (.int .i64 high) := nY.cell 3
    have f3Y := nY.frozen 3
    have HY := Lib.hid nY; clear nY
    have BW3 := Lib.hid bw3; clear bw3 hb3 BW2 zz
    go_wp2_with fail
    refine (pick_any n s c high id _ hn hid).mono ?_
    rw [P2.out]
    rintro e w4 ⟨rfl, hb4⟩
    have nA : Blk w4 (w.heap.size) 23 #[.string n, .int .i64 s, .int .i64 c, .int .i64 v] := HA.out.below hb4 lA
    have nX : Blk w4 (w1.heap.size) 23 #[.string n, .int .i64 s, .int .i64 c, .int .i64 low] := HX.out.below hb4 lX
    have nY : Blk w4 (w2.heap.size) 23 #[.string n, .int .i64 s, .int .i64 c, .int .i64 high] := HY.out.below hb4 lY
    have zz := BW3.out.size
    have bw4 : Below w.heap.size w w4 := BW3.out.trans (hb4.mono (by omega))
    clear HA lA c0A c1A c2A c3A f0A f1A f2A f3A
    clear HX lX c0X c1X c2X c3X f0X f1X f2X f3X
    clear HY lY c0Y c1Y c2Y c3Y f0Y f1Y f2Y f3Y
    have lA := nA.lt
    have c0A : w4.cell? ⟨w.heap.size, 0, none⟩ = some (.string n) := nA.cell 0
    have f0A := nA.frozen 0
    have c1A : w4.cell? ⟨w.heap.size, 1, none⟩ = some (.int .i64 s) := nA.cell 1
    have f1A := nA.frozen 1
    have c2A : w4.cell? ⟨w.heap.size, 2, none⟩ = some (.int .i64 c) := nA.cell 2
    have f2A := nA.frozen 2
    have c3A : w4.cell? ⟨w.heap.size, 3, none⟩ = some (.int .i64 v) := nA.cell 3
    have f3A := nA.frozen 3
    have HA := Lib.hid nA; clear nA
    have lX := nX.lt
    have c0X : w4.cell? ⟨w1.heap.size, 0, none⟩ = some (.string n) := nX.cell 0
    have f0X := nX.frozen 0
    have c1X : w4.cell? ⟨w1.heap.size, 1, none⟩ = some (.int .i64 s) := nX.cell 1
    have f1X := nX.frozen 1
    have c2X : w4.cell? ⟨w1.heap.size, 2, none⟩ = some (.int .i64 c) := nX.cell 2
    have f2X := nX.frozen 2
    have c3X : w4.cell? ⟨w1.heap.size, 3, none⟩ = some (.int .i64 low) := nX.cell 3
    have f3X := nX.frozen 3
    have HX := Lib.hid nX; clear nX
    have lY := nY.lt
    have c0Y : w4.cell? ⟨w2.heap.size, 0, none⟩ = some (.string n) := nY.cell 0
    have f0Y := nY.frozen 0
    have c1Y : w4.cell? ⟨w2.heap.size, 1, none⟩ = some (.int .i64 s) := nY.cell 1
    have f1Y := nY.frozen 1
    have c2Y : w4.cell? ⟨w2.heap.size, 2, none⟩ = some (.int .i64 c) := nY.cell 2
    have f2Y := nY.frozen 2
    have c3Y : w4.cell? ⟨w2.heap.size, 3, none⟩ = some (.int .i64 high) := nY.cell 3
    have f3Y := nY.frozen 3
    have HY := Lib.hid nY; clear nY
    have BW4 := Lib.hid bw4; clear bw4 hb4 BW3 zz
    go_wp2_with fail
    refine (moved_any n n s c low s c high _ 1 1 [id] _ hn hn (by intro x hx; simp at hx; subst hx; exact hid) (Rd.fresh w4 9 #[.string id] _ 1 rfl (by simp)) (by omega)).mono ?_
    rw [M.out]
    rintro e w5 ⟨x5, rfl, hown, hb5⟩
    obtain ⟨A9, cap9, rfl⟩ := own_parts hown
    clear hown
    have nA : Blk w5 (w.heap.size) 23 #[.string n, .int .i64 s, .int .i64 c, .int .i64 v] := (HA.out.alloc _).below hb5 (by simp only [World.size_alloc]; omega)
    have nX : Blk w5 (w1.heap.size) 23 #[.string n, .int .i64 s, .int .i64 c, .int .i64 low] := (HX.out.alloc _).below hb5 (by simp only [World.size_alloc]; omega)
    have nY : Blk w5 (w2.heap.size) 23 #[.string n, .int .i64 s, .int .i64 c, .int .i64 high] := (HY.out.alloc _).below hb5 (by simp only [World.size_alloc]; omega)
    have zz := BW4.out.size
    have bw5 : Below w.heap.size w w5 := (BW4.out.alloc (by omega) _).trans (hb5.mono (by simp only [World.size_alloc]; omega))
    clear HA lA c0A c1A c2A c3A f0A f1A f2A f3A
    clear HX lX c0X c1X c2X c3X f0X f1X f2X f3X
    clear HY lY c0Y c1Y c2Y c3Y f0Y f1Y f2Y f3Y
    have lA := nA.lt
    have c0A : w5.cell? ⟨w.heap.size, 0, none⟩ = some (.string n) := nA.cell 0
    have f0A := nA.frozen 0
    have c1A : w5.cell? ⟨w.heap.size, 1, none⟩ = some (.int .i64 s) := nA.cell 1
    have f1A := nA.frozen 1
    have c2A : w5.cell? ⟨w.heap.size, 2, none⟩ = some (.int .i64 c) := nA.cell 2
    have f2A := nA.frozen 2
    have c3A : w5.cell? ⟨w.heap.size, 3, none⟩ = some (.int .i64 v) := nA.cell 3
    have f3A := nA.frozen 3
    have HA := Lib.hid nA; clear nA
    have lX := nX.lt
    have c0X : w5.cell? ⟨w1.heap.size, 0, none⟩ = some (.string n) := nX.cell 0
    have f0X := nX.frozen 0
    have c1X : w5.cell? ⟨w1.heap.size, 1, none⟩ = some (.int .i64 s) := nX.cell 1
    have f1X := nX.frozen 1
    have c2X : w5.cell? ⟨w1.heap.size, 2, none⟩ = some (.int .i64 c) := nX.cell 2
    have f2X := nX.frozen 2
    have c3X : w5.cell? ⟨w1.heap.size, 3, none⟩ = some (.int .i64 low) := nX.cell 3
    have f3X := nX.frozen 3
    have HX := Lib.hid nX; clear nX
    have lY := nY.lt
    have c0Y : w5.cell? ⟨w2.heap.size, 0, none⟩ = some (.string n) := nY.cell 0
    have f0Y := nY.frozen 0
    have c1Y : w5.cell? ⟨w2.heap.size, 1, none⟩ = some (.int .i64 s) := nY.cell 1
    have f1Y := nY.frozen 1
    have c2Y : w5.cell? ⟨w2.heap.size, 2, none⟩ = some (.int .i64 c) := nY.cell 2
    have f2Y := nY.frozen 2
    have c3Y : w5.cell? ⟨w2.heap.size, 3, none⟩ = some (.int .i64 high) := nY.cell 3
    have f3Y := nY.frozen 3
    have HY := Lib.hid nY; clear nY
    have BW5 := Lib.hid bw5; clear bw5 hb5 BW4 zz
    go_wp2_with fail
    refine (awake_any _).mono ?_
    rintro e w6 ⟨rfl, hb6⟩
    have nA : Blk w6 (w.heap.size) 23 #[.string n, .int .i64 s, .int .i64 c, .int .i64 v] := HA.out.below hb6 lA
    have nX : Blk w6 (w1.heap.size) 23 #[.string n, .int .i64 s, .int .i64 c, .int .i64 low] := HX.out.below hb6 lX
    have nY : Blk w6 (w2.heap.size) 23 #[.string n, .int .i64 s, .int .i64 c, .int .i64 high] := HY.out.below hb6 lY
    have zz := BW5.out.size
    have bw6 : Below w.heap.size w w6 := BW5.out.trans (hb6.mono (by omega))
    clear HA lA c0A c1A c2A c3A f0A f1A f2A f3A
    clear HX lX c0X c1X c2X c3X f0X f1X f2X f3X
    clear HY lY c0Y c1Y c2Y c3Y f0Y f1Y f2Y f3Y
    have lA := nA.lt
    have c0A : w6.cell? ⟨w.heap.size, 0, none⟩ = some (.string n) := nA.cell 0
    have f0A := nA.frozen 0
    have c1A : w6.cell? ⟨w.heap.size, 1, none⟩ = some (.int .i64 s) := nA.cell 1
    have f1A := nA.frozen 1
    have c2A : w6.cell? ⟨w.heap.size, 2, none⟩ = some (.int .i64 c) := nA.cell 2
    have f2A := nA.frozen 2
    have c3A : w6.cell? ⟨w.heap.size, 3, none⟩ = some (.int .i64 v) := nA.cell 3
    have f3A := nA.frozen 3
    have HA := Lib.hid nA; clear nA
    have lX := nX.lt
    have c0X : w6.cell? ⟨w1.heap.size, 0, none⟩ = some (.string n) := nX.cell 0
    have f0X := nX.frozen 0
    have c1X : w6.cell? ⟨w1.heap.size, 1, none⟩ = some (.int .i64 s) := nX.cell 1
    have f1X := nX.frozen 1
    have c2X : w6.cell? ⟨w1.heap.size, 2, none⟩ = some (.int .i64 c) := nX.cell 2
    have f2X := nX.frozen 2
    have c3X : w6.cell? ⟨w1.heap.size, 3, none⟩ = some (.int .i64 low) := nX.cell 3
    have f3X := nX.frozen 3
    have HX := Lib.hid nX; clear nX
    have lY := nY.lt
    have c0Y : w6.cell? ⟨w2.heap.size, 0, none⟩ = some (.string n) := nY.cell 0
    have f0Y := nY.frozen 0
    have c1Y : w6.cell? ⟨w2.heap.size, 1, none⟩ = some (.int .i64 s) := nY.cell 1
    have f1Y := nY.frozen 1
    have c2Y : w6.cell? ⟨w2.heap.size, 2, none⟩ = some (.int .i64 c) := nY.cell 2
    have f2Y := nY.frozen 2
    have c3Y : w6.cell? ⟨w2.heap.size, 3, none⟩ = some (.int .i64 high) := nY.cell 3
    have f3Y := nY.frozen 3
    have HY := Lib.hid nY; clear nY
    have BW6 := Lib.hid bw6; clear bw6 hb6 BW5 zz
    go_wp2
    go_ret
    exact ⟨rfl, BW6.out⟩

set_option maxHeartbeats 4000000 in
theorem shifts_sc (n : ByteArray) (s c v low high : Int) (id : ByteArray) (w : World) (hn : n.size ≤ maxLen) (hid : id.size ≤ maxLen)
    (H1 : Hid (chF n s c v (shiftE c low) n s c low = (n, s, c, low, 0))) (H2 : Hid (chF n s c v (shiftE c high) n s c high = (n, s, c, high, 0))) (_hlh : low ≤ high)
    (P1 : Hid (pickF n s c low id = (s, 0))) (P2 : Hid (pickF n s c high id = (c, 0))) (_hcs : (c != s) = true) (_hsc : (s != c) = true) (_hsc2 : (s == c) = false) (_hcs2 : (c == s) = false)
    (M : Hid (movedL (n, s, c, low) (n, s, c, high) [id] = [id])) :
    Calls Try.prog 6 #[.agg #[.string n, .int .i64 s, .int .i64 c, .int .i64 v], .int .i64 low, .int .i64 high, .string id] w fun e w' => e = .returned (.bool true) ∧ Below w.heap.size w w' := by
  cases hl : (low == 0) <;> cases hh : (high == 1000)
  all_goals
    go_enter Try.func6, Try.ntmps6
    go_wp2_with fail
    refine (shift_any n s c v low _ hn).mono ?_
    rw [H1.out]; unfold alT
    rintro e w1 ⟨rfl, hb1⟩
    have nA : Blk w1 (w.heap.size) 23 #[.string n, .int .i64 s, .int .i64 c, .int .i64 v] := (Blk.new w 23 #[.string n, .int .i64 s, .int .i64 c, .int .i64 v]).below hb1 (by simp only [World.size_alloc]; omega)
    have bw1 : Below w.heap.size w w1 := ((Below.refl _ _).alloc (by omega) _).trans (hb1.mono (by simp only [World.size_alloc]; omega))
    have lA := nA.lt
    have c0A : w1.cell? ⟨w.heap.size, 0, none⟩ = some (.string n) := nA.cell 0
    have f0A := nA.frozen 0
    have c1A : w1.cell? ⟨w.heap.size, 1, none⟩ = some (.int .i64 s) := nA.cell 1
    have f1A := nA.frozen 1
    have c2A : w1.cell? ⟨w.heap.size, 2, none⟩ = some (.int .i64 c) := nA.cell 2
    have f2A := nA.frozen 2
    have c3A : w1.cell? ⟨w.heap.size, 3, none⟩ = some (.int .i64 v) := nA.cell 3
    have f3A := nA.frozen 3
    have HA := Lib.hid nA; clear nA
    have BW1 := Lib.hid bw1; clear bw1 hb1
    go_wp2_with fail
    refine (shift_any n s c v high _ hn).mono ?_
    rw [H2.out]; unfold alT
    rintro e w2 ⟨rfl, hb2⟩
    have oAX : w.heap.size < w1.heap.size := by have := lA; omega
    have nA : Blk w2 (w.heap.size) 23 #[.string n, .int .i64 s, .int .i64 c, .int .i64 v] := (HA.out.alloc _).below hb2 (by simp only [World.size_alloc]; omega)
    have nX : Blk w2 (w1.heap.size) 23 #[.string n, .int .i64 s, .int .i64 c, .int .i64 low] := (Blk.new w1 23 #[.string n, .int .i64 s, .int .i64 c, .int .i64 low]).below hb2 (by simp only [World.size_alloc]; omega)
    have zz := BW1.out.size
    have bw2 : Below w.heap.size w w2 := (BW1.out.alloc (by omega) _).trans (hb2.mono (by simp only [World.size_alloc]; omega))
    clear HA lA c0A c1A c2A c3A f0A f1A f2A f3A
    have lA := nA.lt
    have c0A : w2.cell? ⟨w.heap.size, 0, none⟩ = some (.string n) := nA.cell 0
    have f0A := nA.frozen 0
    have c1A : w2.cell? ⟨w.heap.size, 1, none⟩ = some (.int .i64 s) := nA.cell 1
    have f1A := nA.frozen 1
    have c2A : w2.cell? ⟨w.heap.size, 2, none⟩ = some (.int .i64 c) := nA.cell 2
    have f2A := nA.frozen 2
    have c3A : w2.cell? ⟨w.heap.size, 3, none⟩ = some (.int .i64 v) := nA.cell 3
    have f3A := nA.frozen 3
    have HA := Lib.hid nA; clear nA
    have lX := nX.lt
    have c0X : w2.cell? ⟨w1.heap.size, 0, none⟩ = some (.string n) := nX.cell 0
    have f0X := nX.frozen 0
    have c1X : w2.cell? ⟨w1.heap.size, 1, none⟩ = some (.int .i64 s) := nX.cell 1
    have f1X := nX.frozen 1
    have c2X : w2.cell? ⟨w1.heap.size, 2, none⟩ = some (.int .i64 c) := nX.cell 2
    have f2X := nX.frozen 2
    have c3X : w2.cell? ⟨w1.heap.size, 3, none⟩ = some (.int .i64 low) := nX.cell 3
    have f3X := nX.frozen 3
    have HX := Lib.hid nX; clear nX
    have BW2 := Lib.hid bw2; clear bw2 hb2 BW1 zz
    go_wp2_with fail
    refine (pick_any n s c low id _ hn hid).mono ?_
    rw [P1.out]
    rintro e w3 ⟨rfl, hb3⟩
    have oAY : w.heap.size < w2.heap.size := by have := lA; omega
    have oXY : w1.heap.size < w2.heap.size := by have := lX; omega
    have nA : Blk w3 (w.heap.size) 23 #[.string n, .int .i64 s, .int .i64 c, .int .i64 v] := (HA.out.alloc _).below hb3 (by simp only [World.size_alloc]; omega)
    have nX : Blk w3 (w1.heap.size) 23 #[.string n, .int .i64 s, .int .i64 c, .int .i64 low] := (HX.out.alloc _).below hb3 (by simp only [World.size_alloc]; omega)
    have nY : Blk w3 (w2.heap.size) 23 #[.string n, .int .i64 s, .int .i64 c, .int .i64 high] := (Blk.new w2 23 #[.string n, .int .i64 s, .int .i64 c, .int .i64 high]).below hb3 (by simp only [World.size_alloc]; omega)
    have zz := BW2.out.size
    have bw3 : Below w.heap.size w w3 := (BW2.out.alloc (by omega) _).trans (hb3.mono (by simp only [World.size_alloc]; omega))
    clear HA lA c0A c1A c2A c3A f0A f1A f2A f3A
    clear HX lX c0X c1X c2X c3X f0X f1X f2X f3X
    have lA := nA.lt
    have c0A : w3.cell? ⟨w.heap.size, 0, none⟩ = some (.string n) := nA.cell 0
    have f0A := nA.frozen 0
    have c1A : w3.cell? ⟨w.heap.size, 1, none⟩ = some (.int .i64 s) := nA.cell 1
    have f1A := nA.frozen 1
    have c2A : w3.cell? ⟨w.heap.size, 2, none⟩ = some (.int .i64 c) := nA.cell 2
    have f2A := nA.frozen 2
    have c3A : w3.cell? ⟨w.heap.size, 3, none⟩ = some (.int .i64 v) := nA.cell 3
    have f3A := nA.frozen 3
    have HA := Lib.hid nA; clear nA
    have lX := nX.lt
    have c0X : w3.cell? ⟨w1.heap.size, 0, none⟩ = some (.string n) := nX.cell 0
    have f0X := nX.frozen 0
    have c1X : w3.cell? ⟨w1.heap.size, 1, none⟩ = some (.int .i64 s) := nX.cell 1
    have f1X := nX.frozen 1
    have c2X : w3.cell? ⟨w1.heap.size, 2, none⟩ = some (.int .i64 c) := nX.cell 2
    have f2X := nX.frozen 2
    have c3X : w3.cell? ⟨w1.heap.size, 3, none⟩ = some (.int .i64 low) := nX.cell 3
    have f3X := nX.frozen 3
    have HX := Lib.hid nX; clear nX
    have lY := nY.lt
    have c0Y : w3.cell? ⟨w2.heap.size, 0, none⟩ = some (.string n) := nY.cell 0
    have f0Y := nY.frozen 0
    have c1Y : w3.cell? ⟨w2.heap.size, 1, none⟩ = some (.int .i64 s) := nY.cell 1
    have f1Y := nY.frozen 1
    have c2Y : w3.cell? ⟨w2.heap.size, 2, none⟩ = some (.int .i64 c) := nY.cell 2
    have f2Y := nY.frozen 2
    have c3Y : w3.cell? ⟨w2.heap.size, 3, none⟩ = some (.int .i64 high) := nY.cell 3
    have f3Y := nY.frozen 3
    have HY := Lib.hid nY; clear nY
    have BW3 := Lib.hid bw3; clear bw3 hb3 BW2 zz
    go_wp2_with fail
    refine (pick_any n s c high id _ hn hid).mono ?_
    rw [P2.out]
    rintro e w4 ⟨rfl, hb4⟩
    have nA : Blk w4 (w.heap.size) 23 #[.string n, .int .i64 s, .int .i64 c, .int .i64 v] := HA.out.below hb4 lA
    have nX : Blk w4 (w1.heap.size) 23 #[.string n, .int .i64 s, .int .i64 c, .int .i64 low] := HX.out.below hb4 lX
    have nY : Blk w4 (w2.heap.size) 23 #[.string n, .int .i64 s, .int .i64 c, .int .i64 high] := HY.out.below hb4 lY
    have zz := BW3.out.size
    have bw4 : Below w.heap.size w w4 := BW3.out.trans (hb4.mono (by omega))
    clear HA lA c0A c1A c2A c3A f0A f1A f2A f3A
    clear HX lX c0X c1X c2X c3X f0X f1X f2X f3X
    clear HY lY c0Y c1Y c2Y c3Y f0Y f1Y f2Y f3Y
    have lA := nA.lt
    have c0A : w4.cell? ⟨w.heap.size, 0, none⟩ = some (.string n) := nA.cell 0
    have f0A := nA.frozen 0
    have c1A : w4.cell? ⟨w.heap.size, 1, none⟩ = some (.int .i64 s) := nA.cell 1
    have f1A := nA.frozen 1
    have c2A : w4.cell? ⟨w.heap.size, 2, none⟩ = some (.int .i64 c) := nA.cell 2
    have f2A := nA.frozen 2
    have c3A : w4.cell? ⟨w.heap.size, 3, none⟩ = some (.int .i64 v) := nA.cell 3
    have f3A := nA.frozen 3
    have HA := Lib.hid nA; clear nA
    have lX := nX.lt
    have c0X : w4.cell? ⟨w1.heap.size, 0, none⟩ = some (.string n) := nX.cell 0
    have f0X := nX.frozen 0
    have c1X : w4.cell? ⟨w1.heap.size, 1, none⟩ = some (.int .i64 s) := nX.cell 1
    have f1X := nX.frozen 1
    have c2X : w4.cell? ⟨w1.heap.size, 2, none⟩ = some (.int .i64 c) := nX.cell 2
    have f2X := nX.frozen 2
    have c3X : w4.cell? ⟨w1.heap.size, 3, none⟩ = some (.int .i64 low) := nX.cell 3
    have f3X := nX.frozen 3
    have HX := Lib.hid nX; clear nX
    have lY := nY.lt
    have c0Y : w4.cell? ⟨w2.heap.size, 0, none⟩ = some (.string n) := nY.cell 0
    have f0Y := nY.frozen 0
    have c1Y : w4.cell? ⟨w2.heap.size, 1, none⟩ = some (.int .i64 s) := nY.cell 1
    have f1Y := nY.frozen 1
    have c2Y : w4.cell? ⟨w2.heap.size, 2, none⟩ = some (.int .i64 c) := nY.cell 2
    have f2Y := nY.frozen 2
    have c3Y : w4.cell? ⟨w2.heap.size, 3, none⟩ = some (.int .i64 high) := nY.cell 3
    have f3Y := nY.frozen 3
    have HY := Lib.hid nY; clear nY
    have BW4 := Lib.hid bw4; clear bw4 hb4 BW3 zz
    go_wp2_with fail
    refine (moved_any n n s c low s c high _ 1 1 [id] _ hn hn (by intro x hx; simp at hx; subst hx; exact hid) (Rd.fresh w4 9 #[.string id] _ 1 rfl (by simp)) (by omega)).mono ?_
    rw [M.out]
    rintro e w5 ⟨x5, rfl, hown, hb5⟩
    obtain ⟨A9, cap9, rfl⟩ := own_parts hown
    clear hown
    have nA : Blk w5 (w.heap.size) 23 #[.string n, .int .i64 s, .int .i64 c, .int .i64 v] := (HA.out.alloc _).below hb5 (by simp only [World.size_alloc]; omega)
    have nX : Blk w5 (w1.heap.size) 23 #[.string n, .int .i64 s, .int .i64 c, .int .i64 low] := (HX.out.alloc _).below hb5 (by simp only [World.size_alloc]; omega)
    have nY : Blk w5 (w2.heap.size) 23 #[.string n, .int .i64 s, .int .i64 c, .int .i64 high] := (HY.out.alloc _).below hb5 (by simp only [World.size_alloc]; omega)
    have zz := BW4.out.size
    have bw5 : Below w.heap.size w w5 := (BW4.out.alloc (by omega) _).trans (hb5.mono (by simp only [World.size_alloc]; omega))
    clear HA lA c0A c1A c2A c3A f0A f1A f2A f3A
    clear HX lX c0X c1X c2X c3X f0X f1X f2X f3X
    clear HY lY c0Y c1Y c2Y c3Y f0Y f1Y f2Y f3Y
    have lA := nA.lt
    have c0A : w5.cell? ⟨w.heap.size, 0, none⟩ = some (.string n) := nA.cell 0
    have f0A := nA.frozen 0
    have c1A : w5.cell? ⟨w.heap.size, 1, none⟩ = some (.int .i64 s) := nA.cell 1
    have f1A := nA.frozen 1
    have c2A : w5.cell? ⟨w.heap.size, 2, none⟩ = some (.int .i64 c) := nA.cell 2
    have f2A := nA.frozen 2
    have c3A : w5.cell? ⟨w.heap.size, 3, none⟩ = some (.int .i64 v) := nA.cell 3
    have f3A := nA.frozen 3
    have HA := Lib.hid nA; clear nA
    have lX := nX.lt
    have c0X : w5.cell? ⟨w1.heap.size, 0, none⟩ = some (.string n) := nX.cell 0
    have f0X := nX.frozen 0
    have c1X : w5.cell? ⟨w1.heap.size, 1, none⟩ = some (.int .i64 s) := nX.cell 1
    have f1X := nX.frozen 1
    have c2X : w5.cell? ⟨w1.heap.size, 2, none⟩ = some (.int .i64 c) := nX.cell 2
    have f2X := nX.frozen 2
    have c3X : w5.cell? ⟨w1.heap.size, 3, none⟩ = some (.int .i64 low) := nX.cell 3
    have f3X := nX.frozen 3
    have HX := Lib.hid nX; clear nX
    have lY := nY.lt
    have c0Y : w5.cell? ⟨w2.heap.size, 0, none⟩ = some (.string n) := nY.cell 0
    have f0Y := nY.frozen 0
    have c1Y : w5.cell? ⟨w2.heap.size, 1, none⟩ = some (.int .i64 s) := nY.cell 1
    have f1Y := nY.frozen 1
    have c2Y : w5.cell? ⟨w2.heap.size, 2, none⟩ = some (.int .i64 c) := nY.cell 2
    have f2Y := nY.frozen 2
    have c3Y : w5.cell? ⟨w2.heap.size, 3, none⟩ = some (.int .i64 high) := nY.cell 3
    have f3Y := nY.frozen 3
    have HY := Lib.hid nY; clear nY
    have BW5 := Lib.hid bw5; clear bw5 hb5 BW4 zz
    go_wp2_with fail
    refine (awake_any _).mono ?_
    rintro e w6 ⟨rfl, hb6⟩
    have nA : Blk w6 (w.heap.size) 23 #[.string n, .int .i64 s, .int .i64 c, .int .i64 v] := HA.out.below hb6 lA
    have nX : Blk w6 (w1.heap.size) 23 #[.string n, .int .i64 s, .int .i64 c, .int .i64 low] := HX.out.below hb6 lX
    have nY : Blk w6 (w2.heap.size) 23 #[.string n, .int .i64 s, .int .i64 c, .int .i64 high] := HY.out.below hb6 lY
    have zz := BW5.out.size
    have bw6 : Below w.heap.size w w6 := BW5.out.trans (hb6.mono (by omega))
    clear HA lA c0A c1A c2A c3A f0A f1A f2A f3A
    clear HX lX c0X c1X c2X c3X f0X f1X f2X f3X
    clear HY lY c0Y c1Y c2Y c3Y f0Y f1Y f2Y f3Y
    have lA := nA.lt
    have c0A : w6.cell? ⟨w.heap.size, 0, none⟩ = some (.string n) := nA.cell 0
    have f0A := nA.frozen 0
    have c1A : w6.cell? ⟨w.heap.size, 1, none⟩ = some (.int .i64 s) := nA.cell 1
    have f1A := nA.frozen 1
    have c2A : w6.cell? ⟨w.heap.size, 2, none⟩ = some (.int .i64 c) := nA.cell 2
    have f2A := nA.frozen 2
    have c3A : w6.cell? ⟨w.heap.size, 3, none⟩ = some (.int .i64 v) := nA.cell 3
    have f3A := nA.frozen 3
    have HA := Lib.hid nA; clear nA
    have lX := nX.lt
    have c0X : w6.cell? ⟨w1.heap.size, 0, none⟩ = some (.string n) := nX.cell 0
    have f0X := nX.frozen 0
    have c1X : w6.cell? ⟨w1.heap.size, 1, none⟩ = some (.int .i64 s) := nX.cell 1
    have f1X := nX.frozen 1
    have c2X : w6.cell? ⟨w1.heap.size, 2, none⟩ = some (.int .i64 c) := nX.cell 2
    have f2X := nX.frozen 2
    have c3X : w6.cell? ⟨w1.heap.size, 3, none⟩ = some (.int .i64 low) := nX.cell 3
    have f3X := nX.frozen 3
    have HX := Lib.hid nX; clear nX
    have lY := nY.lt
    have c0Y : w6.cell? ⟨w2.heap.size, 0, none⟩ = some (.string n) := nY.cell 0
    have f0Y := nY.frozen 0
    have c1Y : w6.cell? ⟨w2.heap.size, 1, none⟩ = some (.int .i64 s) := nY.cell 1
    have f1Y := nY.frozen 1
    have c2Y : w6.cell? ⟨w2.heap.size, 2, none⟩ = some (.int .i64 c) := nY.cell 2
    have f2Y := nY.frozen 2
    have c3Y : w6.cell? ⟨w2.heap.size, 3, none⟩ = some (.int .i64 high) := nY.cell 3
    have f3Y := nY.frozen 3
    have HY := Lib.hid nY; clear nY
    have BW6 := Lib.hid bw6; clear bw6 hb6 BW5 zz
    go_wp2
    go_ret
    exact ⟨rfl, BW6.out⟩

set_option maxHeartbeats 4000000 in
theorem shifts_ss (n : ByteArray) (s c v low high : Int) (id : ByteArray) (w : World) (hn : n.size ≤ maxLen) (hid : id.size ≤ maxLen)
    (H1 : Hid (chF n s c v (shiftE c low) n s c low = (n, s, c, low, 0))) (H2 : Hid (chF n s c v (shiftE c high) n s c high = (n, s, c, high, 0))) (_hlh : low ≤ high)
    (P1 : Hid (pickF n s c low id = (s, 0))) (P2 : Hid (pickF n s c high id = (s, 0))) (_hcs : (c != s) = true) (_hsc : (s != c) = true) (_hsc2 : (s == c) = false) (_hcs2 : (c == s) = false) (hh' : ¬ high = 1000)
    (M : Hid (movedL (n, s, c, low) (n, s, c, high) [id] = [])) :
    Calls Try.prog 6 #[.agg #[.string n, .int .i64 s, .int .i64 c, .int .i64 v], .int .i64 low, .int .i64 high, .string id] w fun e w' => e = .returned (.bool true) ∧ Below w.heap.size w w' := by
  cases hl : (low == 0) <;> cases hh : (high == 1000)
  rotate_left 1
  · exact absurd (by simpa using hh) hh'
  rotate_left 1
  · exact absurd (by simpa using hh) hh'
  all_goals clear hh'
  all_goals
    go_enter Try.func6, Try.ntmps6
    go_wp2_with fail
    refine (shift_any n s c v low _ hn).mono ?_
    rw [H1.out]; unfold alT
    rintro e w1 ⟨rfl, hb1⟩
    have nA : Blk w1 (w.heap.size) 23 #[.string n, .int .i64 s, .int .i64 c, .int .i64 v] := (Blk.new w 23 #[.string n, .int .i64 s, .int .i64 c, .int .i64 v]).below hb1 (by simp only [World.size_alloc]; omega)
    have bw1 : Below w.heap.size w w1 := ((Below.refl _ _).alloc (by omega) _).trans (hb1.mono (by simp only [World.size_alloc]; omega))
    have lA := nA.lt
    have c0A : w1.cell? ⟨w.heap.size, 0, none⟩ = some (.string n) := nA.cell 0
    have f0A := nA.frozen 0
    have c1A : w1.cell? ⟨w.heap.size, 1, none⟩ = some (.int .i64 s) := nA.cell 1
    have f1A := nA.frozen 1
    have c2A : w1.cell? ⟨w.heap.size, 2, none⟩ = some (.int .i64 c) := nA.cell 2
    have f2A := nA.frozen 2
    have c3A : w1.cell? ⟨w.heap.size, 3, none⟩ = some (.int .i64 v) := nA.cell 3
    have f3A := nA.frozen 3
    have HA := Lib.hid nA; clear nA
    have BW1 := Lib.hid bw1; clear bw1 hb1
    go_wp2_with fail
    refine (shift_any n s c v high _ hn).mono ?_
    rw [H2.out]; unfold alT
    rintro e w2 ⟨rfl, hb2⟩
    have oAX : w.heap.size < w1.heap.size := by have := lA; omega
    have nA : Blk w2 (w.heap.size) 23 #[.string n, .int .i64 s, .int .i64 c, .int .i64 v] := (HA.out.alloc _).below hb2 (by simp only [World.size_alloc]; omega)
    have nX : Blk w2 (w1.heap.size) 23 #[.string n, .int .i64 s, .int .i64 c, .int .i64 low] := (Blk.new w1 23 #[.string n, .int .i64 s, .int .i64 c, .int .i64 low]).below hb2 (by simp only [World.size_alloc]; omega)
    have zz := BW1.out.size
    have bw2 : Below w.heap.size w w2 := (BW1.out.alloc (by omega) _).trans (hb2.mono (by simp only [World.size_alloc]; omega))
    clear HA lA c0A c1A c2A c3A f0A f1A f2A f3A
    have lA := nA.lt
    have c0A : w2.cell? ⟨w.heap.size, 0, none⟩ = some (.string n) := nA.cell 0
    have f0A := nA.frozen 0
    have c1A : w2.cell? ⟨w.heap.size, 1, none⟩ = some (.int .i64 s) := nA.cell 1
    have f1A := nA.frozen 1
    have c2A : w2.cell? ⟨w.heap.size, 2, none⟩ = some (.int .i64 c) := nA.cell 2
    have f2A := nA.frozen 2
    have c3A : w2.cell? ⟨w.heap.size, 3, none⟩ = some (.int .i64 v) := nA.cell 3
    have f3A := nA.frozen 3
    have HA := Lib.hid nA; clear nA
    have lX := nX.lt
    have c0X : w2.cell? ⟨w1.heap.size, 0, none⟩ = some (.string n) := nX.cell 0
    have f0X := nX.frozen 0
    have c1X : w2.cell? ⟨w1.heap.size, 1, none⟩ = some (.int .i64 s) := nX.cell 1
    have f1X := nX.frozen 1
    have c2X : w2.cell? ⟨w1.heap.size, 2, none⟩ = some (.int .i64 c) := nX.cell 2
    have f2X := nX.frozen 2
    have c3X : w2.cell? ⟨w1.heap.size, 3, none⟩ = some (.int .i64 low) := nX.cell 3
    have f3X := nX.frozen 3
    have HX := Lib.hid nX; clear nX
    have BW2 := Lib.hid bw2; clear bw2 hb2 BW1 zz
    go_wp2_with fail
    refine (pick_any n s c low id _ hn hid).mono ?_
    rw [P1.out]
    rintro e w3 ⟨rfl, hb3⟩
    have oAY : w.heap.size < w2.heap.size := by have := lA; omega
    have oXY : w1.heap.size < w2.heap.size := by have := lX; omega
    have nA : Blk w3 (w.heap.size) 23 #[.string n, .int .i64 s, .int .i64 c, .int .i64 v] := (HA.out.alloc _).below hb3 (by simp only [World.size_alloc]; omega)
    have nX : Blk w3 (w1.heap.size) 23 #[.string n, .int .i64 s, .int .i64 c, .int .i64 low] := (HX.out.alloc _).below hb3 (by simp only [World.size_alloc]; omega)
    have nY : Blk w3 (w2.heap.size) 23 #[.string n, .int .i64 s, .int .i64 c, .int .i64 high] := (Blk.new w2 23 #[.string n, .int .i64 s, .int .i64 c, .int .i64 high]).below hb3 (by simp only [World.size_alloc]; omega)
    have zz := BW2.out.size
    have bw3 : Below w.heap.size w w3 := (BW2.out.alloc (by omega) _).trans (hb3.mono (by simp only [World.size_alloc]; omega))
    clear HA lA c0A c1A c2A c3A f0A f1A f2A f3A
    clear HX lX c0X c1X c2X c3X f0X f1X f2X f3X
    have lA := nA.lt
    have c0A : w3.cell? ⟨w.heap.size, 0, none⟩ = some (.string n) := nA.cell 0
    have f0A := nA.frozen 0
    have c1A : w3.cell? ⟨w.heap.size, 1, none⟩ = some (.int .i64 s) := nA.cell 1
    have f1A := nA.frozen 1
    have c2A : w3.cell? ⟨w.heap.size, 2, none⟩ = some (.int .i64 c) := nA.cell 2
    have f2A := nA.frozen 2
    have c3A : w3.cell? ⟨w.heap.size, 3, none⟩ = some (.int .i64 v) := nA.cell 3
    have f3A := nA.frozen 3
    have HA := Lib.hid nA; clear nA
    have lX := nX.lt
    have c0X : w3.cell? ⟨w1.heap.size, 0, none⟩ = some (.string n) := nX.cell 0
    have f0X := nX.frozen 0
    have c1X : w3.cell? ⟨w1.heap.size, 1, none⟩ = some (.int .i64 s) := nX.cell 1
    have f1X := nX.frozen 1
    have c2X : w3.cell? ⟨w1.heap.size, 2, none⟩ = some (.int .i64 c) := nX.cell 2
    have f2X := nX.frozen 2
    have c3X : w3.cell? ⟨w1.heap.size, 3, none⟩ = some (.int .i64 low) := nX.cell 3
    have f3X := nX.frozen 3
    have HX := Lib.hid nX; clear nX
    have lY := nY.lt
    have c0Y : w3.cell? ⟨w2.heap.size, 0, none⟩ = some (.string n) := nY.cell 0
    have f0Y := nY.frozen 0
    have c1Y : w3.cell? ⟨w2.heap.size, 1, none⟩ = some (.int .i64 s) := nY.cell 1
    have f1Y := nY.frozen 1
    have c2Y : w3.cell? ⟨w2.heap.size, 2, none⟩ = some (.int .i64 c) := nY.cell 2
    have f2Y := nY.frozen 2
    have c3Y : w3.cell? ⟨w2.heap.size, 3, none⟩ = some (.int .i64 high) := nY.cell 3
    have f3Y := nY.frozen 3
    have HY := Lib.hid nY; clear nY
    have BW3 := Lib.hid bw3; clear bw3 hb3 BW2 zz
    go_wp2_with fail
    refine (pick_any n s c high id _ hn hid).mono ?_
    rw [P2.out]
    rintro e w4 ⟨rfl, hb4⟩
    have nA : Blk w4 (w.heap.size) 23 #[.string n, .int .i64 s, .int .i64 c, .int .i64 v] := HA.out.below hb4 lA
    have nX : Blk w4 (w1.heap.size) 23 #[.string n, .int .i64 s, .int .i64 c, .int .i64 low] := HX.out.below hb4 lX
    have nY : Blk w4 (w2.heap.size) 23 #[.string n, .int .i64 s, .int .i64 c, .int .i64 high] := HY.out.below hb4 lY
    have zz := BW3.out.size
    have bw4 : Below w.heap.size w w4 := BW3.out.trans (hb4.mono (by omega))
    clear HA lA c0A c1A c2A c3A f0A f1A f2A f3A
    clear HX lX c0X c1X c2X c3X f0X f1X f2X f3X
    clear HY lY c0Y c1Y c2Y c3Y f0Y f1Y f2Y f3Y
    have lA := nA.lt
    have c0A : w4.cell? ⟨w.heap.size, 0, none⟩ = some (.string n) := nA.cell 0
    have f0A := nA.frozen 0
    have c1A : w4.cell? ⟨w.heap.size, 1, none⟩ = some (.int .i64 s) := nA.cell 1
    have f1A := nA.frozen 1
    have c2A : w4.cell? ⟨w.heap.size, 2, none⟩ = some (.int .i64 c) := nA.cell 2
    have f2A := nA.frozen 2
    have c3A : w4.cell? ⟨w.heap.size, 3, none⟩ = some (.int .i64 v) := nA.cell 3
    have f3A := nA.frozen 3
    have HA := Lib.hid nA; clear nA
    have lX := nX.lt
    have c0X : w4.cell? ⟨w1.heap.size, 0, none⟩ = some (.string n) := nX.cell 0
    have f0X := nX.frozen 0
    have c1X : w4.cell? ⟨w1.heap.size, 1, none⟩ = some (.int .i64 s) := nX.cell 1
    have f1X := nX.frozen 1
    have c2X : w4.cell? ⟨w1.heap.size, 2, none⟩ = some (.int .i64 c) := nX.cell 2
    have f2X := nX.frozen 2
    have c3X : w4.cell? ⟨w1.heap.size, 3, none⟩ = some (.int .i64 low) := nX.cell 3
    have f3X := nX.frozen 3
    have HX := Lib.hid nX; clear nX
    have lY := nY.lt
    have c0Y : w4.cell? ⟨w2.heap.size, 0, none⟩ = some (.string n) := nY.cell 0
    have f0Y := nY.frozen 0
    have c1Y : w4.cell? ⟨w2.heap.size, 1, none⟩ = some (.int .i64 s) := nY.cell 1
    have f1Y := nY.frozen 1
    have c2Y : w4.cell? ⟨w2.heap.size, 2, none⟩ = some (.int .i64 c) := nY.cell 2
    have f2Y := nY.frozen 2
    have c3Y : w4.cell? ⟨w2.heap.size, 3, none⟩ = some (.int .i64 high) := nY.cell 3
    have f3Y := nY.frozen 3
    have HY := Lib.hid nY; clear nY
    have BW4 := Lib.hid bw4; clear bw4 hb4 BW3 zz
    go_wp2_with fail
    refine (moved_any n n s c low s c high _ 1 1 [id] _ hn hn (by intro x hx; simp at hx; subst hx; exact hid) (Rd.fresh w4 9 #[.string id] _ 1 rfl (by simp)) (by omega)).mono ?_
    rw [M.out]
    rintro e w5 ⟨x5, rfl, hown, hb5⟩
    obtain ⟨A9, cap9, rfl⟩ := own_parts hown
    clear hown
    have nA : Blk w5 (w.heap.size) 23 #[.string n, .int .i64 s, .int .i64 c, .int .i64 v] := (HA.out.alloc _).below hb5 (by simp only [World.size_alloc]; omega)
    have nX : Blk w5 (w1.heap.size) 23 #[.string n, .int .i64 s, .int .i64 c, .int .i64 low] := (HX.out.alloc _).below hb5 (by simp only [World.size_alloc]; omega)
    have nY : Blk w5 (w2.heap.size) 23 #[.string n, .int .i64 s, .int .i64 c, .int .i64 high] := (HY.out.alloc _).below hb5 (by simp only [World.size_alloc]; omega)
    have zz := BW4.out.size
    have bw5 : Below w.heap.size w w5 := (BW4.out.alloc (by omega) _).trans (hb5.mono (by simp only [World.size_alloc]; omega))
    clear HA lA c0A c1A c2A c3A f0A f1A f2A f3A
    clear HX lX c0X c1X c2X c3X f0X f1X f2X f3X
    clear HY lY c0Y c1Y c2Y c3Y f0Y f1Y f2Y f3Y
    have lA := nA.lt
    have c0A : w5.cell? ⟨w.heap.size, 0, none⟩ = some (.string n) := nA.cell 0
    have f0A := nA.frozen 0
    have c1A : w5.cell? ⟨w.heap.size, 1, none⟩ = some (.int .i64 s) := nA.cell 1
    have f1A := nA.frozen 1
    have c2A : w5.cell? ⟨w.heap.size, 2, none⟩ = some (.int .i64 c) := nA.cell 2
    have f2A := nA.frozen 2
    have c3A : w5.cell? ⟨w.heap.size, 3, none⟩ = some (.int .i64 v) := nA.cell 3
    have f3A := nA.frozen 3
    have HA := Lib.hid nA; clear nA
    have lX := nX.lt
    have c0X : w5.cell? ⟨w1.heap.size, 0, none⟩ = some (.string n) := nX.cell 0
    have f0X := nX.frozen 0
    have c1X : w5.cell? ⟨w1.heap.size, 1, none⟩ = some (.int .i64 s) := nX.cell 1
    have f1X := nX.frozen 1
    have c2X : w5.cell? ⟨w1.heap.size, 2, none⟩ = some (.int .i64 c) := nX.cell 2
    have f2X := nX.frozen 2
    have c3X : w5.cell? ⟨w1.heap.size, 3, none⟩ = some (.int .i64 low) := nX.cell 3
    have f3X := nX.frozen 3
    have HX := Lib.hid nX; clear nX
    have lY := nY.lt
    have c0Y : w5.cell? ⟨w2.heap.size, 0, none⟩ = some (.string n) := nY.cell 0
    have f0Y := nY.frozen 0
    have c1Y : w5.cell? ⟨w2.heap.size, 1, none⟩ = some (.int .i64 s) := nY.cell 1
    have f1Y := nY.frozen 1
    have c2Y : w5.cell? ⟨w2.heap.size, 2, none⟩ = some (.int .i64 c) := nY.cell 2
    have f2Y := nY.frozen 2
    have c3Y : w5.cell? ⟨w2.heap.size, 3, none⟩ = some (.int .i64 high) := nY.cell 3
    have f3Y := nY.frozen 3
    have HY := Lib.hid nY; clear nY
    have BW5 := Lib.hid bw5; clear bw5 hb5 BW4 zz
    go_wp2_with fail
    refine (awake_any _).mono ?_
    rintro e w6 ⟨rfl, hb6⟩
    have nA : Blk w6 (w.heap.size) 23 #[.string n, .int .i64 s, .int .i64 c, .int .i64 v] := HA.out.below hb6 lA
    have nX : Blk w6 (w1.heap.size) 23 #[.string n, .int .i64 s, .int .i64 c, .int .i64 low] := HX.out.below hb6 lX
    have nY : Blk w6 (w2.heap.size) 23 #[.string n, .int .i64 s, .int .i64 c, .int .i64 high] := HY.out.below hb6 lY
    have zz := BW5.out.size
    have bw6 : Below w.heap.size w w6 := BW5.out.trans (hb6.mono (by omega))
    clear HA lA c0A c1A c2A c3A f0A f1A f2A f3A
    clear HX lX c0X c1X c2X c3X f0X f1X f2X f3X
    clear HY lY c0Y c1Y c2Y c3Y f0Y f1Y f2Y f3Y
    have lA := nA.lt
    have c0A : w6.cell? ⟨w.heap.size, 0, none⟩ = some (.string n) := nA.cell 0
    have f0A := nA.frozen 0
    have c1A : w6.cell? ⟨w.heap.size, 1, none⟩ = some (.int .i64 s) := nA.cell 1
    have f1A := nA.frozen 1
    have c2A : w6.cell? ⟨w.heap.size, 2, none⟩ = some (.int .i64 c) := nA.cell 2
    have f2A := nA.frozen 2
    have c3A : w6.cell? ⟨w.heap.size, 3, none⟩ = some (.int .i64 v) := nA.cell 3
    have f3A := nA.frozen 3
    have HA := Lib.hid nA; clear nA
    have lX := nX.lt
    have c0X : w6.cell? ⟨w1.heap.size, 0, none⟩ = some (.string n) := nX.cell 0
    have f0X := nX.frozen 0
    have c1X : w6.cell? ⟨w1.heap.size, 1, none⟩ = some (.int .i64 s) := nX.cell 1
    have f1X := nX.frozen 1
    have c2X : w6.cell? ⟨w1.heap.size, 2, none⟩ = some (.int .i64 c) := nX.cell 2
    have f2X := nX.frozen 2
    have c3X : w6.cell? ⟨w1.heap.size, 3, none⟩ = some (.int .i64 low) := nX.cell 3
    have f3X := nX.frozen 3
    have HX := Lib.hid nX; clear nX
    have lY := nY.lt
    have c0Y : w6.cell? ⟨w2.heap.size, 0, none⟩ = some (.string n) := nY.cell 0
    have f0Y := nY.frozen 0
    have c1Y : w6.cell? ⟨w2.heap.size, 1, none⟩ = some (.int .i64 s) := nY.cell 1
    have f1Y := nY.frozen 1
    have c2Y : w6.cell? ⟨w2.heap.size, 2, none⟩ = some (.int .i64 c) := nY.cell 2
    have f2Y := nY.frozen 2
    have c3Y : w6.cell? ⟨w2.heap.size, 3, none⟩ = some (.int .i64 high) := nY.cell 3
    have f3Y := nY.frozen 3
    have HY := Lib.hid nY; clear nY
    have BW6 := Lib.hid bw6; clear bw6 hb6 BW5 zz
    go_wp2
    go_ret
    exact ⟨rfl, BW6.out⟩

end Go.Proofs.Ytffecbepmlaekaa
