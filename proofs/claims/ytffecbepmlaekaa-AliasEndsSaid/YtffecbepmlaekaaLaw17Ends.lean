/-
  The walk of the law AliasEnds: it returns true, and what was there before is as it was.
-/
import Derived.Test.YtffecbepmlaekaaLaw17Shifts2
import Derived.Deep.RegionHeld3
namespace Go.Proofs.Ytffecbepmlaekaa
open Go.RowKit

set_option maxHeartbeats 4000000 in
theorem ends_no (n : ByteArray) (s c v k : Int) (A : Option Addr) (m cap : Nat) (w : World) (hn : n.size ≤ maxLen) (hm : m ≤ maxLen) (r1 : ByteArray × Int × Int × Int × Int)
    (H1 : Hid (chF n s c v (beginE s c k) n s k 0 = r1)) (hb : ((r1.2.2.2.2 != 0) = true) ∨ ((r1.2.2.2.2 != 0) = false ∧ 100 < m)) :
    Calls Try.prog 7 #[.agg #[.string n, .int .i64 s, .int .i64 c, .int .i64 v], .int .i64 k, .slice A m cap] w fun e w' => e = .returned (.bool true) ∧ Below w.heap.size w w' := by
  unfold maxLen at hm
  rcases hb with g1 | ⟨g1, g2⟩
  all_goals
    go_enter Try.func7, Try.ntmps7
    go_wp2_with fail
    refine (begin_any n s c v k _ hn).mono ?_
    rw [H1.out]; unfold alT
    rintro e w1 ⟨rfl, hb1⟩
    have nA : Blk w1 (w.heap.size) 23 #[.string n, .int .i64 s, .int .i64 c, .int .i64 v] := (Blk.new w 23 #[.string n, .int .i64 s, .int .i64 c, .int .i64 v]).below hb1 (by simp only [World.size_alloc]; omega)
    have bw1 : Below w.heap.size w w1 := ((Below.refl _ _).alloc (by omega) _).trans (hb1.mono (by simp only [World.size_alloc]; omega))
    have lA := nA.lt
    have c0A : w1.cell? ⟨w.heap.size, 0, none⟩ = some (.string n) := nA.cell 0
    have f0A := nA.frozen 0
    have c1A : w1.cell? ⟨w.heap.size, 1, none⟩ = some (.int .i64 s) := nA.cell 1
    have f1A := nA.frozen 1
    have c2A : w1.cell? ⟨w.heap.size, 2, none⟩ = some (.int .i64 c) := nA.cell 2
    have f2A := nA.frozen 2
    have c3A : w1.cell? ⟨w.heap.size, 3, none⟩ = some (.int .i64 v) := nA.cell 3
    have f3A := nA.frozen 3
    have HA := Lib.hid nA; clear nA
    have BW1 := Lib.hid bw1; clear bw1 hb1
    go_wp2_with fail
    refine (awake_any _).mono ?_
    rintro e w2 ⟨rfl, hb2⟩
    have oAX : w.heap.size < w1.heap.size := by have := lA; omega
    have nA : Blk w2 (w.heap.size) 23 #[.string n, .int .i64 s, .int .i64 c, .int .i64 v] := (HA.out.alloc _).below hb2 (by simp only [World.size_alloc]; omega)
    have nX : Blk w2 (w1.heap.size) 23 #[.string r1.1, .int .i64 r1.2.1, .int .i64 r1.2.2.1, .int .i64 r1.2.2.2.1] := (Blk.new w1 23 #[.string r1.1, .int .i64 r1.2.1, .int .i64 r1.2.2.1, .int .i64 r1.2.2.2.1]).below hb2 (by simp only [World.size_alloc]; omega)
    have zz := BW1.out.size
    have bw2 : Below w.heap.size w w2 := (BW1.out.alloc (by omega) _).trans (hb2.mono (by simp only [World.size_alloc]; omega))
    clear HA lA c0A c1A c2A c3A f0A f1A f2A f3A
    have lA := nA.lt
    have c0A : w2.cell? ⟨w.heap.size, 0, none⟩ = some (.string n) := nA.cell 0
    have f0A := nA.frozen 0
    have c1A : w2.cell? ⟨w.heap.size, 1, none⟩ = some (.int .i64 s) := nA.cell 1
    have f1A := nA.frozen 1
    have c2A : w2.cell? ⟨w.heap.size, 2, none⟩ = some (.int .i64 c) := nA.cell 2
    have f2A := nA.frozen 2
    have c3A : w2.cell? ⟨w.heap.size, 3, none⟩ = some (.int .i64 v) := nA.cell 3
    have f3A := nA.frozen 3
    have HA := Lib.hid nA; clear nA
    have lX := nX.lt
    have c0X : w2.cell? ⟨w1.heap.size, 0, none⟩ = some (.string r1.1) := nX.cell 0
    have f0X := nX.frozen 0
    have c1X : w2.cell? ⟨w1.heap.size, 1, none⟩ = some (.int .i64 r1.2.1) := nX.cell 1
    have f1X := nX.frozen 1
    have c2X : w2.cell? ⟨w1.heap.size, 2, none⟩ = some (.int .i64 r1.2.2.1) := nX.cell 2
    have f2X := nX.frozen 2
    have c3X : w2.cell? ⟨w1.heap.size, 3, none⟩ = some (.int .i64 r1.2.2.2.1) := nX.cell 3
    have f3X := nX.frozen 3
    have HX := Lib.hid nX; clear nX
    have BW2 := Lib.hid bw2; clear bw2 hb2 BW1 zz
    go_wp2
    go_ret
    exact ⟨rfl, BW2.out⟩

theorem bset4 {w : World} {b : Nat} {t : TypeId} {x0 x1 x2 x3 y0 y1 y2 y3 : Value} (h : Blk w b t #[x0, x1, x2, x3]) : Blk ((((w.setCell ⟨b, 0, none⟩ y0).setCell ⟨b, 1, none⟩ y1).setCell ⟨b, 2, none⟩ y2).setCell ⟨b, 3, none⟩ y3) b t #[y0, y1, y2, y3] := by
  have := ((((h.set_ 0 y0).set_ 1 y1).set_ 2 y2).set_ 3 y3)
  simpa using this
theorem bfar4 {w : World} {b g : Nat} {t : TypeId} {cs : Array Value} {y0 y1 y2 y3 : Value} (h : Blk w g t cs) (hg : g ≠ b) : Blk ((((w.setCell ⟨b, 0, none⟩ y0).setCell ⟨b, 1, none⟩ y1).setCell ⟨b, 2, none⟩ y2).setCell ⟨b, 3, none⟩ y3) g t cs := ((((h.far hg y0).far hg y1).far hg y2).far hg y3)
theorem bbel4 {w0 w : World} {b B : Nat} {y0 y1 y2 y3 : Value} (h : Below B w0 w) (hb : B ≤ b) : Below B w0 ((((w.setCell ⟨b, 0, none⟩ y0).setCell ⟨b, 1, none⟩ y1).setCell ⟨b, 2, none⟩ y2).setCell ⟨b, 3, none⟩ y3) := ((((h.setCell hb _).setCell hb _).setCell hb _).setCell hb _)
theorem bk_alloc {w0 w : World} {ob : Obj} (h : Below w0.heap.size w0 w) : Below w0.heap.size w0 (w.alloc ob) := h.alloc h.size ob
theorem bk_set4 {w0 w : World} {g : Nat} {y0 y1 y2 y3 : Value} (h : Below w0.heap.size w0 w) (hg : w0.heap.size ≤ g) :
    Below w0.heap.size w0 ((((w.setCell ⟨g, 0, none⟩ y0).setCell ⟨g, 1, none⟩ y1).setCell ⟨g, 2, none⟩ y2).setCell ⟨g, 3, none⟩ y3) :=
  (((h.setCell hg y0).setCell hg y1).setCell hg y2).setCell hg y3
theorem cfar4 {w : World} {b g o : Nat} {y0 y1 y2 y3 : Value} (hg : g ≠ b) :
    ((((w.setCell ⟨b, 0, none⟩ y0).setCell ⟨b, 1, none⟩ y1).setCell ⟨b, 2, none⟩ y2).setCell ⟨b, 3, none⟩ y3).cell? ⟨g, o, none⟩ = w.cell? ⟨g, o, none⟩ := by
  have h : ∀ (w : World) i y, (w.setCell ⟨b, i, none⟩ y).cell? ⟨g, o, none⟩ = w.cell? ⟨g, o, none⟩ := fun w i y => World.cell?_setCell_other w _ _ y (fun e => by injection e with e; exact hg e.symm)
  rw [h, h, h, h]
theorem chk0 (n : ByteArray) (s k u : Int) (h0 : chk n s k u = 0) (w : World) (hn : n.size ≤ maxLen) :
    Calls Try.prog 8 #[.agg #[.string n, .int .i64 s, .int .i64 k, .int .i64 u]] w fun e w' => e = .returned (.int .i64 0) ∧ Below w.heap.size w w' := by
  have h := check_any n s k u w hn
  rw [h0] at h; exact h

set_option maxHeartbeats 8000000 in
theorem ends_yes (n : ByteArray) (s c v k : Int) (A : Option Addr) (m cap : Nat) (zs : List Int) (w : World) (hn : n.size ≤ maxLen) (hm : m ≤ 100) (hr : Rd w w.heap.size 1 A m (zs.map (Value.int .i64)))
    (H1 : Hid (chF n s c v (beginE s c k) n s k 0 = (n, s, k, 0, 0))) (hk0 : Hid (k ≠ 0)) (hk : ∀ u, inB u 0 1000 = true → chk n s k u = 0)
    (G3 : Hid (chF n s c v (pointE s) n s 0 0 = (n, s, 0, 0, 0))) (G4 : Hid (chF n s c v (pointE k) n k 0 0 = (n, k, 0, 0, 0))) :
    Calls Try.prog 7 #[.agg #[.string n, .int .i64 s, .int .i64 c, .int .i64 v], .int .i64 k, .slice A m cap] w fun e w' => e = .returned (.bool true) ∧ Below w.heap.size w w' := by
  have Hr := Lib.hid hr; clear hr
  have Hk := Lib.hid hk; clear hk
  go_enter Try.func7, Try.ntmps7
  go_wp2_with fail
  refine (begin_any n s c v k _ hn).mono ?_
  rw [H1.out]; unfold alT
  rintro e w1 ⟨rfl, hb1⟩
  have nA : Blk w1 (w.heap.size) 23 #[.string n, .int .i64 s, .int .i64 c, .int .i64 v] := (Blk.new w 23 #[.string n, .int .i64 s, .int .i64 c, .int .i64 v]).below hb1 (by simp only [World.size_alloc]; omega)
  have bw1 : Below w.heap.size w w1 := ((Below.refl _ _).alloc (by omega) _).trans (hb1.mono (by simp only [World.size_alloc]; omega))
  have lA := nA.lt
  have c0A : w1.cell? ⟨w.heap.size, 0, none⟩ = some (.string n) := nA.cell 0
  have f0A := nA.frozen 0
  have c1A : w1.cell? ⟨w.heap.size, 1, none⟩ = some (.int .i64 s) := nA.cell 1
  have f1A := nA.frozen 1
  have c2A : w1.cell? ⟨w.heap.size, 2, none⟩ = some (.int .i64 c) := nA.cell 2
  have f2A := nA.frozen 2
  have c3A : w1.cell? ⟨w.heap.size, 3, none⟩ = some (.int .i64 v) := nA.cell 3
  have f3A := nA.frozen 3
  have HA := Lib.hid nA; clear nA
  have BW1 := Lib.hid bw1; clear bw1 hb1
  go_wp2_with fail
  have oAX := lA
  have bX : Blk (w1.alloc (.cells #[.string n, .int .i64 s, .int .i64 k, .int .i64 0] 23)) w1.heap.size 23 #[.string n, .int .i64 s, .int .i64 k, .int .i64 0] := Blk.new w1 _ _
  have bA := HA.out.alloc (.cells #[.string n, .int .i64 s, .int .i64 k, .int .i64 0] 23)
  have bw := BW1.out.alloc BW1.out.size (.cells #[.string n, .int .i64 s, .int .i64 k, .int .i64 0] 23)
  have BXX := Lib.hid bX; clear bX
  have BAA := Lib.hid bA; clear bA
  have BWW := Lib.hid bw; clear bw
  clear HA lA c0A c1A c2A c3A f0A f1A f2A f3A
  go_loopw [9] (fun i wr => ∃ (j : Nat) (u : Int), j ≤ m ∧ i = .int .i64 j ∧ inB u 0 1000 = true ∧
      Blk wr w.heap.size 23 #[.string n, .int .i64 s, .int .i64 c, .int .i64 v] ∧ Blk wr w1.heap.size 23 #[.string n, .int .i64 s, .int .i64 k, .int .i64 u] ∧ Below w.heap.size w wr) (fun i _ => m - (intOf i).toNat)
  case atStart => exact ⟨0, 0, Nat.zero_le _, rfl, by decide, BAA.out, BXX.out, BWW.out⟩
  case round =>
    clear BXX BAA BWW BW1
    obtain ⟨j, u, hj, rfl, hu, nA, nX, hbw⟩ := hrel
    have Hu := Lib.hid hu; clear hu
    by_cases hlt : j < m
    · obtain ⟨b, o, x, rfl, hbB, hx, hcell⟩ := (Hr.out.below hbw).one hlt
      obtain ⟨wt, hwt, rfl⟩ : ∃ wt, zs[j]? = some wt ∧ x = .int .i64 wt := by
        rw [List.getElem?_map] at hx
        obtain ⟨z, h1, h2⟩ := Option.map_eq_some_iff.1 hx
        exact ⟨z, h1, h2.symm⟩
      clear hx hwt
      have lA := nA.lt
      have c0A : wr.cell? ⟨w.heap.size, 0, none⟩ = some (.string n) := nA.cell 0
      have f0A := nA.frozen 0
      have c1A : wr.cell? ⟨w.heap.size, 1, none⟩ = some (.int .i64 s) := nA.cell 1
      have f1A := nA.frozen 1
      have c2A : wr.cell? ⟨w.heap.size, 2, none⟩ = some (.int .i64 c) := nA.cell 2
      have f2A := nA.frozen 2
      have c3A : wr.cell? ⟨w.heap.size, 3, none⟩ = some (.int .i64 v) := nA.cell 3
      have f3A := nA.frozen 3
      have HA := Lib.hid nA; clear nA
      have lX := nX.lt
      have c0X : wr.cell? ⟨w1.heap.size, 0, none⟩ = some (.string n) := nX.cell 0
      have f0X := nX.frozen 0
      have c1X : wr.cell? ⟨w1.heap.size, 1, none⟩ = some (.int .i64 s) := nX.cell 1
      have f1X := nX.frozen 1
      have c2X : wr.cell? ⟨w1.heap.size, 2, none⟩ = some (.int .i64 k) := nX.cell 2
      have f2X := nX.frozen 2
      have c3X : wr.cell? ⟨w1.heap.size, 3, none⟩ = some (.int .i64 u) := nX.cell 3
      have f3X := nX.frozen 3
      have HX := Lib.hid nX; clear nX
      have lb1 : w.heap.size < wr.heap.size := by omega
      have lb2 : w1.heap.size < wr.heap.size := by omega
      have lb3 : b < wr.heap.size := by omega
      cases hV : inB wt 0 1000
      · have T : Hid (chF n s k u (shiftE k wt) n s k wt = (⟨#[]⟩, 0, 0, 0, 2)) := by
          show _ = _
          have h1 := Hk.out u Hu.out
          have h2 : shiftE k wt = 2 := by simp [shiftE, hV]
          rw [chF_err (by simp [h1]) (by rw [h2]; decide), h2]; rfl
        have HV := Lib.hid hV; clear hV
        have x0 : ∀ w', Below wr.heap.size wr w' → w'.cell? ⟨w1.heap.size, 0, none⟩ = some (.string n) := fun w' h => (h.cell (p := ⟨_, _, none⟩) lb2).trans c0X
        have x1 : ∀ w', Below wr.heap.size wr w' → w'.cell? ⟨w1.heap.size, 1, none⟩ = some (.int .i64 s) := fun w' h => (h.cell (p := ⟨_, _, none⟩) lb2).trans c1X
        have x2 : ∀ w', Below wr.heap.size wr w' → w'.cell? ⟨w1.heap.size, 2, none⟩ = some (.int .i64 k) := fun w' h => (h.cell (p := ⟨_, _, none⟩) lb2).trans c2X
        have x3 : ∀ w', Below wr.heap.size wr w' → w'.cell? ⟨w1.heap.size, 3, none⟩ = some (.int .i64 u) := fun w' h => (h.cell (p := ⟨_, _, none⟩) lb2).trans c3X
        have x4 : ∀ w', Below wr.heap.size wr w' → w'.cell? ⟨b, o + j, none⟩ = some (.int .i64 wt) := fun w' h => (h.cell (p := ⟨_, _, none⟩) lb3).trans hcell
        clear c0A f0A c0X f0X c1A f1A c1X f1X c2A f2A c2X f2X c3A f3A c3X f3X hcell
        go_wp2_with fail
        go_region_held3 (fun w' => Below wr.heap.size wr w') (first | exact Below.drew (Below.refl _ _) | assumption | exact bk_alloc (by assumption) | exact bk_set4 (by assumption) (Nat.le_refl _) | exact bk_set4 (by assumption) bw2.size)
          (first
            | (go_at_call 14
               refine (shift_any n s k u wt (wr.alloc (.cells #[.string ⟨#[]⟩, .int .i64 0, .int .i64 0, .int .i64 0] 23)).drew hn).mono ?_
               rw [T.out]; unfold alT
               rintro e w2 ⟨rfl, hb2⟩
               have bw2 : Below wr.heap.size wr w2 := (bk_alloc (Below.refl _ _)).drew.trans (hb2.mono (by simp))
               have nZ : Blk w2 wr.heap.size 23 #[.string ⟨#[]⟩, .int .i64 0, .int .i64 0, .int .i64 0] := (show Blk (wr.alloc (.cells _ 23)).drew wr.heap.size _ _ from Blk.new wr _ _).below hb2 (by simp)
               have d0 := nZ.cell 0
               have d1 := nZ.cell 1
               have d2 := nZ.cell 2
               have d3 := nZ.cell 3
               have q0 := nZ.frozen 0
               have q1 := nZ.frozen 1
               have q2 := nZ.frozen 2
               have q3 := nZ.frozen 3
               simp only [List.getElem?_toArray, List.getElem?_cons_zero, List.getElem?_cons_succ] at d0 d1 d2 d3
               have nZ' := Lib.hid nZ; clear nZ hb2)
            | (go_at_call 14
               refine (shift_any n s k u wt wr.drew hn).mono ?_
               rw [T.out]; unfold alT
               rintro e w2 ⟨rfl, hb2⟩
               have bw2 : Below wr.heap.size wr w2 := (Below.drew (Below.refl _ _)).trans hb2
               clear hb2))
        · have nY : Blk (w2.alloc (.cells #[.string ⟨#[]⟩, .int .i64 0, .int .i64 0, .int .i64 0] 23)) w2.heap.size 23 #[.string ⟨#[]⟩, .int .i64 0, .int .i64 0, .int .i64 0] := Blk.new w2 _ _
          have bw4 : Below wr.heap.size wr (w2.alloc (.cells #[.string ⟨#[]⟩, .int .i64 0, .int .i64 0, .int .i64 0] 23)) := bk_alloc bw2
          have hgg : wr.heap.size ≤ w2.heap.size := bw2.size
          have nA : Blk (w2.alloc (.cells #[.string ⟨#[]⟩, .int .i64 0, .int .i64 0, .int .i64 0] 23)) w.heap.size 23 #[.string n, .int .i64 s, .int .i64 c, .int .i64 v] := HA.out.below bw4 lb1
          have nX : Blk (w2.alloc (.cells #[.string ⟨#[]⟩, .int .i64 0, .int .i64 0, .int .i64 0] 23)) w1.heap.size 23 #[.string n, .int .i64 s, .int .i64 k, .int .i64 u] := HX.out.below bw4 lb2
          have hcl := x4 _ bw4
          have bw4' : Below w.heap.size w (w2.alloc (.cells #[.string ⟨#[]⟩, .int .i64 0, .int .i64 0, .int .i64 0] 23)) := hbw.trans (bw4.mono hbw.size)
          clear x0 x1 x2 x3 x4 HA HX lA lX bw4 bw2
          generalize (w2.alloc (.cells #[.string ⟨#[]⟩, .int .i64 0, .int .i64 0, .int .i64 0] 23)) = w4 at nY nA nX hcl bw4'
          generalize w2.heap.size = g at nY hgg
          have lA := nA.lt
          have c0A : w4.cell? ⟨w.heap.size, 0, none⟩ = some (.string n) := nA.cell 0
          have f0A := nA.frozen 0
          have c1A : w4.cell? ⟨w.heap.size, 1, none⟩ = some (.int .i64 s) := nA.cell 1
          have f1A := nA.frozen 1
          have c2A : w4.cell? ⟨w.heap.size, 2, none⟩ = some (.int .i64 c) := nA.cell 2
          have f2A := nA.frozen 2
          have c3A : w4.cell? ⟨w.heap.size, 3, none⟩ = some (.int .i64 v) := nA.cell 3
          have f3A := nA.frozen 3
          have HA := Lib.hid nA; clear nA
          have lX := nX.lt
          have c0X : w4.cell? ⟨w1.heap.size, 0, none⟩ = some (.string n) := nX.cell 0
          have f0X := nX.frozen 0
          have c1X : w4.cell? ⟨w1.heap.size, 1, none⟩ = some (.int .i64 s) := nX.cell 1
          have f1X := nX.frozen 1
          have c2X : w4.cell? ⟨w1.heap.size, 2, none⟩ = some (.int .i64 k) := nX.cell 2
          have f2X := nX.frozen 2
          have c3X : w4.cell? ⟨w1.heap.size, 3, none⟩ = some (.int .i64 u) := nX.cell 3
          have f3X := nX.frozen 3
          have HX := Lib.hid nX; clear nX
          have lY := nY.lt
          have c0Y : w4.cell? ⟨g, 0, none⟩ = some (.string ⟨#[]⟩) := nY.cell 0
          have f0Y := nY.frozen 0
          have c1Y : w4.cell? ⟨g, 1, none⟩ = some (.int .i64 0) := nY.cell 1
          have f1Y := nY.frozen 1
          have c2Y : w4.cell? ⟨g, 2, none⟩ = some (.int .i64 0) := nY.cell 2
          have f2Y := nY.frozen 2
          have c3Y : w4.cell? ⟨g, 3, none⟩ = some (.int .i64 0) := nY.cell 3
          have f3Y := nY.frozen 3
          have HY := Lib.hid nY; clear nY
          have BW4 := Lib.hid bw4'; clear bw4'
          have hw4 : w.heap.size < w4.heap.size ∧ w1.heap.size < w4.heap.size ∧ b < w4.heap.size := by refine ⟨?_, ?_, ?_⟩ <;> omega
          obtain ⟨hw41, hw42, hw43⟩ := hw4
          clear HY lY c0Y f0Y c1Y f1Y c2Y f2Y c3Y f3Y
          go_wp2_with fail
          refine wp_region_ov (w0 := w4) (B := w4.heap.size) (by kernel_rfl) (by kernel_rfl) (Below.refl _ _) ?_
          have z0A := ov_cell (B := w4.heap.size) c0A lA
          have z1A := ov_cell (B := w4.heap.size) c1A lA
          have z2A := ov_cell (B := w4.heap.size) c2A lA
          have z3A := ov_cell (B := w4.heap.size) c3A lA
          have z0X := ov_cell (B := w4.heap.size) c0X lX
          have z1X := ov_cell (B := w4.heap.size) c1X lX
          have z2X := ov_cell (B := w4.heap.size) c2X lX
          have z3X := ov_cell (B := w4.heap.size) c3X lX
          have z9 := ov_cell (B := w4.heap.size) hcl (by omega)
          repeat (go_big_quiet_step ((go_at_call 8; exact Calls.ov_of (Nat.le_refl _) (chk0 n s k u (Hk.out _ Hu.out) _ hn))))
          refine wpQuiet_nil ?_
          intro _ hw'
          obtain ⟨z, rfl⟩ := hw'
          have hb5 := ov_below z
          have nA : Blk (ov z) w.heap.size 23 #[.string n, .int .i64 s, .int .i64 c, .int .i64 v] := HA.out.below hb5 lA
          have nX : Blk (ov z) w1.heap.size 23 #[.string n, .int .i64 s, .int .i64 k, .int .i64 u] := HX.out.below hb5 lX
          have hbwz : Below w.heap.size w (ov z) := BW4.out.trans (hb5.mono BW4.out.size)
          clear z0A z1A z2A z3A z0X z1X z2X z3X z9 hb5 hcl BW4
          clear HA lA c0A f0A c1A f1A c2A f2A c3A f3A
          clear HX lX c0X f0X c1X f1X c2X f2X c3X f3X
          generalize ov z = w5 at nA nX hbwz
          clear z
          have NA := Lib.hid nA; clear nA
          have NX := Lib.hid nX; clear nX
          go_wp2
          go_roundw
          case rel => exact ⟨j + 1, u, by omega, by go_num, Hu.out, NA.out, NX.out, hbwz⟩
          case measure => simp [intOf]; omega
        · have nY : Blk ((((w2.setCell ⟨wr.heap.size, 0, none⟩ (.string ⟨#[]⟩)).setCell ⟨wr.heap.size, 1, none⟩ (.int .i64 0)).setCell ⟨wr.heap.size, 2, none⟩ (.int .i64 0)).setCell ⟨wr.heap.size, 3, none⟩ (.int .i64 0)) wr.heap.size 23 #[.string ⟨#[]⟩, .int .i64 0, .int .i64 0, .int .i64 0] := bset4 nZ'.out
          have bw4 : Below wr.heap.size wr ((((w2.setCell ⟨wr.heap.size, 0, none⟩ (.string ⟨#[]⟩)).setCell ⟨wr.heap.size, 1, none⟩ (.int .i64 0)).setCell ⟨wr.heap.size, 2, none⟩ (.int .i64 0)).setCell ⟨wr.heap.size, 3, none⟩ (.int .i64 0)) := bk_set4 bw2 (Nat.le_refl _)
          clear nZ' d0 d1 d2 d3 q0 q1 q2 q3
          have hgg : wr.heap.size ≤ wr.heap.size := Nat.le_refl _
          have nA : Blk ((((w2.setCell ⟨wr.heap.size, 0, none⟩ (.string ⟨#[]⟩)).setCell ⟨wr.heap.size, 1, none⟩ (.int .i64 0)).setCell ⟨wr.heap.size, 2, none⟩ (.int .i64 0)).setCell ⟨wr.heap.size, 3, none⟩ (.int .i64 0)) w.heap.size 23 #[.string n, .int .i64 s, .int .i64 c, .int .i64 v] := HA.out.below bw4 lb1
          have nX : Blk ((((w2.setCell ⟨wr.heap.size, 0, none⟩ (.string ⟨#[]⟩)).setCell ⟨wr.heap.size, 1, none⟩ (.int .i64 0)).setCell ⟨wr.heap.size, 2, none⟩ (.int .i64 0)).setCell ⟨wr.heap.size, 3, none⟩ (.int .i64 0)) w1.heap.size 23 #[.string n, .int .i64 s, .int .i64 k, .int .i64 u] := HX.out.below bw4 lb2
          have hcl := x4 _ bw4
          have bw4' : Below w.heap.size w ((((w2.setCell ⟨wr.heap.size, 0, none⟩ (.string ⟨#[]⟩)).setCell ⟨wr.heap.size, 1, none⟩ (.int .i64 0)).setCell ⟨wr.heap.size, 2, none⟩ (.int .i64 0)).setCell ⟨wr.heap.size, 3, none⟩ (.int .i64 0)) := hbw.trans (bw4.mono hbw.size)
          clear x0 x1 x2 x3 x4 HA HX lA lX bw4 bw2
          generalize ((((w2.setCell ⟨wr.heap.size, 0, none⟩ (.string ⟨#[]⟩)).setCell ⟨wr.heap.size, 1, none⟩ (.int .i64 0)).setCell ⟨wr.heap.size, 2, none⟩ (.int .i64 0)).setCell ⟨wr.heap.size, 3, none⟩ (.int .i64 0)) = w4 at nY nA nX hcl bw4'
          have lA := nA.lt
          have c0A : w4.cell? ⟨w.heap.size, 0, none⟩ = some (.string n) := nA.cell 0
          have f0A := nA.frozen 0
          have c1A : w4.cell? ⟨w.heap.size, 1, none⟩ = some (.int .i64 s) := nA.cell 1
          have f1A := nA.frozen 1
          have c2A : w4.cell? ⟨w.heap.size, 2, none⟩ = some (.int .i64 c) := nA.cell 2
          have f2A := nA.frozen 2
          have c3A : w4.cell? ⟨w.heap.size, 3, none⟩ = some (.int .i64 v) := nA.cell 3
          have f3A := nA.frozen 3
          have HA := Lib.hid nA; clear nA
          have lX := nX.lt
          have c0X : w4.cell? ⟨w1.heap.size, 0, none⟩ = some (.string n) := nX.cell 0
          have f0X := nX.frozen 0
          have c1X : w4.cell? ⟨w1.heap.size, 1, none⟩ = some (.int .i64 s) := nX.cell 1
          have f1X := nX.frozen 1
          have c2X : w4.cell? ⟨w1.heap.size, 2, none⟩ = some (.int .i64 k) := nX.cell 2
          have f2X := nX.frozen 2
          have c3X : w4.cell? ⟨w1.heap.size, 3, none⟩ = some (.int .i64 u) := nX.cell 3
          have f3X := nX.frozen 3
          have HX := Lib.hid nX; clear nX
          have lY := nY.lt
          have c0Y : w4.cell? ⟨wr.heap.size, 0, none⟩ = some (.string ⟨#[]⟩) := nY.cell 0
          have f0Y := nY.frozen 0
          have c1Y : w4.cell? ⟨wr.heap.size, 1, none⟩ = some (.int .i64 0) := nY.cell 1
          have f1Y := nY.frozen 1
          have c2Y : w4.cell? ⟨wr.heap.size, 2, none⟩ = some (.int .i64 0) := nY.cell 2
          have f2Y := nY.frozen 2
          have c3Y : w4.cell? ⟨wr.heap.size, 3, none⟩ = some (.int .i64 0) := nY.cell 3
          have f3Y := nY.frozen 3
          have HY := Lib.hid nY; clear nY
          have BW4 := Lib.hid bw4'; clear bw4'
          have hw4 : w.heap.size < w4.heap.size ∧ w1.heap.size < w4.heap.size ∧ b < w4.heap.size := by refine ⟨?_, ?_, ?_⟩ <;> omega
          obtain ⟨hw41, hw42, hw43⟩ := hw4
          clear HY lY c0Y f0Y c1Y f1Y c2Y f2Y c3Y f3Y
          go_wp2_with fail
          refine wp_region_ov (w0 := w4) (B := w4.heap.size) (by kernel_rfl) (by kernel_rfl) (Below.refl _ _) ?_
          have z0A := ov_cell (B := w4.heap.size) c0A lA
          have z1A := ov_cell (B := w4.heap.size) c1A lA
          have z2A := ov_cell (B := w4.heap.size) c2A lA
          have z3A := ov_cell (B := w4.heap.size) c3A lA
          have z0X := ov_cell (B := w4.heap.size) c0X lX
          have z1X := ov_cell (B := w4.heap.size) c1X lX
          have z2X := ov_cell (B := w4.heap.size) c2X lX
          have z3X := ov_cell (B := w4.heap.size) c3X lX
          have z9 := ov_cell (B := w4.heap.size) hcl (by omega)
          repeat (go_big_quiet_step ((go_at_call 8; exact Calls.ov_of (Nat.le_refl _) (chk0 n s k u (Hk.out _ Hu.out) _ hn))))
          refine wpQuiet_nil ?_
          intro _ hw'
          obtain ⟨z, rfl⟩ := hw'
          have hb5 := ov_below z
          have nA : Blk (ov z) w.heap.size 23 #[.string n, .int .i64 s, .int .i64 c, .int .i64 v] := HA.out.below hb5 lA
          have nX : Blk (ov z) w1.heap.size 23 #[.string n, .int .i64 s, .int .i64 k, .int .i64 u] := HX.out.below hb5 lX
          have hbwz : Below w.heap.size w (ov z) := BW4.out.trans (hb5.mono BW4.out.size)
          clear z0A z1A z2A z3A z0X z1X z2X z3X z9 hb5 hcl BW4
          clear HA lA c0A f0A c1A f1A c2A f2A c3A f3A
          clear HX lX c0X f0X c1X f1X c2X f2X c3X f3X
          generalize ov z = w5 at nA nX hbwz
          clear z
          have NA := Lib.hid nA; clear nA
          have NX := Lib.hid nX; clear nX
          go_wp2
          go_roundw
          case rel => exact ⟨j + 1, u, by omega, by go_num, Hu.out, NA.out, NX.out, hbwz⟩
          case measure => simp [intOf]; omega
      · have T : Hid (chF n s k u (shiftE k wt) n s k wt = (n, s, k, wt, 0)) := by
          show _ = _
          have h1 := Hk.out u Hu.out
          have h2 : shiftE k wt = 0 := by simp [shiftE, hV, hk0.out]
          rw [chF_ok (by simp [h1]) (by rw [h2]; decide)]
        have HV := Lib.hid hV; clear hV
        have x0 : ∀ w', Below wr.heap.size wr w' → w'.cell? ⟨w1.heap.size, 0, none⟩ = some (.string n) := fun w' h => (h.cell (p := ⟨_, _, none⟩) lb2).trans c0X
        have x1 : ∀ w', Below wr.heap.size wr w' → w'.cell? ⟨w1.heap.size, 1, none⟩ = some (.int .i64 s) := fun w' h => (h.cell (p := ⟨_, _, none⟩) lb2).trans c1X
        have x2 : ∀ w', Below wr.heap.size wr w' → w'.cell? ⟨w1.heap.size, 2, none⟩ = some (.int .i64 k) := fun w' h => (h.cell (p := ⟨_, _, none⟩) lb2).trans c2X
        have x3 : ∀ w', Below wr.heap.size wr w' → w'.cell? ⟨w1.heap.size, 3, none⟩ = some (.int .i64 u) := fun w' h => (h.cell (p := ⟨_, _, none⟩) lb2).trans c3X
        have x4 : ∀ w', Below wr.heap.size wr w' → w'.cell? ⟨b, o + j, none⟩ = some (.int .i64 wt) := fun w' h => (h.cell (p := ⟨_, _, none⟩) lb3).trans hcell
        clear c0A f0A c0X f0X c1A f1A c1X f1X c2A f2A c2X f2X c3A f3A c3X f3X hcell
        go_wp2_with fail
        go_region_held3 (fun w' => Below wr.heap.size wr w') (first | exact Below.drew (Below.refl _ _) | assumption | exact bk_alloc (by assumption) | exact bk_set4 (by assumption) (Nat.le_refl _) | exact bk_set4 (by assumption) bw2.size)
          (first
            | (go_at_call 14
               refine (shift_any n s k u wt (wr.alloc (.cells #[.string ⟨#[]⟩, .int .i64 0, .int .i64 0, .int .i64 0] 23)).drew hn).mono ?_
               rw [T.out]; unfold alT
               rintro e w2 ⟨rfl, hb2⟩
               have bw2 : Below wr.heap.size wr w2 := (bk_alloc (Below.refl _ _)).drew.trans (hb2.mono (by simp))
               have nZ : Blk w2 wr.heap.size 23 #[.string ⟨#[]⟩, .int .i64 0, .int .i64 0, .int .i64 0] := (show Blk (wr.alloc (.cells _ 23)).drew wr.heap.size _ _ from Blk.new wr _ _).below hb2 (by simp)
               have d0 := nZ.cell 0
               have d1 := nZ.cell 1
               have d2 := nZ.cell 2
               have d3 := nZ.cell 3
               have q0 := nZ.frozen 0
               have q1 := nZ.frozen 1
               have q2 := nZ.frozen 2
               have q3 := nZ.frozen 3
               simp only [List.getElem?_toArray, List.getElem?_cons_zero, List.getElem?_cons_succ] at d0 d1 d2 d3
               have nZ' := Lib.hid nZ; clear nZ hb2)
            | (go_at_call 14
               refine (shift_any n s k u wt wr.drew hn).mono ?_
               rw [T.out]; unfold alT
               rintro e w2 ⟨rfl, hb2⟩
               have bw2 : Below wr.heap.size wr w2 := (Below.drew (Below.refl _ _)).trans hb2
               clear hb2))
        · have nY : Blk (w2.alloc (.cells #[.string n, .int .i64 s, .int .i64 k, .int .i64 wt] 23)) w2.heap.size 23 #[.string n, .int .i64 s, .int .i64 k, .int .i64 wt] := Blk.new w2 _ _
          have bw3 : Below wr.heap.size wr (w2.alloc (.cells #[.string n, .int .i64 s, .int .i64 k, .int .i64 wt] 23)) := bk_alloc bw2
          have hgg : wr.heap.size ≤ w2.heap.size := bw2.size
          have nA : Blk (w2.alloc (.cells #[.string n, .int .i64 s, .int .i64 k, .int .i64 wt] 23)) w.heap.size 23 #[.string n, .int .i64 s, .int .i64 c, .int .i64 v] := HA.out.below bw3 lb1
          have nX : Blk (w2.alloc (.cells #[.string n, .int .i64 s, .int .i64 k, .int .i64 wt] 23)) w1.heap.size 23 #[.string n, .int .i64 s, .int .i64 k, .int .i64 u] := HX.out.below bw3 lb2
          have hcl := x4 _ bw3
          have bw3' : Below w.heap.size w (w2.alloc (.cells #[.string n, .int .i64 s, .int .i64 k, .int .i64 wt] 23)) := hbw.trans (bw3.mono hbw.size)
          clear x0 x1 x2 x3 x4 HA HX lA lX bw3 bw2
          generalize (w2.alloc (.cells #[.string n, .int .i64 s, .int .i64 k, .int .i64 wt] 23)) = w3 at nY nA nX hcl bw3'
          generalize w2.heap.size = g at nY hgg
          have lA := nA.lt
          have c0A : w3.cell? ⟨w.heap.size, 0, none⟩ = some (.string n) := nA.cell 0
          have f0A := nA.frozen 0
          have c1A : w3.cell? ⟨w.heap.size, 1, none⟩ = some (.int .i64 s) := nA.cell 1
          have f1A := nA.frozen 1
          have c2A : w3.cell? ⟨w.heap.size, 2, none⟩ = some (.int .i64 c) := nA.cell 2
          have f2A := nA.frozen 2
          have c3A : w3.cell? ⟨w.heap.size, 3, none⟩ = some (.int .i64 v) := nA.cell 3
          have f3A := nA.frozen 3
          have HA := Lib.hid nA; clear nA
          have lX := nX.lt
          have c0X : w3.cell? ⟨w1.heap.size, 0, none⟩ = some (.string n) := nX.cell 0
          have f0X := nX.frozen 0
          have c1X : w3.cell? ⟨w1.heap.size, 1, none⟩ = some (.int .i64 s) := nX.cell 1
          have f1X := nX.frozen 1
          have c2X : w3.cell? ⟨w1.heap.size, 2, none⟩ = some (.int .i64 k) := nX.cell 2
          have f2X := nX.frozen 2
          have c3X : w3.cell? ⟨w1.heap.size, 3, none⟩ = some (.int .i64 u) := nX.cell 3
          have f3X := nX.frozen 3
          have HX := Lib.hid nX; clear nX
          have lY := nY.lt
          have c0Y : w3.cell? ⟨g, 0, none⟩ = some (.string n) := nY.cell 0
          have f0Y := nY.frozen 0
          have c1Y : w3.cell? ⟨g, 1, none⟩ = some (.int .i64 s) := nY.cell 1
          have f1Y := nY.frozen 1
          have c2Y : w3.cell? ⟨g, 2, none⟩ = some (.int .i64 k) := nY.cell 2
          have f2Y := nY.frozen 2
          have c3Y : w3.cell? ⟨g, 3, none⟩ = some (.int .i64 wt) := nY.cell 3
          have f3Y := nY.frozen 3
          have HY := Lib.hid nY; clear nY
          have BW3 := Lib.hid bw3'; clear bw3'
          have hw3 : w.heap.size < w3.heap.size ∧ w1.heap.size < w3.heap.size ∧ b < w3.heap.size := by refine ⟨?_, ?_, ?_⟩ <;> omega
          obtain ⟨hw31, hw32, hw33⟩ := hw3
          go_wp2_with fail
          have nA : Blk ((((w3.setCell ⟨w1.heap.size, 0, none⟩ (.string n)).setCell ⟨w1.heap.size, 1, none⟩ (.int .i64 s)).setCell ⟨w1.heap.size, 2, none⟩ (.int .i64 k)).setCell ⟨w1.heap.size, 3, none⟩ (.int .i64 wt)) w.heap.size 23 #[.string n, .int .i64 s, .int .i64 c, .int .i64 v] := bfar4 HA.out (by omega)
          have nX : Blk ((((w3.setCell ⟨w1.heap.size, 0, none⟩ (.string n)).setCell ⟨w1.heap.size, 1, none⟩ (.int .i64 s)).setCell ⟨w1.heap.size, 2, none⟩ (.int .i64 k)).setCell ⟨w1.heap.size, 3, none⟩ (.int .i64 wt)) w1.heap.size 23 #[.string n, .int .i64 s, .int .i64 k, .int .i64 wt] := bset4 HX.out
          have hcl' : ((((w3.setCell ⟨w1.heap.size, 0, none⟩ (.string n)).setCell ⟨w1.heap.size, 1, none⟩ (.int .i64 s)).setCell ⟨w1.heap.size, 2, none⟩ (.int .i64 k)).setCell ⟨w1.heap.size, 3, none⟩ (.int .i64 wt)).cell? ⟨b, o + j, none⟩ = some (.int .i64 wt) := by
            rw [cfar4 (by omega)]; exact hcl
          have bw4 : Below w.heap.size w ((((w3.setCell ⟨w1.heap.size, 0, none⟩ (.string n)).setCell ⟨w1.heap.size, 1, none⟩ (.int .i64 s)).setCell ⟨w1.heap.size, 2, none⟩ (.int .i64 k)).setCell ⟨w1.heap.size, 3, none⟩ (.int .i64 wt)) := bbel4 BW3.out (by omega)
          have hs4 : b < ((((w3.setCell ⟨w1.heap.size, 0, none⟩ (.string n)).setCell ⟨w1.heap.size, 1, none⟩ (.int .i64 s)).setCell ⟨w1.heap.size, 2, none⟩ (.int .i64 k)).setCell ⟨w1.heap.size, 3, none⟩ (.int .i64 wt)).heap.size := by simp only [World.size_setCell]; omega
          clear hcl BW3
          clear HA lA c0A f0A c1A f1A c2A f2A c3A f3A
          clear HX lX c0X f0X c1X f1X c2X f2X c3X f3X
          clear HY lY c0Y f0Y c1Y f1Y c2Y f2Y c3Y f3Y
          generalize ((((w3.setCell ⟨w1.heap.size, 0, none⟩ (.string n)).setCell ⟨w1.heap.size, 1, none⟩ (.int .i64 s)).setCell ⟨w1.heap.size, 2, none⟩ (.int .i64 k)).setCell ⟨w1.heap.size, 3, none⟩ (.int .i64 wt)) = w4 at nA nX hcl' bw4 hs4
          have hcl := hcl'; clear hcl'
          have BW4 := Lib.hid bw4; clear bw4
          have lA := nA.lt
          have c0A : w4.cell? ⟨w.heap.size, 0, none⟩ = some (.string n) := nA.cell 0
          have f0A := nA.frozen 0
          have c1A : w4.cell? ⟨w.heap.size, 1, none⟩ = some (.int .i64 s) := nA.cell 1
          have f1A := nA.frozen 1
          have c2A : w4.cell? ⟨w.heap.size, 2, none⟩ = some (.int .i64 c) := nA.cell 2
          have f2A := nA.frozen 2
          have c3A : w4.cell? ⟨w.heap.size, 3, none⟩ = some (.int .i64 v) := nA.cell 3
          have f3A := nA.frozen 3
          have HA := Lib.hid nA; clear nA
          have lX := nX.lt
          have c0X : w4.cell? ⟨w1.heap.size, 0, none⟩ = some (.string n) := nX.cell 0
          have f0X := nX.frozen 0
          have c1X : w4.cell? ⟨w1.heap.size, 1, none⟩ = some (.int .i64 s) := nX.cell 1
          have f1X := nX.frozen 1
          have c2X : w4.cell? ⟨w1.heap.size, 2, none⟩ = some (.int .i64 k) := nX.cell 2
          have f2X := nX.frozen 2
          have c3X : w4.cell? ⟨w1.heap.size, 3, none⟩ = some (.int .i64 wt) := nX.cell 3
          have f3X := nX.frozen 3
          have HX := Lib.hid nX; clear nX
          go_wp2_with fail
          refine wp_region_ov (w0 := w4) (B := w4.heap.size) (by kernel_rfl) (by kernel_rfl) (Below.refl _ _) ?_
          have z0A := ov_cell (B := w4.heap.size) c0A lA
          have z1A := ov_cell (B := w4.heap.size) c1A lA
          have z2A := ov_cell (B := w4.heap.size) c2A lA
          have z3A := ov_cell (B := w4.heap.size) c3A lA
          have z0X := ov_cell (B := w4.heap.size) c0X lX
          have z1X := ov_cell (B := w4.heap.size) c1X lX
          have z2X := ov_cell (B := w4.heap.size) c2X lX
          have z3X := ov_cell (B := w4.heap.size) c3X lX
          have z9 := ov_cell (B := w4.heap.size) hcl (by omega)
          repeat (go_big_quiet_step ((go_at_call 8; exact Calls.ov_of (Nat.le_refl _) (chk0 n s k wt (Hk.out _ HV.out) _ hn))))
          refine wpQuiet_nil ?_
          intro _ hw'
          obtain ⟨z, rfl⟩ := hw'
          have hb5 := ov_below z
          have nA : Blk (ov z) w.heap.size 23 #[.string n, .int .i64 s, .int .i64 c, .int .i64 v] := HA.out.below hb5 lA
          have nX : Blk (ov z) w1.heap.size 23 #[.string n, .int .i64 s, .int .i64 k, .int .i64 wt] := HX.out.below hb5 lX
          have hbwz : Below w.heap.size w (ov z) := BW4.out.trans (hb5.mono BW4.out.size)
          clear z0A z1A z2A z3A z0X z1X z2X z3X z9 hb5 hcl BW4
          clear HA lA c0A f0A c1A f1A c2A f2A c3A f3A
          clear HX lX c0X f0X c1X f1X c2X f2X c3X f3X
          generalize ov z = w5 at nA nX hbwz
          clear z
          have NA := Lib.hid nA; clear nA
          have NX := Lib.hid nX; clear nX
          go_wp2
          go_roundw
          case rel => exact ⟨j + 1, wt, by omega, by go_num, HV.out, NA.out, NX.out, hbwz⟩
          case measure => simp [intOf]; omega
        · have nY : Blk ((((w2.setCell ⟨wr.heap.size, 0, none⟩ (.string n)).setCell ⟨wr.heap.size, 1, none⟩ (.int .i64 s)).setCell ⟨wr.heap.size, 2, none⟩ (.int .i64 k)).setCell ⟨wr.heap.size, 3, none⟩ (.int .i64 wt)) wr.heap.size 23 #[.string n, .int .i64 s, .int .i64 k, .int .i64 wt] := bset4 nZ'.out
          have bw3 : Below wr.heap.size wr ((((w2.setCell ⟨wr.heap.size, 0, none⟩ (.string n)).setCell ⟨wr.heap.size, 1, none⟩ (.int .i64 s)).setCell ⟨wr.heap.size, 2, none⟩ (.int .i64 k)).setCell ⟨wr.heap.size, 3, none⟩ (.int .i64 wt)) := bk_set4 bw2 (Nat.le_refl _)
          clear nZ' d0 d1 d2 d3 q0 q1 q2 q3
          have hgg : wr.heap.size ≤ wr.heap.size := Nat.le_refl _
          have nA : Blk ((((w2.setCell ⟨wr.heap.size, 0, none⟩ (.string n)).setCell ⟨wr.heap.size, 1, none⟩ (.int .i64 s)).setCell ⟨wr.heap.size, 2, none⟩ (.int .i64 k)).setCell ⟨wr.heap.size, 3, none⟩ (.int .i64 wt)) w.heap.size 23 #[.string n, .int .i64 s, .int .i64 c, .int .i64 v] := HA.out.below bw3 lb1
          have nX : Blk ((((w2.setCell ⟨wr.heap.size, 0, none⟩ (.string n)).setCell ⟨wr.heap.size, 1, none⟩ (.int .i64 s)).setCell ⟨wr.heap.size, 2, none⟩ (.int .i64 k)).setCell ⟨wr.heap.size, 3, none⟩ (.int .i64 wt)) w1.heap.size 23 #[.string n, .int .i64 s, .int .i64 k, .int .i64 u] := HX.out.below bw3 lb2
          have hcl := x4 _ bw3
          have bw3' : Below w.heap.size w ((((w2.setCell ⟨wr.heap.size, 0, none⟩ (.string n)).setCell ⟨wr.heap.size, 1, none⟩ (.int .i64 s)).setCell ⟨wr.heap.size, 2, none⟩ (.int .i64 k)).setCell ⟨wr.heap.size, 3, none⟩ (.int .i64 wt)) := hbw.trans (bw3.mono hbw.size)
          clear x0 x1 x2 x3 x4 HA HX lA lX bw3 bw2
          generalize ((((w2.setCell ⟨wr.heap.size, 0, none⟩ (.string n)).setCell ⟨wr.heap.size, 1, none⟩ (.int .i64 s)).setCell ⟨wr.heap.size, 2, none⟩ (.int .i64 k)).setCell ⟨wr.heap.size, 3, none⟩ (.int .i64 wt)) = w3 at nY nA nX hcl bw3'
          have lA := nA.lt
          have c0A : w3.cell? ⟨w.heap.size, 0, none⟩ = some (.string n) := nA.cell 0
          have f0A := nA.frozen 0
          have c1A : w3.cell? ⟨w.heap.size, 1, none⟩ = some (.int .i64 s) := nA.cell 1
          have f1A := nA.frozen 1
          have c2A : w3.cell? ⟨w.heap.size, 2, none⟩ = some (.int .i64 c) := nA.cell 2
          have f2A := nA.frozen 2
          have c3A : w3.cell? ⟨w.heap.size, 3, none⟩ = some (.int .i64 v) := nA.cell 3
          have f3A := nA.frozen 3
          have HA := Lib.hid nA; clear nA
          have lX := nX.lt
          have c0X : w3.cell? ⟨w1.heap.size, 0, none⟩ = some (.string n) := nX.cell 0
          have f0X := nX.frozen 0
          have c1X : w3.cell? ⟨w1.heap.size, 1, none⟩ = some (.int .i64 s) := nX.cell 1
          have f1X := nX.frozen 1
          have c2X : w3.cell? ⟨w1.heap.size, 2, none⟩ = some (.int .i64 k) := nX.cell 2
          have f2X := nX.frozen 2
          have c3X : w3.cell? ⟨w1.heap.size, 3, none⟩ = some (.int .i64 u) := nX.cell 3
          have f3X := nX.frozen 3
          have HX := Lib.hid nX; clear nX
          have lY := nY.lt
          have c0Y : w3.cell? ⟨wr.heap.size, 0, none⟩ = some (.string n) := nY.cell 0
          have f0Y := nY.frozen 0
          have c1Y : w3.cell? ⟨wr.heap.size, 1, none⟩ = some (.int .i64 s) := nY.cell 1
          have f1Y := nY.frozen 1
          have c2Y : w3.cell? ⟨wr.heap.size, 2, none⟩ = some (.int .i64 k) := nY.cell 2
          have f2Y := nY.frozen 2
          have c3Y : w3.cell? ⟨wr.heap.size, 3, none⟩ = some (.int .i64 wt) := nY.cell 3
          have f3Y := nY.frozen 3
          have HY := Lib.hid nY; clear nY
          have BW3 := Lib.hid bw3'; clear bw3'
          have hw3 : w.heap.size < w3.heap.size ∧ w1.heap.size < w3.heap.size ∧ b < w3.heap.size := by refine ⟨?_, ?_, ?_⟩ <;> omega
          obtain ⟨hw31, hw32, hw33⟩ := hw3
          go_wp2_with fail
          have nA : Blk ((((w3.setCell ⟨w1.heap.size, 0, none⟩ (.string n)).setCell ⟨w1.heap.size, 1, none⟩ (.int .i64 s)).setCell ⟨w1.heap.size, 2, none⟩ (.int .i64 k)).setCell ⟨w1.heap.size, 3, none⟩ (.int .i64 wt)) w.heap.size 23 #[.string n, .int .i64 s, .int .i64 c, .int .i64 v] := bfar4 HA.out (by omega)
          have nX : Blk ((((w3.setCell ⟨w1.heap.size, 0, none⟩ (.string n)).setCell ⟨w1.heap.size, 1, none⟩ (.int .i64 s)).setCell ⟨w1.heap.size, 2, none⟩ (.int .i64 k)).setCell ⟨w1.heap.size, 3, none⟩ (.int .i64 wt)) w1.heap.size 23 #[.string n, .int .i64 s, .int .i64 k, .int .i64 wt] := bset4 HX.out
          have hcl' : ((((w3.setCell ⟨w1.heap.size, 0, none⟩ (.string n)).setCell ⟨w1.heap.size, 1, none⟩ (.int .i64 s)).setCell ⟨w1.heap.size, 2, none⟩ (.int .i64 k)).setCell ⟨w1.heap.size, 3, none⟩ (.int .i64 wt)).cell? ⟨b, o + j, none⟩ = some (.int .i64 wt) := by
            rw [cfar4 (by omega)]; exact hcl
          have bw4 : Below w.heap.size w ((((w3.setCell ⟨w1.heap.size, 0, none⟩ (.string n)).setCell ⟨w1.heap.size, 1, none⟩ (.int .i64 s)).setCell ⟨w1.heap.size, 2, none⟩ (.int .i64 k)).setCell ⟨w1.heap.size, 3, none⟩ (.int .i64 wt)) := bbel4 BW3.out (by omega)
          have hs4 : b < ((((w3.setCell ⟨w1.heap.size, 0, none⟩ (.string n)).setCell ⟨w1.heap.size, 1, none⟩ (.int .i64 s)).setCell ⟨w1.heap.size, 2, none⟩ (.int .i64 k)).setCell ⟨w1.heap.size, 3, none⟩ (.int .i64 wt)).heap.size := by simp only [World.size_setCell]; omega
          clear hcl BW3
          clear HA lA c0A f0A c1A f1A c2A f2A c3A f3A
          clear HX lX c0X f0X c1X f1X c2X f2X c3X f3X
          clear HY lY c0Y f0Y c1Y f1Y c2Y f2Y c3Y f3Y
          generalize ((((w3.setCell ⟨w1.heap.size, 0, none⟩ (.string n)).setCell ⟨w1.heap.size, 1, none⟩ (.int .i64 s)).setCell ⟨w1.heap.size, 2, none⟩ (.int .i64 k)).setCell ⟨w1.heap.size, 3, none⟩ (.int .i64 wt)) = w4 at nA nX hcl' bw4 hs4
          have hcl := hcl'; clear hcl'
          have BW4 := Lib.hid bw4; clear bw4
          have lA := nA.lt
          have c0A : w4.cell? ⟨w.heap.size, 0, none⟩ = some (.string n) := nA.cell 0
          have f0A := nA.frozen 0
          have c1A : w4.cell? ⟨w.heap.size, 1, none⟩ = some (.int .i64 s) := nA.cell 1
          have f1A := nA.frozen 1
          have c2A : w4.cell? ⟨w.heap.size, 2, none⟩ = some (.int .i64 c) := nA.cell 2
          have f2A := nA.frozen 2
          have c3A : w4.cell? ⟨w.heap.size, 3, none⟩ = some (.int .i64 v) := nA.cell 3
          have f3A := nA.frozen 3
          have HA := Lib.hid nA; clear nA
          have lX := nX.lt
          have c0X : w4.cell? ⟨w1.heap.size, 0, none⟩ = some (.string n) := nX.cell 0
          have f0X := nX.frozen 0
          have c1X : w4.cell? ⟨w1.heap.size, 1, none⟩ = some (.int .i64 s) := nX.cell 1
          have f1X := nX.frozen 1
          have c2X : w4.cell? ⟨w1.heap.size, 2, none⟩ = some (.int .i64 k) := nX.cell 2
          have f2X := nX.frozen 2
          have c3X : w4.cell? ⟨w1.heap.size, 3, none⟩ = some (.int .i64 wt) := nX.cell 3
          have f3X := nX.frozen 3
          have HX := Lib.hid nX; clear nX
          go_wp2_with fail
          refine wp_region_ov (w0 := w4) (B := w4.heap.size) (by kernel_rfl) (by kernel_rfl) (Below.refl _ _) ?_
          have z0A := ov_cell (B := w4.heap.size) c0A lA
          have z1A := ov_cell (B := w4.heap.size) c1A lA
          have z2A := ov_cell (B := w4.heap.size) c2A lA
          have z3A := ov_cell (B := w4.heap.size) c3A lA
          have z0X := ov_cell (B := w4.heap.size) c0X lX
          have z1X := ov_cell (B := w4.heap.size) c1X lX
          have z2X := ov_cell (B := w4.heap.size) c2X lX
          have z3X := ov_cell (B := w4.heap.size) c3X lX
          have z9 := ov_cell (B := w4.heap.size) hcl (by omega)
          repeat (go_big_quiet_step ((go_at_call 8; exact Calls.ov_of (Nat.le_refl _) (chk0 n s k wt (Hk.out _ HV.out) _ hn))))
          refine wpQuiet_nil ?_
          intro _ hw'
          obtain ⟨z, rfl⟩ := hw'
          have hb5 := ov_below z
          have nA : Blk (ov z) w.heap.size 23 #[.string n, .int .i64 s, .int .i64 c, .int .i64 v] := HA.out.below hb5 lA
          have nX : Blk (ov z) w1.heap.size 23 #[.string n, .int .i64 s, .int .i64 k, .int .i64 wt] := HX.out.below hb5 lX
          have hbwz : Below w.heap.size w (ov z) := BW4.out.trans (hb5.mono BW4.out.size)
          clear z0A z1A z2A z3A z0X z1X z2X z3X z9 hb5 hcl BW4
          clear HA lA c0A f0A c1A f1A c2A f2A c3A f3A
          clear HX lX c0X f0X c1X f1X c2X f2X c3X f3X
          generalize ov z = w5 at nA nX hbwz
          clear z
          have NA := Lib.hid nA; clear nA
          have NX := Lib.hid nX; clear nX
          go_wp2
          go_roundw
          case rel => exact ⟨j + 1, wt, by omega, by go_num, HV.out, NA.out, NX.out, hbwz⟩
          case measure => simp [intOf]; omega
    · obtain rfl : j = m := by omega
      have G1 : Hid (chF n s k u (canE k) n s 0 0 = (n, s, 0, 0, 0)) := by
        show _ = _
        have h1 := Hk.out u Hu.out
        have h2 : canE k = 0 := by simp [canE, hk0.out]
        rw [chF_ok (by simp [h1]) (by rw [h2]; decide)]
      have G2 : Hid (chF n s k u (canE k) n k 0 0 = (n, k, 0, 0, 0)) := by
        show _ = _
        have h1 := Hk.out u Hu.out
        have h2 : canE k = 0 := by simp [canE, hk0.out]
        rw [chF_ok (by simp [h1]) (by rw [h2]; decide)]
      have lA := nA.lt
      have c0A : wr.cell? ⟨w.heap.size, 0, none⟩ = some (.string n) := nA.cell 0
      have f0A := nA.frozen 0
      have c1A : wr.cell? ⟨w.heap.size, 1, none⟩ = some (.int .i64 s) := nA.cell 1
      have f1A := nA.frozen 1
      have c2A : wr.cell? ⟨w.heap.size, 2, none⟩ = some (.int .i64 c) := nA.cell 2
      have f2A := nA.frozen 2
      have c3A : wr.cell? ⟨w.heap.size, 3, none⟩ = some (.int .i64 v) := nA.cell 3
      have f3A := nA.frozen 3
      have HA := Lib.hid nA; clear nA
      have lX := nX.lt
      have c0X : wr.cell? ⟨w1.heap.size, 0, none⟩ = some (.string n) := nX.cell 0
      have f0X := nX.frozen 0
      have c1X : wr.cell? ⟨w1.heap.size, 1, none⟩ = some (.int .i64 s) := nX.cell 1
      have f1X := nX.frozen 1
      have c2X : wr.cell? ⟨w1.heap.size, 2, none⟩ = some (.int .i64 k) := nX.cell 2
      have f2X := nX.frozen 2
      have c3X : wr.cell? ⟨w1.heap.size, 3, none⟩ = some (.int .i64 u) := nX.cell 3
      have f3X := nX.frozen 3
      have HX := Lib.hid nX; clear nX
      have BW10 := Lib.hid hbw; clear hbw
      go_wp2_with fail
      refine (abort_any n s k u _ hn).mono ?_
      rw [G1.out]; unfold alT
      rintro e w11 ⟨rfl, hb11⟩
      have nA : Blk w11 (w.heap.size) 23 #[.string n, .int .i64 s, .int .i64 c, .int .i64 v] := HA.out.below hb11 lA
      have nX : Blk w11 (w1.heap.size) 23 #[.string n, .int .i64 s, .int .i64 k, .int .i64 u] := HX.out.below hb11 lX
      have zz := BW10.out.size
      have bw11 : Below w.heap.size w w11 := BW10.out.trans (hb11.mono (by omega))
      clear HA lA c0A c1A c2A c3A f0A f1A f2A f3A
      clear HX lX c0X c1X c2X c3X f0X f1X f2X f3X
      have lA := nA.lt
      have c0A : w11.cell? ⟨w.heap.size, 0, none⟩ = some (.string n) := nA.cell 0
      have f0A := nA.frozen 0
      have c1A : w11.cell? ⟨w.heap.size, 1, none⟩ = some (.int .i64 s) := nA.cell 1
      have f1A := nA.frozen 1
      have c2A : w11.cell? ⟨w.heap.size, 2, none⟩ = some (.int .i64 c) := nA.cell 2
      have f2A := nA.frozen 2
      have c3A : w11.cell? ⟨w.heap.size, 3, none⟩ = some (.int .i64 v) := nA.cell 3
      have f3A := nA.frozen 3
      have HA := Lib.hid nA; clear nA
      have lX := nX.lt
      have c0X : w11.cell? ⟨w1.heap.size, 0, none⟩ = some (.string n) := nX.cell 0
      have f0X := nX.frozen 0
      have c1X : w11.cell? ⟨w1.heap.size, 1, none⟩ = some (.int .i64 s) := nX.cell 1
      have f1X := nX.frozen 1
      have c2X : w11.cell? ⟨w1.heap.size, 2, none⟩ = some (.int .i64 k) := nX.cell 2
      have f2X := nX.frozen 2
      have c3X : w11.cell? ⟨w1.heap.size, 3, none⟩ = some (.int .i64 u) := nX.cell 3
      have f3X := nX.frozen 3
      have HX := Lib.hid nX; clear nX
      have BW11 := Lib.hid bw11; clear bw11 hb11 BW10 zz
      go_wp2_with fail
      refine (promote_any n s k u _ hn).mono ?_
      rw [G2.out]; unfold alT
      rintro e w12 ⟨rfl, hb12⟩
      have oAO : w.heap.size < w11.heap.size := by have := lA; omega
      have oXO : w1.heap.size < w11.heap.size := by have := lX; omega
      have nA : Blk w12 (w.heap.size) 23 #[.string n, .int .i64 s, .int .i64 c, .int .i64 v] := (HA.out.alloc _).below hb12 (by simp only [World.size_alloc]; omega)
      have nX : Blk w12 (w1.heap.size) 23 #[.string n, .int .i64 s, .int .i64 k, .int .i64 u] := (HX.out.alloc _).below hb12 (by simp only [World.size_alloc]; omega)
      have nO : Blk w12 (w11.heap.size) 23 #[.string n, .int .i64 s, .int .i64 0, .int .i64 0] := (Blk.new w11 23 #[.string n, .int .i64 s, .int .i64 0, .int .i64 0]).below hb12 (by simp only [World.size_alloc]; omega)
      have zz := BW11.out.size
      have bw12 : Below w.heap.size w w12 := (BW11.out.alloc (by omega) _).trans (hb12.mono (by simp only [World.size_alloc]; omega))
      clear HA lA c0A c1A c2A c3A f0A f1A f2A f3A
      clear HX lX c0X c1X c2X c3X f0X f1X f2X f3X
      have lA := nA.lt
      have c0A : w12.cell? ⟨w.heap.size, 0, none⟩ = some (.string n) := nA.cell 0
      have f0A := nA.frozen 0
      have c1A : w12.cell? ⟨w.heap.size, 1, none⟩ = some (.int .i64 s) := nA.cell 1
      have f1A := nA.frozen 1
      have c2A : w12.cell? ⟨w.heap.size, 2, none⟩ = some (.int .i64 c) := nA.cell 2
      have f2A := nA.frozen 2
      have c3A : w12.cell? ⟨w.heap.size, 3, none⟩ = some (.int .i64 v) := nA.cell 3
      have f3A := nA.frozen 3
      have HA := Lib.hid nA; clear nA
      have lX := nX.lt
      have c0X : w12.cell? ⟨w1.heap.size, 0, none⟩ = some (.string n) := nX.cell 0
      have f0X := nX.frozen 0
      have c1X : w12.cell? ⟨w1.heap.size, 1, none⟩ = some (.int .i64 s) := nX.cell 1
      have f1X := nX.frozen 1
      have c2X : w12.cell? ⟨w1.heap.size, 2, none⟩ = some (.int .i64 k) := nX.cell 2
      have f2X := nX.frozen 2
      have c3X : w12.cell? ⟨w1.heap.size, 3, none⟩ = some (.int .i64 u) := nX.cell 3
      have f3X := nX.frozen 3
      have HX := Lib.hid nX; clear nX
      have lO := nO.lt
      have c0O : w12.cell? ⟨w11.heap.size, 0, none⟩ = some (.string n) := nO.cell 0
      have f0O := nO.frozen 0
      have c1O : w12.cell? ⟨w11.heap.size, 1, none⟩ = some (.int .i64 s) := nO.cell 1
      have f1O := nO.frozen 1
      have c2O : w12.cell? ⟨w11.heap.size, 2, none⟩ = some (.int .i64 0) := nO.cell 2
      have f2O := nO.frozen 2
      have c3O : w12.cell? ⟨w11.heap.size, 3, none⟩ = some (.int .i64 0) := nO.cell 3
      have f3O := nO.frozen 3
      have HO := Lib.hid nO; clear nO
      have BW12 := Lib.hid bw12; clear bw12 hb12 BW11 zz
      go_wp2_with fail
      refine (point_any n s c v s _ hn).mono ?_
      rw [G3.out]; unfold alT
      rintro e w13 ⟨rfl, hb13⟩
      have oAN : w.heap.size < w12.heap.size := by have := lA; omega
      have oXN : w1.heap.size < w12.heap.size := by have := lX; omega
      have oON : w11.heap.size < w12.heap.size := by have := lO; omega
      have nA : Blk w13 (w.heap.size) 23 #[.string n, .int .i64 s, .int .i64 c, .int .i64 v] := (HA.out.alloc _).below hb13 (by simp only [World.size_alloc]; omega)
      have nX : Blk w13 (w1.heap.size) 23 #[.string n, .int .i64 s, .int .i64 k, .int .i64 u] := (HX.out.alloc _).below hb13 (by simp only [World.size_alloc]; omega)
      have nO : Blk w13 (w11.heap.size) 23 #[.string n, .int .i64 s, .int .i64 0, .int .i64 0] := (HO.out.alloc _).below hb13 (by simp only [World.size_alloc]; omega)
      have nN : Blk w13 (w12.heap.size) 23 #[.string n, .int .i64 k, .int .i64 0, .int .i64 0] := (Blk.new w12 23 #[.string n, .int .i64 k, .int .i64 0, .int .i64 0]).below hb13 (by simp only [World.size_alloc]; omega)
      have zz := BW12.out.size
      have bw13 : Below w.heap.size w w13 := (BW12.out.alloc (by omega) _).trans (hb13.mono (by simp only [World.size_alloc]; omega))
      clear HA lA c0A c1A c2A c3A f0A f1A f2A f3A
      clear HX lX c0X c1X c2X c3X f0X f1X f2X f3X
      clear HO lO c0O c1O c2O c3O f0O f1O f2O f3O
      have lA := nA.lt
      have c0A : w13.cell? ⟨w.heap.size, 0, none⟩ = some (.string n) := nA.cell 0
      have f0A := nA.frozen 0
      have c1A : w13.cell? ⟨w.heap.size, 1, none⟩ = some (.int .i64 s) := nA.cell 1
      have f1A := nA.frozen 1
      have c2A : w13.cell? ⟨w.heap.size, 2, none⟩ = some (.int .i64 c) := nA.cell 2
      have f2A := nA.frozen 2
      have c3A : w13.cell? ⟨w.heap.size, 3, none⟩ = some (.int .i64 v) := nA.cell 3
      have f3A := nA.frozen 3
      have HA := Lib.hid nA; clear nA
      have lX := nX.lt
      have c0X : w13.cell? ⟨w1.heap.size, 0, none⟩ = some (.string n) := nX.cell 0
      have f0X := nX.frozen 0
      have c1X : w13.cell? ⟨w1.heap.size, 1, none⟩ = some (.int .i64 s) := nX.cell 1
      have f1X := nX.frozen 1
      have c2X : w13.cell? ⟨w1.heap.size, 2, none⟩ = some (.int .i64 k) := nX.cell 2
      have f2X := nX.frozen 2
      have c3X : w13.cell? ⟨w1.heap.size, 3, none⟩ = some (.int .i64 u) := nX.cell 3
      have f3X := nX.frozen 3
      have HX := Lib.hid nX; clear nX
      have lO := nO.lt
      have c0O : w13.cell? ⟨w11.heap.size, 0, none⟩ = some (.string n) := nO.cell 0
      have f0O := nO.frozen 0
      have c1O : w13.cell? ⟨w11.heap.size, 1, none⟩ = some (.int .i64 s) := nO.cell 1
      have f1O := nO.frozen 1
      have c2O : w13.cell? ⟨w11.heap.size, 2, none⟩ = some (.int .i64 0) := nO.cell 2
      have f2O := nO.frozen 2
      have c3O : w13.cell? ⟨w11.heap.size, 3, none⟩ = some (.int .i64 0) := nO.cell 3
      have f3O := nO.frozen 3
      have HO := Lib.hid nO; clear nO
      have lN := nN.lt
      have c0N : w13.cell? ⟨w12.heap.size, 0, none⟩ = some (.string n) := nN.cell 0
      have f0N := nN.frozen 0
      have c1N : w13.cell? ⟨w12.heap.size, 1, none⟩ = some (.int .i64 k) := nN.cell 1
      have f1N := nN.frozen 1
      have c2N : w13.cell? ⟨w12.heap.size, 2, none⟩ = some (.int .i64 0) := nN.cell 2
      have f2N := nN.frozen 2
      have c3N : w13.cell? ⟨w12.heap.size, 3, none⟩ = some (.int .i64 0) := nN.cell 3
      have f3N := nN.frozen 3
      have HN := Lib.hid nN; clear nN
      have BW13 := Lib.hid bw13; clear bw13 hb13 BW12 zz
      go_wp2_with fail
      refine (point_any n s c v k _ hn).mono ?_
      rw [G4.out]; unfold alT
      rintro e w14 ⟨rfl, hb14⟩
      have oAB : w.heap.size < w13.heap.size := by have := lA; omega
      have oXB : w1.heap.size < w13.heap.size := by have := lX; omega
      have oOB : w11.heap.size < w13.heap.size := by have := lO; omega
      have oNB : w12.heap.size < w13.heap.size := by have := lN; omega
      have nA : Blk w14 (w.heap.size) 23 #[.string n, .int .i64 s, .int .i64 c, .int .i64 v] := (HA.out.alloc _).below hb14 (by simp only [World.size_alloc]; omega)
      have nX : Blk w14 (w1.heap.size) 23 #[.string n, .int .i64 s, .int .i64 k, .int .i64 u] := (HX.out.alloc _).below hb14 (by simp only [World.size_alloc]; omega)
      have nO : Blk w14 (w11.heap.size) 23 #[.string n, .int .i64 s, .int .i64 0, .int .i64 0] := (HO.out.alloc _).below hb14 (by simp only [World.size_alloc]; omega)
      have nN : Blk w14 (w12.heap.size) 23 #[.string n, .int .i64 k, .int .i64 0, .int .i64 0] := (HN.out.alloc _).below hb14 (by simp only [World.size_alloc]; omega)
      have nB : Blk w14 (w13.heap.size) 23 #[.string n, .int .i64 s, .int .i64 0, .int .i64 0] := (Blk.new w13 23 #[.string n, .int .i64 s, .int .i64 0, .int .i64 0]).below hb14 (by simp only [World.size_alloc]; omega)
      have zz := BW13.out.size
      have bw14 : Below w.heap.size w w14 := (BW13.out.alloc (by omega) _).trans (hb14.mono (by simp only [World.size_alloc]; omega))
      clear HA lA c0A c1A c2A c3A f0A f1A f2A f3A
      clear HX lX c0X c1X c2X c3X f0X f1X f2X f3X
      clear HO lO c0O c1O c2O c3O f0O f1O f2O f3O
      clear HN lN c0N c1N c2N c3N f0N f1N f2N f3N
      have lA := nA.lt
      have c0A : w14.cell? ⟨w.heap.size, 0, none⟩ = some (.string n) := nA.cell 0
      have f0A := nA.frozen 0
      have c1A : w14.cell? ⟨w.heap.size, 1, none⟩ = some (.int .i64 s) := nA.cell 1
      have f1A := nA.frozen 1
      have c2A : w14.cell? ⟨w.heap.size, 2, none⟩ = some (.int .i64 c) := nA.cell 2
      have f2A := nA.frozen 2
      have c3A : w14.cell? ⟨w.heap.size, 3, none⟩ = some (.int .i64 v) := nA.cell 3
      have f3A := nA.frozen 3
      have HA := Lib.hid nA; clear nA
      have lX := nX.lt
      have c0X : w14.cell? ⟨w1.heap.size, 0, none⟩ = some (.string n) := nX.cell 0
      have f0X := nX.frozen 0
      have c1X : w14.cell? ⟨w1.heap.size, 1, none⟩ = some (.int .i64 s) := nX.cell 1
      have f1X := nX.frozen 1
      have c2X : w14.cell? ⟨w1.heap.size, 2, none⟩ = some (.int .i64 k) := nX.cell 2
      have f2X := nX.frozen 2
      have c3X : w14.cell? ⟨w1.heap.size, 3, none⟩ = some (.int .i64 u) := nX.cell 3
      have f3X := nX.frozen 3
      have HX := Lib.hid nX; clear nX
      have lO := nO.lt
      have c0O : w14.cell? ⟨w11.heap.size, 0, none⟩ = some (.string n) := nO.cell 0
      have f0O := nO.frozen 0
      have c1O : w14.cell? ⟨w11.heap.size, 1, none⟩ = some (.int .i64 s) := nO.cell 1
      have f1O := nO.frozen 1
      have c2O : w14.cell? ⟨w11.heap.size, 2, none⟩ = some (.int .i64 0) := nO.cell 2
      have f2O := nO.frozen 2
      have c3O : w14.cell? ⟨w11.heap.size, 3, none⟩ = some (.int .i64 0) := nO.cell 3
      have f3O := nO.frozen 3
      have HO := Lib.hid nO; clear nO
      have lN := nN.lt
      have c0N : w14.cell? ⟨w12.heap.size, 0, none⟩ = some (.string n) := nN.cell 0
      have f0N := nN.frozen 0
      have c1N : w14.cell? ⟨w12.heap.size, 1, none⟩ = some (.int .i64 k) := nN.cell 1
      have f1N := nN.frozen 1
      have c2N : w14.cell? ⟨w12.heap.size, 2, none⟩ = some (.int .i64 0) := nN.cell 2
      have f2N := nN.frozen 2
      have c3N : w14.cell? ⟨w12.heap.size, 3, none⟩ = some (.int .i64 0) := nN.cell 3
      have f3N := nN.frozen 3
      have HN := Lib.hid nN; clear nN
      have lB := nB.lt
      have c0B : w14.cell? ⟨w13.heap.size, 0, none⟩ = some (.string n) := nB.cell 0
      have f0B := nB.frozen 0
      have c1B : w14.cell? ⟨w13.heap.size, 1, none⟩ = some (.int .i64 s) := nB.cell 1
      have f1B := nB.frozen 1
      have c2B : w14.cell? ⟨w13.heap.size, 2, none⟩ = some (.int .i64 0) := nB.cell 2
      have f2B := nB.frozen 2
      have c3B : w14.cell? ⟨w13.heap.size, 3, none⟩ = some (.int .i64 0) := nB.cell 3
      have f3B := nB.frozen 3
      have HB := Lib.hid nB; clear nB
      have BW14 := Lib.hid bw14; clear bw14 hb14 BW13 zz
      go_wp2_with fail
      refine (awake_any _).mono ?_
      rintro e w15 ⟨rfl, hb15⟩
      have oAP : w.heap.size < w14.heap.size := by have := lA; omega
      have oXP : w1.heap.size < w14.heap.size := by have := lX; omega
      have oOP : w11.heap.size < w14.heap.size := by have := lO; omega
      have oNP : w12.heap.size < w14.heap.size := by have := lN; omega
      have oBP : w13.heap.size < w14.heap.size := by have := lB; omega
      have nA : Blk w15 (w.heap.size) 23 #[.string n, .int .i64 s, .int .i64 c, .int .i64 v] := (HA.out.alloc _).below hb15 (by simp only [World.size_alloc]; omega)
      have nX : Blk w15 (w1.heap.size) 23 #[.string n, .int .i64 s, .int .i64 k, .int .i64 u] := (HX.out.alloc _).below hb15 (by simp only [World.size_alloc]; omega)
      have nO : Blk w15 (w11.heap.size) 23 #[.string n, .int .i64 s, .int .i64 0, .int .i64 0] := (HO.out.alloc _).below hb15 (by simp only [World.size_alloc]; omega)
      have nN : Blk w15 (w12.heap.size) 23 #[.string n, .int .i64 k, .int .i64 0, .int .i64 0] := (HN.out.alloc _).below hb15 (by simp only [World.size_alloc]; omega)
      have nB : Blk w15 (w13.heap.size) 23 #[.string n, .int .i64 s, .int .i64 0, .int .i64 0] := (HB.out.alloc _).below hb15 (by simp only [World.size_alloc]; omega)
      have nP : Blk w15 (w14.heap.size) 23 #[.string n, .int .i64 k, .int .i64 0, .int .i64 0] := (Blk.new w14 23 #[.string n, .int .i64 k, .int .i64 0, .int .i64 0]).below hb15 (by simp only [World.size_alloc]; omega)
      have zz := BW14.out.size
      have bw15 : Below w.heap.size w w15 := (BW14.out.alloc (by omega) _).trans (hb15.mono (by simp only [World.size_alloc]; omega))
      clear HA lA c0A c1A c2A c3A f0A f1A f2A f3A
      clear HX lX c0X c1X c2X c3X f0X f1X f2X f3X
      clear HO lO c0O c1O c2O c3O f0O f1O f2O f3O
      clear HN lN c0N c1N c2N c3N f0N f1N f2N f3N
      clear HB lB c0B c1B c2B c3B f0B f1B f2B f3B
      have lA := nA.lt
      have c0A : w15.cell? ⟨w.heap.size, 0, none⟩ = some (.string n) := nA.cell 0
      have f0A := nA.frozen 0
      have c1A : w15.cell? ⟨w.heap.size, 1, none⟩ = some (.int .i64 s) := nA.cell 1
      have f1A := nA.frozen 1
      have c2A : w15.cell? ⟨w.heap.size, 2, none⟩ = some (.int .i64 c) := nA.cell 2
      have f2A := nA.frozen 2
      have c3A : w15.cell? ⟨w.heap.size, 3, none⟩ = some (.int .i64 v) := nA.cell 3
      have f3A := nA.frozen 3
      have HA := Lib.hid nA; clear nA
      have lX := nX.lt
      have c0X : w15.cell? ⟨w1.heap.size, 0, none⟩ = some (.string n) := nX.cell 0
      have f0X := nX.frozen 0
      have c1X : w15.cell? ⟨w1.heap.size, 1, none⟩ = some (.int .i64 s) := nX.cell 1
      have f1X := nX.frozen 1
      have c2X : w15.cell? ⟨w1.heap.size, 2, none⟩ = some (.int .i64 k) := nX.cell 2
      have f2X := nX.frozen 2
      have c3X : w15.cell? ⟨w1.heap.size, 3, none⟩ = some (.int .i64 u) := nX.cell 3
      have f3X := nX.frozen 3
      have HX := Lib.hid nX; clear nX
      have lO := nO.lt
      have c0O : w15.cell? ⟨w11.heap.size, 0, none⟩ = some (.string n) := nO.cell 0
      have f0O := nO.frozen 0
      have c1O : w15.cell? ⟨w11.heap.size, 1, none⟩ = some (.int .i64 s) := nO.cell 1
      have f1O := nO.frozen 1
      have c2O : w15.cell? ⟨w11.heap.size, 2, none⟩ = some (.int .i64 0) := nO.cell 2
      have f2O := nO.frozen 2
      have c3O : w15.cell? ⟨w11.heap.size, 3, none⟩ = some (.int .i64 0) := nO.cell 3
      have f3O := nO.frozen 3
      have HO := Lib.hid nO; clear nO
      have lN := nN.lt
      have c0N : w15.cell? ⟨w12.heap.size, 0, none⟩ = some (.string n) := nN.cell 0
      have f0N := nN.frozen 0
      have c1N : w15.cell? ⟨w12.heap.size, 1, none⟩ = some (.int .i64 k) := nN.cell 1
      have f1N := nN.frozen 1
      have c2N : w15.cell? ⟨w12.heap.size, 2, none⟩ = some (.int .i64 0) := nN.cell 2
      have f2N := nN.frozen 2
      have c3N : w15.cell? ⟨w12.heap.size, 3, none⟩ = some (.int .i64 0) := nN.cell 3
      have f3N := nN.frozen 3
      have HN := Lib.hid nN; clear nN
      have lB := nB.lt
      have c0B : w15.cell? ⟨w13.heap.size, 0, none⟩ = some (.string n) := nB.cell 0
      have f0B := nB.frozen 0
      have c1B : w15.cell? ⟨w13.heap.size, 1, none⟩ = some (.int .i64 s) := nB.cell 1
      have f1B := nB.frozen 1
      have c2B : w15.cell? ⟨w13.heap.size, 2, none⟩ = some (.int .i64 0) := nB.cell 2
      have f2B := nB.frozen 2
      have c3B : w15.cell? ⟨w13.heap.size, 3, none⟩ = some (.int .i64 0) := nB.cell 3
      have f3B := nB.frozen 3
      have HB := Lib.hid nB; clear nB
      have lP := nP.lt
      have c0P : w15.cell? ⟨w14.heap.size, 0, none⟩ = some (.string n) := nP.cell 0
      have f0P := nP.frozen 0
      have c1P : w15.cell? ⟨w14.heap.size, 1, none⟩ = some (.int .i64 k) := nP.cell 1
      have f1P := nP.frozen 1
      have c2P : w15.cell? ⟨w14.heap.size, 2, none⟩ = some (.int .i64 0) := nP.cell 2
      have f2P := nP.frozen 2
      have c3P : w15.cell? ⟨w14.heap.size, 3, none⟩ = some (.int .i64 0) := nP.cell 3
      have f3P := nP.frozen 3
      have HP := Lib.hid nP; clear nP
      have BW15 := Lib.hid bw15; clear bw15 hb15 BW14 zz
      go_wp2
      go_ret
      exact ⟨rfl, BW15.out⟩

end Go.Proofs.Ytffecbepmlaekaa
