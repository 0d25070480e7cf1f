/-
  The walk of the law AliasMoves: it returns true, and what was there before is as it was.
-/
import Derived.Test.YtffecbepmlaekaaAwake17
import Derived.Deep.RegionHeld3
import Derived.Deep.DeepMust
namespace Go.Proofs.Ytffecbepmlaekaa
open Go.RowKit

/-- The cells of two aliases. -/
abbrev AS (b1 b2 : Nat) (n1 n2 : ByteArray) (s1 c1 v1 s2 c2 v2 : Int) (w' : World) : Prop :=
  (w'.cell? ⟨b1, 0, none⟩ = some (.string n1) ∧ w'.cell? ⟨b1, 1, none⟩ = some (.int .i64 s1) ∧ w'.cell? ⟨b1, 2, none⟩ = some (.int .i64 c1) ∧ w'.cell? ⟨b1, 3, none⟩ = some (.int .i64 v1)) ∧
  (w'.cell? ⟨b2, 0, none⟩ = some (.string n2) ∧ w'.cell? ⟨b2, 1, none⟩ = some (.int .i64 s2) ∧ w'.cell? ⟨b2, 2, none⟩ = some (.int .i64 c2) ∧ w'.cell? ⟨b2, 3, none⟩ = some (.int .i64 v2))
theorem AS.mk {b1 b2 : Nat} {n1 n2 : ByteArray} {s1 c1 v1 s2 c2 v2 : Int} {w' : World} (h1 : Blk w' b1 23 #[.string n1, .int .i64 s1, .int .i64 c1, .int .i64 v1]) (h2 : Blk w' b2 23 #[.string n2, .int .i64 s2, .int .i64 c2, .int .i64 v2]) :
    AS b1 b2 n1 n2 s1 c1 v1 s2 c2 v2 w' :=
  ⟨⟨h1.cell 0, h1.cell 1, h1.cell 2, h1.cell 3⟩, ⟨h2.cell 0, h2.cell 1, h2.cell 2, h2.cell 3⟩⟩
theorem AS.keep {b1 b2 : Nat} {n1 n2 : ByteArray} {s1 c1 v1 s2 c2 v2 : Int} {w w' : World} {B : Nat} (h : AS b1 b2 n1 n2 s1 c1 v1 s2 c2 v2 w) (hb : Below B w w') (h1 : b1 < B) (h2 : b2 < B) : AS b1 b2 n1 n2 s1 c1 v1 s2 c2 v2 w' :=
  ⟨⟨(hb.cell (p := ⟨b1, 0, none⟩) h1).trans h.1.1, (hb.cell (p := ⟨b1, 1, none⟩) h1).trans h.1.2.1, (hb.cell (p := ⟨b1, 2, none⟩) h1).trans h.1.2.2.1, (hb.cell (p := ⟨b1, 3, none⟩) h1).trans h.1.2.2.2⟩,
   ⟨(hb.cell (p := ⟨b2, 0, none⟩) h2).trans h.2.1, (hb.cell (p := ⟨b2, 1, none⟩) h2).trans h.2.2.1, (hb.cell (p := ⟨b2, 2, none⟩) h2).trans h.2.2.2.1, (hb.cell (p := ⟨b2, 3, none⟩) h2).trans h.2.2.2.2⟩⟩

theorem dec_self (xs : List ByteArray) : decide (xs = xs) = true := by simp

theorem Rd.drew {w : World} {B size n : Nat} {A : Option Addr} {xs : List Value} (h : Rd w B size A n xs) : Rd w.drew B size A n xs := ⟨h.len, h.here⟩

set_option maxHeartbeats 4000000 in
theorem moves_any (n1 n2 : ByteArray) (s1 c1 v1 s2 c2 v2 : Int) (A : Option Addr) (n cap : Nat) (ids : List ByteArray) (w : World) (hn1 : n1.size ≤ maxLen) (hn2 : n2.size ≤ maxLen)
    (hids : ∀ s ∈ ids, s.size ≤ maxLen) (hr : Rd w w.heap.size 1 A n (ids.map Value.string)) (hm : n ≤ maxLen) :
    Calls Try.prog 5 #[.agg #[.string n1, .int .i64 s1, .int .i64 c1, .int .i64 v1], .agg #[.string n2, .int .i64 s2, .int .i64 c2, .int .i64 v2], .slice A n cap] w fun e w' => e = .returned (.bool true) ∧ Below w.heap.size w w' := by
  unfold maxLen at hm
  by_cases hn : 500 < n
  · have hgt : decide ((500 : Int) < (n : Int)) = true := by simp; omega
    go_enter Try.func5, Try.ntmps5
    go_wp2_with fail
    refine wp_region_ov (w0 := w) (B := w.heap.size) (by kernel_rfl) (by kernel_rfl) (((Below.refl _ _).alloc (Nat.le_refl _) _).alloc (by simp) _) ?_
    repeat (go_big_quiet_step ((go_at_call 20; exact Calls.ov_of (Nat.le_refl _) (awake_any _))))
    refine wpQuiet_nil ?_
    intro _ hw'
    obtain ⟨z, rfl⟩ := hw'
    have hb1 := ov_below z
    go_wp2
    go_ret
    exact ⟨rfl, hb1⟩
  · have hn' : n ≤ 500 := by omega
    have hgt : decide ((500 : Int) < (n : Int)) = false := by simp; omega
    clear hn
    have hb1 : Blk (((w.alloc (.cells #[.string n1, .int .i64 s1, .int .i64 c1, .int .i64 v1] 23)).alloc (.cells #[.string n2, .int .i64 s2, .int .i64 c2, .int .i64 v2] 23))) w.heap.size 23 #[.string n1, .int .i64 s1, .int .i64 c1, .int .i64 v1] := (Blk.new w _ _).alloc _
    have hb2 : Blk (((w.alloc (.cells #[.string n1, .int .i64 s1, .int .i64 c1, .int .i64 v1] 23)).alloc (.cells #[.string n2, .int .i64 s2, .int .i64 c2, .int .i64 v2] 23))) (w.heap.size + 1) 23 #[.string n2, .int .i64 s2, .int .i64 c2, .int .i64 v2] := by simpa using Blk.new (w.alloc _) _ _
    have s0 := AS.mk hb1 hb2
    have hbw : Below w.heap.size w ((w.alloc (.cells #[.string n1, .int .i64 s1, .int .i64 c1, .int .i64 v1] 23)).alloc (.cells #[.string n2, .int .i64 s2, .int .i64 c2, .int .i64 v2] 23)) := ((Below.refl _ _).alloc (Nat.le_refl _) _).alloc (by simp) _
    have hsz : ((w.alloc (.cells #[.string n1, .int .i64 s1, .int .i64 c1, .int .i64 v1] 23)).alloc (.cells #[.string n2, .int .i64 s2, .int .i64 c2, .int .i64 v2] 23)).heap.size = w.heap.size + 2 := by simp
    go_enter Try.func5, Try.ntmps5
    go_wp2_with fail
    clear hb1 hb2
    revert s0 hbw hsz
    generalize ((w.alloc (.cells #[.string n1, .int .i64 s1, .int .i64 c1, .int .i64 v1] 23)).alloc (.cells #[.string n2, .int .i64 s2, .int .i64 c2, .int .i64 v2] 23)) = w0
    intro s0 hbw hsz
    have Hr := Lib.hid (hr.below hbw); clear hr
    have Hids := Lib.hid hids; clear hids
    have Hsz := Lib.hid hsz
    have hge : w.heap.size + 2 ≤ w0.heap.size := by omega
    clear hsz
    have Hbw := Lib.hid hbw; clear hbw
    have hle2 : (movedL (n1, s1, c1, v1) (n2, s2, c2, v2) ids).length ≤ maxLen := by
      have h1 := List.length_filter_le (mvB (n1, s1, c1, v1) (n2, s2, c2, v2)) ids
      have h2 := Hr.out.len
      simp at h2
      unfold movedL maxLen; omega
    have Hle := Lib.hid hle2; clear hle2
    go_region_held3 (AS w.heap.size (w.heap.size + 1) n1 n2 s1 c1 v1 s2 c2 v2) (first | exact s0 | exact q1 | exact q2 | exact q3 | exact q4)
      (first
        | (go_at_call 24
           go_must (refine (moved_any n1 n2 s1 c1 v1 s2 c2 v2 A n cap ids w0.drew hn1 hn2 Hids.out (Hr.out.more (Nat.le_trans (Nat.le_add_right _ 2) hge)).drew hn').mono ?_)
           rintro e w1 ⟨x1, rfl, hown1, hb1⟩
           obtain ⟨A1, cap1, rfl⟩ := own_parts hown1
           go_must (have q1 := AS.keep (w := w0.drew) s0 hb1 (Nat.lt_of_lt_of_le (Nat.lt_add_of_pos_right (by decide)) hge) (Nat.lt_of_lt_of_le (Nat.lt_succ_self _) hge))
           have Hown1 := Lib.hid hown1; clear hown1
           have Hb1 := Lib.hid hb1; clear hb1)
        | (go_at_call 25
           go_must (refine (rmoved_any n1 n2 s1 c1 v1 s2 c2 v2 A n cap ids w1 hn1 hn2 Hids.out (((Hr.out.more (Nat.le_trans (Nat.le_add_right _ 2) hge)).drew.below Hb1.out).more Hb1.out.size) hn').mono ?_)
           rintro e w2 ⟨x2, rfl, hown2, hb2⟩
           obtain ⟨A2, cap2, rfl⟩ := own_parts hown2
           have q2 := AS.keep q1 hb2 (Nat.lt_of_lt_of_le (Nat.lt_add_of_pos_right (by decide)) (Nat.le_trans hge Hb1.out.size)) (Nat.lt_of_lt_of_le (Nat.lt_succ_self _) (Nat.le_trans hge Hb1.out.size))
           have Hown2 := Lib.hid hown2; clear hown2
           have Hb2 := Lib.hid hb2; clear hb2)
        | (go_at_call 23
           go_must (refine (same_any A1 A2 _ _ cap1 cap2 _ _ w2 ((Rd.of_own Hown1.out).below Hb2.out |>.more Hb2.out.size) (Rd.of_own Hown2.out) Hle.out).mono ?_)
           go_must (rintro e w3 ⟨rfl, hb3⟩)
           go_must (rw [dec_self])
           go_must (have q3 := AS.keep q2 hb3 (Nat.lt_of_lt_of_le (Nat.lt_add_of_pos_right (by decide)) (Nat.le_trans hge (Nat.le_trans Hb1.out.size Hb2.out.size))) (Nat.lt_of_lt_of_le (Nat.lt_succ_self _) (Nat.le_trans hge (Nat.le_trans Hb1.out.size Hb2.out.size))))
           have Hb3 := Lib.hid hb3; clear hb3)
        | (go_at_call 20
           refine (awake_any _).mono ?_
           rintro e w4 ⟨rfl, hb4⟩
           have q4 := AS.keep q3 hb4 (Nat.lt_of_lt_of_le (Nat.lt_add_of_pos_right (by decide)) (Nat.le_trans hge (Nat.le_trans Hb1.out.size (Nat.le_trans Hb2.out.size Hb3.out.size)))) (Nat.lt_of_lt_of_le (Nat.lt_succ_self _) (Nat.le_trans hge (Nat.le_trans Hb1.out.size (Nat.le_trans Hb2.out.size Hb3.out.size))))
           have Hb4 := Lib.hid hb4; clear hb4))
    all_goals go_wp2
    go_ret
    have c1 : Below w.heap.size w w1 := Hbw.out.trans ((Below.drew (Below.refl _ _)).trans (Hb1.out.mono (by simp; omega)))
    have c2 := c1.trans (Hb2.out.mono c1.size)
    have c3 := c2.trans (Hb3.out.mono c2.size)
    exact ⟨rfl, c3.trans (Hb4.out.mono c3.size)⟩

end Go.Proofs.Ytffecbepmlaekaa
