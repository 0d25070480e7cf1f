/-
  Contracts of alias.change with each closure, and of Point, Begin, Shift, Promote and Abort of the package alias.
-/
import Derived.Test.YtejjemeaponbaaaAlias2
namespace Go.Proofs.Ytejjemeaponbaaa
open Go.RowKit

/-- What a change returns: the error of Check, that of the change, or the alias. -/
def chF (n : ByteArray) (s c v E : Int) (n' : ByteArray) (s' c' v' : Int) : ByteArray × Int × Int × Int × Int :=
  if chk n s c v ≠ 0 then (ByteArray.empty, 0, 0, 0, chk n s c v) else if E ≠ 0 then (ByteArray.empty, 0, 0, 0, E) else (n', s', c', v', 0)
def alT (x : ByteArray × Int × Int × Int × Int) : Value := .tuple #[.agg #[.string x.1, .int .i64 x.2.1, .int .i64 x.2.2.1, .int .i64 x.2.2.2.1], .int .i64 x.2.2.2.2]
theorem chF_chk {n : ByteArray} {s c v E : Int} {n' : ByteArray} {s' c' v' : Int} (h : (chk n s c v != 0) = true) : chF n s c v E n' s' c' v' = (ByteArray.empty, 0, 0, 0, chk n s c v) := by
  unfold chF; rw [if_pos (by simpa using h)]
theorem chF_err {n : ByteArray} {s c v E : Int} {n' : ByteArray} {s' c' v' : Int} (h : (chk n s c v != 0) = false) (h2 : (E != 0) = true) : chF n s c v E n' s' c' v' = (ByteArray.empty, 0, 0, 0, E) := by
  unfold chF; rw [if_neg (by simpa using h), if_pos (by simpa using h2)]
theorem chF_ok {n : ByteArray} {s c v E : Int} {n' : ByteArray} {s' c' v' : Int} (h : (chk n s c v != 0) = false) (h2 : (E != 0) = false) : chF n s c v E n' s' c' v' = (n', s', c', v', 0) := by
  unfold chF; rw [if_neg (by simpa using h), if_neg (by simpa using h2)]

theorem empty_str : (⟨#[]⟩ : ByteArray) = ByteArray.empty := rfl

set_option maxHeartbeats 1000000 in
theorem chBegin_any (n : ByteArray) (s c v k : Int) (q : Nat) (w : World) (hn : n.size ≤ maxLen) (hq : w.cell? ⟨q, 0, none⟩ = some (.int .i64 k)) (hql : q < w.heap.size) :
    Calls Try.prog 40 #[.agg #[.string n, .int .i64 s, .int .i64 c, .int .i64 v], .func (.func 41) #[] #[.pointer (some ⟨q, 0, none⟩)]] w fun e w' =>
      e = .returned (alT (chF n s c v (beginE s c k) n s k 0)) ∧ Below w.heap.size w w' := by
  cases h1 : (chk n s c v != 0)
  · cases h2 : (beginE s c k != 0)
    · rw [chF_ok h1 h2]; unfold alT
      have he : beginE s c k = 0 := by simpa using h2
      have He := Lib.hid he; clear he
      go_enter Try.func40, Try.ntmps40
      go_wp2_with fail
      refine (check_any n s c v _ hn).mono ?_
      rintro e w1 ⟨rfl, hb⟩
      have hz := hb.size
      have hr1 : Blk w1 (w.heap.size + 1) 23 #[.string ⟨#[]⟩, .int .i64 0, .int .i64 0, .int .i64 0] := by
        have := (Blk.new (w.alloc (.cells #[.string n, .int .i64 s, .int .i64 c, .int .i64 v] 23)) 23 #[.string ⟨#[]⟩, .int .i64 0, .int .i64 0, .int .i64 0]).below hb (by simp)
        simpa using this
      have hbw : Below w.heap.size w w1 := (((Below.refl _ _).alloc (Nat.le_refl _) _).alloc (by simp) _).trans (hb.mono (by simp; omega))
      simp at hz
      have hw1 : Blk w1 w.heap.size 23 #[.string n, .int .i64 s, .int .i64 c, .int .i64 v] := ((Blk.new w _ _).alloc _).below hb (by simp; omega)
      have hq1 : w1.cell? ⟨q, 0, none⟩ = some (.int .i64 k) := by rw [hbw.cell (p := ⟨q, 0, none⟩) hql]; exact hq
      have Hw1 := Lib.hid hw1; clear hw1
      have Hb := Lib.hid hb; clear hb
      have Hr1 := Lib.hid hr1; clear hr1
      go_wp2_with fail
      have hw1 := Hw1.out
      refine (beginC_any _ _ _ _ _ _ _ _ hw1 hq1).mono ?_
      clear hw1
      rintro e w2 ⟨rfl, hb2, hbut⟩
      have hr2 : Blk w2 (w.heap.size + 1) 23 #[.string ⟨#[]⟩, .int .i64 0, .int .i64 0, .int .i64 0] := (hbut.block _ (by omega)).trans Hr1.out
      obtain ⟨d0, d1, d2, d3, g1, g2, g3⟩ := al_cells hr2
      have g0 := hr2.frozen 0
      have hbw2 : Below w.heap.size w w2 := But.below hbw hbut (Nat.le_refl _)
      have Hb2 := Lib.hid hb2; clear hb2
      have hbl := Hb2.out He.out
      obtain ⟨c0, c1, c2, c3, f1, f2, f3⟩ := al_cells hbl
      clear hr2 hbl Hr1 Hw1 Hb Hb2 hbut
      go_wp2
      refine bodyPost_ret (v := .tuple #[.agg #[.string n, .int .i64 s, .int .i64 k, .int .i64 0], .int .i64 0]) (by simp [results, Try.results40, go_sem, empty_str, d0, d1, d2, d3]) rfl ⟨rfl, ?_⟩
      exact (((hbw2.setCell (by simp; try omega) _).setCell (by simp; try omega) _).setCell (by simp; try omega) _).setCell (by simp; try omega) _
    · rw [chF_err h1 h2]; unfold alT
      go_enter Try.func40, Try.ntmps40
      go_wp2_with fail
      refine (check_any n s c v _ hn).mono ?_
      rintro e w1 ⟨rfl, hb⟩
      have hz := hb.size
      have hr1 : Blk w1 (w.heap.size + 1) 23 #[.string ⟨#[]⟩, .int .i64 0, .int .i64 0, .int .i64 0] := by
        have := (Blk.new (w.alloc (.cells #[.string n, .int .i64 s, .int .i64 c, .int .i64 v] 23)) 23 #[.string ⟨#[]⟩, .int .i64 0, .int .i64 0, .int .i64 0]).below hb (by simp)
        simpa using this
      have hbw : Below w.heap.size w w1 := (((Below.refl _ _).alloc (Nat.le_refl _) _).alloc (by simp) _).trans (hb.mono (by simp; omega))
      simp at hz
      have hw1 : Blk w1 w.heap.size 23 #[.string n, .int .i64 s, .int .i64 c, .int .i64 v] := ((Blk.new w _ _).alloc _).below hb (by simp; omega)
      have hq1 : w1.cell? ⟨q, 0, none⟩ = some (.int .i64 k) := by rw [hbw.cell (p := ⟨q, 0, none⟩) hql]; exact hq
      have Hw1 := Lib.hid hw1; clear hw1
      have Hb := Lib.hid hb; clear hb
      have Hr1 := Lib.hid hr1; clear hr1
      go_wp2_with fail
      have hw1 := Hw1.out
      refine (beginC_any _ _ _ _ _ _ _ _ hw1 hq1).mono ?_
      clear hw1
      rintro e w2 ⟨rfl, hb2, hbut⟩
      have hr2 : Blk w2 (w.heap.size + 1) 23 #[.string ⟨#[]⟩, .int .i64 0, .int .i64 0, .int .i64 0] := (hbut.block _ (by omega)).trans Hr1.out
      obtain ⟨d0, d1, d2, d3, g1, g2, g3⟩ := al_cells hr2
      have g0 := hr2.frozen 0
      have hbw2 : Below w.heap.size w w2 := But.below hbw hbut (Nat.le_refl _)
      have Hb2 := Lib.hid hb2; clear hb2
      clear hr2 Hr1 Hw1 Hb Hb2 hbut
      go_wp2
      refine bodyPost_ret (v := .tuple #[.agg #[.string ByteArray.empty, .int .i64 0, .int .i64 0, .int .i64 0], .int .i64 (beginE s c k)]) (by simp [results, Try.results40, go_sem, empty_str, d0, d1, d2, d3]) rfl ⟨rfl, ?_⟩
      exact (((hbw2.setCell (by simp; try omega) _).setCell (by simp; try omega) _).setCell (by simp; try omega) _).setCell (by simp; try omega) _
  · rw [chF_chk h1]; unfold alT
    go_enter Try.func40, Try.ntmps40
    go_wp2_with fail
    refine (check_any n s c v _ hn).mono ?_
    rintro e w1 ⟨rfl, hb⟩
    have hz := hb.size
    have hr1 : Blk w1 (w.heap.size + 1) 23 #[.string ⟨#[]⟩, .int .i64 0, .int .i64 0, .int .i64 0] := by
      have := (Blk.new (w.alloc (.cells #[.string n, .int .i64 s, .int .i64 c, .int .i64 v] 23)) 23 #[.string ⟨#[]⟩, .int .i64 0, .int .i64 0, .int .i64 0]).below hb (by simp)
      simpa using this
    have hbw : Below w.heap.size w w1 := (((Below.refl _ _).alloc (Nat.le_refl _) _).alloc (by simp) _).trans (hb.mono (by simp; omega))
    simp at hz
    obtain ⟨d0, d1, d2, d3, g1, g2, g3⟩ := al_cells hr1
    have g0 := hr1.frozen 0
    clear hr1 hb
    go_wp2
    refine bodyPost_ret (v := .tuple #[.agg #[.string ByteArray.empty, .int .i64 0, .int .i64 0, .int .i64 0], .int .i64 (chk n s c v)]) (by simp [results, Try.results40, go_sem, empty_str, d0, d1, d2, d3]) rfl ⟨rfl, ?_⟩
    exact (((hbw.setCell (by simp; try omega) _).setCell (by simp; try omega) _).setCell (by simp; try omega) _).setCell (by simp; try omega) _

set_option maxHeartbeats 1000000 in
theorem begin_any (n : ByteArray) (s c v k : Int) (w : World) (hn : n.size ≤ maxLen) :
    Calls Try.prog 25 #[.agg #[.string n, .int .i64 s, .int .i64 c, .int .i64 v], .int .i64 k] w fun e w' =>
      e = .returned (alT (chF n s c v (beginE s c k) n s k 0)) ∧ Below w.heap.size w w' := by
  generalize hR : chF n s c v (beginE s c k) n s k 0 = r
  obtain ⟨r0, r1, r2, r3, r4⟩ := r
  unfold alT
  have HR := Lib.hid hR; clear hR
  go_enter Try.func25, Try.ntmps25
  go_wp2_with fail
  refine (chBegin_any n s c v k (w.heap.size + 1) _ hn ?_ ?_).mono ?_
  · go_simp
  · simp; try omega
  rw [HR.out]
  rintro e w1 ⟨rfl, hb⟩
  have hz := hb.size
  have hr1 : Blk w1 (w.heap.size + 2) 23 #[.string ⟨#[]⟩, .int .i64 0, .int .i64 0, .int .i64 0] := by
    have := (Blk.new ((w.alloc (.cells #[.string n, .int .i64 s, .int .i64 c, .int .i64 v] 23)).alloc (.cells #[.int .i64 k] 3)) 23 #[.string ⟨#[]⟩, .int .i64 0, .int .i64 0, .int .i64 0]).below hb (by simp)
    simpa using this
  have hbw : Below w.heap.size w w1 := ((((((Below.refl _ _).alloc (Nat.le_refl _) _).alloc (by simp; try omega) _)).alloc (by simp; try omega) _)).trans (hb.mono (by simp; omega))
  simp at hz
  obtain ⟨d0, d1, d2, d3, g1, g2, g3⟩ := al_cells hr1
  have g0 := hr1.frozen 0
  clear hr1 hb
  unfold alT
  go_wp2
  refine bodyPost_ret (v := .tuple #[.agg #[.string r0, .int .i64 r1, .int .i64 r2, .int .i64 r3], .int .i64 r4]) (by simp [results, Try.results25, go_sem, d0, d1, d2, d3]) rfl ⟨rfl, ?_⟩
  exact (((hbw.setCell (by simp; try omega) _).setCell (by simp; try omega) _).setCell (by simp; try omega) _).setCell (by simp; try omega) _

set_option maxHeartbeats 1000000 in
theorem chPromote_any (n : ByteArray) (s c v : Int) (w : World) (hn : n.size ≤ maxLen) :
    Calls Try.prog 40 #[.agg #[.string n, .int .i64 s, .int .i64 c, .int .i64 v], .func (.func 51) #[] #[]] w fun e w' =>
      e = .returned (alT (chF n s c v (canE c) n c 0 0)) ∧ Below w.heap.size w w' := by
  cases h1 : (chk n s c v != 0)
  · cases h2 : (canE c != 0)
    · rw [chF_ok h1 h2]; unfold alT
      have he : canE c = 0 := by simpa using h2
      have He := Lib.hid he; clear he
      go_enter Try.func40, Try.ntmps40
      go_wp2_with fail
      refine (check_any n s c v _ hn).mono ?_
      rintro e w1 ⟨rfl, hb⟩
      have hz := hb.size
      have hr1 : Blk w1 (w.heap.size + 1) 23 #[.string ⟨#[]⟩, .int .i64 0, .int .i64 0, .int .i64 0] := by
        have := (Blk.new (w.alloc (.cells #[.string n, .int .i64 s, .int .i64 c, .int .i64 v] 23)) 23 #[.string ⟨#[]⟩, .int .i64 0, .int .i64 0, .int .i64 0]).below hb (by simp)
        simpa using this
      have hbw : Below w.heap.size w w1 := (((Below.refl _ _).alloc (Nat.le_refl _) _).alloc (by simp) _).trans (hb.mono (by simp; omega))
      simp at hz
      have hw1 : Blk w1 w.heap.size 23 #[.string n, .int .i64 s, .int .i64 c, .int .i64 v] := ((Blk.new w _ _).alloc _).below hb (by simp; omega)
      have Hw1 := Lib.hid hw1; clear hw1
      have Hb := Lib.hid hb; clear hb
      have Hr1 := Lib.hid hr1; clear hr1
      go_wp2_with fail
      have hw1 := Hw1.out
      refine (promoteC_any _ _ _ _ _ _ hw1).mono ?_
      clear hw1
      rintro e w2 ⟨rfl, hb2, hbut⟩
      have hr2 : Blk w2 (w.heap.size + 1) 23 #[.string ⟨#[]⟩, .int .i64 0, .int .i64 0, .int .i64 0] := (hbut.block _ (by omega)).trans Hr1.out
      obtain ⟨d0, d1, d2, d3, g1, g2, g3⟩ := al_cells hr2
      have g0 := hr2.frozen 0
      have hbw2 : Below w.heap.size w w2 := But.below hbw hbut (Nat.le_refl _)
      have Hb2 := Lib.hid hb2; clear hb2
      have hbl := Hb2.out He.out
      obtain ⟨c0, c1, c2, c3, f1, f2, f3⟩ := al_cells hbl
      clear hr2 hbl Hr1 Hw1 Hb Hb2 hbut
      go_wp2
      refine bodyPost_ret (v := .tuple #[.agg #[.string n, .int .i64 c, .int .i64 0, .int .i64 0], .int .i64 0]) (by simp [results, Try.results40, go_sem, empty_str, d0, d1, d2, d3]) rfl ⟨rfl, ?_⟩
      exact (((hbw2.setCell (by simp; try omega) _).setCell (by simp; try omega) _).setCell (by simp; try omega) _).setCell (by simp; try omega) _
    · rw [chF_err h1 h2]; unfold alT
      go_enter Try.func40, Try.ntmps40
      go_wp2_with fail
      refine (check_any n s c v _ hn).mono ?_
      rintro e w1 ⟨rfl, hb⟩
      have hz := hb.size
      have hr1 : Blk w1 (w.heap.size + 1) 23 #[.string ⟨#[]⟩, .int .i64 0, .int .i64 0, .int .i64 0] := by
        have := (Blk.new (w.alloc (.cells #[.string n, .int .i64 s, .int .i64 c, .int .i64 v] 23)) 23 #[.string ⟨#[]⟩, .int .i64 0, .int .i64 0, .int .i64 0]).below hb (by simp)
        simpa using this
      have hbw : Below w.heap.size w w1 := (((Below.refl _ _).alloc (Nat.le_refl _) _).alloc (by simp) _).trans (hb.mono (by simp; omega))
      simp at hz
      have hw1 : Blk w1 w.heap.size 23 #[.string n, .int .i64 s, .int .i64 c, .int .i64 v] := ((Blk.new w _ _).alloc _).below hb (by simp; omega)
      have Hw1 := Lib.hid hw1; clear hw1
      have Hb := Lib.hid hb; clear hb
      have Hr1 := Lib.hid hr1; clear hr1
      go_wp2_with fail
      have hw1 := Hw1.out
      refine (promoteC_any _ _ _ _ _ _ hw1).mono ?_
      clear hw1
      rintro e w2 ⟨rfl, hb2, hbut⟩
      have hr2 : Blk w2 (w.heap.size + 1) 23 #[.string ⟨#[]⟩, .int .i64 0, .int .i64 0, .int .i64 0] := (hbut.block _ (by omega)).trans Hr1.out
      obtain ⟨d0, d1, d2, d3, g1, g2, g3⟩ := al_cells hr2
      have g0 := hr2.frozen 0
      have hbw2 : Below w.heap.size w w2 := But.below hbw hbut (Nat.le_refl _)
      have Hb2 := Lib.hid hb2; clear hb2
      clear hr2 Hr1 Hw1 Hb Hb2 hbut
      go_wp2
      refine bodyPost_ret (v := .tuple #[.agg #[.string ByteArray.empty, .int .i64 0, .int .i64 0, .int .i64 0], .int .i64 (canE c)]) (by simp [results, Try.results40, go_sem, empty_str, d0, d1, d2, d3]) rfl ⟨rfl, ?_⟩
      exact (((hbw2.setCell (by simp; try omega) _).setCell (by simp; try omega) _).setCell (by simp; try omega) _).setCell (by simp; try omega) _
  · rw [chF_chk h1]; unfold alT
    go_enter Try.func40, Try.ntmps40
    go_wp2_with fail
    refine (check_any n s c v _ hn).mono ?_
    rintro e w1 ⟨rfl, hb⟩
    have hz := hb.size
    have hr1 : Blk w1 (w.heap.size + 1) 23 #[.string ⟨#[]⟩, .int .i64 0, .int .i64 0, .int .i64 0] := by
      have := (Blk.new (w.alloc (.cells #[.string n, .int .i64 s, .int .i64 c, .int .i64 v] 23)) 23 #[.string ⟨#[]⟩, .int .i64 0, .int .i64 0, .int .i64 0]).below hb (by simp)
      simpa using this
    have hbw : Below w.heap.size w w1 := (((Below.refl _ _).alloc (Nat.le_refl _) _).alloc (by simp) _).trans (hb.mono (by simp; omega))
    simp at hz
    obtain ⟨d0, d1, d2, d3, g1, g2, g3⟩ := al_cells hr1
    have g0 := hr1.frozen 0
    clear hr1 hb
    go_wp2
    refine bodyPost_ret (v := .tuple #[.agg #[.string ByteArray.empty, .int .i64 0, .int .i64 0, .int .i64 0], .int .i64 (chk n s c v)]) (by simp [results, Try.results40, go_sem, empty_str, d0, d1, d2, d3]) rfl ⟨rfl, ?_⟩
    exact (((hbw.setCell (by simp; try omega) _).setCell (by simp; try omega) _).setCell (by simp; try omega) _).setCell (by simp; try omega) _

set_option maxHeartbeats 1000000 in
theorem promote_any (n : ByteArray) (s c v : Int) (w : World) (hn : n.size ≤ maxLen) :
    Calls Try.prog 45 #[.agg #[.string n, .int .i64 s, .int .i64 c, .int .i64 v]] w fun e w' =>
      e = .returned (alT (chF n s c v (canE c) n c 0 0)) ∧ Below w.heap.size w w' := by
  generalize hR : chF n s c v (canE c) n c 0 0 = r
  obtain ⟨r0, r1, r2, r3, r4⟩ := r
  unfold alT
  have HR := Lib.hid hR; clear hR
  go_enter Try.func45, Try.ntmps45
  go_wp2_with fail
  refine (chPromote_any n s c v _ hn).mono ?_
  rw [HR.out]
  rintro e w1 ⟨rfl, hb⟩
  have hz := hb.size
  have hr1 : Blk w1 (w.heap.size + 1) 23 #[.string ⟨#[]⟩, .int .i64 0, .int .i64 0, .int .i64 0] := by
    have := (Blk.new (w.alloc (.cells #[.string n, .int .i64 s, .int .i64 c, .int .i64 v] 23)) 23 #[.string ⟨#[]⟩, .int .i64 0, .int .i64 0, .int .i64 0]).below hb (by simp)
    simpa using this
  have hbw : Below w.heap.size w w1 := ((((Below.refl _ _).alloc (Nat.le_refl _) _).alloc (by simp; try omega) _)).trans (hb.mono (by simp; omega))
  simp at hz
  obtain ⟨d0, d1, d2, d3, g1, g2, g3⟩ := al_cells hr1
  have g0 := hr1.frozen 0
  clear hr1 hb
  unfold alT
  go_wp2
  refine bodyPost_ret (v := .tuple #[.agg #[.string r0, .int .i64 r1, .int .i64 r2, .int .i64 r3], .int .i64 r4]) (by simp [results, Try.results45, go_sem, d0, d1, d2, d3]) rfl ⟨rfl, ?_⟩
  exact (((hbw.setCell (by simp; try omega) _).setCell (by simp; try omega) _).setCell (by simp; try omega) _).setCell (by simp; try omega) _

set_option maxHeartbeats 1000000 in
theorem chAbort_any (n : ByteArray) (s c v : Int) (w : World) (hn : n.size ≤ maxLen) :
    Calls Try.prog 40 #[.agg #[.string n, .int .i64 s, .int .i64 c, .int .i64 v], .func (.func 48) #[] #[]] w fun e w' =>
      e = .returned (alT (chF n s c v (canE c) n s 0 0)) ∧ Below w.heap.size w w' := by
  cases h1 : (chk n s c v != 0)
  · cases h2 : (canE c != 0)
    · rw [chF_ok h1 h2]; unfold alT
      have he : canE c = 0 := by simpa using h2
      have He := Lib.hid he; clear he
      go_enter Try.func40, Try.ntmps40
      go_wp2_with fail
      refine (check_any n s c v _ hn).mono ?_
      rintro e w1 ⟨rfl, hb⟩
      have hz := hb.size
      have hr1 : Blk w1 (w.heap.size + 1) 23 #[.string ⟨#[]⟩, .int .i64 0, .int .i64 0, .int .i64 0] := by
        have := (Blk.new (w.alloc (.cells #[.string n, .int .i64 s, .int .i64 c, .int .i64 v] 23)) 23 #[.string ⟨#[]⟩, .int .i64 0, .int .i64 0, .int .i64 0]).below hb (by simp)
        simpa using this
      have hbw : Below w.heap.size w w1 := (((Below.refl _ _).alloc (Nat.le_refl _) _).alloc (by simp) _).trans (hb.mono (by simp; omega))
      simp at hz
      have hw1 : Blk w1 w.heap.size 23 #[.string n, .int .i64 s, .int .i64 c, .int .i64 v] := ((Blk.new w _ _).alloc _).below hb (by simp; omega)
      have Hw1 := Lib.hid hw1; clear hw1
      have Hb := Lib.hid hb; clear hb
      have Hr1 := Lib.hid hr1; clear hr1
      go_wp2_with fail
      have hw1 := Hw1.out
      refine (abortC_any _ _ _ _ _ _ hw1).mono ?_
      clear hw1
      rintro e w2 ⟨rfl, hb2, hbut⟩
      have hr2 : Blk w2 (w.heap.size + 1) 23 #[.string ⟨#[]⟩, .int .i64 0, .int .i64 0, .int .i64 0] := (hbut.block _ (by omega)).trans Hr1.out
      obtain ⟨d0, d1, d2, d3, g1, g2, g3⟩ := al_cells hr2
      have g0 := hr2.frozen 0
      have hbw2 : Below w.heap.size w w2 := But.below hbw hbut (Nat.le_refl _)
      have Hb2 := Lib.hid hb2; clear hb2
      have hbl := Hb2.out He.out
      obtain ⟨c0, c1, c2, c3, f1, f2, f3⟩ := al_cells hbl
      clear hr2 hbl Hr1 Hw1 Hb Hb2 hbut
      go_wp2
      refine bodyPost_ret (v := .tuple #[.agg #[.string n, .int .i64 s, .int .i64 0, .int .i64 0], .int .i64 0]) (by simp [results, Try.results40, go_sem, empty_str, d0, d1, d2, d3]) rfl ⟨rfl, ?_⟩
      exact (((hbw2.setCell (by simp; try omega) _).setCell (by simp; try omega) _).setCell (by simp; try omega) _).setCell (by simp; try omega) _
    · rw [chF_err h1 h2]; unfold alT
      go_enter Try.func40, Try.ntmps40
      go_wp2_with fail
      refine (check_any n s c v _ hn).mono ?_
      rintro e w1 ⟨rfl, hb⟩
      have hz := hb.size
      have hr1 : Blk w1 (w.heap.size + 1) 23 #[.string ⟨#[]⟩, .int .i64 0, .int .i64 0, .int .i64 0] := by
        have := (Blk.new (w.alloc (.cells #[.string n, .int .i64 s, .int .i64 c, .int .i64 v] 23)) 23 #[.string ⟨#[]⟩, .int .i64 0, .int .i64 0, .int .i64 0]).below hb (by simp)
        simpa using this
      have hbw : Below w.heap.size w w1 := (((Below.refl _ _).alloc (Nat.le_refl _) _).alloc (by simp) _).trans (hb.mono (by simp; omega))
      simp at hz
      have hw1 : Blk w1 w.heap.size 23 #[.string n, .int .i64 s, .int .i64 c, .int .i64 v] := ((Blk.new w _ _).alloc _).below hb (by simp; omega)
      have Hw1 := Lib.hid hw1; clear hw1
      have Hb := Lib.hid hb; clear hb
      have Hr1 := Lib.hid hr1; clear hr1
      go_wp2_with fail
      have hw1 := Hw1.out
      refine (abortC_any _ _ _ _ _ _ hw1).mono ?_
      clear hw1
      rintro e w2 ⟨rfl, hb2, hbut⟩
      have hr2 : Blk w2 (w.heap.size + 1) 23 #[.string ⟨#[]⟩, .int .i64 0, .int .i64 0, .int .i64 0] := (hbut.block _ (by omega)).trans Hr1.out
      obtain ⟨d0, d1, d2, d3, g1, g2, g3⟩ := al_cells hr2
      have g0 := hr2.frozen 0
      have hbw2 : Below w.heap.size w w2 := But.below hbw hbut (Nat.le_refl _)
      have Hb2 := Lib.hid hb2; clear hb2
      clear hr2 Hr1 Hw1 Hb Hb2 hbut
      go_wp2
      refine bodyPost_ret (v := .tuple #[.agg #[.string ByteArray.empty, .int .i64 0, .int .i64 0, .int .i64 0], .int .i64 (canE c)]) (by simp [results, Try.results40, go_sem, empty_str, d0, d1, d2, d3]) rfl ⟨rfl, ?_⟩
      exact (((hbw2.setCell (by simp; try omega) _).setCell (by simp; try omega) _).setCell (by simp; try omega) _).setCell (by simp; try omega) _
  · rw [chF_chk h1]; unfold alT
    go_enter Try.func40, Try.ntmps40
    go_wp2_with fail
    refine (check_any n s c v _ hn).mono ?_
    rintro e w1 ⟨rfl, hb⟩
    have hz := hb.size
    have hr1 : Blk w1 (w.heap.size + 1) 23 #[.string ⟨#[]⟩, .int .i64 0, .int .i64 0, .int .i64 0] := by
      have := (Blk.new (w.alloc (.cells #[.string n, .int .i64 s, .int .i64 c, .int .i64 v] 23)) 23 #[.string ⟨#[]⟩, .int .i64 0, .int .i64 0, .int .i64 0]).below hb (by simp)
      simpa using this
    have hbw : Below w.heap.size w w1 := (((Below.refl _ _).alloc (Nat.le_refl _) _).alloc (by simp) _).trans (hb.mono (by simp; omega))
    simp at hz
    obtain ⟨d0, d1, d2, d3, g1, g2, g3⟩ := al_cells hr1
    have g0 := hr1.frozen 0
    clear hr1 hb
    go_wp2
    refine bodyPost_ret (v := .tuple #[.agg #[.string ByteArray.empty, .int .i64 0, .int .i64 0, .int .i64 0], .int .i64 (chk n s c v)]) (by simp [results, Try.results40, go_sem, empty_str, d0, d1, d2, d3]) rfl ⟨rfl, ?_⟩
    exact (((hbw.setCell (by simp; try omega) _).setCell (by simp; try omega) _).setCell (by simp; try omega) _).setCell (by simp; try omega) _

set_option maxHeartbeats 1000000 in
theorem abort_any (n : ByteArray) (s c v : Int) (w : World) (hn : n.size ≤ maxLen) :
    Calls Try.prog 44 #[.agg #[.string n, .int .i64 s, .int .i64 c, .int .i64 v]] w fun e w' =>
      e = .returned (alT (chF n s c v (canE c) n s 0 0)) ∧ Below w.heap.size w w' := by
  generalize hR : chF n s c v (canE c) n s 0 0 = r
  obtain ⟨r0, r1, r2, r3, r4⟩ := r
  unfold alT
  have HR := Lib.hid hR; clear hR
  go_enter Try.func44, Try.ntmps44
  go_wp2_with fail
  refine (chAbort_any n s c v _ hn).mono ?_
  rw [HR.out]
  rintro e w1 ⟨rfl, hb⟩
  have hz := hb.size
  have hr1 : Blk w1 (w.heap.size + 1) 23 #[.string ⟨#[]⟩, .int .i64 0, .int .i64 0, .int .i64 0] := by
    have := (Blk.new (w.alloc (.cells #[.string n, .int .i64 s, .int .i64 c, .int .i64 v] 23)) 23 #[.string ⟨#[]⟩, .int .i64 0, .int .i64 0, .int .i64 0]).below hb (by simp)
    simpa using this
  have hbw : Below w.heap.size w w1 := ((((Below.refl _ _).alloc (Nat.le_refl _) _).alloc (by simp; try omega) _)).trans (hb.mono (by simp; omega))
  simp at hz
  obtain ⟨d0, d1, d2, d3, g1, g2, g3⟩ := al_cells hr1
  have g0 := hr1.frozen 0
  clear hr1 hb
  unfold alT
  go_wp2
  refine bodyPost_ret (v := .tuple #[.agg #[.string r0, .int .i64 r1, .int .i64 r2, .int .i64 r3], .int .i64 r4]) (by simp [results, Try.results44, go_sem, d0, d1, d2, d3]) rfl ⟨rfl, ?_⟩
  exact (((hbw.setCell (by simp; try omega) _).setCell (by simp; try omega) _).setCell (by simp; try omega) _).setCell (by simp; try omega) _

end Go.Proofs.Ytejjemeaponbaaa
