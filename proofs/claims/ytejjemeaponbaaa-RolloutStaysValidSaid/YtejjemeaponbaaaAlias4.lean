/-
  Contracts of Point, Begin, Shift, Promote and Abort of the reference faasref17.
-/
import Derived.Test.YtejjemeaponbaaaAlias3
namespace Go.Proofs.Ytejjemeaponbaaa
open Go.RowKit

set_option maxHeartbeats 1000000 in
theorem rbegin_any (n : ByteArray) (s c v k : Int) (w : World) (hn : n.size ≤ maxLen) :
    Calls Try.prog 28 #[.agg #[.string n, .int .i64 s, .int .i64 c, .int .i64 v], .int .i64 k] w fun e w' =>
      e = .returned (alT (chF n s c v (beginE s c k) n s k 0)) ∧ Below w.heap.size w w' := by
  cases h1 : (chk n s c v != 0)
  · have leaf0 : (k < 1) → Calls Try.prog 28 #[.agg #[.string n, .int .i64 s, .int .i64 c, .int .i64 v], .int .i64 k] w fun e w' =>
        e = .returned (alT (chF n s c v (beginE s c k) n s k 0)) ∧ Below w.heap.size w w' :=by
      intro l0
      have he : beginE s c k = 2 := by simp [beginE, inB]; try omega
      rw [chF_err h1 (by rw [he]; decide), he]
      clear he
      unfold alT
      go_enter Try.func28, Try.ntmps28
      go_wp2_with fail
      refine (rcheck_any n s c v _ hn).mono ?_
      rintro e w1 ⟨rfl, hb⟩
      have hz := hb.size
      have hbox : Blk w1 w.heap.size 23 #[.string n, .int .i64 s, .int .i64 c, .int .i64 v] := ((Blk.new w _ _).alloc _).below hb (by simp; try omega)
      have hr1 : Blk w1 (w.heap.size + 1) 23 #[.string ⟨#[]⟩, .int .i64 0, .int .i64 0, .int .i64 0] := by
        have := (Blk.new (w.alloc (.cells #[.string n, .int .i64 s, .int .i64 c, .int .i64 v] 23)) 23 #[.string ⟨#[]⟩, .int .i64 0, .int .i64 0, .int .i64 0]).below hb (by simp)
        simpa using this
      have hbw : Below w.heap.size w w1 := (((Below.refl _ _).alloc (Nat.le_refl _) _).alloc (by simp) _).trans (hb.mono (by simp; omega))
      simp at hz
      obtain ⟨b0, b1, b2, b3, -, -, -⟩ := al_cells hbox
      obtain ⟨d0, d1, d2, d3, g1, g2, g3⟩ := al_cells hr1
      have g0 := hr1.frozen 0
      clear hr1 hb hbox
      go_wp2
      refine bodyPost_ret (v := .tuple #[.agg #[.string ByteArray.empty, .int .i64 0, .int .i64 0, .int .i64 0], .int .i64 2]) (by simp [results, Try.results28, go_sem, empty_str, d0, d1, d2, d3]) rfl ⟨rfl, ?_⟩
      exact (((hbw.setCell (by simp) _).setCell (by simp) _).setCell (by simp) _).setCell (by simp) _
    have leaf1 : (¬ k < 1) → (32 < k) → Calls Try.prog 28 #[.agg #[.string n, .int .i64 s, .int .i64 c, .int .i64 v], .int .i64 k] w fun e w' =>
        e = .returned (alT (chF n s c v (beginE s c k) n s k 0)) ∧ Below w.heap.size w w' :=by
      intro l0 l1
      have he : beginE s c k = 2 := by simp [beginE, inB]; try omega
      rw [chF_err h1 (by rw [he]; decide), he]
      clear he
      unfold alT
      go_enter Try.func28, Try.ntmps28
      go_wp2_with fail
      refine (rcheck_any n s c v _ hn).mono ?_
      rintro e w1 ⟨rfl, hb⟩
      have hz := hb.size
      have hbox : Blk w1 w.heap.size 23 #[.string n, .int .i64 s, .int .i64 c, .int .i64 v] := ((Blk.new w _ _).alloc _).below hb (by simp; try omega)
      have hr1 : Blk w1 (w.heap.size + 1) 23 #[.string ⟨#[]⟩, .int .i64 0, .int .i64 0, .int .i64 0] := by
        have := (Blk.new (w.alloc (.cells #[.string n, .int .i64 s, .int .i64 c, .int .i64 v] 23)) 23 #[.string ⟨#[]⟩, .int .i64 0, .int .i64 0, .int .i64 0]).below hb (by simp)
        simpa using this
      have hbw : Below w.heap.size w w1 := (((Below.refl _ _).alloc (Nat.le_refl _) _).alloc (by simp) _).trans (hb.mono (by simp; omega))
      simp at hz
      obtain ⟨b0, b1, b2, b3, -, -, -⟩ := al_cells hbox
      obtain ⟨d0, d1, d2, d3, g1, g2, g3⟩ := al_cells hr1
      have g0 := hr1.frozen 0
      clear hr1 hb hbox
      go_wp2
      refine bodyPost_ret (v := .tuple #[.agg #[.string ByteArray.empty, .int .i64 0, .int .i64 0, .int .i64 0], .int .i64 2]) (by simp [results, Try.results28, go_sem, empty_str, d0, d1, d2, d3]) rfl ⟨rfl, ?_⟩
      exact (((hbw.setCell (by simp) _).setCell (by simp) _).setCell (by simp) _).setCell (by simp) _
    have leaf2 : (¬ k < 1) → (¬ 32 < k) → ((c != 0) = true) → Calls Try.prog 28 #[.agg #[.string n, .int .i64 s, .int .i64 c, .int .i64 v], .int .i64 k] w fun e w' =>
        e = .returned (alT (chF n s c v (beginE s c k) n s k 0)) ∧ Below w.heap.size w w' :=by
      intro l0 l1 l2
      have he : beginE s c k = 10 := by simp_all [beginE, inB]; try omega
      rw [chF_err h1 (by rw [he]; decide), he]
      clear he
      unfold alT
      go_enter Try.func28, Try.ntmps28
      go_wp2_with fail
      refine (rcheck_any n s c v _ hn).mono ?_
      rintro e w1 ⟨rfl, hb⟩
      have hz := hb.size
      have hbox : Blk w1 w.heap.size 23 #[.string n, .int .i64 s, .int .i64 c, .int .i64 v] := ((Blk.new w _ _).alloc _).below hb (by simp; try omega)
      have hr1 : Blk w1 (w.heap.size + 1) 23 #[.string ⟨#[]⟩, .int .i64 0, .int .i64 0, .int .i64 0] := by
        have := (Blk.new (w.alloc (.cells #[.string n, .int .i64 s, .int .i64 c, .int .i64 v] 23)) 23 #[.string ⟨#[]⟩, .int .i64 0, .int .i64 0, .int .i64 0]).below hb (by simp)
        simpa using this
      have hbw : Below w.heap.size w w1 := (((Below.refl _ _).alloc (Nat.le_refl _) _).alloc (by simp) _).trans (hb.mono (by simp; omega))
      simp at hz
      obtain ⟨b0, b1, b2, b3, -, -, -⟩ := al_cells hbox
      obtain ⟨d0, d1, d2, d3, g1, g2, g3⟩ := al_cells hr1
      have g0 := hr1.frozen 0
      clear hr1 hb hbox
      go_wp2
      refine bodyPost_ret (v := .tuple #[.agg #[.string ByteArray.empty, .int .i64 0, .int .i64 0, .int .i64 0], .int .i64 10]) (by simp [results, Try.results28, go_sem, empty_str, d0, d1, d2, d3]) rfl ⟨rfl, ?_⟩
      exact (((hbw.setCell (by simp) _).setCell (by simp) _).setCell (by simp) _).setCell (by simp) _
    have leaf3 : (¬ k < 1) → (¬ 32 < k) → ((c != 0) = false) → ((k == s) = true) → Calls Try.prog 28 #[.agg #[.string n, .int .i64 s, .int .i64 c, .int .i64 v], .int .i64 k] w fun e w' =>
        e = .returned (alT (chF n s c v (beginE s c k) n s k 0)) ∧ Below w.heap.size w w' :=by
      intro l0 l1 l2 l3
      have he : beginE s c k = 6 := by simp_all [beginE, inB]; try omega
      rw [chF_err h1 (by rw [he]; decide), he]
      clear he
      unfold alT
      go_enter Try.func28, Try.ntmps28
      go_wp2_with fail
      refine (rcheck_any n s c v _ hn).mono ?_
      rintro e w1 ⟨rfl, hb⟩
      have hz := hb.size
      have hbox : Blk w1 w.heap.size 23 #[.string n, .int .i64 s, .int .i64 c, .int .i64 v] := ((Blk.new w _ _).alloc _).below hb (by simp; try omega)
      have hr1 : Blk w1 (w.heap.size + 1) 23 #[.string ⟨#[]⟩, .int .i64 0, .int .i64 0, .int .i64 0] := by
        have := (Blk.new (w.alloc (.cells #[.string n, .int .i64 s, .int .i64 c, .int .i64 v] 23)) 23 #[.string ⟨#[]⟩, .int .i64 0, .int .i64 0, .int .i64 0]).below hb (by simp)
        simpa using this
      have hbw : Below w.heap.size w w1 := (((Below.refl _ _).alloc (Nat.le_refl _) _).alloc (by simp) _).trans (hb.mono (by simp; omega))
      simp at hz
      obtain ⟨b0, b1, b2, b3, -, -, -⟩ := al_cells hbox
      obtain ⟨d0, d1, d2, d3, g1, g2, g3⟩ := al_cells hr1
      have g0 := hr1.frozen 0
      clear hr1 hb hbox
      go_wp2
      refine bodyPost_ret (v := .tuple #[.agg #[.string ByteArray.empty, .int .i64 0, .int .i64 0, .int .i64 0], .int .i64 6]) (by simp [results, Try.results28, go_sem, empty_str, d0, d1, d2, d3]) rfl ⟨rfl, ?_⟩
      exact (((hbw.setCell (by simp) _).setCell (by simp) _).setCell (by simp) _).setCell (by simp) _
    have leaf4 : (¬ k < 1) → (¬ 32 < k) → ((c != 0) = false) → ((k == s) = false) → Calls Try.prog 28 #[.agg #[.string n, .int .i64 s, .int .i64 c, .int .i64 v], .int .i64 k] w fun e w' =>
        e = .returned (alT (chF n s c v (beginE s c k) n s k 0)) ∧ Below w.heap.size w w' :=by
      intro l0 l1 l2 l3
      have he : beginE s c k = 0 := by simp_all [beginE, inB]; try omega
      rw [chF_ok h1 (by rw [he]; decide)]
      clear he
      unfold alT
      go_enter Try.func28, Try.ntmps28
      go_wp2_with fail
      refine (rcheck_any n s c v _ hn).mono ?_
      rintro e w1 ⟨rfl, hb⟩
      have hz := hb.size
      have hbox : Blk w1 w.heap.size 23 #[.string n, .int .i64 s, .int .i64 c, .int .i64 v] := ((Blk.new w _ _).alloc _).below hb (by simp; try omega)
      have hr1 : Blk w1 (w.heap.size + 1) 23 #[.string ⟨#[]⟩, .int .i64 0, .int .i64 0, .int .i64 0] := by
        have := (Blk.new (w.alloc (.cells #[.string n, .int .i64 s, .int .i64 c, .int .i64 v] 23)) 23 #[.string ⟨#[]⟩, .int .i64 0, .int .i64 0, .int .i64 0]).below hb (by simp)
        simpa using this
      have hbw : Below w.heap.size w w1 := (((Below.refl _ _).alloc (Nat.le_refl _) _).alloc (by simp) _).trans (hb.mono (by simp; omega))
      simp at hz
      obtain ⟨b0, b1, b2, b3, -, -, -⟩ := al_cells hbox
      obtain ⟨d0, d1, d2, d3, g1, g2, g3⟩ := al_cells hr1
      have g0 := hr1.frozen 0
      clear hr1 hb hbox
      go_wp2
      refine bodyPost_ret (v := .tuple #[.agg #[.string n, .int .i64 s, .int .i64 k, .int .i64 0], .int .i64 0]) (by simp [results, Try.results28, go_sem, empty_str, d0, d1, d2, d3]) rfl ⟨rfl, ?_⟩
      exact (((hbw.setCell (by simp) _).setCell (by simp) _).setCell (by simp) _).setCell (by simp) _
    by_cases l0 : k < 1
    · exact leaf0 l0
    by_cases l1 : 32 < k
    · exact leaf1 l0 l1
    cases l2 : (c != 0)
    · cases l3 : (k == s)
      · exact leaf4 l0 l1 l2 l3
      · exact leaf3 l0 l1 l2 l3
    · exact leaf2 l0 l1 l2
  · rw [chF_chk h1]; unfold alT
    go_enter Try.func28, Try.ntmps28
    go_wp2_with fail
    refine (rcheck_any n s c v _ hn).mono ?_
    rintro e w1 ⟨rfl, hb⟩
    have hz := hb.size
    have hbox : Blk w1 w.heap.size 23 #[.string n, .int .i64 s, .int .i64 c, .int .i64 v] := ((Blk.new w _ _).alloc _).below hb (by simp; try omega)
    have hr1 : Blk w1 (w.heap.size + 1) 23 #[.string ⟨#[]⟩, .int .i64 0, .int .i64 0, .int .i64 0] := by
      have := (Blk.new (w.alloc (.cells #[.string n, .int .i64 s, .int .i64 c, .int .i64 v] 23)) 23 #[.string ⟨#[]⟩, .int .i64 0, .int .i64 0, .int .i64 0]).below hb (by simp)
      simpa using this
    have hbw : Below w.heap.size w w1 := (((Below.refl _ _).alloc (Nat.le_refl _) _).alloc (by simp) _).trans (hb.mono (by simp; omega))
    simp at hz
    obtain ⟨b0, b1, b2, b3, -, -, -⟩ := al_cells hbox
    obtain ⟨d0, d1, d2, d3, g1, g2, g3⟩ := al_cells hr1
    have g0 := hr1.frozen 0
    clear hr1 hb hbox
    go_wp2
    refine bodyPost_ret (v := .tuple #[.agg #[.string ByteArray.empty, .int .i64 0, .int .i64 0, .int .i64 0], .int .i64 (chk n s c v)]) (by simp [results, Try.results28, go_sem, empty_str, d0, d1, d2, d3]) rfl ⟨rfl, ?_⟩
    exact (((hbw.setCell (by simp) _).setCell (by simp) _).setCell (by simp) _).setCell (by simp) _

set_option maxHeartbeats 1000000 in
theorem rpromote_any (n : ByteArray) (s c v : Int) (w : World) (hn : n.size ≤ maxLen) :
    Calls Try.prog 37 #[.agg #[.string n, .int .i64 s, .int .i64 c, .int .i64 v]] w fun e w' =>
      e = .returned (alT (chF n s c v (canE c) n c 0 0)) ∧ Below w.heap.size w w' := by
  cases h1 : (chk n s c v != 0)
  · have leaf0 : ((c == 0) = true) → Calls Try.prog 37 #[.agg #[.string n, .int .i64 s, .int .i64 c, .int .i64 v]] w fun e w' =>
        e = .returned (alT (chF n s c v (canE c) n c 0 0)) ∧ Below w.heap.size w w' :=by
      intro l0
      have he : canE c = 10 := by simp_all [canE]; try omega
      rw [chF_err h1 (by rw [he]; decide), he]
      clear he
      unfold alT
      go_enter Try.func37, Try.ntmps37
      go_wp2_with fail
      refine (rcheck_any n s c v _ hn).mono ?_
      rintro e w1 ⟨rfl, hb⟩
      have hz := hb.size
      have hbox : Blk w1 w.heap.size 23 #[.string n, .int .i64 s, .int .i64 c, .int .i64 v] := ((Blk.new w _ _).alloc _).below hb (by simp; try omega)
      have hr1 : Blk w1 (w.heap.size + 1) 23 #[.string ⟨#[]⟩, .int .i64 0, .int .i64 0, .int .i64 0] := by
        have := (Blk.new (w.alloc (.cells #[.string n, .int .i64 s, .int .i64 c, .int .i64 v] 23)) 23 #[.string ⟨#[]⟩, .int .i64 0, .int .i64 0, .int .i64 0]).below hb (by simp)
        simpa using this
      have hbw : Below w.heap.size w w1 := (((Below.refl _ _).alloc (Nat.le_refl _) _).alloc (by simp) _).trans (hb.mono (by simp; omega))
      simp at hz
      obtain ⟨b0, b1, b2, b3, -, -, -⟩ := al_cells hbox
      obtain ⟨d0, d1, d2, d3, g1, g2, g3⟩ := al_cells hr1
      have g0 := hr1.frozen 0
      clear hr1 hb hbox
      go_wp2
      refine bodyPost_ret (v := .tuple #[.agg #[.string ByteArray.empty, .int .i64 0, .int .i64 0, .int .i64 0], .int .i64 10]) (by simp [results, Try.results37, go_sem, empty_str, d0, d1, d2, d3]) rfl ⟨rfl, ?_⟩
      exact (((hbw.setCell (by simp) _).setCell (by simp) _).setCell (by simp) _).setCell (by simp) _
    have leaf1 : ((c == 0) = false) → Calls Try.prog 37 #[.agg #[.string n, .int .i64 s, .int .i64 c, .int .i64 v]] w fun e w' =>
        e = .returned (alT (chF n s c v (canE c) n c 0 0)) ∧ Below w.heap.size w w' :=by
      intro l0
      have he : canE c = 0 := by simp_all [canE]; try omega
      rw [chF_ok h1 (by rw [he]; decide)]
      clear he
      unfold alT
      go_enter Try.func37, Try.ntmps37
      go_wp2_with fail
      refine (rcheck_any n s c v _ hn).mono ?_
      rintro e w1 ⟨rfl, hb⟩
      have hz := hb.size
      have hbox : Blk w1 w.heap.size 23 #[.string n, .int .i64 s, .int .i64 c, .int .i64 v] := ((Blk.new w _ _).alloc _).below hb (by simp; try omega)
      have hr1 : Blk w1 (w.heap.size + 1) 23 #[.string ⟨#[]⟩, .int .i64 0, .int .i64 0, .int .i64 0] := by
        have := (Blk.new (w.alloc (.cells #[.string n, .int .i64 s, .int .i64 c, .int .i64 v] 23)) 23 #[.string ⟨#[]⟩, .int .i64 0, .int .i64 0, .int .i64 0]).below hb (by simp)
        simpa using this
      have hbw : Below w.heap.size w w1 := (((Below.refl _ _).alloc (Nat.le_refl _) _).alloc (by simp) _).trans (hb.mono (by simp; omega))
      simp at hz
      obtain ⟨b0, b1, b2, b3, -, -, -⟩ := al_cells hbox
      obtain ⟨d0, d1, d2, d3, g1, g2, g3⟩ := al_cells hr1
      have g0 := hr1.frozen 0
      clear hr1 hb hbox
      go_wp2
      refine bodyPost_ret (v := .tuple #[.agg #[.string n, .int .i64 c, .int .i64 0, .int .i64 0], .int .i64 0]) (by simp [results, Try.results37, go_sem, empty_str, d0, d1, d2, d3]) rfl ⟨rfl, ?_⟩
      exact (((hbw.setCell (by simp) _).setCell (by simp) _).setCell (by simp) _).setCell (by simp) _
    cases l2 : (c == 0)
    · exact leaf1 l2
    · exact leaf0 l2
  · rw [chF_chk h1]; unfold alT
    go_enter Try.func37, Try.ntmps37
    go_wp2_with fail
    refine (rcheck_any n s c v _ hn).mono ?_
    rintro e w1 ⟨rfl, hb⟩
    have hz := hb.size
    have hbox : Blk w1 w.heap.size 23 #[.string n, .int .i64 s, .int .i64 c, .int .i64 v] := ((Blk.new w _ _).alloc _).below hb (by simp; try omega)
    have hr1 : Blk w1 (w.heap.size + 1) 23 #[.string ⟨#[]⟩, .int .i64 0, .int .i64 0, .int .i64 0] := by
      have := (Blk.new (w.alloc (.cells #[.string n, .int .i64 s, .int .i64 c, .int .i64 v] 23)) 23 #[.string ⟨#[]⟩, .int .i64 0, .int .i64 0, .int .i64 0]).below hb (by simp)
      simpa using this
    have hbw : Below w.heap.size w w1 := (((Below.refl _ _).alloc (Nat.le_refl _) _).alloc (by simp) _).trans (hb.mono (by simp; omega))
    simp at hz
    obtain ⟨b0, b1, b2, b3, -, -, -⟩ := al_cells hbox
    obtain ⟨d0, d1, d2, d3, g1, g2, g3⟩ := al_cells hr1
    have g0 := hr1.frozen 0
    clear hr1 hb hbox
    go_wp2
    refine bodyPost_ret (v := .tuple #[.agg #[.string ByteArray.empty, .int .i64 0, .int .i64 0, .int .i64 0], .int .i64 (chk n s c v)]) (by simp [results, Try.results37, go_sem, empty_str, d0, d1, d2, d3]) rfl ⟨rfl, ?_⟩
    exact (((hbw.setCell (by simp) _).setCell (by simp) _).setCell (by simp) _).setCell (by simp) _

set_option maxHeartbeats 1000000 in
theorem rabort_any (n : ByteArray) (s c v : Int) (w : World) (hn : n.size ≤ maxLen) :
    Calls Try.prog 36 #[.agg #[.string n, .int .i64 s, .int .i64 c, .int .i64 v]] w fun e w' =>
      e = .returned (alT (chF n s c v (canE c) n s 0 0)) ∧ Below w.heap.size w w' := by
  cases h1 : (chk n s c v != 0)
  · have leaf0 : ((c == 0) = true) → Calls Try.prog 36 #[.agg #[.string n, .int .i64 s, .int .i64 c, .int .i64 v]] w fun e w' =>
        e = .returned (alT (chF n s c v (canE c) n s 0 0)) ∧ Below w.heap.size w w' :=by
      intro l0
      have he : canE c = 10 := by simp_all [canE]; try omega
      rw [chF_err h1 (by rw [he]; decide), he]
      clear he
      unfold alT
      go_enter Try.func36, Try.ntmps36
      go_wp2_with fail
      refine (rcheck_any n s c v _ hn).mono ?_
      rintro e w1 ⟨rfl, hb⟩
      have hz := hb.size
      have hbox : Blk w1 w.heap.size 23 #[.string n, .int .i64 s, .int .i64 c, .int .i64 v] := ((Blk.new w _ _).alloc _).below hb (by simp; try omega)
      have hr1 : Blk w1 (w.heap.size + 1) 23 #[.string ⟨#[]⟩, .int .i64 0, .int .i64 0, .int .i64 0] := by
        have := (Blk.new (w.alloc (.cells #[.string n, .int .i64 s, .int .i64 c, .int .i64 v] 23)) 23 #[.string ⟨#[]⟩, .int .i64 0, .int .i64 0, .int .i64 0]).below hb (by simp)
        simpa using this
      have hbw : Below w.heap.size w w1 := (((Below.refl _ _).alloc (Nat.le_refl _) _).alloc (by simp) _).trans (hb.mono (by simp; omega))
      simp at hz
      obtain ⟨b0, b1, b2, b3, -, -, -⟩ := al_cells hbox
      obtain ⟨d0, d1, d2, d3, g1, g2, g3⟩ := al_cells hr1
      have g0 := hr1.frozen 0
      clear hr1 hb hbox
      go_wp2
      refine bodyPost_ret (v := .tuple #[.agg #[.string ByteArray.empty, .int .i64 0, .int .i64 0, .int .i64 0], .int .i64 10]) (by simp [results, Try.results36, go_sem, empty_str, d0, d1, d2, d3]) rfl ⟨rfl, ?_⟩
      exact (((hbw.setCell (by simp) _).setCell (by simp) _).setCell (by simp) _).setCell (by simp) _
    have leaf1 : ((c == 0) = false) → Calls Try.prog 36 #[.agg #[.string n, .int .i64 s, .int .i64 c, .int .i64 v]] w fun e w' =>
        e = .returned (alT (chF n s c v (canE c) n s 0 0)) ∧ Below w.heap.size w w' :=by
      intro l0
      have he : canE c = 0 := by simp_all [canE]; try omega
      rw [chF_ok h1 (by rw [he]; decide)]
      clear he
      unfold alT
      go_enter Try.func36, Try.ntmps36
      go_wp2_with fail
      refine (rcheck_any n s c v _ hn).mono ?_
      rintro e w1 ⟨rfl, hb⟩
      have hz := hb.size
      have hbox : Blk w1 w.heap.size 23 #[.string n, .int .i64 s, .int .i64 c, .int .i64 v] := ((Blk.new w _ _).alloc _).below hb (by simp; try omega)
      have hr1 : Blk w1 (w.heap.size + 1) 23 #[.string ⟨#[]⟩, .int .i64 0, .int .i64 0, .int .i64 0] := by
        have := (Blk.new (w.alloc (.cells #[.string n, .int .i64 s, .int .i64 c, .int .i64 v] 23)) 23 #[.string ⟨#[]⟩, .int .i64 0, .int .i64 0, .int .i64 0]).below hb (by simp)
        simpa using this
      have hbw : Below w.heap.size w w1 := (((Below.refl _ _).alloc (Nat.le_refl _) _).alloc (by simp) _).trans (hb.mono (by simp; omega))
      simp at hz
      obtain ⟨b0, b1, b2, b3, -, -, -⟩ := al_cells hbox
      obtain ⟨d0, d1, d2, d3, g1, g2, g3⟩ := al_cells hr1
      have g0 := hr1.frozen 0
      clear hr1 hb hbox
      go_wp2
      refine bodyPost_ret (v := .tuple #[.agg #[.string n, .int .i64 s, .int .i64 0, .int .i64 0], .int .i64 0]) (by simp [results, Try.results36, go_sem, empty_str, d0, d1, d2, d3]) rfl ⟨rfl, ?_⟩
      exact (((hbw.setCell (by simp) _).setCell (by simp) _).setCell (by simp) _).setCell (by simp) _
    cases l2 : (c == 0)
    · exact leaf1 l2
    · exact leaf0 l2
  · rw [chF_chk h1]; unfold alT
    go_enter Try.func36, Try.ntmps36
    go_wp2_with fail
    refine (rcheck_any n s c v _ hn).mono ?_
    rintro e w1 ⟨rfl, hb⟩
    have hz := hb.size
    have hbox : Blk w1 w.heap.size 23 #[.string n, .int .i64 s, .int .i64 c, .int .i64 v] := ((Blk.new w _ _).alloc _).below hb (by simp; try omega)
    have hr1 : Blk w1 (w.heap.size + 1) 23 #[.string ⟨#[]⟩, .int .i64 0, .int .i64 0, .int .i64 0] := by
      have := (Blk.new (w.alloc (.cells #[.string n, .int .i64 s, .int .i64 c, .int .i64 v] 23)) 23 #[.string ⟨#[]⟩, .int .i64 0, .int .i64 0, .int .i64 0]).below hb (by simp)
      simpa using this
    have hbw : Below w.heap.size w w1 := (((Below.refl _ _).alloc (Nat.le_refl _) _).alloc (by simp) _).trans (hb.mono (by simp; omega))
    simp at hz
    obtain ⟨b0, b1, b2, b3, -, -, -⟩ := al_cells hbox
    obtain ⟨d0, d1, d2, d3, g1, g2, g3⟩ := al_cells hr1
    have g0 := hr1.frozen 0
    clear hr1 hb hbox
    go_wp2
    refine bodyPost_ret (v := .tuple #[.agg #[.string ByteArray.empty, .int .i64 0, .int .i64 0, .int .i64 0], .int .i64 (chk n s c v)]) (by simp [results, Try.results36, go_sem, empty_str, d0, d1, d2, d3]) rfl ⟨rfl, ?_⟩
    exact (((hbw.setCell (by simp) _).setCell (by simp) _).setCell (by simp) _).setCell (by simp) _

end Go.Proofs.Ytejjemeaponbaaa
