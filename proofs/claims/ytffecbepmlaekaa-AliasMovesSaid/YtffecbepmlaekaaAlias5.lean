/-
  Contracts of Pick: the package alias and the reference faasref17.
-/
import Derived.Test.YtffecbepmlaekaaAlias4
namespace Go.Proofs.Ytffecbepmlaekaa
open Go.RowKit

def keyS (n id : ByteArray) : ByteArray := (n ++ ⟨#[58]⟩) ++ id

/-- What Pick returns. -/
def pickF (n : ByteArray) (s c v : Int) (id : ByteArray) : Int × Int :=
  if (chk n s c v != 0) = true then (0, chk n s c v) else if idB id = false then (0, 4) else if (c != 0) = true ∧ bucketI (keyS n id) < v then (c, 0) else (s, 0)

theorem nameB_le {s : ByteArray} (h : nameB s = true) : s.size ≤ 24 := by
  rcases Nat.lt_or_ge 24 s.size with hh | hh
  · rw [nameB_size s (.inr hh)] at h; cases h
  · exact hh
theorem idB_le {s : ByteArray} (h : idB s = true) : s.size ≤ 64 := by
  rcases Nat.lt_or_ge 64 s.size with hh | hh
  · rw [idB_size s (.inr hh)] at h; cases h
  · exact hh
theorem chk_name {n : ByteArray} {s c v : Int} (h : (chk n s c v != 0) = false) : nameB n = true := by
  cases hn : nameB n
  · simp [chk, hn] at h
  · rfl
theorem key_size {n id : ByteArray} (hn : n.size ≤ 24) (hi : id.size ≤ 64) : (keyS n id).size ≤ maxLen := by
  have h1 : (⟨#[58]⟩ : ByteArray).size = 1 := rfl
  unfold keyS maxLen; rw [ByteArray.size_append, ByteArray.size_append, h1]; omega

set_option maxHeartbeats 2000000 in
theorem pick_any (n : ByteArray) (s c v : Int) (id : ByteArray) (w : World) (hn : n.size ≤ maxLen) (hid : id.size ≤ maxLen) :
    Calls Try.prog 21 #[.agg #[.string n, .int .i64 s, .int .i64 c, .int .i64 v], .string id] w fun e w' =>
      e = .returned (.tuple #[.int .i64 (pickF n s c v id).1, .int .i64 (pickF n s c v id).2]) ∧ Below w.heap.size w w' := by
  cases h1 : (chk n s c v != 0)
  · have hns := nameB_le (chk_name h1)
    cases h2 : idB id
    · have hp : pickF n s c v id = (0, 4) := by simp only [pickF, h1, h2]; simp
      rw [hp]; clear hp
      go_enter Try.func21, Try.ntmps21
      go_wp2_with fail
      refine (check_any n s c v _ hn).mono ?_
      rintro e w1 ⟨rfl, hb⟩
      have hbw : Below w.heap.size w w1 := ((Below.refl _ _).alloc (Nat.le_refl _) _).trans (hb.mono (by simp))
      have hbox : Blk w1 w.heap.size 23 #[.string n, .int .i64 s, .int .i64 c, .int .i64 v] := (Blk.new w _ _).below hb (by simp)
      have hl := hbox.lt
      have Hbox := Lib.hid hbox
      clear hb hbox
      go_wp2_with fail
      refine (id_any id _ hid).mono ?_
      rintro e w2 ⟨rfl, hb2⟩
      have hbw2 : Below w.heap.size w w2 := hbw.trans (hb2.mono hbw.size)
      have hbox2 : Blk w2 w.heap.size 23 #[.string n, .int .i64 s, .int .i64 c, .int .i64 v] := Hbox.out.below hb2 hl
      obtain ⟨b0, b1, b2, b3, -, -, -⟩ := al_cells hbox2
      clear hb2 hbox2 Hbox
      go_wp2
      go_ret2
      exact ⟨rfl, hbw2⟩
    · have his := idB_le h2
      have hk := key_size hns his
      unfold keyS at hk
      cases h3 : (c != 0)
      · have hp : pickF n s c v id = (s, 0) := by simp only [pickF, h1, h2, h3]; simp
        rw [hp]; clear hp
        go_enter Try.func21, Try.ntmps21
        go_wp2_with fail
        refine (check_any n s c v _ hn).mono ?_
        rintro e w1 ⟨rfl, hb⟩
        have hbw : Below w.heap.size w w1 := ((Below.refl _ _).alloc (Nat.le_refl _) _).trans (hb.mono (by simp))
        have hbox : Blk w1 w.heap.size 23 #[.string n, .int .i64 s, .int .i64 c, .int .i64 v] := (Blk.new w _ _).below hb (by simp)
        have hl := hbox.lt
        have Hbox := Lib.hid hbox
        clear hb hbox
        go_wp2_with fail
        refine (id_any id _ hid).mono ?_
        rintro e w2 ⟨rfl, hb2⟩
        have hbw2 : Below w.heap.size w w2 := hbw.trans (hb2.mono hbw.size)
        have hbox2 : Blk w2 w.heap.size 23 #[.string n, .int .i64 s, .int .i64 c, .int .i64 v] := Hbox.out.below hb2 hl
        obtain ⟨b0, b1, b2, b3, -, -, -⟩ := al_cells hbox2
        clear hb2 hbox2 Hbox
        go_wp2_with (go_at_call 38; refine (bucket_any _ _ hk).mono ?_; rintro e w' ⟨rfl, rfl⟩)
        go_ret2
        exact ⟨rfl, hbw2⟩
      · by_cases h4 : bucketI (keyS n id) < v
        · have hp : pickF n s c v id = (c, 0) := by simp only [pickF, h1, h2, h3, h4]; simp
          rw [hp]; clear hp
          unfold keyS at h4
          go_enter Try.func21, Try.ntmps21
          go_wp2_with fail
          refine (check_any n s c v _ hn).mono ?_
          rintro e w1 ⟨rfl, hb⟩
          have hbw : Below w.heap.size w w1 := ((Below.refl _ _).alloc (Nat.le_refl _) _).trans (hb.mono (by simp))
          have hbox : Blk w1 w.heap.size 23 #[.string n, .int .i64 s, .int .i64 c, .int .i64 v] := (Blk.new w _ _).below hb (by simp)
          have hl := hbox.lt
          have Hbox := Lib.hid hbox
          clear hb hbox
          go_wp2_with fail
          refine (id_any id _ hid).mono ?_
          rintro e w2 ⟨rfl, hb2⟩
          have hbw2 : Below w.heap.size w w2 := hbw.trans (hb2.mono hbw.size)
          have hbox2 : Blk w2 w.heap.size 23 #[.string n, .int .i64 s, .int .i64 c, .int .i64 v] := Hbox.out.below hb2 hl
          obtain ⟨b0, b1, b2, b3, -, -, -⟩ := al_cells hbox2
          clear hb2 hbox2 Hbox
          go_wp2_with (go_at_call 38; refine (bucket_any _ _ hk).mono ?_; rintro e w' ⟨rfl, rfl⟩)
          go_ret2
          exact ⟨rfl, hbw2⟩
        · have hp : pickF n s c v id = (s, 0) := by simp only [pickF, h1, h2, h3, h4]; simp
          rw [hp]; clear hp
          unfold keyS at h4
          go_enter Try.func21, Try.ntmps21
          go_wp2_with fail
          refine (check_any n s c v _ hn).mono ?_
          rintro e w1 ⟨rfl, hb⟩
          have hbw : Below w.heap.size w w1 := ((Below.refl _ _).alloc (Nat.le_refl _) _).trans (hb.mono (by simp))
          have hbox : Blk w1 w.heap.size 23 #[.string n, .int .i64 s, .int .i64 c, .int .i64 v] := (Blk.new w _ _).below hb (by simp)
          have hl := hbox.lt
          have Hbox := Lib.hid hbox
          clear hb hbox
          go_wp2_with fail
          refine (id_any id _ hid).mono ?_
          rintro e w2 ⟨rfl, hb2⟩
          have hbw2 : Below w.heap.size w w2 := hbw.trans (hb2.mono hbw.size)
          have hbox2 : Blk w2 w.heap.size 23 #[.string n, .int .i64 s, .int .i64 c, .int .i64 v] := Hbox.out.below hb2 hl
          obtain ⟨b0, b1, b2, b3, -, -, -⟩ := al_cells hbox2
          clear hb2 hbox2 Hbox
          go_wp2_with (go_at_call 38; refine (bucket_any _ _ hk).mono ?_; rintro e w' ⟨rfl, rfl⟩)
          go_ret2
          exact ⟨rfl, hbw2⟩
  · have hp : pickF n s c v id = (0, chk n s c v) := by simp only [pickF, h1, if_true]
    rw [hp]; clear hp
    go_enter Try.func21, Try.ntmps21
    go_wp2_with fail
    refine (check_any n s c v _ hn).mono ?_
    rintro e w1 ⟨rfl, hb⟩
    have hbw : Below w.heap.size w w1 := ((Below.refl _ _).alloc (Nat.le_refl _) _).trans (hb.mono (by simp))
    clear hb
    go_wp2
    go_ret2
    exact ⟨rfl, hbw⟩

set_option maxHeartbeats 2000000 in
theorem rpick_any (n : ByteArray) (s c v : Int) (id : ByteArray) (w : World) (hn : n.size ≤ maxLen) (hid : id.size ≤ maxLen) :
    Calls Try.prog 22 #[.agg #[.string n, .int .i64 s, .int .i64 c, .int .i64 v], .string id] w fun e w' =>
      e = .returned (.tuple #[.int .i64 (pickF n s c v id).1, .int .i64 (pickF n s c v id).2]) ∧ Below w.heap.size w w' := by
  cases h1 : (chk n s c v != 0)
  · have hns := nameB_le (chk_name h1)
    cases h2 : idB id
    · have hp : pickF n s c v id = (0, 4) := by simp only [pickF, h1, h2]; simp
      rw [hp]; clear hp
      go_enter Try.func22, Try.ntmps22
      go_wp2_with fail
      refine (rcheck_any n s c v _ hn).mono ?_
      rintro e w1 ⟨rfl, hb⟩
      have hbw : Below w.heap.size w w1 := ((Below.refl _ _).alloc (Nat.le_refl _) _).trans (hb.mono (by simp))
      have hbox : Blk w1 w.heap.size 23 #[.string n, .int .i64 s, .int .i64 c, .int .i64 v] := (Blk.new w _ _).below hb (by simp)
      have hl := hbox.lt
      have Hbox := Lib.hid hbox
      clear hb hbox
      go_wp2_with fail
      refine (rid_any id _ hid).mono ?_
      rintro e w2 ⟨rfl, hb2⟩
      have hbw2 : Below w.heap.size w w2 := hbw.trans (hb2.mono hbw.size)
      have hbox2 : Blk w2 w.heap.size 23 #[.string n, .int .i64 s, .int .i64 c, .int .i64 v] := Hbox.out.below hb2 hl
      obtain ⟨b0, b1, b2, b3, -, -, -⟩ := al_cells hbox2
      clear hb2 hbox2 Hbox
      go_wp2
      go_ret2
      exact ⟨rfl, hbw2⟩
    · have his := idB_le h2
      have hk := key_size hns his
      unfold keyS at hk
      cases h3 : (c != 0)
      · have hp : pickF n s c v id = (s, 0) := by simp only [pickF, h1, h2, h3]; simp
        rw [hp]; clear hp
        go_enter Try.func22, Try.ntmps22
        go_wp2_with fail
        refine (rcheck_any n s c v _ hn).mono ?_
        rintro e w1 ⟨rfl, hb⟩
        have hbw : Below w.heap.size w w1 := ((Below.refl _ _).alloc (Nat.le_refl _) _).trans (hb.mono (by simp))
        have hbox : Blk w1 w.heap.size 23 #[.string n, .int .i64 s, .int .i64 c, .int .i64 v] := (Blk.new w _ _).below hb (by simp)
        have hl := hbox.lt
        have Hbox := Lib.hid hbox
        clear hb hbox
        go_wp2_with fail
        refine (rid_any id _ hid).mono ?_
        rintro e w2 ⟨rfl, hb2⟩
        have hbw2 : Below w.heap.size w w2 := hbw.trans (hb2.mono hbw.size)
        have hbox2 : Blk w2 w.heap.size 23 #[.string n, .int .i64 s, .int .i64 c, .int .i64 v] := Hbox.out.below hb2 hl
        obtain ⟨b0, b1, b2, b3, -, -, -⟩ := al_cells hbox2
        clear hb2 hbox2 Hbox
        go_wp2_with (go_at_call 40; refine (rbucket_any _ _ hk).mono ?_; rintro e w' ⟨rfl, rfl⟩)
        go_ret2
        exact ⟨rfl, hbw2⟩
      · by_cases h4 : bucketI (keyS n id) < v
        · have hp : pickF n s c v id = (c, 0) := by simp only [pickF, h1, h2, h3, h4]; simp
          rw [hp]; clear hp
          unfold keyS at h4
          go_enter Try.func22, Try.ntmps22
          go_wp2_with fail
          refine (rcheck_any n s c v _ hn).mono ?_
          rintro e w1 ⟨rfl, hb⟩
          have hbw : Below w.heap.size w w1 := ((Below.refl _ _).alloc (Nat.le_refl _) _).trans (hb.mono (by simp))
          have hbox : Blk w1 w.heap.size 23 #[.string n, .int .i64 s, .int .i64 c, .int .i64 v] := (Blk.new w _ _).below hb (by simp)
          have hl := hbox.lt
          have Hbox := Lib.hid hbox
          clear hb hbox
          go_wp2_with fail
          refine (rid_any id _ hid).mono ?_
          rintro e w2 ⟨rfl, hb2⟩
          have hbw2 : Below w.heap.size w w2 := hbw.trans (hb2.mono hbw.size)
          have hbox2 : Blk w2 w.heap.size 23 #[.string n, .int .i64 s, .int .i64 c, .int .i64 v] := Hbox.out.below hb2 hl
          obtain ⟨b0, b1, b2, b3, -, -, -⟩ := al_cells hbox2
          clear hb2 hbox2 Hbox
          go_wp2_with (go_at_call 40; refine (rbucket_any _ _ hk).mono ?_; rintro e w' ⟨rfl, rfl⟩)
          go_ret2
          exact ⟨rfl, hbw2⟩
        · have hp : pickF n s c v id = (s, 0) := by simp only [pickF, h1, h2, h3, h4]; simp
          rw [hp]; clear hp
          unfold keyS at h4
          go_enter Try.func22, Try.ntmps22
          go_wp2_with fail
          refine (rcheck_any n s c v _ hn).mono ?_
          rintro e w1 ⟨rfl, hb⟩
          have hbw : Below w.heap.size w w1 := ((Below.refl _ _).alloc (Nat.le_refl _) _).trans (hb.mono (by simp))
          have hbox : Blk w1 w.heap.size 23 #[.string n, .int .i64 s, .int .i64 c, .int .i64 v] := (Blk.new w _ _).below hb (by simp)
          have hl := hbox.lt
          have Hbox := Lib.hid hbox
          clear hb hbox
          go_wp2_with fail
          refine (rid_any id _ hid).mono ?_
          rintro e w2 ⟨rfl, hb2⟩
          have hbw2 : Below w.heap.size w w2 := hbw.trans (hb2.mono hbw.size)
          have hbox2 : Blk w2 w.heap.size 23 #[.string n, .int .i64 s, .int .i64 c, .int .i64 v] := Hbox.out.below hb2 hl
          obtain ⟨b0, b1, b2, b3, -, -, -⟩ := al_cells hbox2
          clear hb2 hbox2 Hbox
          go_wp2_with (go_at_call 40; refine (rbucket_any _ _ hk).mono ?_; rintro e w' ⟨rfl, rfl⟩)
          go_ret2
          exact ⟨rfl, hbw2⟩
  · have hp : pickF n s c v id = (0, chk n s c v) := by simp only [pickF, h1, if_true]
    rw [hp]; clear hp
    go_enter Try.func22, Try.ntmps22
    go_wp2_with fail
    refine (rcheck_any n s c v _ hn).mono ?_
    rintro e w1 ⟨rfl, hb⟩
    have hbw : Below w.heap.size w w1 := ((Below.refl _ _).alloc (Nat.le_refl _) _).trans (hb.mono (by simp))
    clear hb
    go_wp2
    go_ret2
    exact ⟨rfl, hbw⟩

end Go.Proofs.Ytffecbepmlaekaa
