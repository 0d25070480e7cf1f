/-
  Contracts of ident.ID, faasref05.Name and faasref05.ID.
-/
import Derived.Test.YtppkkonhfkegoaaIdent
namespace Go.Proofs.Ytppkkonhfkegoaa
open Go.RowKit

set_option maxHeartbeats 1000000 in
theorem id_any (s : ByteArray) (w : World) (hs : s.size ≤ maxLen) :
    Calls Try.prog 46 #[.string s] w fun e w' => e = .returned (.bool (idB s)) ∧ Below w.heap.size w w' := by
  unfold maxLen at hs
  go_enter Try.func46, Try.ntmps46
  go_wp2_with fail
  go_loopw [4] (fun _ w' => ∃ pos : Nat, w' = w.iter s pos ∧ pos ≤ s.size ∧ ∀ i (h : i < s.size), i < pos → letterI s[i].toNat = true) (fun _ w' => s.size - w'.iterPos w.heap.size)
  case atStart => exact ⟨0, rfl, Nat.zero_le _, fun i h h0 => absurd h0 (by omega)⟩
  case round =>
    obtain ⟨pos, rfl, hle, hall⟩ := hrel
    have Hall := Lib.hid hall; clear hall
    by_cases hp : pos < s.size
    · have hnx : ∀ ty, (Instr.next (.pointer (some ⟨w.heap.size, 0, none⟩)) true ty).run Try.prog (w.iter s pos) = _ := fun ty => run_next_any w s pos ty hp
      have st := rune_step s pos hp letterI letterI_high
      generalize hd : Utf8.decode s pos = d at st hnx
      clear hd
      obtain ⟨c, n⟩ := d
      simp only at st hnx
      have St := Lib.hid st; clear st
      go_wp2_with (go_at_call 64; refine (letter_any _ _).mono ?_; rintro e w' ⟨rfl, rfl⟩)
      all_goals
        first
          | (have hbad : letterI c = false := by (simp_all; done)
             go_ret
             exact ⟨retb (all_no s (fun _ => letterI) _ pos hp (St.out.1 hbad)).symm, (Below.refl _ _).alloc (Nat.le_refl _) _⟩)
          | (have hgood : letterI c = true := by (simp_all; done)
             have hx := ext_ok (f := fun _ => letterI) hp Hall.out (St.out.2 hgood)
             have h1 := (St.out.2 hgood).2
             clear hgood
             go_roundw
             case rel => exact ⟨pos + n, rfl, hx⟩
             case measure => simp; omega)
    · have hnx : ∀ ty, (Instr.next (.pointer (some ⟨w.heap.size, 0, none⟩)) true ty).run Try.prog (w.iter s pos) = _ := fun ty => run_next_end w s pos ty hp
      go_wp2
      all_goals
        go_ret
        refine ⟨retb (Eq.trans ?_ (all_yes s (fun _ => letterI) _ (fun i h => Hall.out i h (by omega))).symm), (Below.refl _ _).alloc (Nat.le_refl _) _⟩
        first
          | (simp; done)
          | (simp; omega)
          | (rw [Bool.eq_iff_iff]; simp; omega)

theorem nameB_size (s : ByteArray) (h : s.size < 1 ∨ 24 < s.size) : nameB s = false := by
  unfold nameB
  have : (decide (1 ≤ s.size) && decide (s.size ≤ 24)) = false := by rw [Bool.eq_false_iff]; simp; omega
  rw [this, Bool.and_false]

theorem idB_size (s : ByteArray) (h : s.size < 1 ∨ 64 < s.size) : idB s = false := by
  unfold idB
  have : (decide (1 ≤ s.size) && decide (s.size ≤ 64)) = false := by rw [Bool.eq_false_iff]; simp; omega
  rw [this, Bool.and_false]

set_option maxHeartbeats 1000000 in
theorem rid_any (s : ByteArray) (w : World) (hs : s.size ≤ maxLen) :
    Calls Try.prog 48 #[.string s] w fun e w' => e = .returned (.bool (idB s)) ∧ Below w.heap.size w w' := by
  unfold maxLen at hs
  by_cases hz : s.size < 1 ∨ 64 < s.size
  · have hf := Lib.hid (idB_size s hz)
    go_enter Try.func48, Try.ntmps48
    by_cases h1 : s.size < 1
    all_goals
      go_wp2
      go_ret
      exact ⟨retb hf.out.symm, Below.refl _ _⟩
  · have h1 : 1 ≤ s.size := by omega
    have h2 : s.size ≤ 64 := by omega
    clear hz
    go_enter Try.func48, Try.ntmps48
    go_wp2
    go_loop [3] (fun i => ∃ k : Nat, k ≤ s.size ∧ i = .int .i64 k ∧ ∀ i (h : i < s.size), i < k → letterI s[i].toNat = true) (fun i => s.size - (intOf i).toNat)
    case atStart => exact ⟨0, Nat.zero_le _, rfl, fun i h h0 => absurd h0 (by omega)⟩
    case round =>
      obtain ⟨k, hk, rfl, hall⟩ := hrel
      have Hall := Lib.hid hall; clear hall
      by_cases hp : k < s.size
      · go_wp2_with (go_at_call 66; refine (rpart_any _ _).mono ?_; rintro e w' ⟨rfl, rfl⟩)
        all_goals
          first
            | (have hbad : letterI s[k].toNat = false := by (simp_all; done)
               go_ret
               exact ⟨retb (all_no s (fun _ => letterI) _ k hp hbad).symm, Below.refl _ _⟩)
            | (have hgood : letterI s[k].toNat = true := by (simp_all; done)
               have hx := ext_ok (n := 1) (f := fun _ => letterI) hp Hall.out ⟨hgood, rfl⟩
               clear hgood
               go_round
               case rel => exact ⟨k + 1, hx.1, by go_num, hx.2⟩
               case measure => simp [intOf]; omega)
      · go_wp2
        go_ret
        refine ⟨retb (Eq.trans ?_ (all_yes s (fun _ => letterI) _ (fun i h => Hall.out i h (by omega))).symm), Below.refl _ _⟩
        simp; omega

end Go.Proofs.Ytppkkonhfkegoaa
