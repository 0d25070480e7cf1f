/-
  Contracts of the small character tests and of the name and identifier checks of the packages ident and faasref05.
-/
import Derived.Test.YtppkkonhfkegoaaRows
import Derived.WalkKit
import Derived.WalkSpells
import Derived.WalkLawsBesides
import Derived.Lib.Hide
import Derived.Laws.RangeAny
namespace Go.Proofs.Ytppkkonhfkegoaa
open Go.RowKit

theorem retb {a b : Bool} (h : a = b) : Ending.returned (.bool a) = .returned (.bool b) := by rw [h]
theorem reti {k : IntKind} {a b : Int} (h : a = b) : Ending.returned (.int k a) = .returned (.int k b) := by rw [h]

def smallI (c : Int) : Bool := decide (97 ≤ c) && decide (c ≤ 122)
def digitI (c : Int) : Bool := decide (48 ≤ c) && decide (c ≤ 57)
def letterI (c : Int) : Bool := smallI c || digitI c || (decide (65 ≤ c) && decide (c ≤ 90)) || c == 45 || c == 95 || c == 46 || c == 58 || c == 47

set_option maxHeartbeats 400000 in
theorem small_any (c : Int) (w : World) :
    Calls Try.prog 68 #[.int .i32 c] w fun e w' => e = .returned (.bool (smallI c)) ∧ w = w' := by
  go_enter Try.func68, Try.ntmps68
  go_wp2
  all_goals
    go_ret
    exact ⟨retb (by simp [smallI]; try omega), rfl⟩

set_option maxHeartbeats 400000 in
theorem digit_any (c : Int) (w : World) :
    Calls Try.prog 69 #[.int .i32 c] w fun e w' => e = .returned (.bool (digitI c)) ∧ w = w' := by
  go_enter Try.func69, Try.ntmps69
  go_wp2
  all_goals
    go_ret
    exact ⟨retb (by simp [digitI]; try omega), rfl⟩

set_option maxHeartbeats 400000 in
theorem rsmall_any (c : Int) (w : World) :
    Calls Try.prog 70 #[.int .u8 c] w fun e w' => e = .returned (.bool (smallI c)) ∧ w = w' := by
  go_enter Try.func70, Try.ntmps70
  go_wp2
  all_goals
    go_ret
    exact ⟨retb (by simp [smallI]; try omega), rfl⟩

set_option maxHeartbeats 400000 in
theorem rdigit_any (c : Int) (w : World) :
    Calls Try.prog 71 #[.int .u8 c] w fun e w' => e = .returned (.bool (digitI c)) ∧ w = w' := by
  go_enter Try.func71, Try.ntmps71
  go_wp2
  all_goals
    go_ret
    exact ⟨retb (by simp [digitI]; try omega), rfl⟩

set_option maxHeartbeats 800000 in
theorem letter_any (c : Int) (w : World) :
    Calls Try.prog 64 #[.int .i32 c] w fun e w' => e = .returned (.bool (letterI c)) ∧ w = w' := by
  go_enter Try.func64, Try.ntmps64
  go_wp2_with (first
    | (go_at_call 68; refine (small_any _ _).mono ?_; rintro e w' ⟨rfl, rfl⟩)
    | (go_at_call 69; refine (digit_any _ _).mono ?_; rintro e w' ⟨rfl, rfl⟩))
  all_goals
    go_ret
    exact ⟨retb (by first | (simp [letterI, *]; done) | (simp [letterI, *]; omega) | (rw [Bool.eq_iff_iff]; simp [letterI, *]; omega)), rfl⟩

set_option maxHeartbeats 800000 in
theorem rpart_any (c : Int) (w : World) :
    Calls Try.prog 66 #[.int .u8 c] w fun e w' => e = .returned (.bool (letterI c)) ∧ w = w' := by
  go_enter Try.func66, Try.ntmps66
  go_wp2_with (first
    | (go_at_call 70; refine (rsmall_any _ _).mono ?_; rintro e w' ⟨rfl, rfl⟩)
    | (go_at_call 71; refine (rdigit_any _ _).mono ?_; rintro e w' ⟨rfl, rfl⟩))
  all_goals
    go_ret
    exact ⟨retb (by first | (simp [letterI, *]; done) | (simp [letterI, *]; omega) | (rw [Bool.eq_iff_iff]; simp [letterI, *]; omega)), rfl⟩

/-- The bytes of a name: the first one is a small letter, the others are small letters, digits, 45 or 95. -/
def nameC (first : Bool) (c : Int) : Bool := smallI c || (!first && (digitI c || c == 45 || c == 95))
def nameB (s : ByteArray) : Bool := (List.range s.size).all (fun i => nameC (i == 0) (s.get! i).toNat) && (decide (1 ≤ s.size) && decide (s.size ≤ 24))
def idB (s : ByteArray) : Bool := (List.range s.size).all (fun i => letterI (s.get! i).toNat) && (decide (1 ≤ s.size) && decide (s.size ≤ 64))

theorem smallI_high (c : Int) (h : 128 ≤ c) : smallI c = false := by simp [smallI]; omega
theorem digitI_high (c : Int) (h : 128 ≤ c) : digitI c = false := by simp [digitI]; omega
theorem letterI_high (c : Int) (h : 128 ≤ c) : letterI c = false := by
  simp [letterI, smallI, digitI]; omega
theorem nameC_high (f : Bool) (c : Int) (h : 128 ≤ c) : nameC f c = false := by
  simp [nameC, smallI, digitI]; omega

theorem get_bang (s : ByteArray) (i : Nat) (h : i < s.size) : s.get! i = s[i] := by
  have := get_at s i h
  simpa using this

theorem all_no (s : ByteArray) (f : Nat → Int → Bool) (x : Bool) (i : Nat) (h : i < s.size) (hn : f i s[i].toNat = false) : ((List.range s.size).all (fun i => f i (s.get! i).toNat) && x) = false := by
  have : ((List.range s.size).all (fun i => f i (s.get! i).toNat)) = false := by
    rw [Bool.eq_false_iff]
    intro hh
    rw [List.all_eq_true] at hh
    have := hh i (List.mem_range.2 h)
    rw [get_bang s i h, hn] at this
    cases this
  rw [this]; rfl

theorem all_yes (s : ByteArray) (f : Nat → Int → Bool) (x : Bool) (hy : ∀ i (h : i < s.size), f i s[i].toNat = true) : ((List.range s.size).all (fun i => f i (s.get! i).toNat) && x) = x := by
  have : ((List.range s.size).all (fun i => f i (s.get! i).toNat)) = true := by
    rw [List.all_eq_true]
    intro i hi
    have h := List.mem_range.1 hi
    rw [get_bang s i h]
    exact hy i h
  rw [this]; rfl

theorem rune_step (s : ByteArray) (pos : Nat) (hp : pos < s.size) (f : Int → Bool) (hf : ∀ c, 128 ≤ c → f c = false) :
    (f (Utf8.decode s pos).1 = false → f s[pos].toNat = false) ∧ (f (Utf8.decode s pos).1 = true → f s[pos].toNat = true ∧ (Utf8.decode s pos).2 = 1) := by
  by_cases ha : s[pos].toNat < 128
  · rw [decode_ascii s pos hp ha]; exact ⟨fun h => h, fun h => ⟨h, rfl⟩⟩
  · have h := decode_high s pos hp (by omega)
    rw [hf (Utf8.decode s pos).1 (by omega), hf s[pos].toNat (by omega)]
    exact ⟨fun h => h, fun h => by cases h⟩

theorem ext_ok {s : ByteArray} {f : Nat → Int → Bool} {pos n : Nat} (hp : pos < s.size) (hall : ∀ i (h : i < s.size), i < pos → f i s[i].toNat = true) (h1 : f pos s[pos].toNat = true ∧ n = 1) :
    pos + n ≤ s.size ∧ ∀ i (h : i < s.size), i < pos + n → f i s[i].toNat = true := by
  obtain ⟨h1, rfl⟩ := h1
  refine ⟨by omega, fun i h hi => ?_⟩
  by_cases e : i = pos
  · subst e; exact h1
  · exact hall i h (by omega)

set_option maxHeartbeats 1000000 in
theorem name_any (s : ByteArray) (w : World) (hs : s.size ≤ maxLen) :
    Calls Try.prog 51 #[.string s] w fun e w' => e = .returned (.bool (nameB s)) ∧ Below w.heap.size w w' := by
  unfold maxLen at hs
  go_enter Try.func51, Try.ntmps51
  go_wp2_with fail
  go_loopw [3, 4] (fun _ _ w' => ∃ pos : Nat, w' = w.iter s pos ∧ pos ≤ s.size ∧ ∀ i (h : i < s.size), i < pos → nameC (i == 0) s[i].toNat = true) (fun _ _ w' => s.size - w'.iterPos w.heap.size)
  case atStart => exact ⟨0, rfl, Nat.zero_le _, fun i h h0 => absurd h0 (by omega)⟩
  case round =>
    obtain ⟨pos, rfl, hle, hall⟩ := hrel
    have Hall := Lib.hid hall; clear hall
    by_cases hp : pos < s.size
    · have hnx : ∀ ty, (Instr.next (.pointer (some ⟨w.heap.size, 0, none⟩)) true ty).run Try.prog (w.iter s pos) = _ := fun ty => run_next_any w s pos ty hp
      have st := rune_step s pos hp (nameC (pos == 0)) (nameC_high _)
      generalize hd : Utf8.decode s pos = d at st hnx
      clear hd
      obtain ⟨c, n⟩ := d
      simp only at st hnx
      have St := Lib.hid st; clear st
      go_wp2_with (first
        | (go_at_call 68; refine (small_any _ _).mono ?_; rintro e w' ⟨rfl, rfl⟩)
        | (go_at_call 69; refine (digit_any _ _).mono ?_; rintro e w' ⟨rfl, rfl⟩))
      all_goals
        first
          | (have hbad : nameC (pos == 0) c = false := by (simp_all [nameC]; done)
             go_ret
             exact ⟨retb (all_no s (fun i => nameC (i == 0)) _ pos hp (St.out.1 hbad)).symm, (Below.refl _ _).alloc (Nat.le_refl _) _⟩)
          | (have hgood : nameC (pos == 0) c = true := by (simp_all [nameC]; done)
             have hx := ext_ok (f := fun i => nameC (i == 0)) hp Hall.out (St.out.2 hgood)
             have h1 := (St.out.2 hgood).2
             clear hgood
             go_roundw
             case rel => exact ⟨pos + n, rfl, hx⟩
             case measure => simp; omega)
    · have hnx : ∀ ty, (Instr.next (.pointer (some ⟨w.heap.size, 0, none⟩)) true ty).run Try.prog (w.iter s pos) = _ := fun ty => run_next_end w s pos ty hp
      go_wp2
      all_goals
        go_ret
        refine ⟨retb (Eq.trans ?_ (all_yes s (fun i => nameC (i == 0)) _ (fun i h => Hall.out i h (by omega))).symm), (Below.refl _ _).alloc (Nat.le_refl _) _⟩
        first
          | (simp; done)
          | (simp; omega)
          | (rw [Bool.eq_iff_iff]; simp; omega)

end Go.Proofs.Ytppkkonhfkegoaa
