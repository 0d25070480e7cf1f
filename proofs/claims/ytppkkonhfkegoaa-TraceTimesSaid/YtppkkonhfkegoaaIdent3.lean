/-
  Contracts of faasref05.Name, hash.Sum, faasref03.Sum and both Bucket functions.
-/
import Derived.Test.YtppkkonhfkegoaaIdent2
namespace Go.Proofs.Ytppkkonhfkegoaa
open Go.RowKit

theorem get0 (s : ByteArray) (h : 0 < s.size) : s.get! 0 = s[0] := get_bang s 0 h

set_option maxHeartbeats 1000000 in
theorem rname_any (s : ByteArray) (w : World) (hs : s.size ≤ maxLen) :
    Calls Try.prog 55 #[.string s] w fun e w' => e = .returned (.bool (nameB s)) ∧ Below w.heap.size w w' := by
  unfold maxLen at hs
  by_cases hz : s.size < 1 ∨ 24 < s.size
  · have hf := Lib.hid (nameB_size s hz)
    go_enter Try.func55, Try.ntmps55
    by_cases h1 : s.size < 1
    all_goals
      go_wp2
      go_ret
      exact ⟨retb hf.out.symm, Below.refl _ _⟩
  · have h1 : 0 < s.size := by omega
    have h2 : s.size ≤ 24 := by omega
    clear hz
    by_cases hb : smallI (s[0].toNat : Int) = true
    · go_enter Try.func55, Try.ntmps55
      go_wp2_with (go_at_call 70; refine (rsmall_any _ _).mono ?_; rintro e w' ⟨rfl, rfl⟩)
      have Hb := Lib.hid hb; clear hb
      go_loop [3] (fun i => ∃ k : Nat, 1 ≤ k ∧ k ≤ s.size ∧ i = .int .i64 k ∧ ∀ i (h : i < s.size), i < k → nameC (i == 0) s[i].toNat = true) (fun i => s.size - (intOf i).toNat)
      case atStart =>
        refine ⟨1, by omega, by omega, rfl, fun i h h0 => ?_⟩
        obtain rfl : i = 0 := by omega
        have := Hb.out
        simp_all [nameC]
      case round =>
        obtain ⟨k, hk0, hk, rfl, hall⟩ := hrel
        have Hall := Lib.hid hall; clear hall
        by_cases hp : k < s.size
        · go_wp2_with (first
            | (go_at_call 70; refine (rsmall_any _ _).mono ?_; rintro e w' ⟨rfl, rfl⟩)
            | (go_at_call 71; refine (rdigit_any _ _).mono ?_; rintro e w' ⟨rfl, rfl⟩))
          all_goals
            have hk1 : (k == 0) = false := by simp; omega
            first
              | (have hbad : nameC (k == 0) s[k].toNat = false := by (rw [hk1]; simp_all [nameC]; done)
                 go_ret
                 exact ⟨retb (all_no s (fun i => nameC (i == 0)) _ k hp hbad).symm, Below.refl _ _⟩)
              | (have hgood : nameC (k == 0) s[k].toNat = true := by (rw [hk1]; simp_all [nameC]; done)
                 have hx := ext_ok (n := 1) (f := fun i => nameC (i == 0)) hp Hall.out ⟨hgood, rfl⟩
                 clear hgood hk1
                 go_round
                 case rel => exact ⟨k + 1, by omega, hx.1, by go_num, hx.2⟩
                 case measure => simp [intOf]; omega)
        · go_wp2
          go_ret
          refine ⟨retb (Eq.trans ?_ (all_yes s (fun i => nameC (i == 0)) _ (fun i h => Hall.out i h (by omega))).symm), Below.refl _ _⟩
          simp; omega
    · have hb' : smallI (s[0].toNat : Int) = false := by simpa using hb
      clear hb
      have hf := Lib.hid (all_no s (fun i => nameC (i == 0)) (decide (1 ≤ s.size) && decide (s.size ≤ 24)) 0 h1 (by simp [nameC, hb']))
      go_enter Try.func55, Try.ntmps55
      go_wp2_with (go_at_call 70; refine (rsmall_any _ _).mono ?_; rintro e w' ⟨rfl, rfl⟩)
      go_ret
      exact ⟨retb hf.out.symm, Below.refl _ _⟩

/-- One step of the hash, and the hash of the first k bytes. -/
def fnv (h b : Int) : Int := IntKind.u64.wrap (bits BinOp.xor IntKind.u64 h (IntKind.u64.wrap b) * 1099511628211)
def sumTo (s : ByteArray) : Nat → Int
  | 0 => 14695981039346656037
  | k + 1 => fnv (sumTo s k) (s.get! k).toNat
def sumI (s : ByteArray) : Int := sumTo s s.size

theorem sumTo_succ (s : ByteArray) (k : Nat) (h : k < s.size) : sumTo s (k + 1) = IntKind.u64.wrap (bits BinOp.xor IntKind.u64 (sumTo s k) (IntKind.u64.wrap s[k].toNat) * 1099511628211) := by
  simp only [sumTo, fnv]; rw [get_bang s k h]

theorem wrap_u64_range (n : Int) : 0 ≤ IntKind.u64.wrap n ∧ IntKind.u64.wrap n < 18446744073709551616 := by
  have h : IntKind.u64.wrap n = n % 18446744073709551616 := by simp [IntKind.wrap, IntKind.bits, IntKind.signed]
  rw [h]
  omega

theorem sumTo_range (s : ByteArray) (k : Nat) : 0 ≤ sumTo s k ∧ sumTo s k < 18446744073709551616 := by
  cases k with
  | zero => exact ⟨by simp only [sumTo]; omega, by simp only [sumTo]; omega⟩
  | succ k => exact wrap_u64_range _

set_option maxHeartbeats 1000000 in
theorem sum_any (s : ByteArray) (w : World) (hs : s.size ≤ maxLen) :
    Calls Try.prog 65 #[.string s] w fun e w' => e = .returned (.int .u64 (sumI s)) ∧ w = w' := by
  unfold maxLen at hs
  go_enter Try.func65, Try.ntmps65
  go_wp2
  go_loop [3, 7] (fun h i => ∃ k : Nat, k ≤ s.size ∧ i = .int .i64 k ∧ h = .int .u64 (sumTo s k)) (fun _ i => s.size - (intOf i).toNat)
  case atStart => exact ⟨0, Nat.zero_le _, rfl, rfl⟩
  case round =>
    obtain ⟨k, hk, rfl, rfl⟩ := hrel
    by_cases hp : k < s.size
    · go_wp2
      go_round
      case rel => exact ⟨k + 1, by omega, by go_num, by rw [sumTo_succ s k hp]⟩
      case measure => simp [intOf]; omega
    · go_wp2
      go_ret
      obtain rfl : k = s.size := by omega
      exact ⟨rfl, rfl⟩

set_option maxHeartbeats 1000000 in
theorem rsum_any (s : ByteArray) (w : World) (hs : s.size ≤ maxLen) :
    Calls Try.prog 67 #[.string s] w fun e w' => e = .returned (.int .u64 (sumI s)) ∧ w = w' := by
  unfold maxLen at hs
  go_enter Try.func67, Try.ntmps67
  go_wp2
  go_loop [3, 4] (fun h i => ∃ k : Nat, k ≤ s.size ∧ i = .int .i64 k ∧ h = .int .u64 (sumTo s k)) (fun _ i => s.size - (intOf i).toNat)
  case atStart => exact ⟨0, Nat.zero_le _, rfl, rfl⟩
  case round =>
    obtain ⟨k, hk, rfl, rfl⟩ := hrel
    by_cases hp : k < s.size
    · go_wp2
      go_round
      case rel => exact ⟨k + 1, by omega, by go_num, by rw [sumTo_succ s k hp]⟩
      case measure => simp [intOf]; omega
    · go_wp2
      go_ret
      obtain rfl : k = s.size := by omega
      exact ⟨rfl, rfl⟩

theorem sumI_range (s : ByteArray) : 0 ≤ sumI s ∧ sumI s < 18446744073709551616 := sumTo_range s s.size

def bucketI (s : ByteArray) : Int := sumI s % 1000
theorem bucketI_range (s : ByteArray) : 0 ≤ bucketI s ∧ bucketI s < 1000 := by unfold bucketI; omega

set_option maxHeartbeats 1000000 in
theorem bucket_any (s : ByteArray) (w : World) (hs : s.size ≤ maxLen) :
    Calls Try.prog 47 #[.string s, .int .i64 1000] w fun e w' => e = .returned (.tuple #[.int .i64 (bucketI s), .int .i64 0]) ∧ w = w' := by
  obtain ⟨hr0, hr1⟩ := sumI_range s
  go_enter Try.func47, Try.ntmps47
  go_wp2_with (go_at_call 65; refine (sum_any _ _ hs).mono ?_; rintro e w' ⟨rfl, rfl⟩)
  go_ret2
  exact ⟨rfl, rfl⟩

set_option maxHeartbeats 1000000 in
theorem rbucket_any (s : ByteArray) (w : World) (hs : s.size ≤ maxLen) :
    Calls Try.prog 49 #[.string s, .int .i64 1000] w fun e w' => e = .returned (.tuple #[.int .i64 (bucketI s), .int .i64 0]) ∧ w = w' := by
  obtain ⟨hr0, hr1⟩ := sumI_range s
  go_enter Try.func49, Try.ntmps49
  go_wp2_with (go_at_call 67; refine (rsum_any _ _ hs).mono ?_; rintro e w' ⟨rfl, rfl⟩)
  go_ret2
  exact ⟨rfl, rfl⟩

end Go.Proofs.Ytppkkonhfkegoaa
