/-
  Contract of faasref05.Same.
-/
import Derived.Test.YtffecbepmlaekaaOver
namespace Go.Proofs.Ytffecbepmlaekaa
open Go.RowKit

theorem retbS {a b : Bool} (h : a = b) : Ending.returned (.bool a) = .returned (.bool b) := by rw [h]

theorem str_beq (s t : ByteArray) : (s.toList == t.toList) = decide (s = t) := by
  rw [Bool.eq_iff_iff]
  simp only [beq_iff_eq, decide_eq_true_eq]
  constructor
  · intro h
    rw [ByteArray.toList_eq, ByteArray.toList_eq] at h
    cases s; cases t
    simp only [ByteArray.mk.injEq]
    exact Array.toList_inj.1 h
  · intro h; rw [h]

theorem take_eq_step {xs ys : List ByteArray} {k : Nat} {s t : ByteArray} (hs : xs[k]? = some s) (ht : ys[k]? = some t) (h : xs.take k = ys.take k) (hst : s = t) : xs.take (k + 1) = ys.take (k + 1) := by
  rw [List.take_add_one, List.take_add_one, hs, ht, h, hst]

set_option maxHeartbeats 1000000 in
theorem same_any (A B : Option Addr) (n m ca cb : Nat) (xs ys : List ByteArray) (w : World) (ha : Rd w w.heap.size 1 A n (xs.map Value.string)) (hb : Rd w w.heap.size 1 B m (ys.map Value.string)) (hm : n ≤ maxLen) :
    Calls Try.prog 23 #[.slice A n ca, .slice B m cb] w fun e w' => e = .returned (.bool (decide (xs = ys))) ∧ Below w.heap.size w w' := by
  have hx : xs.length = n := by have := ha.len; simpa using this
  have hy : ys.length = m := by have := hb.len; simpa using this
  unfold maxLen at hm
  have Ha := Lib.hid ha; clear ha
  have Hb := Lib.hid hb; clear hb
  have Hx := Lib.hid hx; clear hx
  have Hy := Lib.hid hy; clear hy
  by_cases hnm : n = m
  · subst hnm
    go_enter Try.func23, Try.ntmps23
    go_wp2
    go_loopw [5] (fun i wr => ∃ k : Nat, k ≤ n ∧ i = .int .i64 k ∧ xs.take k = ys.take k ∧ Below w.heap.size w wr) (fun i _ => n - (intOf i).toNat)
    case atStart => exact ⟨0, Nat.zero_le _, rfl, by simp, Below.refl _ _⟩
    case round =>
      obtain ⟨k, hk, rfl, heq, hbw⟩ := hrel
      have Heq := Lib.hid heq; clear heq
      by_cases hlt : k < n
      · obtain ⟨b, o, u, rfl, hbB, hu, hcell⟩ := (Ha.out.below hbw).one hlt
        obtain ⟨b', o', u', rfl, hbB', hu', hcell'⟩ := (Hb.out.below hbw).one hlt
        obtain ⟨s, hs, rfl⟩ : ∃ s, xs[k]? = some s ∧ u = .string s := by
          rw [List.getElem?_map] at hu
          obtain ⟨s, h1, h2⟩ := Option.map_eq_some_iff.1 hu
          exact ⟨s, h1, h2.symm⟩
        obtain ⟨t, ht, rfl⟩ : ∃ t, ys[k]? = some t ∧ u' = .string t := by
          rw [List.getElem?_map] at hu'
          obtain ⟨s, h1, h2⟩ := Option.map_eq_some_iff.1 hu'
          exact ⟨s, h1, h2.symm⟩
        have Hs := Lib.hid hs; clear hs hu
        have Ht := Lib.hid ht; clear ht hu'
        go_wp2
        go_quiet (fail)
        go_wp2
        · have hne : ¬ s = t := by
            intro h
            have h2 := str_beq s t
            simp_all
          have hd : decide (xs = ys) = false := by
            simp only [decide_eq_false_iff_not]
            intro h
            have h1 := Hs.out
            rw [h, Ht.out] at h1
            injection h1 with h1
            exact hne h1.symm
          go_ret
          exact ⟨retbS hd.symm, hbw.trans ⟨rfl, rfl, rfl, Nat.le_refl _, fun _ _ => rfl⟩⟩
        · have hst : s = t := by
            have h2 := str_beq s t
            simp_all
          have hn' := take_eq_step Hs.out Ht.out Heq.out hst
          clear hst
          go_roundw
          case rel => exact ⟨k + 1, by omega, by go_num, hn', hbw.trans ⟨rfl, rfl, rfl, Nat.le_refl _, fun _ _ => rfl⟩⟩
          case measure => simp [intOf]; omega
      · obtain rfl : k = n := by omega
        have hd : decide (xs = ys) = true := by
          have h := Heq.out
          rw [List.take_of_length_le (by rw [Hx.out]; exact Nat.le_refl _), List.take_of_length_le (by rw [Hy.out]; exact Nat.le_refl _)] at h
          simp [h]
        have Hd := Lib.hid hd; clear hd
        go_wp2
        go_ret
        exact ⟨retbS Hd.out.symm, hbw⟩
  · have hd : decide (xs = ys) = false := by
      simp; intro h; subst h; have := Hx.out; have := Hy.out; omega
    rw [hd]; clear hd
    have hnm' : ((n : Int) != m) = true := by simp; omega
    go_enter Try.func23, Try.ntmps23
    go_wp2
    go_ret
    exact ⟨rfl, Below.refl _ _⟩

end Go.Proofs.Ytffecbepmlaekaa
