/- Texts joined by pack.py: XCd1 XCd2 XCd46 -/
import Derived.Test.YtkpmlgpkmlhbjaaGreatDoorCp20
import Derived.Test.YtkpmlgpkmlhbjaaGreatDoorCp17
import Derived.Test.YtkpmlgpkmlhbjaaGreatDoorCp21
import Derived.Test.YtkpmlgpkmlhbjaaGreatDoorCp22
import Derived.Test.YtkpmlgpkmlhbjaaGreatDoorCp32
namespace Go.Proofs.YtkpmlgpkmlhbjaaGreatDoor
open Go.RowKit
def mag (l : Bs) : Bs := if l.head? = some 45 then l.drop 1 else l
def neg (l : Bs) : Bool := l.head? == some 45
def decG (l : Bs) : Bool := !(mag l).isEmpty && (mag l).all isDg && !((mag l).head? == some 48 && l != [48])
def pnumG (l : Bs) : Int × Int := if decG l = false then (0, 1) else if dval (mag l) 0 > 1000000000000 then (0, 2) else (if neg l then -(dval (mag l) 0 : Int) else (dval (mag l) 0 : Int), 0)
theorem dgF {c : UInt8} (h : (c.toNat : Int) < 48 ∨ (c.toNat : Int) > 57) : isDg c = false := by
  rw [isDg_int]; simp; omega
theorem dgT {c : UInt8} (h : ¬ (c.toNat : Int) < 48) (h' : ¬ (c.toNat : Int) > 57) : isDg c = true := by
  rw [isDg_int]; simp; omega
theorem mag_neg (r : Bs) : mag (45 :: r) = r := rfl
theorem mag_pos {l : Bs} (h : l.head? ≠ some 45) : mag l = l := by unfold mag; rw [if_neg h]
theorem head_at {d : Bs} (h : 0 < d.length) : d.head? = some d[0] := by cases d with
  | nil => simp at h
  | cons c r => rfl
theorem eq45 {c : UInt8} {b : Bool} (h : ((c.toNat : Int) == 45) = b) : (c == 45) = b := by rw [← h, u8_eq]; rfl
theorem eq48 {c : UInt8} {b : Bool} (h : ((c.toNat : Int) == 48) = b) : (c == 48) = b := by rw [← h, u8_eq]; rfl
theorem sNil {d : Bs} {b : Bool} (h : sEq (mk d) (mk []) = b) : d.isEmpty = b := by rw [sEq_mk] at h; rw [← h]; cases d <;> rfl
set_option maxHeartbeats 1000000 in
set_option maxRecDepth 100000 in
theorem x_decimalG (l : Bs) (hl : l.length ≤ 281474976710656) : DCalls Tryz.prog 134 [bstr l] (boo (decG l)) := by
  refine sx Tryz.func134 (by kernel_rfl) ?_
  conv => whnf
  rintro (_ | _) h0
  · have h0 : l = [] := by simp [mk_size] at h0; first | exact h0 | exact List.eq_nil_of_length_eq_zero (by omega)
    subst h0
    conv => whnf
    refine known true (show sEq (mk []) (mk []) = true by rw [sEq_mk]; rfl) ?_
    conv => whnf
    exact fin_boo rfl
  have h0 : 0 < l.length := by simp [mk_size] at h0; omega
  conv => whnf
  refine ⟨by omega, _, mk_at h0, ?_⟩
  conv => whnf
  rintro (_ | _) h1
  · have hp : l.head? ≠ some 45 := by rw [head_at h0]; have := eq45 h1; simpa using this
    have hm := mag_pos hp
    conv => whnf
    refine known false (show sEq (mk l) (mk []) = false by rw [sEq_mk]; cases l with
      | nil => simp at h0
      | cons c r => rfl) ?_
    conv => whnf
    refine ⟨by omega, _, mk_at h0, ?_⟩
    conv => whnf
    rintro (_ | _) h2
    · have h48 := eq48 h2
      have hB : decG l = l.all isDg := by
        unfold decG; rw [hm, head_at h0]
        have : l.isEmpty = false := by cases l <;> simp at h0 ⊢
        have h48 : l[0] ≠ 48 := by simpa using h48
        simp [this, h48]
      conv => whnf
      refine ⟨[], Nat, fun k => [(29, int k)], fun _ => [], fun k => k ≤ l.length ∧ (l.drop k).all isDg = l.all isDg, fun k => l.length - k, 0, ⟨Nat.zero_le _, rfl⟩, ?_, ?_⟩
      · refine ⟨rfl, ?_, ?_⟩ <;> repeat' (first | exact trivial | exact rfl | refine and_rfl ?_ | refine and_two ?_ ?_)
      rintro k ⟨hk1, hk⟩
      conv => whnf
      rintro (_ | _) h2
      · have h2 : l.length ≤ k := by simp [mk_size] at h2; omega
        rw [List.drop_eq_nil_of_le h2] at hk
        conv => whnf
        exact fin_boo (by rw [hB, ← hk]; rfl)
      have h2 : k < l.length := by simp [mk_size] at h2; omega
      rw [drop_cons h2, List.all_cons] at hk
      conv => whnf
      refine ⟨by omega, _, mk_at h2, ?_⟩
      conv => whnf
      rintro (_ | _) h3
      rotate_left
      · have h3 : (l[k].toNat : Int) < 48 := by simpa using h3
        conv => whnf
        exact fin_boo (by rw [hB, ← hk, dgF (.inl h3)]; rfl)
      have h3 : ¬ (l[k].toNat : Int) < 48 := by simpa using h3
      conv => whnf
      refine ⟨by omega, _, mk_at h2, ?_⟩
      conv => whnf
      rintro (_ | _) h4
      rotate_left
      · have h4 : (l[k].toNat : Int) > 57 := by simpa using h4
        conv => whnf
        exact fin_boo (by rw [hB, ← hk, dgF (.inr h4)]; rfl)
      have h4 : ¬ (l[k].toNat : Int) > 57 := by simpa using h4
      rw [dgT h3 h4, Bool.true_and] at hk
      conv => whnf
      refine ⟨k + 1, ⟨h2, hk⟩, by dsimp only; omega, ?_⟩
      refine ⟨rfl, ?_, ?_⟩ <;> repeat' (first | exact trivial | exact rfl | refine and_rfl ?_ | refine and_val (wrap_succ (by omega)) ?_ | refine and_two ?_ ?_)
    have h48 := eq48 h2
    conv => whnf
    rintro (_ | _) h3
    rotate_left
    · have h3 : (!sEq (mk l) (mk [48])) = true := h3
      rw [sEq_mk] at h3
      conv => whnf
      exact fin_boo (by
        unfold decG; rw [hm, head_at h0]
        have h48 : l[0] = 48 := by simpa using h48
        have h3 : l ≠ [48] := by simpa using h3
        simp [h48, h3])
    have h3 : (!sEq (mk l) (mk [48])) = false := h3
    rw [sEq_mk] at h3
    have hB : decG l = l.all isDg := by
      have h3 : l = [48] := by simpa using h3
      rw [h3]; rfl
    conv => whnf
    refine ⟨[], Nat, fun k => [(29, int k)], fun _ => [], fun k => k ≤ l.length ∧ (l.drop k).all isDg = l.all isDg, fun k => l.length - k, 0, ⟨Nat.zero_le _, rfl⟩, ?_, ?_⟩
    · refine ⟨rfl, ?_, ?_⟩ <;> repeat' (first | exact trivial | exact rfl | refine and_rfl ?_ | refine and_two ?_ ?_)
    rintro k ⟨hk1, hk⟩
    conv => whnf
    rintro (_ | _) h2
    · have h2 : l.length ≤ k := by simp [mk_size] at h2; omega
      rw [List.drop_eq_nil_of_le h2] at hk
      conv => whnf
      exact fin_boo (by rw [hB, ← hk]; rfl)
    have h2 : k < l.length := by simp [mk_size] at h2; omega
    rw [drop_cons h2, List.all_cons] at hk
    conv => whnf
    refine ⟨by omega, _, mk_at h2, ?_⟩
    conv => whnf
    rintro (_ | _) h3
    rotate_left
    · have h3 : (l[k].toNat : Int) < 48 := by simpa using h3
      conv => whnf
      exact fin_boo (by rw [hB, ← hk, dgF (.inl h3)]; rfl)
    have h3 : ¬ (l[k].toNat : Int) < 48 := by simpa using h3
    conv => whnf
    refine ⟨by omega, _, mk_at h2, ?_⟩
    conv => whnf
    rintro (_ | _) h4
    rotate_left
    · have h4 : (l[k].toNat : Int) > 57 := by simpa using h4
      conv => whnf
      exact fin_boo (by rw [hB, ← hk, dgF (.inr h4)]; rfl)
    have h4 : ¬ (l[k].toNat : Int) > 57 := by simpa using h4
    rw [dgT h3 h4, Bool.true_and] at hk
    conv => whnf
    refine ⟨k + 1, ⟨h2, hk⟩, by dsimp only; omega, ?_⟩
    refine ⟨rfl, ?_, ?_⟩ <;> repeat' (first | exact trivial | exact rfl | refine and_rfl ?_ | refine and_val (wrap_succ (by omega)) ?_ | refine and_two ?_ ?_)
  have h45 : l[0] = 45 := by have := eq45 h1; simpa using this
  obtain ⟨d, hd⟩ : ∃ d, l = 45 :: d := by
    cases l with
    | nil => simp at h0
    | cons c r => exact ⟨r, by simp at h45; rw [h45]⟩
  subst hd
  simp only [List.length_cons] at hl
  conv => whnf
  refine ⟨by omega, by rw [mk_size, List.length_cons]; omega, by omega, ?_⟩
  rw [show (mk (45 :: d)).extract (Int.toNat 1) (((mk (45 :: d)).size : Nat) : Int).toNat = mk d from mk_fromI (45 :: d) 1]
  conv => whnf
  rintro (_ | _) h2
  rotate_left
  · conv => whnf
    exact fin_boo (by unfold decG; rw [mag_neg, sNil h2]; rfl)
  have hne : d.isEmpty = false := sNil h2
  have hd0 : 0 < d.length := by cases d <;> simp at hne ⊢
  conv => whnf
  refine ⟨by omega, _, mk_at hd0, ?_⟩
  conv => whnf
  rintro (_ | _) h3
  rotate_left
  · have h48 : d[0] = 48 := by have := eq48 h3; simpa using this
    conv => whnf
    refine known true (show (!sEq (mk (45 :: d)) (mk [48])) = true by rw [sEq_mk]; rfl) ?_
    conv => whnf
    exact fin_boo (by unfold decG; rw [mag_neg, head_at hd0, h48]; simp)
  have h48 : d[0] ≠ 48 := by have := eq48 h3; simpa using this
  have hB : decG (45 :: d) = d.all isDg := by
    unfold decG; rw [mag_neg, head_at hd0, hne]; simp [h48]
  conv => whnf
  refine ⟨[], Nat, fun k => [(29, int k)], fun _ => [], fun k => k ≤ d.length ∧ (d.drop k).all isDg = d.all isDg, fun k => d.length - k, 0, ⟨Nat.zero_le _, rfl⟩, ?_, ?_⟩
  · refine ⟨rfl, ?_, ?_⟩ <;> repeat' (first | exact trivial | exact rfl | refine and_rfl ?_ | refine and_two ?_ ?_)
  rintro k ⟨hk1, hk⟩
  conv => whnf
  rintro (_ | _) h2
  · have h2 : d.length ≤ k := by simp [mk_size] at h2; omega
    rw [List.drop_eq_nil_of_le h2] at hk
    conv => whnf
    exact fin_boo (by rw [hB, ← hk]; rfl)
  have h2 : k < d.length := by simp [mk_size] at h2; omega
  rw [drop_cons h2, List.all_cons] at hk
  conv => whnf
  refine ⟨by omega, _, mk_at h2, ?_⟩
  conv => whnf
  rintro (_ | _) h3
  rotate_left
  · have h3 : (d[k].toNat : Int) < 48 := by simpa using h3
    conv => whnf
    exact fin_boo (by rw [hB, ← hk, dgF (.inl h3)]; rfl)
  have h3 : ¬ (d[k].toNat : Int) < 48 := by simpa using h3
  conv => whnf
  refine ⟨by omega, _, mk_at h2, ?_⟩
  conv => whnf
  rintro (_ | _) h4
  rotate_left
  · have h4 : (d[k].toNat : Int) > 57 := by simpa using h4
    conv => whnf
    exact fin_boo (by rw [hB, ← hk, dgF (.inr h4)]; rfl)
  have h4 : ¬ (d[k].toNat : Int) > 57 := by simpa using h4
  rw [dgT h3 h4, Bool.true_and] at hk
  conv => whnf
  refine ⟨k + 1, ⟨h2, hk⟩, by dsimp only; omega, ?_⟩
  refine ⟨rfl, ?_, ?_⟩ <;> repeat' (first | exact trivial | exact rfl | refine and_rfl ?_ | refine and_val (wrap_succ (by omega)) ?_ | refine and_two ?_ ?_)
set_option maxHeartbeats 1000000 in
set_option maxRecDepth 100000 in
theorem x_formG (l : Bs) (hl : l.length ≤ 281474976710656) : DCalls Tryz.prog 136 [bstr l] (boo (decG l)) := by
  refine sx Tryz.func136 (by kernel_rfl) ?_
  conv => whnf
  rintro (_ | _) h0
  · have h0 : l = [] := by simp [mk_size] at h0; first | exact h0 | exact List.eq_nil_of_length_eq_zero (by omega)
    subst h0
    conv => whnf
    refine known true rfl ?_
    conv => whnf
    exact fin_boo rfl
  have h0 : 0 < l.length := by simp [mk_size] at h0; omega
  conv => whnf
  refine ⟨by omega, _, mk_at h0, ?_⟩
  conv => whnf
  rintro (_ | _) h1
  · have hp : l.head? ≠ some 45 := by rw [head_at h0]; have := eq45 h1; simpa using this
    have hm := mag_pos hp
    conv => whnf
    refine known false (by rw [mk_size]; exact beq_false_of_ne (by omega)) ?_
    conv => whnf
    rintro (_ | _) h2
    · have h2 : l.length = 1 := by simp [mk_size] at h2; omega
      have hB : decG l = l.all isDg := by
        obtain ⟨c, rfl⟩ := List.length_eq_one_iff.1 h2
        unfold decG; rw [hm]; by_cases e : c = 48 <;> simp [e]
      conv => whnf
      refine ⟨[], Nat, fun k => [(39, int k)], fun _ => [], fun k => k ≤ l.length ∧ (l.drop k).all isDg = l.all isDg, fun k => l.length - k, 0, ⟨Nat.zero_le _, rfl⟩, ?_, ?_⟩
      · refine ⟨rfl, ?_, ?_⟩ <;> repeat' (first | exact trivial | exact rfl | refine and_rfl ?_ | refine and_two ?_ ?_)
      rintro k ⟨hk1, hk⟩
      conv => whnf
      rintro (_ | _) h2
      · have h2 : l.length ≤ k := by simp [mk_size] at h2; omega
        rw [List.drop_eq_nil_of_le h2] at hk
        conv => whnf
        exact fin_boo (by rw [hB, ← hk]; rfl)
      have h2 : k < l.length := by simp [mk_size] at h2; omega
      rw [drop_cons h2, List.all_cons] at hk
      conv => whnf
      refine ⟨by omega, _, mk_at h2, ?_⟩
      conv => whnf
      rintro (_ | _) h3
      rotate_left
      · have h3 : (l[k].toNat : Int) < 48 := by simpa using h3
        conv => whnf
        exact fin_boo (by rw [hB, ← hk, dgF (.inl h3)]; rfl)
      have h3 : ¬ (l[k].toNat : Int) < 48 := by simpa using h3
      conv => whnf
      refine ⟨by omega, _, mk_at h2, ?_⟩
      conv => whnf
      rintro (_ | _) h4
      rotate_left
      · have h4 : (l[k].toNat : Int) > 57 := by simpa using h4
        conv => whnf
        exact fin_boo (by rw [hB, ← hk, dgF (.inr h4)]; rfl)
      have h4 : ¬ (l[k].toNat : Int) > 57 := by simpa using h4
      rw [dgT h3 h4, Bool.true_and] at hk
      conv => whnf
      refine ⟨k + 1, ⟨h2, hk⟩, by dsimp only; omega, ?_⟩
      refine ⟨rfl, ?_, ?_⟩ <;> repeat' (first | exact trivial | exact rfl | refine and_rfl ?_ | refine and_val (wrap_succ (by omega)) ?_ | refine and_two ?_ ?_)
    have h2 : 1 < l.length := by simp [mk_size] at h2; omega
    conv => whnf
    refine ⟨by omega, _, mk_at h0, ?_⟩
    conv => whnf
    rintro (_ | _) h3
    rotate_left
    · have h48 : l[0] = 48 := by have := eq48 h3; simpa using this
      conv => whnf
      exact fin_boo (by
        unfold decG; rw [hm, head_at h0, h48]
        have : l ≠ [48] := by intro e; rw [e] at h2; simp at h2
        simp [this])
    have hB : decG l = l.all isDg := by
      have h48 : l[0] ≠ 48 := by have := eq48 h3; simpa using this
      have : l.isEmpty = false := by cases l <;> simp at h0 ⊢
      unfold decG; rw [hm, head_at h0]
      simp [this, h48]
    conv => whnf
    refine ⟨[], Nat, fun k => [(39, int k)], fun _ => [], fun k => k ≤ l.length ∧ (l.drop k).all isDg = l.all isDg, fun k => l.length - k, 0, ⟨Nat.zero_le _, rfl⟩, ?_, ?_⟩
    · refine ⟨rfl, ?_, ?_⟩ <;> repeat' (first | exact trivial | exact rfl | refine and_rfl ?_ | refine and_two ?_ ?_)
    rintro k ⟨hk1, hk⟩
    conv => whnf
    rintro (_ | _) h2
    · have h2 : l.length ≤ k := by simp [mk_size] at h2; omega
      rw [List.drop_eq_nil_of_le h2] at hk
      conv => whnf
      exact fin_boo (by rw [hB, ← hk]; rfl)
    have h2 : k < l.length := by simp [mk_size] at h2; omega
    rw [drop_cons h2, List.all_cons] at hk
    conv => whnf
    refine ⟨by omega, _, mk_at h2, ?_⟩
    conv => whnf
    rintro (_ | _) h3
    rotate_left
    · have h3 : (l[k].toNat : Int) < 48 := by simpa using h3
      conv => whnf
      exact fin_boo (by rw [hB, ← hk, dgF (.inl h3)]; rfl)
    have h3 : ¬ (l[k].toNat : Int) < 48 := by simpa using h3
    conv => whnf
    refine ⟨by omega, _, mk_at h2, ?_⟩
    conv => whnf
    rintro (_ | _) h4
    rotate_left
    · have h4 : (l[k].toNat : Int) > 57 := by simpa using h4
      conv => whnf
      exact fin_boo (by rw [hB, ← hk, dgF (.inr h4)]; rfl)
    have h4 : ¬ (l[k].toNat : Int) > 57 := by simpa using h4
    rw [dgT h3 h4, Bool.true_and] at hk
    conv => whnf
    refine ⟨k + 1, ⟨h2, hk⟩, by dsimp only; omega, ?_⟩
    refine ⟨rfl, ?_, ?_⟩ <;> repeat' (first | exact trivial | exact rfl | refine and_rfl ?_ | refine and_val (wrap_succ (by omega)) ?_ | refine and_two ?_ ?_)
  have h45 : l[0] = 45 := by have := eq45 h1; simpa using this
  obtain ⟨d, hd⟩ : ∃ d, l = 45 :: d := by
    cases l with
    | nil => simp at h0
    | cons c r => exact ⟨r, by simp at h45; rw [h45]⟩
  subst hd
  simp only [List.length_cons] at hl
  conv => whnf
  refine ⟨by omega, by rw [mk_size, List.length_cons]; omega, by omega, ?_⟩
  rw [show (mk (45 :: d)).extract (Int.toNat 1) (((mk (45 :: d)).size : Nat) : Int).toNat = mk d from mk_fromI (45 :: d) 1]
  conv => whnf
  rintro (_ | _) h2
  · have h2 : d = [] := by simp [mk_size] at h2; first | exact h2 | exact List.eq_nil_of_length_eq_zero (by omega)
    subst h2
    conv => whnf
    refine known true rfl ?_
    conv => whnf
    exact fin_boo rfl
  have hd0 : 0 < d.length := by simp [mk_size] at h2; omega
  conv => whnf
  refine ⟨by omega, _, mk_at hd0, ?_⟩
  conv => whnf
  rintro (_ | _) h3
  rotate_left
  · have h48 : d[0] = 48 := by have := eq48 h3; simpa using this
    conv => whnf
    exact fin_boo (by unfold decG; rw [mag_neg, head_at hd0, h48]; simp)
  have h48 : d[0] ≠ 48 := by have := eq48 h3; simpa using this
  have hne : d.isEmpty = false := by cases d <;> simp at hd0 ⊢
  have hB : decG (45 :: d) = d.all isDg := by
    unfold decG; rw [mag_neg, head_at hd0, hne]; simp [h48]
  conv => whnf
  refine known false (by rw [mk_size]; exact beq_false_of_ne (by omega)) ?_
  conv => whnf
  rintro (_ | _) h4
  · conv => whnf
    refine ⟨[], Nat, fun k => [(39, int k)], fun _ => [], fun k => k ≤ d.length ∧ (d.drop k).all isDg = d.all isDg, fun k => d.length - k, 0, ⟨Nat.zero_le _, rfl⟩, ?_, ?_⟩
    · refine ⟨rfl, ?_, ?_⟩ <;> repeat' (first | exact trivial | exact rfl | refine and_rfl ?_ | refine and_two ?_ ?_)
    rintro k ⟨hk1, hk⟩
    conv => whnf
    rintro (_ | _) h2
    · have h2 : d.length ≤ k := by simp [mk_size] at h2; omega
      rw [List.drop_eq_nil_of_le h2] at hk
      conv => whnf
      exact fin_boo (by rw [hB, ← hk]; rfl)
    have h2 : k < d.length := by simp [mk_size] at h2; omega
    rw [drop_cons h2, List.all_cons] at hk
    conv => whnf
    refine ⟨by omega, _, mk_at h2, ?_⟩
    conv => whnf
    rintro (_ | _) h3
    rotate_left
    · have h3 : (d[k].toNat : Int) < 48 := by simpa using h3
      conv => whnf
      exact fin_boo (by rw [hB, ← hk, dgF (.inl h3)]; rfl)
    have h3 : ¬ (d[k].toNat : Int) < 48 := by simpa using h3
    conv => whnf
    refine ⟨by omega, _, mk_at h2, ?_⟩
    conv => whnf
    rintro (_ | _) h4
    rotate_left
    · have h4 : (d[k].toNat : Int) > 57 := by simpa using h4
      conv => whnf
      exact fin_boo (by rw [hB, ← hk, dgF (.inr h4)]; rfl)
    have h4 : ¬ (d[k].toNat : Int) > 57 := by simpa using h4
    rw [dgT h3 h4, Bool.true_and] at hk
    conv => whnf
    refine ⟨k + 1, ⟨h2, hk⟩, by dsimp only; omega, ?_⟩
    refine ⟨rfl, ?_, ?_⟩ <;> repeat' (first | exact trivial | exact rfl | refine and_rfl ?_ | refine and_val (wrap_succ (by omega)) ?_ | refine and_two ?_ ?_)
  conv => whnf
  refine ⟨by omega, _, mk_at hd0, ?_⟩
  conv => whnf
  refine known false h3 ?_
  conv => whnf
  refine ⟨[], Nat, fun k => [(39, int k)], fun _ => [], fun k => k ≤ d.length ∧ (d.drop k).all isDg = d.all isDg, fun k => d.length - k, 0, ⟨Nat.zero_le _, rfl⟩, ?_, ?_⟩
  · refine ⟨rfl, ?_, ?_⟩ <;> repeat' (first | exact trivial | exact rfl | refine and_rfl ?_ | refine and_two ?_ ?_)
  rintro k ⟨hk1, hk⟩
  conv => whnf
  rintro (_ | _) h2
  · have h2 : d.length ≤ k := by simp [mk_size] at h2; omega
    rw [List.drop_eq_nil_of_le h2] at hk
    conv => whnf
    exact fin_boo (by rw [hB, ← hk]; rfl)
  have h2 : k < d.length := by simp [mk_size] at h2; omega
  rw [drop_cons h2, List.all_cons] at hk
  conv => whnf
  refine ⟨by omega, _, mk_at h2, ?_⟩
  conv => whnf
  rintro (_ | _) h3
  rotate_left
  · have h3 : (d[k].toNat : Int) < 48 := by simpa using h3
    conv => whnf
    exact fin_boo (by rw [hB, ← hk, dgF (.inl h3)]; rfl)
  have h3 : ¬ (d[k].toNat : Int) < 48 := by simpa using h3
  conv => whnf
  refine ⟨by omega, _, mk_at h2, ?_⟩
  conv => whnf
  rintro (_ | _) h4
  rotate_left
  · have h4 : (d[k].toNat : Int) > 57 := by simpa using h4
    conv => whnf
    exact fin_boo (by rw [hB, ← hk, dgF (.inr h4)]; rfl)
  have h4 : ¬ (d[k].toNat : Int) > 57 := by simpa using h4
  rw [dgT h3 h4, Bool.true_and] at hk
  conv => whnf
  refine ⟨k + 1, ⟨h2, hk⟩, by dsimp only; omega, ?_⟩
  refine ⟨rfl, ?_, ?_⟩ <;> repeat' (first | exact trivial | exact rfl | refine and_rfl ?_ | refine and_val (wrap_succ (by omega)) ?_ | refine and_two ?_ ?_)
end Go.Proofs.YtkpmlgpkmlhbjaaGreatDoor
namespace Go.Proofs.YtkpmlgpkmlhbjaaGreatDoor
open Go.RowKit
theorem decG_digs {l : Bs} (h : decG l = true) : digs (mag l) := by
  unfold decG at h
  simp only [Bool.and_eq_true] at h
  refine ⟨?_, ?_⟩
  · intro e; rw [e] at h; simp at h
  · have := h.1.2; rw [List.all_eq_true] at this; exact this
def valG (l : Bs) : Int := if neg l then -(dval (mag l) 0 : Int) else (dval (mag l) 0 : Int)
theorem pnumG_eq (l : Bs) : pnumG l = if decG l = false then (0, 1) else if dval (mag l) 0 > 1000000000000 then (0, 2) else (valG l, 0) := rfl
theorem atoi_G {l : Bs} (h : decG l = true) : (Lib.atoiAll l = .ok (valG l) ∧ dval (mag l) 0 ≤ 9223372036854775808) ∨ (Lib.atoiAll l = .range ∧ 9223372036854775808 ≤ dval (mag l) 0) := by
  have hd := decG_digs h
  by_cases hn : l.head? = some 45
  · obtain ⟨d, rfl⟩ : ∃ d, l = 45 :: d := by
      cases l with
      | nil => simp at hn
      | cons c r => exact ⟨r, by simp at hn; rw [hn]⟩
    rw [mag_neg] at hd
    have hv : valG (45 :: d) = -(dval d 0 : Int) := rfl
    rw [hv, mag_neg]
    unfold Lib.atoiAll
    have h45 : (45 : UInt8).toNat = 45 := rfl
    simp only [h45, or_true, if_true]
    unfold Lib.parseMag
    have hne : d ≠ [] := hd.1
    rw [if_neg hne, parseUint_digs d 0 hd.2 (by omega)]
    by_cases h1 : dval d 0 < 18446744073709551616
    · rw [if_pos h1]
      by_cases h2 : 9223372036854775808 < dval d 0
      · right; simp [h2]; omega
      · left; simp [h2]; omega
    · rw [if_neg h1]; right; exact ⟨rfl, by omega⟩
  · have hm := mag_pos hn
    rw [hm] at hd ⊢
    have hv : valG l = (dval l 0 : Int) := by unfold valG neg; rw [hm]; simp [hn]
    rw [hv, atoi_digs l hd]
    by_cases h1 : dval l 0 < 9223372036854775808
    · rw [if_pos h1]; left; exact ⟨rfl, by omega⟩
    · rw [if_neg h1]; right; exact ⟨rfl, by omega⟩
theorem atoi_okG {l : Bs} (h : Lib.atoiAll l = .ok (valG l)) (hl : l.length ≤ 281474976710656) (w : World) :
    Calls Tryz.prog 135 #[.string (mk l)] w fun e w' => e = .returned (.tuple #[.int .i64 (valG l), .nilIface]) ∧ Below w.heap.size w w' := by
  refine (Tryz.strconv_Atoi_ok (mk l) (by rw [mk_size]; omega) (valG l) h w).mono ?_
  rintro e w' ⟨rfl, hw⟩
  refine ⟨rfl, ?_⟩
  rcases hw with rfl | ⟨t, rfl⟩
  · exact Below.refl _ _
  · exact Lib.bytesWorld_below _ _ _
theorem atoi_rangeG {l : Bs} (h : Lib.atoiAll l = .range) (hl : l.length ≤ 281474976710656) (w : World) (hg : ginv w) :
    Calls Tryz.prog 135 #[.string (mk l)] w fun e w' => ∃ n t N, e = .returned (.tuple #[.int .i64 n, .iface t (.pointer (some ⟨N, 0, none⟩))]) ∧ Below w.heap.size w w' := by
  obtain ⟨⟨ev, h1, h2⟩, _⟩ := hg
  refine (Tryz.strconv_Atoi_range (mk l) (by rw [mk_size]; omega) h ev w h1 h2).mono ?_
  rintro e w' ⟨N, rfl, _, _, hb⟩
  exact ⟨_, _, N, rfl, hb⟩
theorem valid_G (l : Bs) : validB (valG l) = decide (¬ dval (mag l) 0 > 1000000000000) := by
  unfold validB valG
  split <;> (rw [Bool.eq_iff_iff]; simp; omega)
set_option maxHeartbeats 4000000 in
theorem parse_anyG (l : Bs) (hl : l.length ≤ 281474976710656) (w : World) (hg : ginv w) :
    Calls Tryz.prog 108 #[.string (mk l)] w fun e w' => e = .returned (.tuple #[.int .i64 (pnumG l).1, .int .i64 (pnumG l).2]) ∧ Below w.heap.size w w' := by
  have c1 := (DCalls.vals (us := [.string (mk l)]) (x_decimalG l hl) hg)
  have hp := pnumG_eq l
  cases hd : decG l with
  | false =>
    rw [hd] at c1
    rw [if_pos hd] at hp
    rw [hp]
    clear hp
    go_enter Tryz.func108, Tryz.ntmps108
    go_wp2_with (go_at_call 134; refine c1.mono ?_; rintro e W1 ⟨rfl, hb1⟩)
    go_ret2
    exact ⟨rfl, hb1⟩
  | true =>
    rw [hd] at c1
    rw [if_neg (by rw [hd]; simp)] at hp
    rw [hp]
    clear hp
    rcases atoi_G hd with ⟨ha, hv⟩ | ⟨ha, hv⟩
    · have c2 := atoi_okG ha hl
      have c3 : ∀ W, ginv W → _ := fun W hW => DCalls.vals (us := [.int .i64 (valG l)]) (x_valid (valG l)) (w := W) hW
      rw [valid_G] at c3
      by_cases hm : dval (mag l) 0 > 1000000000000
      · rw [if_pos hm]
        rw [show decide (¬ dval (mag l) 0 > 1000000000000) = false by simpa using hm] at c3
        generalize valG l = v at *
        go_enter Tryz.func108, Tryz.ntmps108
        go_wp2_with (first
          | go_at_call 134; refine c1.mono ?_; rintro e W1 ⟨rfl, hb1⟩
          | go_at_call 135; refine (c2 _).mono ?_; rintro e W2 ⟨rfl, hb2⟩
          | go_at_call 118; refine (c3 _ (ginv_below (ginv_below hg (by assumption)) (by assumption))).mono ?_; rintro e W3 ⟨rfl, hb3⟩)
        go_ret2
        exact ⟨rfl, hb1.trans ((hb2.trans (hb3.mono hb2.size)).mono hb1.size)⟩
      · rw [if_neg hm]
        rw [show decide (¬ dval (mag l) 0 > 1000000000000) = true by simpa using hm] at c3
        generalize valG l = v at *
        go_enter Tryz.func108, Tryz.ntmps108
        go_wp2_with (first
          | go_at_call 134; refine c1.mono ?_; rintro e W1 ⟨rfl, hb1⟩
          | go_at_call 135; refine (c2 _).mono ?_; rintro e W2 ⟨rfl, hb2⟩
          | go_at_call 118; refine (c3 _ (ginv_below (ginv_below hg (by assumption)) (by assumption))).mono ?_; rintro e W3 ⟨rfl, hb3⟩)
        go_ret2
        exact ⟨rfl, hb1.trans ((hb2.trans (hb3.mono hb2.size)).mono hb1.size)⟩
    · have c2 := atoi_rangeG ha hl
      rw [if_pos (by omega)]
      go_enter Tryz.func108, Tryz.ntmps108
      go_wp2_with (first
        | go_at_call 134; refine c1.mono ?_; rintro e W1 ⟨rfl, hb1⟩
        | go_at_call 135; refine (c2 _ (ginv_below hg (by assumption))).mono ?_; rintro e W2 ⟨n, t, N, rfl, hb2⟩)
      go_ret2
      exact ⟨rfl, hb1.trans (hb2.mono hb1.size)⟩
abbrev numRV (p : Int × Int) : V := .tu [int p.1, int p.2]
theorem x_parseG (l : Bs) (hl : l.length ≤ 281474976710656) : DCalls Tryz.prog 108 [bstr l] (numRV (pnumG l)) :=
  dcalls_val Tryz.func108 (by kernel_rfl) (by kernel_rfl) rfl rfl fun w hg => parse_anyG l hl w hg
set_option maxHeartbeats 4000000 in
set_option maxRecDepth 100000 in
theorem x_rparseG (l : Bs) (hl : l.length ≤ 281474976710656) : DCalls Tryz.prog 110 [bstr l] (numRV (pnumG l)) := by
  have hp := pnumG_eq l
  refine sx Tryz.func110 (by kernel_rfl) ?_
  conv => whnf
  rintro (_ | _) h0
  · have h0 : l = [] := by simp [mk_size] at h0; first | exact h0 | exact List.eq_nil_of_length_eq_zero (by omega)
    subst h0
    rw [show pnumG [] = (0, 1) from rfl]
    conv => whnf
    refine ⟨_, x_formG [] hl, ?_⟩
    conv => whnf
    refine known true rfl ?_
    conv => whnf
  have h0 : 0 < l.length := by simp [mk_size] at h0; omega
  conv => whnf
  refine ⟨by omega, _, mk_at h0, ?_⟩
  conv => whnf
  refine ⟨_, x_formG l hl, ?_⟩
  conv => whnf
  rintro (_ | _) h1
  rotate_left
  · have h1 : decG l = false := by simpa using h1
    rw [if_pos h1] at hp
    rw [hp]
    conv => whnf
  have h1 : decG l = true := by simpa using h1
  have hd := decG_digs h1
  rw [if_neg (by rw [h1]; simp)] at hp
  by_cases hn : l.head? = some 45
  · obtain ⟨d, rfl⟩ : ∃ d, l = 45 :: d := by
      cases l with
      | nil => simp at hn
      | cons c r => exact ⟨r, by simp at hn; rw [hn]⟩
    rw [mag_neg] at hd
    rw [show valG (45 :: d) = -(dval d 0 : Int) from rfl, mag_neg] at hp
    simp only [List.length_cons] at hl
    conv => whnf
    refine ⟨[], Nat × Nat, fun ⟨k, v⟩ => [(20, int k), (5, int v)], fun _ => [], fun ⟨k, v⟩ => k ≤ d.length + 1 ∧ v ≤ 1000000000000 ∧ dval (d.drop (k - 1)) v = dval d 0, fun x => d.length + 1 - x.1, (0, 0), ⟨Nat.zero_le _, by omega, rfl⟩, ?_, ?_⟩
    · refine ⟨rfl, ?_, ?_⟩ <;> repeat' (first | exact trivial | exact rfl | refine and_rfl ?_ | refine and_two ?_ ?_)
    rintro ⟨k, v⟩ ⟨hk1, hv1, hk⟩
    conv => whnf
    rintro (_ | _) h2
    · simp [mk_size] at h2
      rw [List.drop_eq_nil_of_le (by omega)] at hk
      have hv : dval d 0 = v := hk.symm
      rw [if_neg (by omega), hv] at hp
      rw [hp]
      conv => whnf
      refine known true rfl ?_
      conv => whnf
      rw [show IntKind.i64.wrap (0 - (v : Int)) = -(v : Int) by rw [IntWalk.i64_in _ (by omega)]; omega]
    have h2 : k < (45 :: d).length := by simp only [mk_size] at h2; simp at h2 ⊢; omega
    conv => whnf
    refine ⟨by omega, _, mk_at h2, ?_⟩
    cases k with
    | zero =>
      conv => whnf
      refine known true rfl ?_
      conv => whnf
      refine ⟨(1, v), ⟨by omega, hv1, hk⟩, by dsimp only; omega, ?_⟩
      refine ⟨rfl, ?_, ?_⟩ <;> repeat' (first | exact trivial | exact rfl | refine and_rfl ?_ | refine and_val (wrap_succ (by omega)) ?_ | refine and_two ?_ ?_)
    | succ k =>
      have h3 : k < d.length := by simp at h2; omega
      have hdk := digs_at hd h3
      rw [show k + 1 - 1 = k by omega, drop_cons h3] at hk
      simp only [dval] at hk
      have he : (45 :: d)[k + 1] = d[k] := rfl
      rw [he]
      conv => whnf
      refine known false (beq_false_of_ne (by omega)) ?_
      conv => whnf
      refine ⟨by omega, _, mk_at h2, ?_⟩
      have hw : IntKind.i64.wrap (IntKind.i64.wrap (10 * (v : Int)) + IntKind.i64.wrap (IntKind.u8.wrap ((d[k].toNat : Int) - 48))) = ((10 * v + (d[k].toNat - 48) : Nat) : Int) := by
        rw [IntWalk.u8_in _ (by omega), IntWalk.i64_in (10 * (v : Int)) (by omega), IntWalk.i64_in ((d[k].toNat : Int) - 48) (by omega), IntWalk.i64_in _ (by omega)]; omega
      rw [he]
      conv => whnf
      rw [hw]
      have hge := dval_ge (d.drop (k + 1)) (10 * v + (d[k].toNat - 48))
      rintro (_ | _) h4
      rotate_left
      · simp at h4
        rw [if_pos (by omega)] at hp
        rw [hp]
        conv => whnf
      simp at h4
      conv => whnf
      refine ⟨(k + 1 + 1, 10 * v + (d[k].toNat - 48)), ⟨by omega, by omega, hk⟩, by dsimp only; omega, ?_⟩
      refine ⟨rfl, ?_, ?_⟩ <;> repeat' (first | exact trivial | exact rfl | refine and_rfl ?_ | refine and_val (wrap_succ (by omega)) ?_ | refine and_two ?_ ?_)
  have hm := mag_pos hn
  rw [hm] at hd hp
  rw [show valG l = (dval l 0 : Int) by unfold valG neg; rw [hm]; simp [hn]] at hp
  have h45 : ((l[0].toNat : Int) == 45) = false := by
    have := digs_at hd h0
    exact beq_false_of_ne (by omega)
  conv => whnf
  refine ⟨[], Nat × Nat, fun ⟨k, v⟩ => [(20, int k), (5, int v)], fun _ => [], fun ⟨k, v⟩ => k ≤ l.length ∧ v ≤ 1000000000000 ∧ dval (l.drop k) v = dval l 0, fun x => l.length - x.1, (0, 0), ⟨Nat.zero_le _, by omega, rfl⟩, ?_, ?_⟩
  · refine ⟨rfl, ?_, ?_⟩ <;> repeat' (first | exact trivial | exact rfl | refine and_rfl ?_ | refine and_two ?_ ?_)
  rintro ⟨k, v⟩ ⟨hk1, hv1, hk⟩
  conv => whnf
  rintro (_ | _) h2
  · simp [mk_size] at h2
    rw [List.drop_eq_nil_of_le h2] at hk
    have hv : dval l 0 = v := hk.symm
    rw [if_neg (by omega), hv] at hp
    rw [hp]
    conv => whnf
    refine known false h45 ?_
    conv => whnf
  have h2 : k < l.length := by simp only [mk_size] at h2; simp at h2 ⊢; omega
  have hdk := digs_at hd h2
  rw [drop_cons h2] at hk
  simp only [dval] at hk
  conv => whnf
  refine ⟨by omega, _, mk_at h2, ?_⟩
  conv => whnf
  refine known false (beq_false_of_ne (by omega)) ?_
  conv => whnf
  refine ⟨by omega, _, mk_at h2, ?_⟩
  have hw : IntKind.i64.wrap (IntKind.i64.wrap (10 * (v : Int)) + IntKind.i64.wrap (IntKind.u8.wrap ((l[k].toNat : Int) - 48))) = ((10 * v + (l[k].toNat - 48) : Nat) : Int) := by
    rw [IntWalk.u8_in _ (by omega), IntWalk.i64_in (10 * (v : Int)) (by omega), IntWalk.i64_in ((l[k].toNat : Int) - 48) (by omega), IntWalk.i64_in _ (by omega)]; omega
  conv => whnf
  rw [hw]
  have hge := dval_ge (l.drop (k + 1)) (10 * v + (l[k].toNat - 48))
  rintro (_ | _) h3
  rotate_left
  · simp at h3
    rw [if_pos (by omega)] at hp
    rw [hp]
    conv => whnf
  simp at h3
  conv => whnf
  refine ⟨(k + 1, 10 * v + (l[k].toNat - 48)), ⟨h2, by omega, hk⟩, by dsimp only; omega, ?_⟩
  refine ⟨rfl, ?_, ?_⟩ <;> repeat' (first | exact trivial | exact rfl | refine and_rfl ?_ | refine and_val (wrap_succ (by omega)) ?_ | refine and_two ?_ ?_)
end Go.Proofs.YtkpmlgpkmlhbjaaGreatDoor
namespace Go.Proofs.YtkpmlgpkmlhbjaaGreatDoor
open Go.RowKit
theorem dig_hd {d : Bs} (h : ∀ c ∈ d, isDg c = true) : d.head? ≠ some 45 := by
  cases d with
  | nil => simp
  | cons c r =>
    have h1 := dg_int (h c (by simp))
    intro e
    simp at e
    subst e
    exact absurd h1.1 (by decide)
theorem pnumG_nat (u : Nat) (h : u ≤ 1000000000000) : pnumG (Lib.decDigits u) = ((u : Int), 0) := by
  obtain ⟨h1, h2, h3⟩ := decDigits_all u
  have h4 := dig_hd h2
  have hm : mag (Lib.decDigits u) = Lib.decDigits u := by unfold mag; rw [if_neg h4]
  have hn : neg (Lib.decDigits u) = false := by unfold neg; simpa using h4
  have hd : decG (Lib.decDigits u) = true := by
    unfold decG
    rw [hm]
    have e1 : (Lib.decDigits u).isEmpty = false := by
      cases hx : Lib.decDigits u with
      | nil => exact absurd hx (decDigits_ne u)
      | cons a b => rfl
    have e2 : (Lib.decDigits u).all isDg = true := List.all_eq_true.2 h2
    rw [e1, e2]
    cases hq : ((Lib.decDigits u).head? == some 48) with
    | false => rfl
    | true =>
      have := h3 (by simpa using hq)
      subst this
      rw [decDigits_lt (by omega)]
      rfl
  unfold pnumG
  rw [hd, if_neg (by simp), hm, h1, if_neg (by omega), hn]
  rfl
theorem pnumG_neg (u : Nat) (h0 : 0 < u) (h : u ≤ 1000000000000) : pnumG (45 :: Lib.decDigits u) = (-(u : Int), 0) := by
  obtain ⟨h1, h2, h3⟩ := decDigits_all u
  have hm : mag (45 :: Lib.decDigits u) = Lib.decDigits u := by unfold mag; simp
  have hn : neg (45 :: Lib.decDigits u) = true := rfl
  have hd : decG (45 :: Lib.decDigits u) = true := by
    unfold decG
    rw [hm]
    have e1 : (Lib.decDigits u).isEmpty = false := by
      cases hx : Lib.decDigits u with
      | nil => exact absurd hx (decDigits_ne u)
      | cons a b => rfl
    have e2 : (Lib.decDigits u).all isDg = true := List.all_eq_true.2 h2
    rw [e1, e2]
    cases hq : ((Lib.decDigits u).head? == some 48) with
    | false => rfl
    | true =>
      have := h3 (by simpa using hq)
      omega
  unfold pnumG
  rw [hd, if_neg (by simp), hm, h1, if_neg (by omega), hn]
  rfl
theorem pnumG_itoa {n : Int} (h : validB n = true) : pnumG (Lib.itoa n) = (n, 0) := by
  unfold validB at h
  simp only [Bool.and_eq_true, decide_eq_true_eq] at h
  rcases Int.lt_or_le n 0 with hn | hn
  · obtain ⟨p, hp⟩ : ∃ p : Nat, n = -(p : Int) := ⟨n.natAbs, by omega⟩
    rw [hp, itoa_neg p (by omega), pnumG_neg p (by omega) (by omega)]
  · obtain ⟨p, hp⟩ : ∃ p : Nat, n = (p : Int) := ⟨n.natAbs, by omega⟩
    rw [hp, Lib.itoa_nonneg, pnumG_nat p (by omega)]
theorem open_frame {b r : Bs} (h : b.length ≤ 262136) : openP ((four b.length ++ (four (crc b) ++ b)) ++ r) = (b, 8 + b.length, 0) := by
  have hl : ((four b.length ++ (four (crc b) ++ b)) ++ r).length = 8 + b.length + r.length := by rw [List.length_append, frame_len]
  have hn : num4 ((four b.length ++ (four (crc b) ++ b)) ++ r) = b.length := by
    rw [List.append_assoc]; exact num4_four (by omega) _
  have hd : ((four b.length ++ (four (crc b) ++ b)) ++ r).drop 4 = four (crc b) ++ (b ++ r) := by
    rw [List.append_assoc, List.drop_left' (by rfl), List.append_assoc]
  have hc : num4 (((four b.length ++ (four (crc b) ++ b)) ++ r).drop 4) = crc b := by rw [hd]; exact num4_four (crc_lt b) _
  have hb : bodyP ((four b.length ++ (four (crc b) ++ b)) ++ r) = b := by
    unfold bodyP
    rw [hn, show (8 : Nat) = 4 + 4 from rfl, ← List.drop_drop, hd, List.drop_left' (by rfl)]
    exact List.take_left' rfl
  unfold openP
  rw [hl, if_neg (by omega), hn, if_neg (by omega), if_neg (by omega), hb, hc, if_pos rfl]
theorem split_frames : ∀ (l : List Bs), (∀ b ∈ l, b.length ≤ 262136) → splitP (frames l) = (l, (frames l).length)
  | [], _ => rfl
  | b :: l, h => by
    have hb := h b (by simp)
    have ho := open_frame (b := b) (r := frames l) hb
    have hs := split_frames l fun x hx => h x (by simp [hx])
    rw [show frames (b :: l) = (four b.length ++ (four (crc b) ++ b)) ++ frames l from rfl, split_ok (by rw [ho]), ho]
    have hd : ((four b.length ++ (four (crc b) ++ b)) ++ frames l).drop (8 + b.length) = frames l := List.drop_left' (frame_len b)
    simp only [hd, hs]
    rw [List.length_append, frame_len]
def packR : List Bs → Bs
  | [] => []
  | f :: l => [UInt8.ofNat (f.length / 256), UInt8.ofNat f.length] ++ f ++ packR l
theorem packB_ok : ∀ (l : List Bs) (acc : Bs), (packB l acc).2 = 0 → packB l acc = (acc ++ packR l, 0) ∧ ∀ f ∈ l, f.length ≤ 4000
  | [], acc, _ => by unfold packB packR; simp
  | f :: l, acc, h => by
    unfold packB at h ⊢
    split at h
    · cases h
    · rename_i hf
      rw [if_neg hf]
      obtain ⟨h1, h2⟩ := packB_ok l _ h
      refine ⟨?_, fun x hx => ?_⟩
      · rw [h1]; simp [packR]
      · rcases List.mem_cons.1 hx with rfl | hx
        · omega
        · exact h2 x hx
theorem packB_len' : ∀ (l : List Bs) (acc : Bs), (packB l acc).1.length ≤ acc.length + 4002 * l.length
  | [], acc => by unfold packB; simp
  | f :: l, acc => by
    unfold packB
    split
    · simp
    · have := packB_len' l (acc ++ [UInt8.ofNat (f.length / 256), UInt8.ofNat f.length] ++ f)
      simp only [List.length_append, List.length_cons, List.length_nil] at this ⊢
      omega
theorem hl_bytes {n : Nat} (h : n ≤ 4000) : 256 * (UInt8.ofNat (n / 256)).toNat + (UInt8.ofNat n).toNat = n := by
  rw [UInt8.toNat_ofNat', UInt8.toNat_ofNat']; omega
theorem unpB_pack : ∀ (l : List Bs) (acc : List Bs), (∀ f ∈ l, f.length ≤ 4000) → unpB l.length (packR l) acc = (acc ++ l, 0)
  | [], acc, _ => by unfold unpB packR; simp
  | f :: l, acc, h => by
    have hf := h f (by simp)
    have hb := hl_bytes hf
    rw [show packR (f :: l) = UInt8.ofNat (f.length / 256) :: UInt8.ofNat f.length :: (f ++ packR l) by simp [packR]]
    rw [List.length_cons]
    unfold unpB
    rw [hb, if_neg (by omega), if_neg (by simp), List.drop_left' rfl, List.take_left' rfl, unpB_pack l _ fun x hx => h x (by simp [hx])]
    simp
theorem unpack_pack {l : List Bs} (h : (packP l).2 = 0) : unpackP (packP l).1 = (l, 0) ∧ (packP l).1.length ≤ 262136 := by
  unfold packP at h ⊢
  split at h
  · cases h
  rename_i hl
  rw [if_neg hl]
  obtain ⟨h1, h2⟩ := packB_ok l _ h
  refine ⟨?_, ?_⟩
  · rw [h1]
    rw [show [UInt8.ofNat l.length] ++ packR l = UInt8.ofNat l.length :: packR l from rfl, unpack_cons]
    have hn : (UInt8.ofNat l.length).toNat = l.length := by rw [UInt8.toNat_ofNat']; omega
    rw [hn, if_neg (by omega), unpB_pack l [] h2]
    simp
  · have := packB_len' l [UInt8.ofNat l.length]
    simp only [List.length_cons, List.length_nil] at this
    omega
end Go.Proofs.YtkpmlgpkmlhbjaaGreatDoor
