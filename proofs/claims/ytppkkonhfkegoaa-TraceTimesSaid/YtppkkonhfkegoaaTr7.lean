/-
  Contracts of the packages trace and faasref51, part seven: circles.
-/
import Derived.Test.YtppkkonhfkegoaaTr6
namespace Go.Proofs.Ytppkkonhfkegoaa
open Go.RowKit

/-- The step from a span to its parent. -/
def stepP (l : List Sp) (a : Nat) : Option Nat := match l[a]? with
  | none => none
  | some s => if sEq s.pa emp then none else if findI l s.pa < 0 then none else some (findI l s.pa).toNat

theorem stepP_lt {l : List Sp} {a j : Nat} (h : stepP l a = some j) : j < l.length := by
  unfold stepP at h
  split at h
  · cases h
  split at h
  · cases h
  split at h
  · cases h
  cases h
  exact (findI_lt (by omega)).1

def linkedAll (l : List Sp) : Prop := ∀ s ∈ l, nowhereB l s.pa = false
def circB (l : List Sp) (i : Nat) : Bool := back (stepP l) i l.length i

theorem stepP_none {l : List Sp} {a : Nat} (h : a < l.length) (he : sEq l[a].pa emp = true) : stepP l a = none := by
  simp [stepP, h, he]
theorem stepP_some {l : List Sp} {a : Nat} (h : a < l.length) (he : sEq l[a].pa emp = false) (hl : linkedAll l) : 0 ≤ findI l l[a].pa ∧ stepP l a = some (findI l l[a].pa).toNat := by
  have := hl l[a] (List.getElem_mem h)
  simp [nowhereB, he] at this
  exact ⟨this, by simp [stepP, h, he]; omega⟩

set_option maxRecDepth 100000 in
theorem x_rcircular (l : List Sp) (i : Nat) (hi : i < l.length) (hl : l.length ≤ 8796093022207) (hL : linkedAll l) : DCalls Try.prog 33 [sps l, int i] (boo (circB l i)) := by
  have hR : back (stepP l) i (l.length + 1) i = circB l i := back_fuel (stepP l) l.length i hi (fun _ _ h => stepP_lt h) _ (by omega)
  refine sx Try.func33 (by kernel_rfl) ?_
  conv => whnf
  refine ⟨[], Nat × Nat, fun ⟨n, a⟩ => [(6, int n), (5, int a)], fun _ => [], fun ⟨n, a⟩ => n ≤ l.length + 1 ∧ a < l.length ∧ back (stepP l) i (l.length + 1 - n) a = circB l i, fun x => l.length + 1 - x.1, (0, i), ⟨by omega, hi, hR⟩, ?_, ?_⟩
  · refine ⟨rfl, ?_, ?_⟩ <;> repeat' (first | exact trivial | exact rfl | refine and_rfl ?_ | refine and_two ?_ ?_)
  rintro ⟨n, a⟩ ⟨hn, ha, hb⟩
  conv => whnf
  rintro (_ | _) h1
  · simp at h1
    have e : l.length + 1 - n = 0 := by omega
    rw [e] at hb
    exact fin_boo hb
  simp at h1
  have e : l.length + 1 - n = (l.length - n) + 1 := by omega
  rw [e] at hb
  simp only [back] at hb
  conv => whnf
  refine ⟨by omega, _, get_map spD ha, ?_⟩
  conv => whnf
  rintro (_ | _) h2
  rotate_left
  · have h2 : sEq l[a].pa emp = true := h2
    rw [stepP_none ha h2] at hb
    exact fin_boo hb
  have h2 : sEq l[a].pa emp = false := h2
  obtain ⟨h3, h4⟩ := stepP_some ha h2 hL
  obtain ⟨h5, h6⟩ := findI_lt h3
  rw [h4] at hb
  simp only at hb
  conv => whnf
  refine ⟨by omega, _, get_map spD ha, ?_⟩
  conv => whnf
  refine ⟨_, x_rfind l l[a].pa hl, ?_⟩
  rw [h6]
  generalize (findI l l[a].pa).toNat = j at hb h5
  conv => whnf
  rintro (_ | _) h7
  · have h7 : j ≠ i := by simp at h7; omega
    rw [if_neg h7] at hb
    conv => whnf
    refine ⟨(n + 1, j), ⟨by omega, h5, by rw [show l.length + 1 - (n + 1) = l.length - n by omega]; exact hb⟩, by dsimp only; omega, ?_⟩
    refine ⟨rfl, ?_, ?_⟩ <;> repeat' (first | exact trivial | exact rfl | refine and_rfl ?_ | refine and_val (wrap_succ (by omega)) ?_ | refine and_two ?_ ?_)
  · have h7 : j = i := by simp at h7; omega
    rw [if_pos h7] at hb
    exact fin_boo hb

end Go.Proofs.Ytppkkonhfkegoaa
