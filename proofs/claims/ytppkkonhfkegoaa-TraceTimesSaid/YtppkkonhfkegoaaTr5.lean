/-
  Contracts of the packages trace and faasref51, part five: where a span leads.
-/
import Derived.Test.YtppkkonhfkegoaaTr4
namespace Go.Proofs.Ytppkkonhfkegoaa
open Go.RowKit

def strD (s : ByteArray) : List D := [.cv (.string s)]
def orS (a b : ByteArray) : ByteArray := if sEq a emp then b else a

theorem sEq_eq {a b : ByteArray} (h : sEq a b = true) : a = b := by
  have h1 : a.toList = b.toList := by simpa [sEq] using h
  have h2 : ∀ x : ByteArray, x.toList = x.data.toList := fun x => ByteArray.toList_eq x
  rw [h2, h2] at h1
  cases a; cases b
  simp at h1
  rw [h1]

set_option maxRecDepth 100000 in
theorem x_or (a b : ByteArray) : DCalls Try.prog 60 [.sl true 1 [strD a, strD b]] (str (orS a b)) := by
  refine sx Try.func60 (by kernel_rfl) ?_
  conv => whnf
  refine ⟨[], Nat, fun k => [(8, int k)], fun _ => [], fun k => k ≤ 2 ∧ (1 ≤ k → sEq a emp = true) ∧ (2 ≤ k → sEq b emp = true), fun k => 2 - k, 0, ⟨by omega, fun h => by omega, fun h => by omega⟩, ?_, ?_⟩
  · refine ⟨rfl, ?_, ?_⟩ <;> repeat' (first | exact trivial | exact rfl | refine and_rfl ?_ | refine and_two ?_ ?_)
  rintro k ⟨hk, ha, hb⟩
  conv => whnf
  rintro (_ | _) h1
  · simp at h1
    have e : k = 2 := by omega
    subst e
    have e1 := ha (by omega)
    have e2 := hb (by omega)
    have : orS a b = emp := by unfold orS; rw [if_pos e1]; exact sEq_eq e2
    rw [this]; rfl
  simp at h1
  have hg : ∃ c, [strD a, strD b][(k : Int).toNat]? = some (strD c) ∧ ((k = 0 ∧ c = a) ∨ (k = 1 ∧ c = b)) := by
    rcases (show k = 0 ∨ k = 1 by omega) with rfl | rfl
    · exact ⟨a, rfl, .inl ⟨rfl, rfl⟩⟩
    · exact ⟨b, rfl, .inr ⟨rfl, rfl⟩⟩
  obtain ⟨c, hc, hk2⟩ := hg
  conv => whnf
  refine ⟨by omega, _, hc, ?_⟩
  conv => whnf
  rintro (_ | _) h2
  · have h2 : sEq c emp = true := by simpa [sEq, emp] using h2
    conv => whnf
    refine ⟨k + 1, ⟨by omega, ?_, ?_⟩, by dsimp only; omega, ?_⟩
    rotate_left 2
    · refine ⟨rfl, ?_, ?_⟩ <;> repeat' (first | exact trivial | exact rfl | refine and_rfl ?_ | refine and_val (wrap_succ (by omega)) ?_ | refine and_two ?_ ?_)
    · intro _
      rcases hk2 with ⟨rfl, rfl⟩ | ⟨rfl, rfl⟩
      · exact h2
      · exact ha (by omega)
    · intro h
      rcases hk2 with ⟨rfl, rfl⟩ | ⟨rfl, rfl⟩
      · omega
      · exact h2
  · have h2 : sEq c emp = false := by simpa [sEq, emp] using h2
    have : orS a b = c := by
      unfold orS
      rcases hk2 with ⟨rfl, rfl⟩ | ⟨rfl, rfl⟩
      · rw [if_neg (by simp [h2])]
      · rw [if_pos (ha (by omega))]
    rw [this]; rfl

theorem x_parent (s : Sp) : DCalls Try.prog 53 [s.V] (str s.pa) := by
  refine sx Try.func53 (by kernel_rfl) ?_
  rfl

theorem x_lead (s : Sp) : DCalls Try.prog 41 [s.V] (str (orS s.ca s.pa)) := by
  refine sx Try.func41 (by kernel_rfl) ?_
  conv => whnf
  refine ⟨_, x_or s.ca s.pa, ?_⟩
  rfl

end Go.Proofs.Ytppkkonhfkegoaa
