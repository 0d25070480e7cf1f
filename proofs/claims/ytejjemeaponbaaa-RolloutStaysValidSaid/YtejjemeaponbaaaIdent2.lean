/-
  Contracts of ident.ID, faasref05.Name and faasref05.ID.
-/
import Derived.Test.YtejjemeaponbaaaIdent
namespace Go.Proofs.Ytejjemeaponbaaa
open Go.RowKit

theorem nameB_size (s : ByteArray) (h : s.size < 1 ∨ 24 < s.size) : nameB s = false := by
  unfold nameB
  have : (decide (1 ≤ s.size) && decide (s.size ≤ 24)) = false := by rw [Bool.eq_false_iff]; simp; omega
  rw [this, Bool.and_false]

theorem idB_size (s : ByteArray) (h : s.size < 1 ∨ 64 < s.size) : idB s = false := by
  unfold idB
  have : (decide (1 ≤ s.size) && decide (s.size ≤ 64)) = false := by rw [Bool.eq_false_iff]; simp; omega
  rw [this, Bool.and_false]

end Go.Proofs.Ytejjemeaponbaaa
