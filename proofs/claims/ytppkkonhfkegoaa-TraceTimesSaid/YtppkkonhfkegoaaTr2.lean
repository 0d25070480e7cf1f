/-
  Contracts of the packages trace and faasref51, part two: the checks of a span.
-/
import Derived.Test.YtppkkonhfkegoaaTr1
namespace Go.Proofs.Ytppkkonhfkegoaa
open Go.RowKit

theorem x_id (s : ByteArray) (h : s.size ≤ maxLen) : DCalls Try.prog 46 [str s] (boo (idB s)) := dcalls_val Try.func46 (by kernel_rfl) (by kernel_rfl) rfl rfl fun w => id_any s w h
theorem x_rid (s : ByteArray) (h : s.size ≤ maxLen) : DCalls Try.prog 48 [str s] (boo (idB s)) := dcalls_val Try.func48 (by kernel_rfl) (by kernel_rfl) rfl rfl fun w => rid_any s w h
theorem x_name (s : ByteArray) (h : s.size ≤ maxLen) : DCalls Try.prog 51 [str s] (boo (nameB s)) := dcalls_val Try.func51 (by kernel_rfl) (by kernel_rfl) rfl rfl fun w => name_any s w h
theorem x_rname (s : ByteArray) (h : s.size ≤ maxLen) : DCalls Try.prog 55 [str s] (boo (nameB s)) := dcalls_val Try.func55 (by kernel_rfl) (by kernel_rfl) rfl rfl fun w => rname_any s w h

def emp : ByteArray := ⟨#[]⟩
def instB (n : Int) : Bool := decide (0 ≤ n) && decide (n ≤ 1073741824)
theorem x_instant (n : Int) : DCalls Try.prog 52 [int n] (boo (instB n)) := by
  refine sx Try.func52 (by kernel_rfl) ?_
  conv => whnf
  rintro (_ | _) h
  · exact fin_boo (by simp at h; simp [instB]; omega)
  · exact fin_boo (by simp at h; simp [instB, h])
theorem x_time (n : Int) : DCalls Try.prog 56 [int n] (boo (instB n)) := by
  refine sx Try.func56 (by kernel_rfl) ?_
  conv => whnf
  rintro (_ | _) h
  · exact fin_boo (by simp at h; simp [instB]; omega)
  · exact fin_boo (by simp at h; simp [instB, h])

def optB (s : ByteArray) : Bool := sEq s emp || idB s
theorem x_optional (s : ByteArray) (h : s.size ≤ maxLen) : DCalls Try.prog 50 [str s] (boo (optB s)) := by
  refine sx Try.func50 (by kernel_rfl) ?_
  conv => whnf
  rintro (_ | _) h1
  · conv => whnf
    refine ⟨_, x_id s h, ?_⟩
    exact fin_boo (by rw [optB, show sEq s emp = false from h1]; rfl)
  · exact fin_boo (by rw [optB, show sEq s emp = true from h1]; rfl)
theorem x_link (s : ByteArray) (h : s.size ≤ maxLen) : DCalls Try.prog 54 [str s] (boo (optB s)) := by
  refine sx Try.func54 (by kernel_rfl) ?_
  conv => whnf
  rintro (_ | _) h1
  · conv => whnf
    refine ⟨_, x_rid s h, ?_⟩
    exact fin_boo (by rw [optB, show sEq s emp = false from h1]; rfl)
  · exact fin_boo (by rw [optB, show sEq s emp = true from h1]; rfl)

/-- The spans that come in: no string is too long. -/
def Sp.ok (s : Sp) : Prop := s.id.size ≤ maxLen ∧ s.pa.size ≤ maxLen ∧ s.ca.size ≤ maxLen ∧ s.nm.size ≤ maxLen

def wordsB (s : Sp) : Bool := idB s.id && (optB s.pa && (optB s.ca && nameB s.nm))
def timesB (s : Sp) : Bool := instB s.fr && (instB s.to && decide (s.fr ≤ s.to))
/-- The error of a span alone, at place i. -/
def singleE (l : List Sp) (s : Sp) (i : Nat) : Int := if wordsB s = false then 4 else if timesB s = false then 2 else if findI l s.id < i then 6 else 0

set_option maxRecDepth 100000 in
theorem x_single (l : List Sp) (i : Nat) (hi : i < l.length) (hl : l.length ≤ 8796093022207) (hok : l[i].ok) : DCalls Try.prog 28 [sps l, int i] (int (singleE l l[i] i)) := by
  obtain ⟨o1, o2, o3, o4⟩ := hok
  refine sx Try.func28 (by kernel_rfl) ?_
  conv => whnf
  refine ⟨by omega, _, get_map spD hi, ?_⟩
  generalize l[i] = s at o1 o2 o3 o4
  have no : wordsB s = false → int 4 = int (singleE l s i) := fun h => fin_int (by rw [singleE, if_pos h])
  conv => whnf
  refine ⟨_, x_id s.id o1, ?_⟩
  conv => whnf
  rintro (_ | _) h1
  rotate_left
  · exact no (by simp at h1; simp [wordsB, h1])
  conv => whnf
  refine ⟨_, x_optional s.pa o2, ?_⟩
  conv => whnf
  rintro (_ | _) h2
  rotate_left
  · exact no (by simp at h2; simp [wordsB, h2])
  conv => whnf
  refine ⟨_, x_optional s.ca o3, ?_⟩
  conv => whnf
  rintro (_ | _) h3
  rotate_left
  · exact no (by simp at h3; simp [wordsB, h3])
  conv => whnf
  refine ⟨_, x_name s.nm o4, ?_⟩
  conv => whnf
  rintro (_ | _) h4
  rotate_left
  · exact no (by simp at h4; simp [wordsB, h4])
  simp at h1 h2 h3 h4
  have hw : wordsB s = true := by simp [wordsB, h1, h2, h3, h4]
  have no2 : timesB s = false → int 2 = int (singleE l s i) := fun h => fin_int (by rw [singleE, if_neg (by simp [hw]), if_pos h])
  conv => whnf
  refine ⟨_, x_instant s.fr, ?_⟩
  conv => whnf
  rintro (_ | _) h5
  rotate_left
  · exact no2 (by simp at h5; simp [timesB, h5])
  conv => whnf
  refine ⟨_, x_instant s.to, ?_⟩
  conv => whnf
  rintro (_ | _) h6
  rotate_left
  · exact no2 (by simp at h6; simp [timesB, h6])
  conv => whnf
  rintro (_ | _) h7
  rotate_left
  · exact no2 (by simp at h7; simp [timesB]; omega)
  simp at h5 h6 h7
  have ht : timesB s = true := by simp [timesB, h5, h6, h7]
  conv => whnf
  refine ⟨_, x_find l s.id hl, ?_⟩
  conv => whnf
  rintro (_ | _) h8
  · exact fin_int (by simp at h8; rw [singleE, if_neg (by simp [hw]), if_neg (by simp [ht]), if_neg (by omega)])
  · exact fin_int (by simp at h8; rw [singleE, if_neg (by simp [hw]), if_neg (by simp [ht]), if_pos (by omega)])

end Go.Proofs.Ytppkkonhfkegoaa
