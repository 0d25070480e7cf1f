/-
  Contracts of the packages rollout and faasref20, part one: times, stages, copies, aliases.
-/
import Derived.Test.YtejjemeaponbaaaSxU
import Derived.Test.YtejjemeaponbaaaRoll2
import Derived.Test.YtejjemeaponbaaaAlias4
namespace Go.Proofs.Ytejjemeaponbaaa
open Go.RowKit

def stD (s : Stg) : List D := [.cv (.int .i64 s.1), .cv (.int .i64 s.2)]
abbrev stgs (l : List Stg) : V := .sl true 2 (l.map stD)
theorem stD_len (l : List Stg) : ∀ x ∈ l.map stD, x.length = 2 := by
  intro x hx; obtain ⟨s, _, rfl⟩ := List.mem_map.1 hx; rfl
theorem stD_flat (l : List Stg) : ∀ x ∈ l.map stD, ∀ d ∈ x, ∃ v : Value, d = .cv v ∧ v.oneCell' = true := by
  intro x hx d hd
  obtain ⟨s, _, rfl⟩ := List.mem_map.1 hx
  simp [stD] at hd
  rcases hd with rfl | rfl <;> exact ⟨_, rfl, rfl⟩
theorem stD_plain (l : List Stg) : plains (l.map stD) = cellsS l := by
  induction l with
  | nil => rfl
  | cons s l ih => simp [plains, cellsS, stD] at ih ⊢; exact ih

/-- A rollout. -/
structure RO where
  st : Int
  nm : ByteArray
  s : Int
  c : Int
  v : Int
  l : List Stg
  a : Int
  si : Int
abbrev RO.V (r : RO) : V := .ag [int r.st, str r.nm, int r.s, int r.c, int r.v, stgs r.l, int r.a, int r.si]
def zeroRO : RO := ⟨0, ⟨#[]⟩, 0, 0, 0, [], 0, 0⟩
abbrev alV (nm : ByteArray) (s c v : Int) : Go.Proofs.Ytejjemeaponbaaa.V := .ag [str nm, int s, int c, int v]

theorem x_instant (n : Int) : DCalls Try.prog 24 [int n] (boo (instB n)) := by
  refine sx Try.func24 (by kernel_rfl) ?_
  rintro (_ | _) h
  · exact fin_boo (by simp at h; simp [instB]; omega)
  · exact fin_boo (by simp at h; simp [instB, h])

theorem x_time (n : Int) : DCalls Try.prog 27 [int n] (boo (instB n)) := by
  refine sx Try.func27 (by kernel_rfl) ?_
  rintro (_ | _) h
  · exact fin_boo (by simp at h; simp [instB]; omega)
  · exact fin_boo (by simp at h; simp [instB, h])

set_option maxRecDepth 100000 in
theorem x_check (l : List Stg) : DCalls Try.prog 8 [stgs l] (int (checkS l)) := by
  refine sx Try.func8 (by kernel_rfl) ?_
  rintro (_ | _) h
  rotate_left
  · exact fin_int (by simp at h; rw [checkS, if_pos (.inl (by omega))])
  rintro (_ | _) h'
  rotate_left
  · exact fin_int (by simp at h'; rw [checkS, if_pos (.inr (by omega))])
  simp at h h'
  have hc : checkS l = chkFrom 0 l := if_neg (by omega)
  rw [hc]
  refine ⟨[], Nat × Int, fun x => [(16, int x.1), (3, int x.2)], fun _ => [], fun x => x.1 ≤ l.length ∧ chkFrom x.2 (l.drop x.1) = chkFrom 0 l, fun x => l.length - x.1, (0, 0), ⟨by simp, rfl⟩, ?_, ?_⟩
  · refine ⟨rfl, ?_, ?_⟩ <;> repeat' (first | exact trivial | refine and_rfl ?_)
  rintro ⟨k, last⟩ ⟨hk, hl⟩
  rintro (_ | _) h1
  · simp at h1
    have : k = l.length := by omega
    subst this
    simp [chkFrom] at hl
    rintro (_ | _) h2
    · exact fin_int (by rw [← hl]; simp_all)
    · exact fin_int (by rw [← hl]; simp_all)
  simp at h1
  refine ⟨by omega, _, get_map _ h1, ?_⟩
  have hd : l.drop k = l[k] :: l.drop (k + 1) := List.drop_eq_getElem_cons h1
  simp only [hd, chkFrom] at hl
  rintro (_ | _) h2
  rotate_left
  · exact fin_int (by rw [← hl, if_pos (by simp at h2; simp [stOk]; omega)])
  rintro (_ | _) h3
  rotate_left
  · exact fin_int (by rw [← hl, if_pos (by simp at h3; simp [stOk]; omega)])
  refine ⟨_, x_instant l[k].2, ?_⟩
  rintro (_ | _) h4
  rotate_left
  · exact fin_int (by rw [← hl, if_pos (by simp at h4; simp [stOk, h4])])
  simp at h2 h3 h4
  rw [if_neg (by simp [stOk, h4]; omega)] at hl
  rintro (_ | _) h5
  rotate_left
  · exact fin_int (by rw [← hl, if_pos (by simp at h5; omega)])
  simp at h5
  rw [if_neg (by omega)] at hl
  refine ⟨(k + 1, l[k].1), ⟨h1, hl⟩, by dsimp only; omega, ?_⟩
  refine ⟨rfl, ?_, ?_⟩ <;> repeat' (first | exact trivial | refine and_rfl ?_ | refine and_val (wrap_succ (by omega)) ?_)

end Go.Proofs.Ytejjemeaponbaaa
