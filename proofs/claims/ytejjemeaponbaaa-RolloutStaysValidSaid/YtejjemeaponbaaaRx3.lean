/-
  Contracts of the packages rollout and faasref20, part three: the reference's checks, steps.
-/
import Derived.Test.YtejjemeaponbaaaRx2
namespace Go.Proofs.Ytejjemeaponbaaa
open Go.RowKit

def lastAt (l : List Stg) (k : Nat) : Int := if k = 0 then 0 else wAt l ((k - 1 : Nat) : Int)
theorem wAt_nat {l : List Stg} {k : Nat} (h : k < l.length) : wAt l (k : Int) = l[k].1 := by simp [wAt, h]

set_option maxRecDepth 100000 in
theorem x_rcheck (l : List Stg) : DCalls Try.prog 9 [stgs l] (int (checkS l)) := by
  refine sx Try.func9 (by kernel_rfl) ?_
  rintro (_ | _) h
  rotate_left
  · exact fin_int (by simp at h; rw [checkS, if_pos (.inl (by omega))])
  rintro (_ | _) h'
  rotate_left
  · exact fin_int (by simp at h'; rw [checkS, if_pos (.inr (by omega))])
  simp at h h'
  have hc : checkS l = chkFrom 0 l := if_neg (by omega)
  rw [hc]
  refine ⟨[], Nat, fun k => [(3, int k)], fun _ => [], fun k => k ≤ l.length ∧ chkFrom (lastAt l k) (l.drop k) = chkFrom 0 l, fun k => l.length - k, 0, ⟨by simp, rfl⟩, ?_, ?_⟩
  · refine ⟨rfl, ?_, ?_⟩ <;> repeat' (first | exact trivial | refine and_rfl ?_)
  rintro k ⟨hk, hl⟩
  rintro (_ | _) h1
  · simp at h1
    have : k = l.length := by omega
    subst this
    have e : IntKind.i64.wrap (((l.map stD).length : Int) - 1) = ((l.length - 1 : Nat) : Int) := by rw [wrap_in (by simp; omega)]; simp; omega
    refine ⟨by rw [e]; omega, _, get_mapi stD e (by omega), ?_⟩
    have hw : lastAt l l.length = l[l.length - 1].1 := by unfold lastAt; rw [if_neg (by omega), wAt_nat (by omega)]
    rw [List.drop_length, chkFrom, hw] at hl
    rintro (_ | _) h2
    · exact fin_int (by rw [← hl, if_pos (by simpa using h2)])
    · exact fin_int (by rw [← hl, if_neg (by simpa using h2)])
  simp at h1
  refine ⟨by omega, _, get_map stD h1, ?_⟩
  have hd : l.drop k = l[k] :: l.drop (k + 1) := List.drop_eq_getElem_cons h1
  simp only [hd, chkFrom] at hl
  rintro (_ | _) h2
  rotate_left
  · exact fin_int (by rw [← hl, if_pos (by simp at h2; simp [stOk]; omega)])
  refine ⟨by omega, _, get_map stD h1, ?_⟩
  rintro (_ | _) h3
  rotate_left
  · exact fin_int (by rw [← hl, if_pos (by simp at h3; simp [stOk]; omega)])
  refine ⟨by omega, _, get_map stD h1, ?_⟩
  rintro (_ | _) h4
  rotate_left
  · exact fin_int (by rw [← hl, if_pos (by simp at h4; simp [stOk, instB]; omega)])
  refine ⟨by omega, _, get_map stD h1, ?_⟩
  rintro (_ | _) h5
  rotate_left
  · exact fin_int (by rw [← hl, if_pos (by simp at h5; simp [stOk, instB]; omega)])
  simp at h2 h3 h4 h5
  rw [if_neg (by simp [stOk, instB]; omega)] at hl
  refine ⟨none, by kernel_rfl, ?_⟩
  have fin : l[k].1 ≤ lastAt l k ∨ (lastAt l k < l[k].1 ∧ chkFrom (lastAt l (k + 1)) (l.drop (k + 1)) = chkFrom 0 l) := by
    by_cases h : l[k].1 ≤ lastAt l k
    · exact .inl h
    · rw [if_neg h] at hl
      have : lastAt l (k + 1) = l[k].1 := by unfold lastAt; rw [if_neg (by omega), Nat.add_sub_cancel, wAt_nat h1]
      exact .inr ⟨by omega, by rw [this]; exact hl⟩
  rintro (_ | _) h6
  · simp at h6
    subst h6
    rcases fin with fin | fin
    · simp [lastAt] at fin; omega
    refine ⟨1, ⟨h1, fin.2⟩, by dsimp only; omega, ?_⟩
    refine ⟨rfl, ?_, ?_⟩ <;> repeat' (first | exact trivial | refine and_rfl ?_ | refine and_val (wrap_succ (by omega)) ?_)
  simp at h6
  have e : IntKind.i64.wrap ((k : Int) - 1) = ((k - 1 : Nat) : Int) := by rw [wrap_in (by omega)]; omega
  have hw : lastAt l k = l[k - 1].1 := by unfold lastAt; rw [if_neg (by omega), wAt_nat (by omega)]
  refine ⟨by omega, _, get_map stD h1, ?_⟩
  refine ⟨by rw [e]; omega, _, get_mapi stD e (by omega), ?_⟩
  rintro (_ | _) h7
  · simp at h7
    rcases fin with fin | fin
    · omega
    refine ⟨k + 1, ⟨h1, fin.2⟩, by dsimp only; omega, ?_⟩
    refine ⟨rfl, ?_, ?_⟩ <;> repeat' (first | exact trivial | refine and_rfl ?_ | refine and_val (wrap_succ (by omega)) ?_)
  · exact fin_int (by simp at h7; rw [← hl, if_pos (by omega)])

set_option maxRecDepth 100000 in
theorem x_rvalid (r : RO) (hn : r.nm.size ≤ maxLen) : DCalls Try.prog 17 [r.V] (boo (okB r)) := by
  refine sx Try.func17 (by kernel_rfl) ?_
  refine ⟨_, x_rcheck r.l, ?_⟩
  rintro (_ | _) h1
  rotate_left
  · exact fin_boo (by simp at h1; simp [okB, fineB, h1])
  refine ⟨_, x_racheck r.nm r.s r.c r.v hn, ?_⟩
  rintro (_ | _) h2
  rotate_left
  · exact fin_boo (by simp at h2; simp [okB, fineB, h2])
  rintro (_ | _) h3
  rotate_left
  · exact fin_boo (by simp at h3; simp [okB, fineB]; omega)
  rintro (_ | _) h4
  rotate_left
  · exact fin_boo (by simp at h4; simp [okB, fineB]; omega)
  refine ⟨_, x_time r.si, ?_⟩
  rintro (_ | _) h5
  rotate_left
  · exact fin_boo (by simp at h5; simp [okB, fineB, h5])
  simp at h1 h2 h3 h4 h5
  have hf : okB r = fitB r := by simp [okB, fineB, h1, h2, h3, h4, h5]
  obtain ⟨l1, l8⟩ := checkS_len h1
  rw [hf]
  rintro (_ | _) h6
  rotate_left
  · simp at h6
    refine ⟨none, by kernel_rfl, ?_⟩
    rintro (_ | _) h7
    · exact fin_boo (by simp at h7; simp [fitB, h6, h7])
    simp at h7
    refine ⟨h3, _, wAt_of h3 h4, ?_⟩
    exact fin_boo (by simp [fitB, h6, h7])
  rintro (_ | _) h7
  rotate_left
  · simp at h6 h7
    rintro (_ | _) h8
    · exact fin_boo (by simp at h8; rw [wrap_in (by omega)] at h8; simp [fitB, h7, h8])
    · exact fin_boo (by simp at h8; rw [wrap_in (by omega)] at h8; simp [fitB, h7, h8])
  rintro (_ | _) h8
  · exact fin_boo (by simp at h6 h7 h8; simp [fitB, h6, h7, h8])
  · exact fin_boo (by simp at h6 h7 h8; simp [fitB, h8])

def runE (r : RO) : Int := if okB r && (r.st == 1) then 0 else 10
def clockE (si now : Int) : Int := if instB now = false then 2 else if now < si then 11 else 0

theorem x_running (r : RO) (hn : r.nm.size ≤ maxLen) : DCalls Try.prog 29 [r.V] (int (runE r)) := by
  refine sx Try.func29 (by kernel_rfl) ?_
  refine ⟨_, x_valid r hn, ?_⟩
  rintro (_ | _) h1
  rotate_left
  · exact fin_int (by simp at h1; simp [runE, h1])
  rintro (_ | _) h2
  · exact fin_int (by simp at h1 h2; simp [runE, h1, h2])
  · exact fin_int (by simp at h1 h2; simp [runE, h2])

theorem x_clock (r : RO) (now : Int) : DCalls Try.prog 30 [r.V, int now] (int (clockE r.si now)) := by
  refine sx Try.func30 (by kernel_rfl) ?_
  refine ⟨_, x_instant now, ?_⟩
  rintro (_ | _) h1
  rotate_left
  · exact fin_int (by simp at h1; simp [clockE, h1])
  rintro (_ | _) h2
  · exact fin_int (by simp at h1 h2; simp [clockE, h1, h2])
  · exact fin_int (by simp at h1 h2; simp [clockE, h1, h2])

def readyE (r : RO) (now : Int) : Int := if runE r ≠ 0 then 10 else clockE r.si now

theorem x_ready (r : RO) (now : Int) (hn : r.nm.size ≤ maxLen) : DCalls Try.prog 34 [r.V, int now] (int (readyE r now)) := by
  refine sx Try.func34 (by kernel_rfl) ?_
  refine ⟨_, x_rvalid r hn, ?_⟩
  rintro (_ | _) h1
  rotate_left
  · exact fin_int (by simp at h1; simp [readyE, runE, h1])
  rintro (_ | _) h2
  rotate_left
  · exact fin_int (by simp at h1 h2; simp [readyE, runE, h2])
  refine ⟨_, x_time now, ?_⟩
  rintro (_ | _) h3
  rotate_left
  · exact fin_int (by simp at h1 h2 h3; simp [readyE, runE, clockE, h1, h2, h3])
  rintro (_ | _) h4
  · exact fin_int (by simp at h1 h2 h3 h4; simp [readyE, runE, clockE, h1, h2, h3, h4])
  · exact fin_int (by simp at h1 h2 h3 h4; simp [readyE, runE, clockE, h1, h2, h3, h4])

end Go.Proofs.Ytejjemeaponbaaa
