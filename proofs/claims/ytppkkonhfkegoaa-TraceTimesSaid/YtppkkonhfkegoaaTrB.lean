/-
  Contracts of the packages trace and faasref51, part eleven: Check.
-/
import Derived.Test.YtppkkonhfkegoaaTrA
namespace Go.Proofs.Ytppkkonhfkegoaa
open Go.RowKit

/-- The first place with an error, and the error. -/
def fstE (f : Nat → Int) : Nat → Nat → Option (Nat × Int)
  | 0, _ => none
  | n + 1, i => if f i = 0 then fstE f n (i + 1) else some (i, f i)

theorem fstE_none {f : Nat → Int} : ∀ (n i : Nat), fstE f n i = none → ∀ j, i ≤ j → j < i + n → f j = 0
  | 0, i, _, j, h1, h2 => by omega
  | n + 1, i, h, j, h1, h2 => by
    simp only [fstE] at h
    split at h
    · rename_i h0
      by_cases e : j = i
      · subst e; exact h0
      · exact fstE_none n (i + 1) h j (by omega) (by omega)
    · cases h

theorem fstE_all {f : Nat → Int} : ∀ (n i : Nat), (∀ j, i ≤ j → j < i + n → f j = 0) → fstE f n i = none
  | 0, i, _ => rfl
  | n + 1, i, h => by
    simp only [fstE, h i (by omega) (by omega), if_true]
    exact fstE_all n (i + 1) fun j h1 h2 => h j (by omega) (by omega)

theorem fstE_some {f : Nat → Int} : ∀ (n i j : Nat) (e : Int), fstE f n i = some (j, e) → i ≤ j ∧ j < i + n ∧ f j = e ∧ e ≠ 0
  | 0, i, j, e, h => by cases h
  | n + 1, i, j, e, h => by
    simp only [fstE] at h
    split at h
    · obtain ⟨h1, h2, h3⟩ := fstE_some n (i + 1) j e h
      exact ⟨by omega, by omega, h3⟩
    · cases h
      exact ⟨by omega, by omega, rfl, by assumption⟩

def sgE (l : List Sp) (i : Nat) : Int := ((l[i]?).map fun s => singleE l s i).getD 0
def lkE (l : List Sp) (i : Nat) : Int := ((l[i]?).map fun s => linkE l s).getD 0
def ccE (l : List Sp) (i : Nat) : Int := if circB l i then 10 else 0

/-- The error of a trace, with an index. -/
def checkP (l : List Sp) : Int × Int :=
  if 256 < l.length then (0, 3) else match fstE (sgE l) l.length 0 with
    | some (i, e) => (i, e)
    | none => match fstE (lkE l) l.length 0 with
      | some (i, e) => (i, e)
      | none => match fstE (ccE l) l.length 0 with
        | some (i, e) => (i, e)
        | none => (0, 0)

theorem findFrom_le (x : ByteArray) : ∀ (l : List Sp) (i k : Nat) (h : k < l.length), sEq l[k].id x = true → 0 ≤ findFrom x l i ∧ findFrom x l i ≤ ((i + k : Nat) : Int)
  | s :: l, i, 0, _, h => by
    simp at h
    simp [findFrom, h]
  | s :: l, i, k + 1, hk, h => by
    simp only [findFrom]
    split
    · exact ⟨by omega, by omega⟩
    · have := findFrom_le x l (i + 1) k (by simpa using hk) (by simpa using h)
      exact ⟨this.1, by have := this.2; push_cast at *; omega⟩

theorem idB_emp : idB emp = false := by decide

theorem single_once {l : List Sp} (h : ∀ i, i < l.length → sgE l i = 0) : onceAll l := by
  intro i hi
  have h1 := h i hi
  simp only [sgE, List.getElem?_eq_getElem hi, Option.map_some, Option.getD_some, singleE] at h1
  split at h1
  · cases h1
  rename_i hw
  split at h1
  · cases h1
  split at h1
  · cases h1
  rename_i hf
  obtain ⟨h2, h3⟩ := findFrom_le l[i].id l 0 i hi (sEq_refl _)
  refine ⟨by unfold findI at hf ⊢; omega, ?_⟩
  cases he : sEq l[i].id emp with
  | false => rfl
  | true =>
    have := sEq_eq he
    simp [wordsB, this, idB_emp] at hw

theorem link_all {l : List Sp} (h : ∀ i, i < l.length → lkE l i = 0) : linkedAll l := by
  intro s hs
  obtain ⟨i, hi, rfl⟩ := List.getElem_of_mem hs
  have h1 := h i hi
  simp only [lkE, List.getElem?_eq_getElem hi, Option.map_some, Option.getD_some, linkE] at h1
  split at h1
  · cases h1
  rename_i hw
  simp at hw
  exact hw.1

abbrev two (p : Int × Int) : V := .tu [int p.1, int p.2]
theorem fin_two {p q : Int × Int} (h : p = q) : two p = two q := by rw [h]

def okAll (l : List Sp) : Prop := ∀ s ∈ l, s.ok

set_option maxRecDepth 100000 in
theorem x_check (l : List Sp) (hl : l.length ≤ 8796093022207) (hok : okAll l) : DCalls Try.prog 8 [sps l] (two (checkP l)) := by
  refine sx Try.func8 (by kernel_rfl) ?_
  conv => whnf
  rintro (_ | _) h0
  rotate_left
  · exact fin_two (p := (0, 3)) (by simp at h0; rw [checkP, if_pos (by omega)])
  simp at h0
  have hc : checkP l = match fstE (sgE l) l.length 0 with
    | some (i, e) => (i, e)
    | none => match fstE (lkE l) l.length 0 with
      | some (i, e) => (i, e)
      | none => match fstE (ccE l) l.length 0 with
        | some (i, e) => (i, e)
        | none => (0, 0) := if_neg (by omega)
  rw [hc]
  clear hc
  conv => whnf
  refine ⟨[], Nat, fun k => [(15, int k)], fun _ => [], fun k => k ≤ l.length ∧ fstE (sgE l) l.length 0 = fstE (sgE l) (l.length - k) k, fun k => l.length - k, 0, ⟨by omega, rfl⟩, ?_, ?_⟩
  · refine ⟨rfl, ?_, ?_⟩ <;> repeat' (first | exact trivial | exact rfl | refine and_rfl ?_ | refine and_two ?_ ?_)
  rintro k ⟨hk, hf⟩
  conv => whnf
  rintro (_ | _) h1
  rotate_left
  · simp at h1
    have e : l.length - k = (l.length - k - 1) + 1 := by omega
    rw [e] at hf
    simp only [fstE] at hf
    have hs : sgE l k = singleE l l[k] k := by simp [sgE, h1]
    rw [hs] at hf
    conv => whnf
    refine ⟨_, x_single l k h1 hl (hok _ (List.getElem_mem h1)), ?_⟩
    conv => whnf
    rintro (_ | _) h2
    · simp at h2
      rw [if_pos h2] at hf
      conv => whnf
      refine ⟨k + 1, ⟨h1, by rw [hf]; congr 1⟩, by dsimp only; omega, ?_⟩
      refine ⟨rfl, ?_, ?_⟩ <;> repeat' (first | exact trivial | exact rfl | refine and_rfl ?_ | refine and_val (wrap_succ (by omega)) ?_ | refine and_two ?_ ?_)
    · simp at h2
      rw [if_neg h2] at hf
      rw [hf]
      rfl
  simp at h1
  have e : l.length - k = 0 := by omega
  rw [e] at hf
  rw [hf]
  have hU := single_once fun i hi => fstE_none _ _ hf i (by omega) (by omega)
  clear hf e h1 hk
  simp only [fstE]
  conv => whnf
  refine ⟨[], Nat, fun k => [(28, int k)], fun _ => [], fun k => k ≤ l.length ∧ fstE (lkE l) l.length 0 = fstE (lkE l) (l.length - k) k, fun k => l.length - k, 0, ⟨by omega, rfl⟩, ?_, ?_⟩
  · refine ⟨rfl, ?_, ?_⟩ <;> repeat' (first | exact trivial | exact rfl | refine and_rfl ?_ | refine and_two ?_ ?_)
  rintro k ⟨hk, hf⟩
  conv => whnf
  rintro (_ | _) h1
  rotate_left
  · simp at h1
    have e : l.length - k = (l.length - k - 1) + 1 := by omega
    rw [e] at hf
    simp only [fstE] at hf
    have hs : lkE l k = linkE l l[k] := by simp [lkE, h1]
    rw [hs] at hf
    conv => whnf
    refine ⟨by omega, _, get_map spD h1, ?_⟩
    conv => whnf
    refine ⟨_, x_linked l l[k] hl, ?_⟩
    conv => whnf
    rintro (_ | _) h2
    · simp at h2
      rw [if_pos h2] at hf
      conv => whnf
      refine ⟨k + 1, ⟨h1, by rw [hf]; congr 1⟩, by dsimp only; omega, ?_⟩
      refine ⟨rfl, ?_, ?_⟩ <;> repeat' (first | exact trivial | exact rfl | refine and_rfl ?_ | refine and_val (wrap_succ (by omega)) ?_ | refine and_two ?_ ?_)
    · simp at h2
      rw [if_neg h2] at hf
      rw [hf]
      rfl
  simp at h1
  have e : l.length - k = 0 := by omega
  rw [e] at hf
  rw [hf]
  clear hf e h1 hk
  simp only [fstE]
  conv => whnf
  refine ⟨[], Nat, fun k => [(43, int k)], fun _ => [], fun k => k ≤ l.length ∧ fstE (ccE l) l.length 0 = fstE (ccE l) (l.length - k) k, fun k => l.length - k, 0, ⟨by omega, rfl⟩, ?_, ?_⟩
  · refine ⟨rfl, ?_, ?_⟩ <;> repeat' (first | exact trivial | exact rfl | refine and_rfl ?_ | refine and_two ?_ ?_)
  rintro k ⟨hk, hf⟩
  conv => whnf
  rintro (_ | _) h1
  rotate_left
  · simp at h1
    have e : l.length - k = (l.length - k - 1) + 1 := by omega
    rw [e] at hf
    simp only [fstE] at hf
    conv => whnf
    refine ⟨_, x_circular l k h1 hl hU, ?_⟩
    conv => whnf
    rintro (_ | _) h2
    · rw [if_pos (by simp [ccE, h2])] at hf
      conv => whnf
      refine ⟨k + 1, ⟨h1, by rw [hf]; congr 1⟩, by dsimp only; omega, ?_⟩
      refine ⟨rfl, ?_, ?_⟩ <;> repeat' (first | exact trivial | exact rfl | refine and_rfl ?_ | refine and_val (wrap_succ (by omega)) ?_ | refine and_two ?_ ?_)
    · rw [if_neg (by simp [ccE, h2])] at hf
      rw [hf]
      simp only [ccE, h2]
      rfl
  simp at h1
  have e : l.length - k = 0 := by omega
  rw [e] at hf
  rw [hf]
  rfl

end Go.Proofs.Ytppkkonhfkegoaa
