/-
  Ways that come back: a plain law.
-/
import Derived.Test.YtppkkonhfkegoaaTr5
namespace Go.Proofs.Ytppkkonhfkegoaa
open Go.RowKit

/-- Distinct numbers below L are at most L. -/
theorem pigeon : ∀ (L : Nat) (l : List Nat), l.Nodup → (∀ x ∈ l, x < L) → l.length ≤ L
  | 0, l, _, h => by
    cases l with
    | nil => simp
    | cons x l => exact absurd (h x (by simp)) (by omega)
  | L + 1, l, hn, h => by
    have h1 := pigeon L (l.erase L) (hn.erase L) fun x hx => by
      have hm := List.mem_of_mem_erase hx
      have := h x hm
      have hne : x ≠ L := fun e => by subst e; exact (hn.not_mem_erase) hx
      omega
    have := List.length_erase (a := L) (l := l)
    split at this <;> omega

def itr (f : Nat → Option Nat) : Nat → Nat → Option Nat
  | 0, a => some a
  | n + 1, a => (f a).bind (itr f n)

theorem itr_add (f : Nat → Option Nat) : ∀ (m n a : Nat), itr f (m + n) a = (itr f m a).bind (itr f n)
  | 0, n, a => by simp [itr]
  | m + 1, n, a => by
    rw [show m + 1 + n = (m + n) + 1 by omega]
    simp only [itr]
    cases f a with
    | none => rfl
    | some b => exact itr_add f m n b

/-- Does one come back to i within n steps. -/
def back (f : Nat → Option Nat) (i : Nat) : Nat → Nat → Bool
  | 0, _ => false
  | n + 1, a => match f a with
    | none => false
    | some j => if j = i then true else back f i n j

theorem back_iff (f : Nat → Option Nat) (i : Nat) : ∀ (n a : Nat), back f i n a = true ↔ ∃ k, k < n ∧ itr f (k + 1) a = some i
  | 0, a => by simp [back]
  | n + 1, a => by
    simp only [back, itr]
    cases h : f a with
    | none => simp
    | some j =>
      by_cases hj : j = i
      · simp only [hj, if_true, true_iff]
        exact ⟨0, by omega, by simp [itr]⟩
      · simp only [if_neg hj, Option.bind_some]
        rw [back_iff f i n j]
        constructor
        · rintro ⟨k, hk, h⟩
          exact ⟨k + 1, by omega, by simpa [itr] using h⟩
        · rintro ⟨k, hk, h⟩
          cases k with
          | zero => simp [itr] at h; exact absurd h hj
          | succ k => exact ⟨k, by omega, by simpa [itr] using h⟩

/-- Within as many steps as there are places one comes back, or never. -/
theorem back_fuel (f : Nat → Option Nat) (L i : Nat) (hi : i < L) (hf : ∀ a j, f a = some j → j < L) (n : Nat) (hn : L ≤ n) : back f i n i = back f i L i := by
  have key : (∃ k, k < n ∧ itr f (k + 1) i = some i) → ∃ k, k < L ∧ itr f (k + 1) i = some i := by
    rintro ⟨k, _, hk⟩
    -- the least
    have : ∃ k, itr f (k + 1) i = some i ∧ ∀ j, j < k → itr f (j + 1) i ≠ some i := by
      induction k using Nat.strongRecOn with
      | _ k ih =>
        by_cases hc : ∃ j, j < k ∧ itr f (j + 1) i = some i
        · obtain ⟨j, hj, h⟩ := hc
          exact ih j hj (by omega) h
        · exact ⟨k, hk, fun j hj h => hc ⟨j, hj, h⟩⟩
    obtain ⟨k, hk, hmin⟩ := this
    refine ⟨k, ?_, hk⟩
    have hdef : ∀ m, m ≤ k + 1 → ∃ a, itr f m i = some a := by
      intro m hm
      rw [show k + 1 = m + (k + 1 - m) by omega, itr_add] at hk
      cases h : itr f m i with
      | none => rw [h] at hk; cases hk
      | some a => exact ⟨a, rfl⟩
    have hlt : ∀ m a, itr f m i = some a → a < L := by
      intro m a h
      cases m with
      | zero => simp [itr] at h; omega
      | succ m =>
        rw [itr_add] at h
        cases h2 : itr f m i with
        | none => rw [h2] at h; cases h
        | some b =>
          rw [h2] at h
          simp only [itr, Option.bind_some] at h
          cases h3 : f b with
          | none => rw [h3] at h; cases h
          | some c => rw [h3] at h; simp at h; subst h; exact hf b c h3
    have hinj : ∀ x y, x < y → y ≤ k → itr f x i ≠ itr f y i := by
      intro x y hxy hy he
      have h1 : itr f (k + 1) i = itr f (x + (k + 1 - y)) i := by
        rw [show k + 1 = y + (k + 1 - y) by omega, itr_add, ← he, ← itr_add]
        congr 1; omega
      rw [hk] at h1
      exact hmin (x + (k - y)) (by omega) (by rw [show x + (k - y) + 1 = x + (k + 1 - y) by omega]; exact h1.symm)
    have hp := pigeon L ((List.range (k + 1)).map fun m => (itr f m i).getD 0) (by
      rw [List.Nodup, List.pairwise_map]
      refine List.Pairwise.imp_of_mem ?_ List.pairwise_lt_range
      intro x y hx hy hxy he
      have hy' : y ≤ k := by have := List.mem_range.1 hy; omega
      obtain ⟨p, hp⟩ := hdef x (by omega)
      obtain ⟨q, hq⟩ := hdef y (by omega)
      rw [hp, hq] at he
      simp at he
      exact hinj x y hxy hy' (by rw [hp, hq, he])) (by
      intro x hx
      simp only [List.mem_map, List.mem_range] at hx
      obtain ⟨m, hm, rfl⟩ := hx
      obtain ⟨p, hp⟩ := hdef m (by omega)
      rw [hp]; exact hlt m p hp)
    simp at hp
    omega
  cases h1 : back f i L i with
  | true =>
    obtain ⟨k, hk, h⟩ := (back_iff f i L i).1 h1
    exact (back_iff f i n i).2 ⟨k, by omega, h⟩
  | false =>
    cases h2 : back f i n i with
    | false => rfl
    | true =>
      have := (back_iff f i L i).2 (key ((back_iff f i n i).1 h2))
      rw [h1] at this; cases this

end Go.Proofs.Ytppkkonhfkegoaa
