/-
  Contracts of the packages rollout and faasref20, part five: what is equal, what is left, starts.
-/
import Derived.Test.YtejjemeaponbaaaRx4
import Derived.Test.YtejjemeaponbaaaSxE2
namespace Go.Proofs.Ytejjemeaponbaaa
open Go.RowKit

theorem eq_alias (n n' : ByteArray) (s s' c c' v v' : Int) : EqOk Try.prog 23 [str n, int s, int c, int v] [str n', int s', int c', int v'] (eqPl [.string n, .int .i64 s, .int .i64 c, .int .i64 v] [.string n', .int .i64 s', .int .i64 c', .int .i64 v']) :=
  eq_ok rfl rfl (by kernel_rfl) (by kernel_rfl) (by kernel_rfl) (sp := [("Name", 9, 0), ("Stable", 3, 1), ("Canary", 3, 2), ("Weight", 3, 3)]) (by kernel_rfl) rfl
theorem eq_stage (a a' b b' : Int) : EqOk Try.prog 34 [int a, int b] [int a', int b'] (eqPl [.int .i64 a, .int .i64 b] [.int .i64 a', .int .i64 b']) :=
  eq_ok rfl rfl (by kernel_rfl) (by kernel_rfl) (by kernel_rfl) (sp := [("Weight", 3, 0), ("Bake", 3, 1)]) (by kernel_rfl) rfl

set_option maxRecDepth 100000 in
theorem x_same (r : RO) (hl : r.l.length < 9223372036854775807) : DCalls Try.prog 12 [r.V, r.V] (boo true) := by
  refine sx Try.func12 (by kernel_rfl) ?_
  rintro (_ | _) h1
  rotate_left
  · simp at h1
  refine ⟨_, eq_alias r.nm r.nm r.s r.s r.c r.c r.v r.v, ?_⟩
  rintro (_ | _) h2
  rotate_left
  · simp [eqPl] at h2
  rintro (_ | _) h3
  rotate_left
  · simp at h3
  rintro (_ | _) h4
  rotate_left
  · simp at h4
  rintro (_ | _) h5
  rotate_left
  · simp at h5
  refine ⟨[], Nat, fun k => [(5, int k)], fun _ => [], fun k => k ≤ r.l.length, fun k => r.l.length - k, 0, by simp, ?_, ?_⟩
  · refine ⟨rfl, ?_, ?_⟩ <;> repeat' (first | exact trivial | refine and_rfl ?_ | refine and_two ?_ ?_)
  rintro k hk
  rintro (_ | _) h6
  · rfl
  simp at h6
  refine ⟨none, by kernel_rfl, ?_⟩
  refine ⟨by omega, _, get_map stD h6, ?_⟩
  refine ⟨by omega, _, get_map stD h6, ?_⟩
  refine ⟨_, eq_stage r.l[k].1 r.l[k].1 r.l[k].2 r.l[k].2, ?_⟩
  rintro (_ | _) h7
  rotate_left
  · simp [eqPl] at h7
  refine ⟨k + 1, h6, by dsimp only; omega, ?_⟩
  refine ⟨rfl, ?_, ?_⟩ <;> repeat' (first | exact trivial | refine and_rfl ?_ | refine and_val (wrap_succ (by omega)) ?_ | refine and_two ?_ ?_)

def sumB : List Stg → Int
  | [] => 0
  | s :: l => s.2 + sumB l

def leftR (r : RO) (now : Int) : Int × Int :=
  if runE r ≠ 0 then (0, 10) else if clockE r.si now ≠ 0 then (0, clockE r.si now) else (max 0 (r.si + bAt r.l r.a - now) + sumB (r.l.drop (r.a.toNat + 1)), 0)

theorem chk_bakes {l : List Stg} : ∀ {last : Int}, chkFrom last l = 0 → ∀ s ∈ l, 0 ≤ s.2 ∧ s.2 ≤ 1073741824 := by
  induction l with
  | nil => intro _ _ s hs; cases hs
  | cons x l ih =>
    intro last h s hs
    simp only [chkFrom] at h
    split at h
    · cases h
    rename_i h1
    split at h
    · cases h
    simp [stOk, instB] at h1
    rcases List.mem_cons.1 hs with rfl | hs
    · exact ⟨by omega, by omega⟩
    · exact ih h s hs

theorem ok_bakes {r : RO} (h : okB r = true) : ∀ s ∈ r.l, 0 ≤ s.2 ∧ s.2 ≤ 1073741824 := by
  simp [okB, fineB] at h
  have h1 := h.1.1
  unfold checkS at h1
  split at h1
  · cases h1
  · exact chk_bakes h1

theorem sumB_bd {l : List Stg} (h : ∀ s ∈ l, 0 ≤ s.2 ∧ s.2 ≤ 1073741824) : 0 ≤ sumB l ∧ sumB l ≤ 1073741824 * l.length := by
  induction l with
  | nil => simp [sumB]
  | cons s l ih =>
    obtain ⟨a, b⟩ := ih fun x hx => h x (by simp [hx])
    have := h s (by simp)
    simp only [sumB, List.length_cons]
    omega

theorem sumB_take {l : List Stg} {k : Nat} (h : k < l.length) : sumB (l.take (k + 1)) = sumB (l.take k) + l[k].2 := by
  induction l generalizing k with
  | nil => simp at h
  | cons s l ih =>
    cases k with
    | zero => simp [sumB]
    | succ k =>
      have := ih (k := k) (by simpa using h)
      simp only [List.take_succ_cons, sumB, this, List.getElem_cons_succ]; omega

theorem bAt_nat {l : List Stg} {k : Nat} (h : k < l.length) : bAt l (k : Int) = l[k].2 := by simp [bAt, h]
theorem bAt_in {r : RO} (h : okB r = true) (a0 : 0 ≤ r.a) (a1 : r.a < r.l.length) : 0 ≤ bAt r.l r.a ∧ bAt r.l r.a ≤ 1073741824 := by
  have e : r.a = (r.a.toNat : Int) := by omega
  rw [e, bAt_nat (by omega)]
  exact ok_bakes h _ (List.getElem_mem _)

set_option maxRecDepth 100000 in
theorem x_left (r : RO) (now : Int) (hn : r.nm.size ≤ maxLen) : DCalls Try.prog 22 [r.V, int now] (.tu [int (leftR r now).1, int (leftR r now).2]) := by
  refine sx Try.func22 (by kernel_rfl) ?_
  refine ⟨_, x_running r hn, ?_⟩
  rintro (_ | _) h1
  rotate_left
  · simp at h1
    have e : leftR r now = (0, runE r) := by unfold leftR; rw [if_pos h1]; unfold runE at h1 ⊢; split at h1 <;> simp_all
    rw [e]; rfl
  simp at h1
  obtain ⟨ho, hst⟩ := run_ok h1
  obtain ⟨l1, l8, a0, a1, s0, s1⟩ := ok_parts ho
  obtain ⟨b0, b1⟩ := bAt_in ho a0 a1
  refine ⟨_, x_clock r now, ?_⟩
  rintro (_ | _) h2
  rotate_left
  · simp at h2
    have e : leftR r now = (0, clockE r.si now) := by unfold leftR; rw [if_neg (by simp [h1]), if_pos h2]
    rw [e]; rfl
  simp at h2
  obtain ⟨n0, n1, ns⟩ := clock_ok h2
  have e : leftR r now = (max 0 (r.si + bAt r.l r.a - now) + sumB (r.l.drop (r.a.toNat + 1)), 0) := by unfold leftR; rw [if_neg (by simp [h1]), if_neg (by simp [h2])]
  rw [e]
  refine ⟨none, by kernel_rfl, ?_⟩
  refine ⟨a0, _, wAt_of a0 a1, ?_⟩
  have ew : IntKind.i64.wrap (r.a + 1) = r.a + 1 := wrap_in (by omega)
  have em : IntKind.i64.wrap (IntKind.i64.wrap (r.si + bAt r.l r.a) - now) = r.si + bAt r.l r.a - now := by rw [wrap_in (n := r.si + bAt r.l r.a) (by omega), wrap_in (by omega)]
  refine ⟨by rw [ew]; omega, by rw [ew]; simp; omega, by simp, ?_⟩
  have ex : List.drop (IntKind.i64.wrap (r.a + 1)).toNat (List.take ((r.l.map stD).length : Int).toNat (r.l.map stD)) = (r.l.drop (r.a.toNat + 1)).map stD := by
    rw [ew, List.take_of_length_le (by simp), List.map_drop]; congr 1; omega
  have eb : ∀ s ∈ r.l.drop (r.a.toNat + 1), 0 ≤ s.2 ∧ s.2 ≤ 1073741824 := fun s hs => ok_bakes ho s (List.mem_of_mem_drop hs)
  rw [ex]
  have em' : (if IntKind.i64.wrap (IntKind.i64.wrap (r.si + bAt r.l r.a) - now) > 0 then IntKind.i64.wrap (IntKind.i64.wrap (r.si + bAt r.l r.a) - now) else 0) = max 0 (r.si + bAt r.l r.a - now) := by rw [em]; omega
  rw [em']
  generalize hL : r.l.drop (r.a.toNat + 1) = L at eb ⊢
  have hLl : L.length ≤ 8 := by rw [← hL, List.length_drop]; omega
  generalize hm0 : max 0 (r.si + bAt r.l r.a - now) = m0
  have hm1 : 0 ≤ m0 ∧ m0 ≤ 2147483648 := by omega
  clear hm0 em' em ex e
  refine ⟨[], Nat, fun k => [(42, int k), (8, int (m0 + sumB (L.take k)))], fun _ => [], fun k => k ≤ L.length, fun k => L.length - k, 0, by simp, ?_, ?_⟩
  · refine ⟨rfl, ?_, ?_⟩ <;> repeat' (first | exact trivial | refine and_rfl ?_ | refine and_val (by simp [sumB]) ?_ | refine and_two ?_ ?_)
  rintro k hk
  have hbd := sumB_bd (l := L.take k) fun s hs => eb s (List.mem_of_mem_take hs)
  have hlt := List.length_take_le k L
  rintro (_ | _) h6
  · simp at h6
    have : L.take k = L := List.take_of_length_le (by omega)
    rw [this]; rfl
  simp at h6
  refine ⟨by omega, _, get_map stD h6, ?_⟩
  have hb := eb _ (List.getElem_mem h6)
  have es := sumB_take h6
  refine ⟨k + 1, h6, by dsimp only; omega, ?_⟩
  refine ⟨rfl, ?_, ?_⟩ <;> repeat' (first | exact trivial | refine and_rfl ?_ | refine and_val (wrap_succ (by omega)) ?_ | refine and_val (by rw [wrap_in (by omega), es]; omega) ?_ | refine and_two ?_ ?_)

set_option maxRecDepth 100000 in
theorem x_rleft (r : RO) (now : Int) (hn : r.nm.size ≤ maxLen) : DCalls Try.prog 23 [r.V, int now] (.tu [int (leftR r now).1, int (leftR r now).2]) := by
  refine sx Try.func23 (by kernel_rfl) ?_
  refine ⟨_, x_ready r now hn, ?_⟩
  rintro (_ | _) h1
  rotate_left
  · simp at h1
    have e : leftR r now = (0, readyE r now) := by
      unfold leftR readyE at *
      by_cases hr : runE r = 0
      · rw [if_neg (by simp [hr])] at h1 ⊢; rw [if_pos h1, if_neg (by simp [hr])]
      · rw [if_pos hr, if_pos hr]
    rw [e]; rfl
  simp at h1
  have hr0 : runE r = 0 := by
    unfold readyE at h1
    by_cases hr : runE r = 0
    · exact hr
    · rw [if_pos hr] at h1; cases h1
  have h2 : clockE r.si now = 0 := by unfold readyE at h1; rwa [if_neg (by simp [hr0])] at h1
  obtain ⟨ho, hst⟩ := run_ok hr0
  obtain ⟨l1, l8, a0, a1, s0, s1⟩ := ok_parts ho
  obtain ⟨b0, b1⟩ := bAt_in ho a0 a1
  obtain ⟨n0, n1, ns⟩ := clock_ok h2
  have e : leftR r now = (max 0 (r.si + bAt r.l r.a - now) + sumB (r.l.drop (r.a.toNat + 1)), 0) := by unfold leftR; rw [if_neg (by simp [hr0]), if_neg (by simp [h2])]
  rw [e]
  refine ⟨none, by kernel_rfl, ?_⟩
  refine ⟨a0, _, wAt_of a0 a1, ?_⟩
  have ew : IntKind.i64.wrap (r.a + 1) = ((r.a.toNat + 1 + 0 : Nat) : Int) := by rw [wrap_in (by omega)]; omega
  have em : IntKind.i64.wrap (IntKind.i64.wrap (r.si + bAt r.l r.a) - now) = r.si + bAt r.l r.a - now := by rw [wrap_in (n := r.si + bAt r.l r.a) (by omega), wrap_in (by omega)]
  have em' : (if 0 > IntKind.i64.wrap (IntKind.i64.wrap (r.si + bAt r.l r.a) - now) then 0 else IntKind.i64.wrap (IntKind.i64.wrap (r.si + bAt r.l r.a) - now)) = max 0 (r.si + bAt r.l r.a - now) := by rw [em]; omega
  have eb : ∀ s ∈ r.l.drop (r.a.toNat + 1), 0 ≤ s.2 ∧ s.2 ≤ 1073741824 := fun s hs => ok_bakes ho s (List.mem_of_mem_drop hs)
  have hLl : (r.l.drop (r.a.toNat + 1)).length = r.l.length - (r.a.toNat + 1) := List.length_drop
  refine ⟨[], Nat, fun k => [(8, int (r.a.toNat + 1 + k : Nat)), (7, int (max 0 (r.si + bAt r.l r.a - now) + sumB ((r.l.drop (r.a.toNat + 1)).take k)))], fun _ => [], fun k => r.a.toNat + 1 + k ≤ r.l.length, fun k => r.l.length - k, 0, by omega, ?_, ?_⟩
  · refine ⟨rfl, ?_, ?_⟩ <;> repeat' (first | exact trivial | refine and_rfl ?_ | refine and_val ew ?_ | refine and_val (by rw [List.take_zero, sumB, Int.add_zero]; exact em') ?_ | refine and_two ?_ ?_)
  rintro k hk
  have hbd := sumB_bd (l := (r.l.drop (r.a.toNat + 1)).take k) fun s hs => eb s (List.mem_of_mem_take hs)
  have hlt := List.length_take_le k (r.l.drop (r.a.toNat + 1))
  rintro (_ | _) h6
  · simp at h6
    have : (r.l.drop (r.a.toNat + 1)).take k = r.l.drop (r.a.toNat + 1) := List.take_of_length_le (by omega)
    rw [this]; rfl
  simp at h6
  have h6' : r.a.toNat + 1 + k < r.l.length := by omega
  refine ⟨by omega, _, get_map stD h6', ?_⟩
  have h7 : k < (r.l.drop (r.a.toNat + 1)).length := by omega
  have hb := eb _ (List.getElem_mem h7)
  have es := sumB_take h7
  have eg : (r.l.drop (r.a.toNat + 1))[k] = r.l[r.a.toNat + 1 + k] := by simp
  rw [eg] at es hb
  refine ⟨k + 1, by dsimp only; omega, by dsimp only; omega, ?_⟩
  refine ⟨rfl, ?_, ?_⟩ <;> repeat' (first | exact trivial | refine and_rfl ?_ | refine and_val (wrap_succ (by omega)) ?_ | refine and_val (by rw [wrap_in (by omega), es]; omega) ?_ | refine and_two ?_ ?_)

end Go.Proofs.Ytejjemeaponbaaa
