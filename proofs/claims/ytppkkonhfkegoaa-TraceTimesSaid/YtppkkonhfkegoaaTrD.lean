/-
  Plain laws of traces: ways end.
-/
import Derived.Test.YtppkkonhfkegoaaTrC
namespace Go.Proofs.Ytppkkonhfkegoaa
open Go.RowKit

/-- A trace: all is right. -/
structure Trc (l : List Sp) : Prop where
  sg : ∀ i, i < l.length → sgE l i = 0
  lk : ∀ i, i < l.length → lkE l i = 0
  cc : ∀ i, i < l.length → circB l i = false
  len : l.length ≤ 256

theorem tr_of {l : List Sp} (h : (checkP l).2 = 0) : Trc l := by
  unfold checkP at h
  split at h
  · cases h
  rename_i hlen
  split at h
  · rename_i i e he
    have := fstE_some _ _ _ _ he
    exact absurd h this.2.2.2
  rename_i h1
  split at h
  · rename_i i e he
    have := fstE_some _ _ _ _ he
    exact absurd h this.2.2.2
  rename_i h2
  split at h
  · rename_i i e he
    have := fstE_some _ _ _ _ he
    exact absurd h this.2.2.2
  rename_i h3
  refine ⟨fun i hi => fstE_none _ _ h1 i (by omega) (by omega), fun i hi => fstE_none _ _ h2 i (by omega) (by omega), fun i hi => ?_, by omega⟩
  have := fstE_none _ _ h3 i (by omega) (by omega)
  unfold ccE at this
  split at this
  · cases this
  · rename_i h; simpa using h

theorem tr_iff {l : List Sp} : (checkP l).2 = 0 ↔ Trc l := by
  refine ⟨tr_of, fun h => ?_⟩
  unfold checkP
  rw [if_neg (by have := h.len; omega), fstE_all _ _ fun j _ h2 => h.sg j (by omega), fstE_all _ _ fun j _ h2 => h.lk j (by omega), fstE_all _ _ fun j _ h2 => by simp [ccE, h.cc j (by omega)]]

section
variable {l : List Sp} (h : Trc l)
include h

theorem Trc.once : onceAll l := single_once h.sg
theorem Trc.linked : linkedAll l := link_all h.lk

theorem Trc.both {i : Nat} (hi : i < l.length) : nowhereB l l[i].pa = false ∧ nowhereB l l[i].ca = false ∧ pastB l l[i] = false ∧ lateB l l[i] = false := by
  have h1 := h.lk i hi
  simp only [lkE, List.getElem?_eq_getElem hi, Option.map_some, Option.getD_some, linkE] at h1
  split at h1
  · cases h1
  rename_i h2
  split at h1
  · cases h1
  rename_i h3
  simp only [Bool.or_eq_true, not_or, Bool.not_eq_true] at h2 h3
  exact ⟨h2.1, h2.2, h3.1, h3.2⟩

theorem Trc.single {i : Nat} (hi : i < l.length) : wordsB l[i] = true ∧ timesB l[i] = true := by
  have h1 := h.sg i hi
  simp only [sgE, List.getElem?_eq_getElem hi, Option.map_some, Option.getD_some, singleE] at h1
  split at h1
  · cases h1
  rename_i h2
  split at h1
  · cases h1
  rename_i h3
  exact ⟨by simpa using h2, by simpa using h3⟩

theorem Trc.times {i : Nat} (hi : i < l.length) : 0 ≤ l[i].fr ∧ l[i].fr ≤ l[i].to ∧ l[i].to ≤ 1073741824 := by
  have := (h.single hi).2
  simp [timesB, instB] at this
  omega

end

/-- Where a span leads. -/
def leadS (s : Sp) : ByteArray := orS s.ca s.pa

theorem frAt_nat {l : List Sp} {j : Nat} (hj : j < l.length) : frAt l (j : Int) = l[j].fr ∧ toAt l (j : Int) = l[j].to := by
  simp [frAt, toAt, hj]

theorem stepI_found {l : List Sp} {st : Sp → ByteArray} {a j : Nat} (h : stepI l st a = some j) : ∃ ha : a < l.length, ∃ hj : j < l.length, findI l (st l[a]) = j ∧ sEq l[j].id (st l[a]) = true ∧ sEq (st l[a]) emp = false := by
  unfold stepI at h
  split at h
  · cases h
  rename_i s hs
  split at h
  · cases h
  rename_i h1
  split at h
  · cases h
  rename_i h2
  cases h
  have ha := lt_of_get hs
  rw [List.getElem?_eq_getElem ha] at hs
  cases hs
  rcases findI_spec l (st l[a]) with ⟨h3, _⟩ | ⟨k, hk, h3, h4, _⟩
  · omega
  · have e : (findI l (st l[a])).toNat = k := by rw [h3]; simp
    refine ⟨ha, by rw [e]; exact hk, by rw [e, h3], ?_, by simpa using h1⟩
    simp only [e]
    exact h4

/-- A step along the lead: From does not grow; where it does not fall it is a step to the parent. -/
theorem lead_step {l : List Sp} (h : Trc l) {a j : Nat} (hs : stepI l leadS a = some j) : ∃ (ha : a < l.length) (hj : j < l.length), l[j].fr ≤ l[a].fr ∧ (l[j].fr = l[a].fr → stepP l a = some j) := by
  obtain ⟨ha, hj, h1, h2, h3⟩ := stepI_found hs
  obtain ⟨b1, b2, b3, b4⟩ := h.both ha
  refine ⟨ha, hj, ?_⟩
  unfold leadS orS at h1 h3
  cases hc : sEq l[a].ca emp with
  | true =>
    rw [hc, if_pos rfl] at h1 h3
    simp only [pastB, h3, h1, (frAt_nat hj).1] at b3
    simp at b3
    refine ⟨by omega, fun _ => ?_⟩
    rw [← stepI_pa]
    simp [stepI, ha, h3, h1]
  | false =>
    rw [hc, if_neg (by simp)] at h1 h3
    simp only [lateB, h3, h1, (frAt_nat hj).1] at b4
    simp at b4
    exact ⟨by omega, fun e => by omega⟩

theorem lead_some {l : List Sp} (h : Trc l) {a : Nat} (ha : a < l.length) (he : sEq (leadS l[a]) emp = false) : ∃ j, j < l.length ∧ findI l (leadS l[a]) = j ∧ stepI l leadS a = some j := by
  obtain ⟨b1, b2, _, _⟩ := h.both ha
  have : 0 ≤ findI l (leadS l[a]) := by
    unfold leadS orS at he ⊢
    cases hc : sEq l[a].ca emp with
    | true =>
      simp only [hc, if_true] at he ⊢
      simpa [nowhereB, he] using b1
    | false =>
      simp only [hc, if_false, Bool.false_eq_true]
      simpa [nowhereB, hc] using b2
  obtain ⟨h1, h2⟩ := findI_lt this
  refine ⟨_, h1, h2, ?_⟩
  simp [stepI, ha, he]
  omega

theorem itr_lt {l : List Sp} {st : Sp → ByteArray} : ∀ (n a b : Nat), a < l.length → itr (stepI l st) n a = some b → b < l.length
  | 0, a, b, ha, h => by simp [itr] at h; omega
  | n + 1, a, b, ha, h => by
    simp only [itr] at h
    cases hs : stepI l st a with
    | none => rw [hs] at h; cases h
    | some j => rw [hs] at h; exact itr_lt n j b (stepI_lt hs) h

/-- If one has gone on as often as there are places one has come back. -/
theorem itr_cycle {f : Nat → Option Nat} {L i : Nat} (hf : ∀ n b, itr f n i = some b → b < L) {b : Nat} (h : itr f L i = some b) : ∃ a n, 0 < n ∧ a < L ∧ itr f n a = some a := by
  have hdef : ∀ m, m ≤ L → ∃ a, itr f m i = some a := by
    intro m hm
    rw [show L = m + (L - m) by omega, itr_add] at h
    cases h' : itr f m i with
    | none => rw [h'] at h; cases h
    | some a => exact ⟨a, rfl⟩
  apply Classical.byContradiction
  intro hno
  have hinj : ∀ x y, x < y → y ≤ L → itr f x i ≠ itr f y i := by
    intro x y hxy hy he
    obtain ⟨p, hp⟩ := hdef x (by omega)
    refine hno ⟨p, y - x, by omega, hf x p hp, ?_⟩
    rw [show y = x + (y - x) by omega, itr_add, hp] at he
    simpa using he.symm
  have hp := pigeon L ((List.range (L + 1)).map fun m => (itr f m i).getD 0) (by
    rw [List.Nodup, List.pairwise_map]
    refine List.Pairwise.imp_of_mem ?_ List.pairwise_lt_range
    intro x y hx hy hxy he
    have hy' : y ≤ L := by have := List.mem_range.1 hy; omega
    obtain ⟨p, hp⟩ := hdef x (by omega)
    obtain ⟨q, hq⟩ := hdef y (by omega)
    rw [hp, hq] at he
    simp at he
    exact hinj x y hxy hy' (by rw [hp, hq, he])) (by
    intro x hx
    simp only [List.mem_map, List.mem_range] at hx
    obtain ⟨m, hm, rfl⟩ := hx
    obtain ⟨p, hp⟩ := hdef m (by omega)
    rw [hp]; exact hf m p hp)
  simp at hp
  omega

theorem par_acyclic {l : List Sp} (h : Trc l) {a n : Nat} (hn : 0 < n) (ha : a < l.length) : itr (stepP l) n a ≠ some a := by
  intro hi
  have h1 : back (stepP l) a n a = true := (back_iff _ _ _ _).2 ⟨n - 1, by omega, by rw [show n - 1 + 1 = n by omega]; exact hi⟩
  have h2 : back (stepP l) a l.length a = true := by
    rcases Nat.lt_or_ge n l.length with hl | hl
    · obtain ⟨k, hk, hk2⟩ := (back_iff _ _ _ _).1 h1
      exact (back_iff _ _ _ _).2 ⟨k, by omega, hk2⟩
    · rw [← back_fuel (stepP l) l.length a ha (fun _ _ h => stepP_lt h) n hl]; exact h1
  have := h.cc a ha
  rw [circB, h2] at this
  cases this

/-- Along the lead one never comes back. -/
theorem lead_acyclic {l : List Sp} (h : Trc l) {a n : Nat} (hn : 0 < n) (ha : a < l.length) : itr (stepI l leadS) n a ≠ some a := by
  intro hi
  have mono : ∀ (n a b : Nat), (ha : a < l.length) → itr (stepI l leadS) n a = some b → ∃ hb : b < l.length, l[b].fr ≤ l[a].fr ∧ (l[b].fr = l[a].fr → itr (stepP l) n a = some b) := by
    intro n
    induction n with
    | zero => intro a b ha h; simp [itr] at h; subst h; exact ⟨ha, by omega, fun _ => rfl⟩
    | succ n ih =>
      intro a b ha hi
      simp only [itr] at hi ⊢
      cases hs : stepI l leadS a with
      | none => rw [hs] at hi; cases hi
      | some j =>
        rw [hs] at hi
        obtain ⟨_, hj, h1, h2⟩ := lead_step h hs
        obtain ⟨hb, h3, h4⟩ := ih j b hj hi
        refine ⟨hb, by omega, fun e => ?_⟩
        rw [h2 (by omega)]
        exact h4 (by omega)
  obtain ⟨hb, _, h2⟩ := mono n a a ha hi
  exact par_acyclic h hn ha (h2 rfl)

theorem lead_ends {l : List Sp} (h : Trc l) {i : Nat} (hi : i < l.length) : itr (stepI l leadS) l.length i = none := by
  cases he : itr (stepI l leadS) l.length i with
  | none => rfl
  | some b =>
    obtain ⟨a, n, hn, ha, hc⟩ := itr_cycle (fun n b => itr_lt n i b hi) he
    exact absurd hc (lead_acyclic h hn ha)

theorem par_ends {l : List Sp} (h : Trc l) {i : Nat} (hi : i < l.length) : itr (stepP l) l.length i = none := by
  cases he : itr (stepP l) l.length i with
  | none => rfl
  | some b =>
    obtain ⟨a, n, hn, ha, hc⟩ := itr_cycle (f := stepP l) (fun n b => itr_lt (st := Sp.pa) n i b hi) he
    exact absurd hc (par_acyclic h hn ha)

/-- The way from a span to a root, as identifiers. -/
def wayI (l : List Sp) (i : Nat) : List Nat := visits (stepI l leadS) l.length i
def idAt (l : List Sp) (x : Nat) : ByteArray := ((l[x]?).map (·.id)).getD emp
def causesP (l : List Sp) (x : ByteArray) : List ByteArray × Int :=
  if (spanP l x).2 = 0 then ((wayI l (spanP l x).1.toNat).map (idAt l), 0) else ([], (spanP l x).2)

theorem spanP_ok {l : List Sp} {x : ByteArray} (h : (spanP l x).2 = 0) : Trc l ∧ ∃ i, ∃ hi : i < l.length, (spanP l x).1 = (i : Nat) ∧ findI l x = (i : Nat) ∧ sEq l[i].id x = true := by
  unfold spanP at h ⊢
  split at h
  · rename_i h1; exact absurd h h1
  rename_i h1
  split at h
  · cases h
  rename_i h2
  rw [if_neg h1, if_neg h2]
  refine ⟨tr_of (Classical.not_not.1 h1), ?_⟩
  rcases findI_spec l x with ⟨h3, _⟩ | ⟨k, hk, h3, h4, _⟩
  · omega
  · exact ⟨k, hk, h3, h3, h4⟩

end Go.Proofs.Ytppkkonhfkegoaa
