/-
  Contracts of the packages trace and faasref51, part three: links.
-/
import Derived.Test.YtppkkonhfkegoaaTr2
namespace Go.Proofs.Ytppkkonhfkegoaa
open Go.RowKit

set_option maxRecDepth 100000 in
theorem x_alone (l : List Sp) (i : Nat) (hi : i < l.length) (hl : l.length ≤ 8796093022207) (hok : l[i].ok) : DCalls Try.prog 31 [sps l, int i] (int (singleE l l[i] i)) := by
  obtain ⟨o1, o2, o3, o4⟩ := hok
  refine sx Try.func31 (by kernel_rfl) ?_
  conv => whnf
  refine ⟨by omega, _, get_map spD hi, ?_⟩
  generalize l[i] = s at o1 o2 o3 o4
  have no : wordsB s = false → int 4 = int (singleE l s i) := fun h => fin_int (by rw [singleE, if_pos h])
  conv => whnf
  refine ⟨_, x_rid s.id o1, ?_⟩
  conv => whnf
  rintro (_ | _) h1
  rotate_left
  · exact no (by simp at h1; simp [wordsB, h1])
  conv => whnf
  refine ⟨_, x_link s.pa o2, ?_⟩
  conv => whnf
  rintro (_ | _) h2
  rotate_left
  · exact no (by simp at h2; simp [wordsB, h2])
  conv => whnf
  refine ⟨_, x_link s.ca o3, ?_⟩
  conv => whnf
  rintro (_ | _) h3
  rotate_left
  · exact no (by simp at h3; simp [wordsB, h3])
  conv => whnf
  refine ⟨_, x_rname s.nm o4, ?_⟩
  conv => whnf
  rintro (_ | _) h4
  rotate_left
  · exact no (by simp at h4; simp [wordsB, h4])
  simp at h1 h2 h3 h4
  have hw : wordsB s = true := by simp [wordsB, h1, h2, h3, h4]
  have no2 : timesB s = false → int 2 = int (singleE l s i) := fun h => fin_int (by rw [singleE, if_neg (by simp [hw]), if_pos h])
  conv => whnf
  refine ⟨_, x_time s.fr, ?_⟩
  conv => whnf
  rintro (_ | _) h5
  rotate_left
  · exact no2 (by simp at h5; simp [timesB, h5])
  conv => whnf
  refine ⟨_, x_time s.to, ?_⟩
  conv => whnf
  rintro (_ | _) h6
  rotate_left
  · exact no2 (by simp at h6; simp [timesB, h6])
  conv => whnf
  rintro (_ | _) h7
  rotate_left
  · exact no2 (by simp at h7; simp [timesB]; omega)
  simp at h5 h6 h7
  have ht : timesB s = true := by simp [timesB, h5, h6, h7]
  conv => whnf
  refine ⟨_, x_rfind l s.id hl, ?_⟩
  conv => whnf
  rintro (_ | _) h8
  · exact fin_int (by simp at h8; rw [singleE, if_neg (by simp [hw]), if_neg (by simp [ht]), if_neg (by omega)])
  · exact fin_int (by simp at h8; rw [singleE, if_neg (by simp [hw]), if_neg (by simp [ht]), if_pos (by omega)])

theorem findFrom_spec (x : ByteArray) : ∀ (l : List Sp) (i : Nat), findFrom x l i = -1 ∧ (∀ s ∈ l, sEq s.id x = false) ∨ ∃ k, ∃ h : k < l.length, findFrom x l i = ((i + k : Nat) : Int) ∧ sEq l[k].id x = true ∧ ∀ j, (hj : j < k) → sEq (l[j]'(by omega)).id x = false
  | [], i => .inl ⟨rfl, by simp⟩
  | s :: l, i => by
    unfold findFrom
    cases h : sEq s.id x with
    | true => exact .inr ⟨0, by simp, by simp, h, fun j hj => by omega⟩
    | false =>
      rw [if_neg (by simp)]
      rcases findFrom_spec x l (i + 1) with ⟨h1, h2⟩ | ⟨k, hk, h1, h2, h3⟩
      · refine .inl ⟨h1, fun t ht => ?_⟩
        rcases List.mem_cons.1 ht with rfl | ht
        · exact h
        · exact h2 t ht
      · refine .inr ⟨k + 1, by simpa using hk, by rw [h1]; congr 1; omega, by simpa using h2, fun j hj => ?_⟩
        cases j with
        | zero => exact h
        | succ j => simpa using h3 j (by omega)

theorem findI_spec (l : List Sp) (x : ByteArray) : findI l x = -1 ∧ (∀ s ∈ l, sEq s.id x = false) ∨ ∃ k, ∃ h : k < l.length, findI l x = (k : Int) ∧ sEq l[k].id x = true ∧ ∀ j, (hj : j < k) → sEq (l[j]'(by omega)).id x = false := by
  simpa [findI] using findFrom_spec x l 0

theorem findI_lt {l : List Sp} {x : ByteArray} (h : 0 ≤ findI l x) : (findI l x).toNat < l.length ∧ findI l x = ((findI l x).toNat : Int) := by
  rcases findI_spec l x with ⟨h1, _⟩ | ⟨k, hk, h1, _⟩
  · omega
  · rw [h1]; exact ⟨by simpa using hk, by simp⟩

def frAt (l : List Sp) (i : Int) : Int := ((l[i.toNat]?).map (·.fr)).getD 0
def toAt (l : List Sp) (i : Int) : Int := ((l[i.toNat]?).map (·.to)).getD 0
theorem at_of {l : List Sp} {i : Int} (h : i.toNat < l.length) : ∃ a b c d, (l.map spD)[i.toNat]? = some [.cv (.string a), .cv (.string b), .cv (.string c), .cv (.string d), .cv (.int .i64 (frAt l i)), .cv (.int .i64 (toAt l i))] := by
  refine ⟨l[i.toNat].id, l[i.toNat].pa, l[i.toNat].ca, l[i.toNat].nm, ?_⟩
  simp [h, spD, frAt, toAt]

/-- A link leads nowhere. -/
def nowhereB (l : List Sp) (x : ByteArray) : Bool := !sEq x emp && decide (findI l x < 0)
def pastB (l : List Sp) (s : Sp) : Bool := !sEq s.pa emp && (decide (frAt l (findI l s.pa) > s.fr) || decide (toAt l (findI l s.pa) < s.to))
def lateB (l : List Sp) (s : Sp) : Bool := !sEq s.ca emp && decide (frAt l (findI l s.ca) ≥ s.fr)
def linkE (l : List Sp) (s : Sp) : Int := if (nowhereB l s.pa || nowhereB l s.ca) = true then 5 else if (pastB l s || lateB l s) = true then 11 else 0

set_option maxRecDepth 100000 in
set_option maxHeartbeats 1000000 in
theorem x_linked (l : List Sp) (s : Sp) (hl : l.length ≤ 8796093022207) : DCalls Try.prog 29 [sps l, s.V] (int (linkE l s)) := by
  refine sx Try.func29 (by kernel_rfl) ?_
  conv => whnf
  refine ⟨none, by kernel_rfl, ?_⟩
  conv => whnf
  refine ⟨_, x_find l s.pa hl, ?_⟩
  conv => whnf
  refine ⟨_, x_find l s.ca hl, ?_⟩
  have r5 : (nowhereB l s.pa || nowhereB l s.ca) = true → int 5 = int (linkE l s) := fun h => fin_int (by rw [linkE, if_pos h])
  have r11 : (nowhereB l s.pa || nowhereB l s.ca) = false → (pastB l s || lateB l s) = true → int 11 = int (linkE l s) := fun h h' => fin_int (by rw [linkE, if_neg (by simp [h]), if_pos h'])
  have r0 : (nowhereB l s.pa || nowhereB l s.ca) = false → (pastB l s || lateB l s) = false → int 0 = int (linkE l s) := fun h h' => fin_int (by rw [linkE, if_neg (by simp [h]), if_neg (by simp [h'])])
  conv => whnf
  rintro (_ | _) h1
  · have a1 : sEq s.pa emp = true := by simpa [sEq, emp] using h1
    have n1 : nowhereB l s.pa = false := by simp [nowhereB, a1]
    have p1 : pastB l s = false := by simp [pastB, a1]
    conv => whnf
    rintro (_ | _) h2
    · have a2 : sEq s.ca emp = true := by simpa [sEq, emp] using h2
      conv => whnf
      refine ⟨none, by kernel_rfl, ?_⟩
      conv => whnf
      refine known false h1 ?_
      conv => whnf
      refine known false h2 ?_
      exact r0 (by rw [n1]; simp [nowhereB, a2]) (by rw [p1]; simp [lateB, a2])
    · have a2 : sEq s.ca emp = false := by simpa [sEq, emp] using h2
      conv => whnf
      rintro (_ | _) h3
      rotate_left
      · exact r5 (by simp at h3; simp [nowhereB, a2, h3])
      simp at h3
      have n2 : nowhereB l s.ca = false := by simp [nowhereB, h3]
      obtain ⟨_, _, _, _, hc⟩ := at_of (findI_lt h3).1
      conv => whnf
      refine ⟨none, by kernel_rfl, ?_⟩
      conv => whnf
      refine known false h1 ?_
      conv => whnf
      refine known true h2 ?_
      conv => whnf
      refine ⟨h3, _, hc, ?_⟩
      conv => whnf
      rintro (_ | _) h4
      · exact r0 (by simp [n1, n2]) (by simp at h4; simp [p1, lateB, a2]; omega)
      · exact r11 (by simp [n1, n2]) (by simp at h4; simp [p1, lateB, a2]; omega)
  · have a1 : sEq s.pa emp = false := by simpa [sEq, emp] using h1
    conv => whnf
    rintro (_ | _) h3
    rotate_left
    · exact r5 (by simp at h3; simp [nowhereB, a1, h3])
    simp at h3
    have n1 : nowhereB l s.pa = false := by simp [nowhereB, h3]
    obtain ⟨_, _, _, _, hp⟩ := at_of (findI_lt h3).1
    conv => whnf
    rintro (_ | _) h2
    · have a2 : sEq s.ca emp = true := by simpa [sEq, emp] using h2
      have n2 : nowhereB l s.ca = false := by simp [nowhereB, a2]
      have q2 : lateB l s = false := by simp [lateB, a2]
      conv => whnf
      refine ⟨none, by kernel_rfl, ?_⟩
      conv => whnf
      refine known true h1 ?_
      conv => whnf
      refine ⟨h3, _, hp, ?_⟩
      conv => whnf
      rintro (_ | _) h4
      · conv => whnf
        refine ⟨h3, _, hp, ?_⟩
        conv => whnf
        rintro (_ | _) h5
        · conv => whnf
          refine known false h2 ?_
          exact r0 (by simp [n1, n2]) (by simp at h4 h5; simp [pastB, q2, a1]; omega)
        · exact r11 (by simp [n1, n2]) (by simp at h4 h5; simp [pastB, q2, a1]; omega)
      · exact r11 (by simp [n1, n2]) (by simp at h4; simp [pastB, q2, a1]; omega)
    · have a2 : sEq s.ca emp = false := by simpa [sEq, emp] using h2
      conv => whnf
      rintro (_ | _) h6
      rotate_left
      · exact r5 (by simp at h6; simp [nowhereB, a2, h6])
      simp at h6
      have n2 : nowhereB l s.ca = false := by simp [nowhereB, h6]
      obtain ⟨_, _, _, _, hc⟩ := at_of (findI_lt h6).1
      conv => whnf
      refine ⟨none, by kernel_rfl, ?_⟩
      conv => whnf
      refine known true h1 ?_
      conv => whnf
      refine ⟨h3, _, hp, ?_⟩
      conv => whnf
      rintro (_ | _) h4
      · conv => whnf
        refine ⟨h3, _, hp, ?_⟩
        conv => whnf
        rintro (_ | _) h5
        · conv => whnf
          refine known true h2 ?_
          conv => whnf
          refine ⟨h6, _, hc, ?_⟩
          conv => whnf
          rintro (_ | _) h7
          · exact r0 (by simp [n1, n2]) (by simp at h4 h5 h7; simp [pastB, lateB, a1, a2]; omega)
          · exact r11 (by simp [n1, n2]) (by simp at h4 h5 h7; simp [pastB, lateB, a1, a2]; omega)
        · exact r11 (by simp [n1, n2]) (by simp at h4 h5; simp [pastB, a1]; omega)
      · exact r11 (by simp [n1, n2]) (by simp at h4; simp [pastB, a1]; omega)

end Go.Proofs.Ytppkkonhfkegoaa
