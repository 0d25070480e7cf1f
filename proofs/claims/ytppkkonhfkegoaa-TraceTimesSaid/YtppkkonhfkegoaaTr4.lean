/-
  Contracts of the packages trace and faasref51, part four: links in the reference.
-/
import Derived.Test.YtppkkonhfkegoaaTr3
namespace Go.Proofs.Ytppkkonhfkegoaa
open Go.RowKit

set_option maxRecDepth 100000 in
set_option maxHeartbeats 1000000 in
theorem x_rlinked (l : List Sp) (i : Nat) (hi : i < l.length) (hl : l.length ≤ 8796093022207) : DCalls Try.prog 32 [sps l, int i] (int (linkE l l[i])) := by
  refine sx Try.func32 (by kernel_rfl) ?_
  conv => whnf
  refine ⟨by omega, _, get_map spD hi, ?_⟩
  generalize l[i] = s
  conv => whnf
  refine ⟨_, x_rfind l s.pa hl, ?_⟩
  conv => whnf
  refine ⟨_, x_rfind l s.ca hl, ?_⟩
  have r5 : (nowhereB l s.pa || nowhereB l s.ca) = true → int 5 = int (linkE l s) := fun h => fin_int (by rw [linkE, if_pos h])
  have r11 : (nowhereB l s.pa || nowhereB l s.ca) = false → (pastB l s || lateB l s) = true → int 11 = int (linkE l s) := fun h h' => fin_int (by rw [linkE, if_neg (by simp [h]), if_pos h'])
  have r0 : (nowhereB l s.pa || nowhereB l s.ca) = false → (pastB l s || lateB l s) = false → int 0 = int (linkE l s) := fun h h' => fin_int (by rw [linkE, if_neg (by simp [h]), if_neg (by simp [h'])])
  conv => whnf
  rintro (_ | _) h1
  · have a1 : sEq s.pa emp = true := by simpa [sEq, emp] using h1
    have n1 : nowhereB l s.pa = false := by simp [nowhereB, a1]
    have p1 : pastB l s = false := by simp [pastB, a1]
    conv => whnf
    rintro (_ | _) h2
    · have a2 : sEq s.ca emp = true := by simpa [sEq, emp] using h2
      conv => whnf
      refine ⟨none, by kernel_rfl, ?_⟩
      conv => whnf
      refine known false h1 ?_
      conv => whnf
      refine known false h2 ?_
      exact r0 (by rw [n1]; simp [nowhereB, a2]) (by rw [p1]; simp [lateB, a2])
    · have a2 : sEq s.ca emp = false := by simpa [sEq, emp] using h2
      conv => whnf
      rintro (_ | _) h3
      rotate_left
      · exact r5 (by simp at h3; simp [nowhereB, a2, h3])
      simp at h3
      have n2 : nowhereB l s.ca = false := by simp [nowhereB, h3]
      obtain ⟨_, _, _, _, hc⟩ := at_of (findI_lt h3).1
      conv => whnf
      refine ⟨none, by kernel_rfl, ?_⟩
      conv => whnf
      refine known false h1 ?_
      conv => whnf
      refine known true h2 ?_
      conv => whnf
      refine ⟨h3, _, hc, ?_⟩
      conv => whnf
      rintro (_ | _) h4
      · exact r0 (by simp [n1, n2]) (by simp at h4; simp [p1, lateB, a2]; omega)
      · exact r11 (by simp [n1, n2]) (by simp at h4; simp [p1, lateB, a2]; omega)
  · have a1 : sEq s.pa emp = false := by simpa [sEq, emp] using h1
    conv => whnf
    rintro (_ | _) h3
    rotate_left
    · exact r5 (by simp at h3; simp [nowhereB, a1, h3])
    simp at h3
    have n1 : nowhereB l s.pa = false := by simp [nowhereB, h3]
    obtain ⟨_, _, _, _, hp⟩ := at_of (findI_lt h3).1
    conv => whnf
    rintro (_ | _) h2
    · have a2 : sEq s.ca emp = true := by simpa [sEq, emp] using h2
      have n2 : nowhereB l s.ca = false := by simp [nowhereB, a2]
      have q2 : lateB l s = false := by simp [lateB, a2]
      conv => whnf
      refine ⟨none, by kernel_rfl, ?_⟩
      conv => whnf
      refine known true h1 ?_
      conv => whnf
      refine ⟨h3, _, hp, ?_⟩
      conv => whnf
      rintro (_ | _) h4
      · conv => whnf
        refine ⟨h3, _, hp, ?_⟩
        conv => whnf
        rintro (_ | _) h5
        · conv => whnf
          refine known false h2 ?_
          exact r0 (by simp [n1, n2]) (by simp at h4 h5; simp [pastB, q2, a1]; omega)
        · exact r11 (by simp [n1, n2]) (by simp at h4 h5; simp [pastB, q2, a1]; omega)
      · exact r11 (by simp [n1, n2]) (by simp at h4; simp [pastB, q2, a1]; omega)
    · have a2 : sEq s.ca emp = false := by simpa [sEq, emp] using h2
      conv => whnf
      rintro (_ | _) h6
      rotate_left
      · exact r5 (by simp at h6; simp [nowhereB, a2, h6])
      simp at h6
      have n2 : nowhereB l s.ca = false := by simp [nowhereB, h6]
      obtain ⟨_, _, _, _, hc⟩ := at_of (findI_lt h6).1
      conv => whnf
      refine ⟨none, by kernel_rfl, ?_⟩
      conv => whnf
      refine known true h1 ?_
      conv => whnf
      refine ⟨h3, _, hp, ?_⟩
      conv => whnf
      rintro (_ | _) h4
      · conv => whnf
        refine ⟨h3, _, hp, ?_⟩
        conv => whnf
        rintro (_ | _) h5
        · conv => whnf
          refine known true h2 ?_
          conv => whnf
          refine ⟨h6, _, hc, ?_⟩
          conv => whnf
          rintro (_ | _) h7
          · exact r0 (by simp [n1, n2]) (by simp at h4 h5 h7; simp [pastB, lateB, a1, a2]; omega)
          · exact r11 (by simp [n1, n2]) (by simp at h4 h5 h7; simp [pastB, lateB, a1, a2]; omega)
        · exact r11 (by simp [n1, n2]) (by simp at h4 h5; simp [pastB, a1]; omega)
      · exact r11 (by simp [n1, n2]) (by simp at h4; simp [pastB, a1]; omega)

end Go.Proofs.Ytppkkonhfkegoaa
