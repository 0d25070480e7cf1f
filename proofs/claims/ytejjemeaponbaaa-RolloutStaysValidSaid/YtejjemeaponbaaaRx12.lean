/-
  The laws RolloutEnds and RolloutStaysValid of seat Ytejjemeaponbaaa for any data of their parameters' types.
-/
import Derived.Test.YtejjemeaponbaaaRx11
import Derived.DataShut
namespace Go.Proofs.Ytejjemeaponbaaa
open Go.RowKit

theorem d_ends (ds0 ds1 ds2 ds3 : List D) (h0 : DOk TT 6 23 ds0) (h1 : DOk TT 6 3 ds1) (h2 : DOk TT 6 24 ds2) (h3 : DOk TT 6 3 ds3) :
    DCalls Try.prog 6 [vOf TT 23 ds0, vOf TT 3 ds1, vOf TT 24 ds2, vOf TT 3 ds3] (boo true) := by
  obtain ⟨nm, s, c, v, rfl, hn⟩ := read_al h0
  obtain ⟨k, rfl, _⟩ := h1
  obtain ⟨l, rfl, hl⟩ := read_stgs h2
  obtain ⟨now, rfl, _⟩ := h3
  exact x_ends nm s c v k l now hn hl

theorem read_steps {n : Nat} {ds : List D} (h : DOk TT (n + 2) 46 ds) : ∃ l : List Int, ds = [.sl 1 (l.map stepD)] ∧ ∀ u ∈ l, 0 ≤ u ∧ u ≤ 65535 := by
  obtain ⟨xs, rfl, h1, _, h2⟩ := h
  obtain ⟨l, rfl, hl⟩ := map_of (f := stepD) (p := fun u => 0 ≤ u ∧ u ≤ 65535) fun x hx => by
    obtain ⟨b, rfl, hb⟩ := h2 x hx
    rw [Lit.wf_int_iff] at hb
    exact ⟨b, rfl, hb.1, hb.2⟩
  exact ⟨l, rfl, hl⟩

theorem d_stays (ds0 ds1 ds2 ds3 : List D) (h0 : DOk TT 6 23 ds0) (h1 : DOk TT 6 3 ds1) (h2 : DOk TT 6 24 ds2) (h3 : DOk TT 6 46 ds3) :
    DCalls Try.prog 7 [vOf TT 23 ds0, vOf TT 3 ds1, vOf TT 24 ds2, vOf TT 46 ds3] (boo true) := by
  obtain ⟨nm, s, c, v, rfl, hn⟩ := read_al h0
  obtain ⟨k, rfl, _⟩ := h1
  obtain ⟨l, rfl, hl⟩ := read_stgs h2
  obtain ⟨us, rfl, hu⟩ := read_steps h3
  exact x_stays nm s c v k l us hn hl hu

end Go.Proofs.Ytejjemeaponbaaa
