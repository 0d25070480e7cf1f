/- Texts joined by pack.py: XFd5 -/
import Derived.Test.YtmlednjhemnncaaFp28
import Derived.Test.YtmlednjhemnncaaFp26
namespace Go.Proofs.Ytmlednjhemnncaa
open Go.RowKit
theorem read_run {ds : List D} (h : DOk TT 6 24 ds) : ∃ (q : Int) (L : List Opf) (A B : ByteArray), vOf TT 24 ds = .ag [int q, .sl true 5 (L.map opfD), str A, str B] ∧ L.length ≤ 8796093022207 ∧ (∀ o ∈ L, o.j.id.size ≤ maxLen ∧ o.j.tn.size ≤ maxLen) ∧ A.size ≤ maxLen ∧ B.size ≤ maxLen := by
  obtain ⟨_, _, rfl, ⟨q, rfl, _⟩, _, _, rfl, ⟨xs, rfl, h1, _, h2⟩, _, _, rfl, ⟨a, rfl, g1⟩, _, _, rfl, ⟨b, rfl, g2⟩, rfl⟩ := h
  obtain ⟨l, rfl, hok⟩ := map_ofF (f := opfD) (p := fun o => o.j.id.size ≤ maxLen ∧ o.j.tn.size ≤ maxLen) fun x hx => read_opf (h2 x hx)
  refine ⟨q, l, a, b, rfl, ?_, hok, reach_le g1, reach_le g2⟩
  have : l.length * 56 ≤ 140737488351232 := by rw [List.length_map] at h1; exact h1
  omega
theorem dcalls_flag {P : Program} {f : FuncId} {a : V} {sz : Nat} {xs : List (List D)} {c d : V} {r : V} (h : DCalls P f [.ag [a, .sl false sz xs, c, d]] r) : DCalls P f [.ag [a, .sl true sz xs, c, d]] r :=
  ⟨h.1, fun w vs hg hv => h.2 w vs hg ⟨hv.1, fun i v hi => by
    match i with
    | 0 =>
      simp at hi; subst hi
      have h0 := hv.2 0 _ rfl
      generalize vs.getD 0 undef = u at h0
      cases h0 with
      | ag _ us hl hx =>
        refine .ag _ us (by simpa using hl) fun k v hk => ?_
        match k with
        | 0 => simp at hk; subst hk; exact hx 0 _ rfl
        | 1 =>
          simp at hk; subst hk
          have h1 := hx 1 _ rfl
          generalize us.getD 1 undef = u1 at h1
          cases h1 with
          | sl _ _ _ _ h => exact .sl false sz xs _ h
        | 2 => simp at hk; subst hk; exact hx 2 _ rfl
        | 3 => simp at hk; subst hk; exact hx 3 _ rfl
        | k + 4 => simp at hk
    | i + 1 => simp at hi⟩⟩
theorem d_keeps (ds0 : List D) (h0 : DOk TT 6 24 ds0) : DCalls Try.prog 6 [vOf TT 24 ds0] (boo true) := by
  obtain ⟨q, L, A, B, e, h1, h2, h3, h4⟩ := read_run h0
  rw [e]
  exact dcalls_flag <| x_keeps q L A B h1 h2
end Go.Proofs.Ytmlednjhemnncaa
