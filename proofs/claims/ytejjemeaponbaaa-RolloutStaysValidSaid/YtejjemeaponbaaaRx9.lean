/-
  The laws RolloutStarts, RolloutNext and RolloutAlarms of seat Ytejjemeaponbaaa for any data of their parameters' types.
-/
import Derived.Test.YtejjemeaponbaaaRx8
import Derived.Test.YtejjemeaponbaaaSxR
namespace Go.Proofs.Ytejjemeaponbaaa
open Go.RowKit

theorem map_of {α : Type} {f : α → List D} {p : α → Prop} : ∀ {xs : List (List D)}, (∀ x ∈ xs, ∃ a, x = f a ∧ p a) → ∃ l : List α, xs = l.map f ∧ ∀ a ∈ l, p a
  | [], _ => ⟨[], rfl, by simp⟩
  | x :: xs, h => by
    obtain ⟨a, rfl, ha⟩ := h x (by simp)
    obtain ⟨l, rfl, hl⟩ := map_of (xs := xs) fun y hy => h y (by simp [hy])
    exact ⟨a :: l, rfl, by simpa using ⟨ha, hl⟩⟩

theorem reach_le {n : Nat} (h : n ≤ reachBytes) : n ≤ maxLen := Nat.le_trans h (by decide)

/-- What is read of stages. -/
theorem read_stgs {n : Nat} {ds : List D} (h : DOk TT (n + 3) 24 ds) : ∃ l : List Stg, ds = [.sl 2 (l.map stD)] ∧ l.length ≤ 8796093022207 := by
  obtain ⟨xs, rfl, h1, _, h2⟩ := h
  obtain ⟨l, rfl, _⟩ := map_of (f := stD) (p := fun _ => True) fun x hx => by
    obtain ⟨_, _, rfl, ⟨a, rfl, _⟩, _, _, rfl, ⟨b, rfl, _⟩, rfl⟩ := h2 x hx
    exact ⟨(a, b), rfl, trivial⟩
  refine ⟨l, rfl, ?_⟩
  have : l.length * 16 ≤ 140737488351232 := by rw [List.length_map] at h1; exact h1
  omega

theorem read_al {n : Nat} {ds : List D} (h : DOk TT (n + 2) 23 ds) : ∃ (nm : ByteArray) (s c v : Int), ds = [.cv (.string nm), .cv (.int .i64 s), .cv (.int .i64 c), .cv (.int .i64 v)] ∧ nm.size ≤ maxLen := by
  obtain ⟨_, _, rfl, ⟨nm, rfl, h1⟩, _, _, rfl, ⟨s, rfl, _⟩, _, _, rfl, ⟨c, rfl, _⟩, _, _, rfl, ⟨v, rfl, _⟩, rfl⟩ := h
  exact ⟨nm, s, c, v, rfl, reach_le h1⟩

theorem read_ro {ds : List D} (h : DOk TT 6 29 ds) : ∃ r : RO, ds.map (D.v true) = [int r.st, str r.nm, int r.s, int r.c, int r.v, stgs r.l, int r.a, int r.si] ∧ r.nm.size ≤ maxLen ∧ r.l.length ≤ 8796093022207 := by
  obtain ⟨_, _, rfl, ⟨st, rfl, _⟩, _, _, rfl, hal, _, _, rfl, hl, _, _, rfl, ⟨a, rfl, _⟩, _, _, rfl, ⟨si, rfl, _⟩, rfl⟩ := h
  obtain ⟨nm, s, c, v, rfl, hn⟩ := read_al hal
  obtain ⟨l, rfl, hl'⟩ := read_stgs hl
  exact ⟨⟨st, nm, s, c, v, l, a, si⟩, rfl, hn, hl'⟩

theorem d_starts (ds0 ds1 ds2 ds3 : List D) (h0 : DOk TT 6 23 ds0) (h1 : DOk TT 6 3 ds1) (h2 : DOk TT 6 24 ds2) (h3 : DOk TT 6 3 ds3) :
    DCalls Try.prog 3 [vOf TT 23 ds0, vOf TT 3 ds1, vOf TT 24 ds2, vOf TT 3 ds3] (boo true) := by
  obtain ⟨nm, s, c, v, rfl, hn⟩ := read_al h0
  obtain ⟨k, rfl, _⟩ := h1
  obtain ⟨l, rfl, hl⟩ := read_stgs h2
  obtain ⟨now, rfl, _⟩ := h3
  exact x_starts nm s c v k l now hn hl

theorem d_next (ds0 ds1 ds2 : List D) (h0 : DOk TT 6 29 ds0) (h1 : DOk TT 6 4 ds1) (h2 : DOk TT 6 3 ds2) :
    DCalls Try.prog 4 [vOf TT 29 ds0, vOf TT 4 ds1, vOf TT 3 ds2] (boo true) := by
  obtain ⟨r, e, hn, hl⟩ := read_ro h0
  obtain ⟨b, rfl⟩ := h1
  obtain ⟨now, rfl, _⟩ := h2
  have := x_nextlaw r b now hn hl
  rw [show vOf TT 29 ds0 = r.V from congrArg V.ag e]
  exact this

theorem d_alarms (ds0 ds1 ds2 : List D) (h0 : DOk TT 6 29 ds0) (h1 : DOk TT 6 40 ds1) (h2 : DOk TT 6 3 ds2) :
    DCalls Try.prog 5 [vOf TT 29 ds0, vOf TT 40 ds1, vOf TT 3 ds2] (boo true) := by
  obtain ⟨r, e, hn, hl⟩ := read_ro h0
  obtain ⟨s, rfl, _⟩ := h1
  obtain ⟨now, rfl, _⟩ := h2
  have := x_alarms r s now hn hl
  rw [show vOf TT 29 ds0 = r.V from congrArg V.ag e]
  exact this

end Go.Proofs.Ytejjemeaponbaaa
