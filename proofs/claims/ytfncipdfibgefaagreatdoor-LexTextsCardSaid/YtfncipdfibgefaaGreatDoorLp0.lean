/- Texts joined by pack.py: XWords XSxG0 -/
import Derived.Test.YtfncipdfibgefaaGreatDoorRows
import Derived.WalkKit
import Derived.WalkSpells
import Derived.WalkLawsBesides
import Derived.Lib.Hide
import Derived.Lib.LaidTab
import Derived.Lib.ItoaNum
/-
  Words for memory: a slice that reads as a list of values, and what keeps it so.
-/
namespace Go.Proofs.YtfncipdfibgefaaGreatDoor
open Go.RowKit

/-- The slice with head A, length n and elements of 'size' cells reads as the cells xs, all below block B. -/
structure Rd (w : World) (B size : Nat) (A : Option Addr) (n : Nat) (xs : List Value) : Prop where
  len : xs.length = n * size
  here : 0 < n → ∃ b o, A = some ⟨b, o, none⟩ ∧ b < B ∧ ∀ j u, xs[j]? = some u → w.cell? ⟨b, o + j, none⟩ = some u

theorem Rd.nil {w : World} {B size : Nat} {A : Option Addr} : Rd w B size A 0 [] := ⟨by simp, fun h => absurd h (by omega)⟩
theorem Rd.below {w w' : World} {B size n : Nat} {A : Option Addr} {xs : List Value} (h : Rd w B size A n xs) (hb : Below B w w') : Rd w' B size A n xs :=
  ⟨h.len, fun hn => by
    obtain ⟨b, o, e, hlt, hc⟩ := h.here hn
    exact ⟨b, o, e, hlt, fun j u hu => (hb.cell (p := ⟨b, o + j, none⟩) hlt).trans (hc j u hu)⟩⟩
theorem Rd.more {w : World} {B B' size n : Nat} {A : Option Addr} {xs : List Value} (h : Rd w B size A n xs) (hB : B ≤ B') : Rd w B' size A n xs :=
  ⟨h.len, fun hn => by
    obtain ⟨b, o, e, hlt, hc⟩ := h.here hn
    exact ⟨b, o, e, by omega, hc⟩⟩
theorem Rd.one {w : World} {B n k : Nat} {A : Option Addr} {xs : List Value} (h : Rd w B 1 A n xs) (hk : k < n) :
    ∃ b o u, A = some ⟨b, o, none⟩ ∧ b < B ∧ xs[k]? = some u ∧ w.cell? ⟨b, o + k, none⟩ = some u := by
  obtain ⟨b, o, e, hlt, hc⟩ := h.here (by omega)
  have hl : k < xs.length := by have := h.len; omega
  exact ⟨b, o, xs[k], e, hlt, List.getElem?_eq_getElem hl, hc k _ (List.getElem?_eq_getElem hl)⟩
theorem Rd.of_own {w : World} {base size n c : Nat} {e : TypeId} {A : Option Addr} {xs : List Value} (h : w.ownsRow base e size (.slice A n c) n xs) : Rd w w.heap.size size A n xs := by
  obtain ⟨h1, h2⟩ := h
  refine ⟨h1, fun hn => ?_⟩
  rcases h2 with ⟨h2, h3⟩ | ⟨g, cap, cur, hv, hg, hh, hnc, hcm, hcs, htake⟩
  · omega
  · injection hv with hA _ _
    subst hA
    have hlt : g < w.heap.size := by
      rcases Nat.lt_or_ge g w.heap.size with h | h
      · exact h
      · rw [Array.getElem?_eq_none h] at hh; cases hh
    refine ⟨g, 0, rfl, hlt, fun j u hu => ?_⟩
    rw [cell_of_row w g (0 + j) cur e (0, 0) hh, Nat.zero_add]
    rw [← htake, List.getElem?_take] at hu
    split at hu
    · simpa using hu
    · cases hu

theorem Rd.fresh (w : World) (e : TypeId) (cs : Array Value) (B n : Nat) (hn : cs.size = n) (hB : w.heap.size < B) : Rd (w.alloc (.cells cs e)) B 1 (some ⟨w.heap.size, 0, none⟩) n cs.toList :=
  ⟨by simpa using hn, fun _ => ⟨w.heap.size, 0, rfl, hB, fun j u hu => by
    rw [cell_of_row (w.alloc (.cells cs e)) w.heap.size (0 + j) cs e (0, 0) (heap_alloc_new w _), Nat.zero_add]
    simpa using hu⟩⟩

/-- What is owned, as a value with its parts. -/
theorem own_parts {w : World} {base size n : Nat} {e : TypeId} {v : Value} {xs : List Value} (h : w.ownsRow base e size v n xs) : ∃ A c, v = .slice A n c := by
  rcases h.2 with ⟨rfl, rfl⟩ | ⟨g, cap, cur, rfl, _⟩
  · exact ⟨none, 0, rfl⟩
  · exact ⟨_, _, rfl⟩

theorem own_below {w w' : World} {base size n : Nat} {e : TypeId} {v : Value} {xs : List Value} (h : w.ownsRow base e size v n xs) (hb : Below w.heap.size w w') : w'.ownsRow base e size v n xs :=
  h.kept (row := none) ⟨hb.os, hb.tape, hb.output, hb.size, fun k hk _ => hb.block k hk⟩ (by cases v.ownBlock <;> simp)

theorem own_mono {w : World} {base base' size n : Nat} {e : TypeId} {v : Value} {xs : List Value} (h : w.ownsRow base e size v n xs) (hB : base' ≤ base) : w.ownsRow base' e size v n xs :=
  ⟨h.1, h.2.imp id fun ⟨g, cap, cur, a, b, c⟩ => ⟨g, cap, cur, a, Nat.le_trans hB b, c⟩⟩

/-- Behind an append to an owned row: below its base nothing has turned. -/
theorem own_grown {w w' : World} {base size n : Nat} {e : TypeId} {v : Value} {xs : List Value} (h : w.ownsRow base e size v n xs) (hg : w.grownBy w' v.ownBlock) (hB : base ≤ w.heap.size) : Below base w w' :=
  (Below.refl _ _).grown hg hB (fun k hk => (h.lt k hk).1)

theorem info_string : (Tryz.prog.info? 9).map (fun i => (i.zero, i.size, i.bytes)) = some (some (.string ByteArray.empty), 1, 16) := by kernel_rfl

theorem strcells (l : List ByteArray) : ∀ u ∈ l.map Value.string, u.oneCell' = true := by
  intro u hu
  obtain ⟨s, _, rfl⟩ := List.mem_map.1 hu
  rfl

end Go.Proofs.YtfncipdfibgefaaGreatDoor
/-
  A reader of code over states that name their own memory: the program's variables that are read (this seat: strconv.ErrRange in block 2, the table of powers in block 3).
-/
namespace Go.Proofs.YtfncipdfibgefaaGreatDoor
open Go.RowKit

/-- The blocks of the variables that are read. -/
def glob : Nat → Prop := fun g => g = 2 ∨ g = 3
/-- They hold what was laid. -/
def ginv (w : World) : Prop :=
  (∃ ev, w.cell? ⟨2, 0, none⟩ = some ev ∧ (ev = .nilIface ∨ ∃ te pe, ev = .iface te pe)) ∧ Lib.TabIs Tryz.prog w "internal/strconv.uint64pow10" .u64 Lib.pow10Tab

theorem g3_named : Program.globalNamed Tryz.prog "internal/strconv.uint64pow10" = some 3 := by kernel_rfl

theorem ginv_low {keep : Nat → Prop} {w w' : World} (h : ginv w) (hk : ∀ g, glob g → keep g) (hl : ∀ k, keep k → w'.heap[k]? = w.heap[k]?) : ginv w' := by
  obtain ⟨⟨ev, h1, h2⟩, h3⟩ := h
  have e2 := hl 2 (hk 2 (.inl rfl))
  have e3 := hl 3 (hk 3 (.inr rfl))
  refine ⟨⟨ev, ?_, h2⟩, ?_⟩
  · rw [← h1]; unfold World.cell?; simp only [e2]
  · unfold Lib.TabIs World.var? at h3 ⊢
    rw [g3_named] at h3 ⊢
    simp only [Option.bind_some, e3] at h3 ⊢
    exact h3

theorem ginv_lt {w : World} (h : ginv w) {g : Nat} (hg : glob g) : g < w.heap.size := by
  obtain ⟨⟨ev, h1, h2⟩, h3⟩ := h
  rcases hg with rfl | rfl
  · unfold World.cell? at h1
    rcases Nat.lt_or_ge 2 w.heap.size with h | h
    · exact h
    · simp [Array.getElem?_eq_none h] at h1
  · unfold Lib.TabIs World.var? at h3
    rw [g3_named] at h3
    rcases Nat.lt_or_ge 3 w.heap.size with h | h
    · exact h
    · simp [Array.getElem?_eq_none h] at h3
end Go.Proofs.YtfncipdfibgefaaGreatDoor
