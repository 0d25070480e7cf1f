/-
  Contracts of the closures and of the changes of an alias.
-/
import Derived.Test.YtejjemeaponbaaaAlias
import Derived.Deep.QuietTactic
import Derived.BigQuiet
namespace Go.Proofs.Ytejjemeaponbaaa
open Go.RowKit

def Blk (w : World) (g : Nat) (t : TypeId) (cs : Array Value) : Prop := w.heap[g]? = some (.cells cs t (0, 0))

section
variable {w w' : World} {g : Nat} {t : TypeId} {cs : Array Value}
theorem Blk.lt (h : Blk w g t cs) : g < w.heap.size := by
  rcases Nat.lt_or_ge g w.heap.size with hlt | hge
  · exact hlt
  · unfold Blk at h; rw [Array.getElem?_eq_none hge] at h; cases h
theorem Blk.cell (h : Blk w g t cs) (i : Nat) : w.cell? ⟨g, i, none⟩ = cs[i]? := cell_of_row w g i cs t (0, 0) h
theorem Blk.frozen (h : Blk w g t cs) (i : Nat) : w.frozen? ⟨g, i, none⟩ = false := by
  unfold Blk at h
  simp [World.frozen?, h]
theorem Blk.new (w : World) (t : TypeId) (cs : Array Value) : Blk (w.alloc (.cells cs t)) w.heap.size t cs := heap_alloc_new w _
theorem Blk.alloc (h : Blk w g t cs) (o : Obj) : Blk (w.alloc o) g t cs := (Below.heap_alloc w o g h.lt).trans h
theorem Blk.set_ (h : Blk w g t cs) (i : Nat) (u : Value) : Blk (w.setCell ⟨g, i, none⟩ u) g t (cs.setIfInBounds i u) := by
  unfold Blk at h ⊢
  simp [World.setCell, Array.getElem?_modify, h]
theorem Blk.far (h : Blk w g t cs) {p : Addr} (hp : g ≠ p.block) (u : Value) : Blk (w.setCell p u) g t cs := (Below.heap_setCell w p u g hp).trans h
theorem Blk.below {B : Nat} (h : Blk w g t cs) (hb : Below B w w') (hg : g < B) : Blk w' g t cs := (hb.block g hg).trans h
end

/-- All but block b is as it was. -/
structure But (b : Nat) (w w' : World) : Prop where
  os : w'.os = w.os
  tape : w'.tape = w.tape
  output : w'.output = w.output
  size : w'.heap.size = w.heap.size
  block : ∀ k, k ≠ b → w'.heap[k]? = w.heap[k]?

theorem But.refl (b : Nat) (w : World) : But b w w := ⟨rfl, rfl, rfl, rfl, fun _ _ => rfl⟩
theorem But.setCell {b : Nat} {a w : World} (h : But b a w) (i : Nat) (u : Value) : But b a (w.setCell ⟨b, i, none⟩ u) :=
  ⟨h.os, h.tape, h.output, by simp [World.setCell, h.size], fun k hk => (Below.heap_setCell w ⟨b, i, none⟩ u k hk).trans (h.block k hk)⟩
theorem But.drew {b : Nat} {a w : World} (h : But b a w) : But b a w.drew := ⟨h.os, h.tape, h.output, h.size, h.block⟩
theorem But.drewN {b : Nat} {a w : World} (h : But b a w) (n : Nat) : But b a (w.drewN n) := ⟨h.os, h.tape, h.output, h.size, h.block⟩
theorem But.below {b B : Nat} {a w w' : World} (h : Below B a w) (hb : But b w w') (hB : B ≤ b) : Below B a w' :=
  h.trans ⟨hb.os, hb.tape, hb.output, by rw [hb.size]; exact Nat.le_refl _, fun k hk => hb.block k (by omega)⟩
theorem But.cell {b : Nat} {w w' : World} (h : But b w w') (g o : Nat) (hg : g ≠ b) : w'.cell? ⟨g, o, none⟩ = w.cell? ⟨g, o, none⟩ := World.cell?_of_block (w := w) (h.block g hg)
theorem But.frozen {b : Nat} {w w' : World} (h : But b w w') (g o : Nat) (hg : g ≠ b) : w'.frozen? ⟨g, o, none⟩ = w.frozen? ⟨g, o, none⟩ := World.frozen?_of_block (w := w) (h.block g hg)

theorem al_cells {w : World} {b : Nat} {t : TypeId} {x0 x1 x2 x3 : Value} (h : Blk w b t #[x0, x1, x2, x3]) :
    w.cell? ⟨b, 0, none⟩ = some x0 ∧ w.cell? ⟨b, 1, none⟩ = some x1 ∧ w.cell? ⟨b, 2, none⟩ = some x2 ∧ w.cell? ⟨b, 3, none⟩ = some x3 ∧
    w.frozen? ⟨b, 1, none⟩ = false ∧ w.frozen? ⟨b, 2, none⟩ = false ∧ w.frozen? ⟨b, 3, none⟩ = false :=
  ⟨h.cell 0, h.cell 1, h.cell 2, h.cell 3, h.frozen 1, h.frozen 2, h.frozen 3⟩

set_option maxHeartbeats 1000000 in
theorem stable_any (n : ByteArray) (s c v k : Int) (b : Nat) (w : World) (hw : Blk w b 23 #[.string n, .int .i64 s, .int .i64 c, .int .i64 v]) :
    Calls Try.prog 50 #[.pointer (some ⟨b, 0, none⟩), .int .i64 k] w fun e w' => e = .returned (.tuple #[]) ∧ Blk w' b 23 #[.string n, .int .i64 k, .int .i64 0, .int .i64 0] ∧ But b w w' := by
  obtain ⟨c0, c1, c2, c3, f1, f2, f3⟩ := al_cells hw
  have Hw := Lib.hid hw; clear hw
  go_enter Try.func50, Try.ntmps50
  go_wp2
  go_end0
  exact ⟨rfl, ((Hw.out.set_ 1 _).set_ 2 _).set_ 3 _, (((But.refl _ _).setCell _ _).setCell _ _).setCell _ _⟩

set_option maxHeartbeats 1000000 in
theorem canary_any (n : ByteArray) (s c v : Int) (b : Nat) (w : World) (hw : Blk w b 23 #[.string n, .int .i64 s, .int .i64 c, .int .i64 v]) :
    Calls Try.prog 49 #[.pointer (some ⟨b, 0, none⟩)] w fun e w' => e = .returned (.int .i64 (if c = 0 then 10 else 0)) ∧ w = w' := by
  obtain ⟨c0, c1, c2, c3, f1, f2, f3⟩ := al_cells hw
  have Hw := Lib.hid hw; clear hw
  by_cases hc : c = 0
  all_goals
    go_enter Try.func49, Try.ntmps49
    go_wp2
    go_ret
    exact ⟨reti (by simp_all), rfl⟩

/-- What a change makes of the alias's cells. -/
abbrev AlB (w : World) (b : Nat) (n : ByteArray) (s c v : Int) : Prop := Blk w b 23 #[.string n, .int .i64 s, .int .i64 c, .int .i64 v]

def beginE (s c k : Int) : Int := if inB k 1 32 = false then 2 else if (c != 0) = true then 10 else if (k == s) = true then 6 else 0
set_option maxHeartbeats 1000000 in
theorem beginC_any (n : ByteArray) (s c v k : Int) (b q : Nat) (w : World) (hw : Blk w b 23 #[.string n, .int .i64 s, .int .i64 c, .int .i64 v]) (hq : w.cell? ⟨q, 0, none⟩ = some (.int .i64 k)) :
    Calls Try.prog 41 #[.pointer (some ⟨b, 0, none⟩), .pointer (some ⟨q, 0, none⟩)] w fun e w' => e = .returned (.int .i64 (beginE s c k)) ∧ (beginE s c k = 0 → Blk w' b 23 #[.string n, .int .i64 s, .int .i64 k, .int .i64 0]) ∧ But b w w' := by
  obtain ⟨c0, c1, c2, c3, f1, f2, f3⟩ := al_cells hw
  have Hw := Lib.hid hw; clear hw
  cases h1 : inB k 1 32
  · have hp : beginE s c k = 2 := by simp [beginE, h1]
    rw [hp]; clear hp
    go_enter Try.func41, Try.ntmps41
    go_wp2_with (first
      | (go_at_call 42; refine (in_any _ _ _ _).mono ?_; rintro e w' ⟨rfl, rfl⟩))
    go_ret
    exact ⟨rfl, fun h => absurd h (by decide), But.refl _ _⟩
  cases h2 : (c != 0)
  · cases h3 : (k == s)
    · have hp : beginE s c k = 0 := by simp [beginE, h1, h2, h3]
      rw [hp]; clear hp
      go_enter Try.func41, Try.ntmps41
      go_wp2_with (first
        | (go_at_call 42; refine (in_any _ _ _ _).mono ?_; rintro e w' ⟨rfl, rfl⟩))
      go_quiet (fail)
      go_wp2
      go_ret
      exact ⟨rfl, fun _ => (Hw.out.set_ 2 _).set_ 3 _, (((But.refl _ _).drewN _).setCell _ _).setCell _ _⟩
    · have hp : beginE s c k = 6 := by simp [beginE, h1, h2, h3]
      rw [hp]; clear hp
      go_enter Try.func41, Try.ntmps41
      go_wp2_with (first
        | (go_at_call 42; refine (in_any _ _ _ _).mono ?_; rintro e w' ⟨rfl, rfl⟩))
      go_quiet (fail)
      go_wp2
      go_ret
      exact ⟨rfl, fun h => absurd h (by decide), (But.refl _ _).drewN _⟩
  · have hp : beginE s c k = 10 := by simp [beginE, h1, h2]
    rw [hp]; clear hp
    go_enter Try.func41, Try.ntmps41
    go_wp2_with (first
      | (go_at_call 42; refine (in_any _ _ _ _).mono ?_; rintro e w' ⟨rfl, rfl⟩))
    go_ret
    exact ⟨rfl, fun h => absurd h (by decide), But.refl _ _⟩

def canE (c : Int) : Int := if c = 0 then 10 else 0
set_option maxHeartbeats 1000000 in
theorem promoteC_any (n : ByteArray) (s c v : Int) (b : Nat) (w : World) (hw : Blk w b 23 #[.string n, .int .i64 s, .int .i64 c, .int .i64 v]) :
    Calls Try.prog 51 #[.pointer (some ⟨b, 0, none⟩)] w fun e w' => e = .returned (.int .i64 (canE c)) ∧ (canE c = 0 → Blk w' b 23 #[.string n, .int .i64 c, .int .i64 0, .int .i64 0]) ∧ But b w w' := by
  obtain ⟨c0, c1, c2, c3, f1, f2, f3⟩ := al_cells hw
  have Hw := Lib.hid hw; clear hw
  by_cases h2 : c = 0
  · have hp : canE c = 10 := by simp [canE, h2]
    rw [hp]; clear hp
    have H2 := Lib.hid h2; clear h2
    go_enter Try.func51, Try.ntmps51
    go_wp2_with (first
      | (go_at_call 49; refine (canary_any _ _ _ _ _ _ Hw.out).mono ?_; rintro e w' ⟨rfl, rfl⟩; rw [if_pos H2.out]))
    go_ret
    exact ⟨rfl, fun h => absurd h (by decide), But.refl _ _⟩
  · have hp : canE c = 0 := by simp [canE, h2]
    rw [hp]; clear hp
    have H2 := Lib.hid h2; clear h2
    go_enter Try.func51, Try.ntmps51
    go_wp2_with (first
      | (go_at_call 49; refine (canary_any _ _ _ _ _ _ Hw.out).mono ?_; rintro e w' ⟨rfl, rfl⟩; rw [if_neg H2.out])
      | (go_at_call 50; refine (stable_any _ _ _ _ _ _ _ Hw.out).mono ?_; rintro e w1 ⟨rfl, hb1, hb2⟩))
    go_ret
    exact ⟨rfl, fun _ => hb1, hb2⟩

set_option maxHeartbeats 1000000 in
theorem abortC_any (n : ByteArray) (s c v : Int) (b : Nat) (w : World) (hw : Blk w b 23 #[.string n, .int .i64 s, .int .i64 c, .int .i64 v]) :
    Calls Try.prog 48 #[.pointer (some ⟨b, 0, none⟩)] w fun e w' => e = .returned (.int .i64 (canE c)) ∧ (canE c = 0 → Blk w' b 23 #[.string n, .int .i64 s, .int .i64 0, .int .i64 0]) ∧ But b w w' := by
  obtain ⟨c0, c1, c2, c3, f1, f2, f3⟩ := al_cells hw
  have Hw := Lib.hid hw; clear hw
  by_cases h2 : c = 0
  · have hp : canE c = 10 := by simp [canE, h2]
    rw [hp]; clear hp
    have H2 := Lib.hid h2; clear h2
    go_enter Try.func48, Try.ntmps48
    go_wp2_with (first
      | (go_at_call 49; refine (canary_any _ _ _ _ _ _ Hw.out).mono ?_; rintro e w' ⟨rfl, rfl⟩; rw [if_pos H2.out]))
    go_ret
    exact ⟨rfl, fun h => absurd h (by decide), But.refl _ _⟩
  · have hp : canE c = 0 := by simp [canE, h2]
    rw [hp]; clear hp
    have H2 := Lib.hid h2; clear h2
    go_enter Try.func48, Try.ntmps48
    go_wp2_with (first
      | (go_at_call 49; refine (canary_any _ _ _ _ _ _ Hw.out).mono ?_; rintro e w' ⟨rfl, rfl⟩; rw [if_neg H2.out])
      | (go_at_call 50; refine (stable_any _ _ _ _ _ _ _ Hw.out).mono ?_; rintro e w1 ⟨rfl, hb1, hb2⟩))
    go_ret
    exact ⟨rfl, fun _ => hb1, hb2⟩

end Go.Proofs.Ytejjemeaponbaaa
