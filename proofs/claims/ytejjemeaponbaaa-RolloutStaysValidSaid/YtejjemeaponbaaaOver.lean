/-
  A region that draws its order and whose operations read old memory and call functions that only make new memory: one walk, in the order of the text.
-/
import Derived.Test.YtejjemeaponbaaaWords
import Derived.Deep.QuietTactic
import Derived.BigQuiet
namespace Go.Proofs.Ytejjemeaponbaaa
open Go.RowKit

/-- A world that is as w below block B. -/
structure Ov (B : Nat) (w : World) where
  world : World
  same : Below B w world
instance (B : Nat) (w : World) : Nonempty (Ov B w) := ⟨⟨w, Below.refl _ _⟩⟩
def ov {B : Nat} {w : World} (x : Ov B w) : World := x.world
theorem ov_below {B : Nat} {w : World} (x : Ov B w) : Below B w (ov x) := x.same
theorem ov_of {B : Nat} {w w' : World} (h : Below B w w') : ∃ x : Ov B w, w' = ov x := ⟨⟨w', h⟩, rfl⟩
theorem ov_cell {B : Nat} {w : World} {b o : Nat} {v : Value} (h : w.cell? ⟨b, o, none⟩ = some v) (hb : b < B) : ∀ x : Ov B w, (ov x).cell? ⟨b, o, none⟩ = some v :=
  fun x => ((ov_below x).cell (p := ⟨b, o, none⟩) hb).trans h
theorem ov_size {B : Nat} {w : World} (x : Ov B w) : w.heap.size ≤ (ov x).heap.size := (ov_below x).size

theorem wp_region_ov {P : Program} {id : Nat} {Q : Exit → Act → World → Prop} {a : Act} {w0 w : World} {B : Nat} {l : List Oper} (hm : P.follows .mixedOrders = true) (hB : Region.lexB .any l.toArray = true) (hb : Below B w0 w)
    (h : wpQuiet P l.toArray (fun w' => ∃ x : Ov B w0, w' = ov x) (fun a' => ∀ w', (∃ x : Ov B w0, w' = ov x) → Q .normal a' w') l a) : (Code.region id l.toArray true).wp P Q a w :=
  wp_region_quiet (C := fun w' => ∃ x : Ov B w0, w' = ov x) hm hB (ov_of (hb.drew)) (by simpa using h)

/-- A contract met inside such a region. -/
theorem Calls.ov_of {P : Program} {f : FuncId} {args : Array Value} {B : Nat} {w : World} {x : Ov B w} {v : Value} (hw : B ≤ w.heap.size)
    (h : Calls P f args (ov x) fun e w' => e = .returned v ∧ Below (ov x).heap.size (ov x) w') : Calls P f args (ov x) fun e w'' => e = .returned v ∧ ∃ y : Ov B w, w'' = ov y :=
  h.mono fun _ _ ⟨he, hb⟩ => ⟨he, Proofs.Ytejjemeaponbaaa.ov_of ((ov_below x).trans (hb.mono (Nat.le_trans hw (ov_size x))))⟩

end Go.Proofs.Ytejjemeaponbaaa
