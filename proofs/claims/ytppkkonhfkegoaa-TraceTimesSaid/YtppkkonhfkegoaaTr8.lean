/-
  Contracts of the packages trace and faasref51, part eight: the spans above a span, one after the other.
-/
import Derived.Test.YtppkkonhfkegoaaTr7
import Derived.Test.YtppkkonhfkegoaaSxRB
namespace Go.Proofs.Ytppkkonhfkegoaa
open Go.RowKit

abbrev fnV (f : Nat) : V := .cv (.func (.func f) #[] #[])

theorem x_up (l : List Sp) (i : Int) (f : Nat) : MCalls Try.prog 40 [.sl false 6 (l.map spD), int i, fnV f] [] (.fn 59 0 [.bx 0 0, .bx 1 0, .bx 2 0]) [.box [.sl false 6 (l.map spD)], .box [int i], .box [fnV f]] := by
  refine msx Try.func40 (by kernel_rfl) (by kernel_rfl) ?_
  conv => whnf
  exact ⟨rfl, rfl, rfl⟩

/-- The step from a span. -/
def stepI (l : List Sp) (st : Sp → ByteArray) (a : Nat) : Option Nat := match l[a]? with
  | none => none
  | some s => if sEq (st s) emp then none else if findI l (st s) < 0 then none else some (findI l (st s)).toNat

theorem stepI_pa (l : List Sp) : stepI l Sp.pa = stepP l := rfl

theorem stepI_lt {l : List Sp} {st : Sp → ByteArray} {a j : Nat} (h : stepI l st a = some j) : j < l.length := by
  unfold stepI at h
  split at h
  · cases h
  split at h
  · cases h
  split at h
  · cases h
  cases h
  exact (findI_lt (by omega)).1

/-- The spans that come, one after the other. -/
def visits (nx : Nat → Option Nat) : Nat → Nat → List Nat
  | 0, _ => []
  | f + 1, i => i :: (match nx i with
    | none => []
    | some j => visits nx f j)

end Go.Proofs.Ytppkkonhfkegoaa
