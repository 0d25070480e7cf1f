/- Texts joined by pack.py: XSyXD -/
import Derived.Test.YtglndfgmlminpaaGreatDoorSq27
set_option maxHeartbeats 8000000
set_option maxRecDepth 100000
namespace Go.Proofs.YtglndfgmlminpaaGreatDoor
open Go.RowKit
section
variable {l : List Nd}
theorem x_bare_null {i : Nat} {s : Bs} {v : Int} {ks : List Bs} {js : List Int} (hi : l[i]? = some ⟨1, s, v, ks, js⟩) : d2_ l i ec_ := by
 intro bs hb
 have hb2 : bs.length + 4 ≤ 70368744177664 := hb
 have hg : (l.map ndD)[((i : Nat) : Int).toNat]? = some [.cv (.int .i64 1), .cv (.string (mk s)), .cv (.int .i64 v), .sl 1 (ks.map bl_), .sl 1 (List.map ae_ js)] := by
  rw [i_, e_, hi]; rfl
 refine pcx Tryz.func161 kR kR ?_
 conv => whnf
 refine ⟨g_ i, _, hg, ?_⟩
 repeat ((conv => whnf); first | refine kT ?_ | refine kF ?_)
 refine T_ (T := TM prM) (φ := []) (gf := false) (el_ (l := l) (bs := bs) ec_ (w_ hb dC)) ?_
 conv => whnf
 exact ⟨rfl, rfl, rfl⟩
theorem qa_ {i : Nat} {s : Bs} {ks : List Bs} {js : List Int} (hi : l[i]? = some ⟨2, s, 0, ks, js⟩) : d2_ l i cy_ := by
 intro bs hb
 have hw : IntKind.i64.wrap ((BitVec.ofInt IntKind.i64.bits 0 &&& BitVec.ofInt IntKind.i64.bits 1).toNat : Nat) = 0 := by decide
 have hg : (l.map ndD)[((i : Nat) : Int).toNat]? = some [.cv (.int .i64 2), .cv (.string (mk s)), .cv (.int .i64 0), .sl 1 (ks.map bl_), .sl 1 (List.map ae_ js)] := by
  rw [i_, e_, hi]; rfl
 refine pcx Tryz.func161 kR kR ?_
 conv => whnf
 refine ⟨g_ i, _, hg, ?_⟩
 repeat ((conv => whnf); first | refine kT ?_ | refine kF ?_)
 refine ⟨none, kR, ?_⟩
 conv => whnf
 rw [hw]
 refine ⟨dC, dC, _, rfl, ?_⟩
 conv => whnf
 refine T_ (T := TM prM) (φ := []) (gf := false) (el_ (l := l) (bs := bs) cy_ (w_ hb dC)) ?_
 conv => whnf
 exact ⟨rfl, rfl, rfl⟩
theorem p9_ {i : Nat} {s : Bs} {ks : List Bs} {js : List Int} (hi : l[i]? = some ⟨2, s, 1, ks, js⟩) : d2_ l i eb_ := by
 intro bs hb
 have hw : IntKind.i64.wrap ((BitVec.ofInt IntKind.i64.bits 1 &&& BitVec.ofInt IntKind.i64.bits 1).toNat : Nat) = 1 := by decide
 have hg : (l.map ndD)[((i : Nat) : Int).toNat]? = some [.cv (.int .i64 2), .cv (.string (mk s)), .cv (.int .i64 1), .sl 1 (ks.map bl_), .sl 1 (List.map ae_ js)] := by
  rw [i_, e_, hi]; rfl
 refine pcx Tryz.func161 kR kR ?_
 conv => whnf
 refine ⟨g_ i, _, hg, ?_⟩
 repeat ((conv => whnf); first | refine kT ?_ | refine kF ?_)
 refine ⟨none, kR, ?_⟩
 conv => whnf
 rw [hw]
 refine ⟨dC, dC, _, rfl, ?_⟩
 conv => whnf
 refine T_ (T := TM prM) (φ := []) (gf := false) (el_ (l := l) (bs := bs) eb_ (w_ hb dC)) ?_
 conv => whnf
 exact ⟨rfl, rfl, rfl⟩
theorem x_bare_int {i : Nat} {s : Bs} {v : Int} {ks : List Bs} {js : List Int} (hi : l[i]? = some ⟨3, s, v, ks, js⟩) (hv : -9223372036854775808 ≤ v ∧ v ≤ 9223372036854775807) : d2_ l i (aa_ ⟨3, [], v, 0⟩).1 := by
 intro bs hb
 have hg : (l.map ndD)[((i : Nat) : Int).toNat]? = some [.cv (.int .i64 3), .cv (.string (mk s)), .cv (.int .i64 v), .sl 1 (ks.map bl_), .sl 1 (List.map ae_ js)] := by
  rw [i_, e_, hi]; rfl
 refine pcx Tryz.func161 kR kR ?_
 conv => whnf
 refine ⟨g_ i, _, hg, ?_⟩
 repeat ((conv => whnf); first | refine kT ?_ | refine kF ?_)
 refine T_ (T := TM prM) (φ := []) (gf := false) (oe_ (l := l) ⟨3, [], v, 0⟩ sI hv bs hb) ?_
 conv => whnf
 exact ⟨rfl, rfl, rfl⟩
theorem x_bare_str {i : Nat} {s : Bs} {v : Int} {ks : List Bs} {js : List Int} (hi : l[i]? = some ⟨4, s, v, ks, js⟩) (hs : s.length ≤ 1000000) : d2_ l i (aa_ (tk 4 s)).1 := by
 intro bs hb
 have hg : (l.map ndD)[((i : Nat) : Int).toNat]? = some [.cv (.int .i64 4), .cv (.string (mk s)), .cv (.int .i64 v), .sl 1 (ks.map bl_), .sl 1 (List.map ae_ js)] := by
  rw [i_, e_, hi]; rfl
 refine pcx Tryz.func161 kR kR ?_
 conv => whnf
 refine ⟨g_ i, _, hg, ?_⟩
 repeat ((conv => whnf); first | refine kT ?_ | refine kF ?_)
 refine T_ (T := TM prM) (φ := []) (gf := false) (oe_ (l := l) (tk 4 s) hs ⟨by show (-9223372036854775808 : Int) ≤ 0; omega, by show (0 : Int) ≤ 9223372036854775807; omega⟩ bs hb) ?_
 conv => whnf
 exact ⟨rfl, rfl, rfl⟩
theorem x_bare_var {i : Nat} {s : Bs} {v : Int} {ks : List Bs} {js : List Int} (hi : l[i]? = some ⟨5, s, v, ks, js⟩) : d2_ l i s := by
 intro bs hb
 have hg : (l.map ndD)[((i : Nat) : Int).toNat]? = some [.cv (.int .i64 5), .cv (.string (mk s)), .cv (.int .i64 v), .sl 1 (ks.map bl_), .sl 1 (List.map ae_ js)] := by
  rw [i_, e_, hi]; rfl
 refine pcx Tryz.func161 kR kR ?_
 conv => whnf
 refine ⟨g_ i, _, hg, ?_⟩
 repeat ((conv => whnf); first | refine kT ?_ | refine kF ?_)
 refine ⟨none, kR, ?_⟩
 conv => whnf
 refine T_ (T := TM prM) (φ := []) (gf := false) (el_ (l := l) (bs := bs) s (w_ hb dC)) ?_
 conv => whnf
 exact ⟨rfl, rfl, rfl⟩
end
end Go.Proofs.YtglndfgmlminpaaGreatDoor
