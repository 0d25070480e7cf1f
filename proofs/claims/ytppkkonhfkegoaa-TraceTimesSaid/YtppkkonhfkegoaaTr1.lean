/-
  Contracts of the packages trace and faasref51, part one: spans; where a span stands.
-/
import Derived.Test.YtppkkonhfkegoaaSxU
import Derived.Test.YtppkkonhfkegoaaIdent3
namespace Go.Proofs.Ytppkkonhfkegoaa
open Go.RowKit

theorem known {c : Bool} (b : Bool) {K : Bool → Prop} (hc : c = b) (h : K b) : ∀ b', c = b' → K b' := fun b' e => by subst e; rw [hc]; exact h

/-- A span. -/
structure Sp where
  id : ByteArray
  pa : ByteArray
  ca : ByteArray
  nm : ByteArray
  fr : Int
  to : Int
def spD (s : Sp) : List D := [.cv (.string s.id), .cv (.string s.pa), .cv (.string s.ca), .cv (.string s.nm), .cv (.int .i64 s.fr), .cv (.int .i64 s.to)]
abbrev sps (l : List Sp) : V := .sl true 6 (l.map spD)
abbrev Sp.V (s : Sp) : V := .ag [str s.id, str s.pa, str s.ca, str s.nm, int s.fr, int s.to]
def sEq (a b : ByteArray) : Bool := a.toList == b.toList

theorem x_find1 (s : Sp) (x : ByteArray) : MCalls Try.prog 58 [s.V, .bx 0 0] [.box [str x]] (boo (sEq s.id x)) [.box [str x]] := by
  refine msx Try.func58 (by kernel_rfl) (by kernel_rfl) ?_
  exact ⟨rfl, rfl, rfl⟩

/-- Where an identifier stands first, from place i on. -/
def findFrom (x : ByteArray) : List Sp → Nat → Int
  | [], _ => -1
  | s :: l, i => if sEq s.id x then i else findFrom x l (i + 1)
def findI (l : List Sp) (x : ByteArray) : Int := findFrom x l 0

set_option maxRecDepth 100000 in
theorem x_indexf (l : List Sp) (x : ByteArray) (hl : l.length ≤ 8796093022207) :
    MCalls Try.prog 57 [.sl false 6 (l.map spD), .fn 58 0 [.bx 0 0]] [.box [str x]] (int (findI l x)) [.box [str x]] := by
  refine msx Try.func57 (by kernel_rfl) (by kernel_rfl) ?_
  conv => whnf
  refine ⟨[], Nat, fun k => [(8, int k)], fun _ => [], fun k => k ≤ l.length ∧ findFrom x (l.drop k) k = findI l x, fun k => l.length - k, 0, ⟨by simp, rfl⟩, ?_, ?_⟩
  · refine ⟨rfl, ?_, ?_⟩ <;> repeat' (first | exact trivial | exact rfl | refine and_rfl ?_ | refine and_two ?_ ?_)
  rintro k ⟨hk, hf⟩
  conv => whnf
  rintro (_ | _) h1
  · simp at h1
    have e : k = l.length := by omega
    subst e
    simp [findFrom] at hf
    exact ⟨rfl, rfl, by rw [← hf]; rfl⟩
  simp at h1
  have hd : l.drop k = l[k] :: l.drop (k + 1) := List.drop_eq_getElem_cons h1
  rw [hd] at hf
  simp only [findFrom] at hf
  conv => whnf
  refine ⟨by omega, _, get_map spD h1, ?_⟩
  conv => whnf
  refine mcall (T := TT) (φ := []) (x_find1 l[k] x) ?_
  conv => whnf
  rintro (_ | _) h2
  · rw [h2, if_neg (by simp)] at hf
    conv => whnf
    refine ⟨k + 1, ⟨h1, hf⟩, by dsimp only; omega, ?_⟩
    refine ⟨rfl, ?_, ?_⟩ <;> repeat' (first | exact trivial | exact rfl | refine and_rfl ?_ | refine and_val (wrap_succ (by omega)) ?_ | refine and_two ?_ ?_)
  · rw [h2, if_pos rfl] at hf
    exact ⟨rfl, rfl, by rw [← hf]; rfl⟩

theorem x_find (l : List Sp) (x : ByteArray) (hl : l.length ≤ 8796093022207) : DCalls Try.prog 35 [sps l, str x] (int (findI l x)) := by
  refine sx Try.func35 (by kernel_rfl) ?_
  conv => whnf
  refine mcall (T := TT) (φ := []) (x_indexf l x hl) ?_
  rfl

set_option maxRecDepth 100000 in
theorem x_rfind (l : List Sp) (x : ByteArray) (hl : l.length ≤ 8796093022207) : DCalls Try.prog 42 [sps l, str x] (int (findI l x)) := by
  refine sx Try.func42 (by kernel_rfl) ?_
  conv => whnf
  refine ⟨[], Nat, fun k => [(5, int k)], fun _ => [], fun k => k ≤ l.length ∧ findFrom x (l.drop k) k = findI l x, fun k => l.length - k, 0, ⟨by simp, rfl⟩, ?_, ?_⟩
  · refine ⟨rfl, ?_, ?_⟩ <;> repeat' (first | exact trivial | exact rfl | refine and_rfl ?_ | refine and_two ?_ ?_)
  rintro k ⟨hk, hf⟩
  conv => whnf
  rintro (_ | _) h1
  · simp at h1
    have e : k = l.length := by omega
    subst e
    simp [findFrom] at hf
    exact fin_int hf
  simp at h1
  have hd : l.drop k = l[k] :: l.drop (k + 1) := List.drop_eq_getElem_cons h1
  rw [hd] at hf
  simp only [findFrom] at hf
  conv => whnf
  refine ⟨by omega, _, get_map spD h1, ?_⟩
  conv => whnf
  rintro (_ | _) h2
  · have h2 : sEq l[k].id x = false := h2
    rw [h2, if_neg (by simp)] at hf
    conv => whnf
    refine ⟨k + 1, ⟨h1, hf⟩, by dsimp only; omega, ?_⟩
    refine ⟨rfl, ?_, ?_⟩ <;> repeat' (first | exact trivial | exact rfl | refine and_rfl ?_ | refine and_val (wrap_succ (by omega)) ?_ | refine and_two ?_ ?_)
  · have h2 : sEq l[k].id x = true := h2
    rw [h2, if_pos rfl] at hf
    exact fin_int hf

end Go.Proofs.Ytppkkonhfkegoaa
