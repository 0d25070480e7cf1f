/- Texts joined by pack.py: XSyXB XSyXC XSyXG XSyXI XSyXD -/
import Derived.Test.YtglndfgmlminpaaGreatDoorSp29
set_option maxHeartbeats 8000000
set_option maxRecDepth 100000
namespace Go.Proofs.YtglndfgmlminpaaGreatDoor
open Go.RowKit
section
variable {bs : Bs} {l : List Nd}
theorem plit {a : Bs} {d : Array UInt8} {b : Bool} (h : (a == d.toList) = b) : ((mk a).toList == (⟨d⟩ : ByteArray).toList) = b := (litE a d).trans h
def levN (n : Nd) : Int := if n.kind = 9 then binL n.text else if n.kind = 8 then (if n.text = wNot then 3 else 7) else if n.kind = 10 then 8 else 9
theorem x_level (i : Nat) (hi : i < l.length) : MCalls Tryz.prog 160 [.bx 0 0, int i] (wM bs l) (int (levN l[i])) (wM bs l) := by
 have hg : (l.map ndD)[((i : Nat) : Int).toNat]? = some (ndD l[i]) := get_map ndD hi
 generalize l[i] = n at hg ⊢
 obtain ⟨k, s, v, ks, js⟩ := n
 refine pcx Tryz.func160 (by kernel_rfl) (by kernel_rfl) ?_
 conv => whnf
 refine ⟨Int.natCast_nonneg i, _, hg, ?_⟩
 conv => whnf
 rintro (_ | _) h1
 rotate_left
 ·have h1 : k = 9 := by simpa using h1
  subst h1
  conv => whnf
  refine ⟨_, x_sbinary s, ?_⟩
  conv => whnf
  exact ⟨rfl, rfl, rfl⟩
 have h1 : k ≠ 9 := by simpa using h1
 conv => whnf
 rintro (_ | _) h2
 rotate_left
 ·have h2 : k = 8 := by simpa using h2
  subst h2
  by_cases hs : s = wNot
  ·subst hs
   conv => whnf
   refine known true (plit rfl) ?_
   conv => whnf
   exact ⟨rfl, rfl, rfl⟩
  ·rw [show levN ⟨8, s, v, ks, js⟩ = 7 by unfold levN; simp [hs]]
   conv => whnf
   refine known false (plit (by simpa [wNot] using hs)) ?_
   conv => whnf
   exact ⟨rfl, rfl, rfl⟩
 have h2 : k ≠ 8 := by simpa using h2
 conv => whnf
 rintro (_ | _) h3
 ·have h3 : k ≠ 10 := by simpa using h3
  rw [show levN ⟨k, s, v, ks, js⟩ = 9 by unfold levN; simp [h1, h2, h3]]
  conv => whnf
  exact ⟨rfl, rfl, rfl⟩
 ·have h3 : k = 10 := by simpa using h3
  subst h3
  conv => whnf
  exact ⟨rfl, rfl, rfl⟩
def Wr (f : FuncId) (args : List V) (l : List Nd) (p : Bs) : Prop := ∀ bs : Bs, bs.length + p.length ≤ 70368744177664 → MCalls Tryz.prog f (.bx 0 0 :: args) (wM bs l) (.tu []) (wM (bs ++ p) l)
abbrev BareOk (l : List Nd) (i : Nat) (p : Bs) : Prop := Wr 161 [int i] l p
abbrev ExprOk (l : List Nd) (i : Nat) (req : Int) (p : Bs) : Prop := Wr 121 [int i, int req] l p
theorem x_pexpr {i : Nat} {p : Bs} (req : Int) (hi : i < l.length) (hB : BareOk l i p) : ExprOk l i req (if levN l[i] < req then 40 :: (p ++ [41]) else p) := by
 intro bs hb
 refine pcx Tryz.func121 (by kernel_rfl) (by kernel_rfl) ?_
 conv => whnf
 refine mcall (T := TM prM) (φ := []) (gf := false) (x_level i hi) ?_
 conv => whnf
 rintro (_ | _) h1
 ·have h1 : ¬ levN l[i] < req := by simpa using h1
  rw [if_neg h1] at hb ⊢
  conv => whnf
  refine mcall (T := TM prM) (φ := []) (gf := false) (hB bs hb) ?_
  conv => whnf
  exact ⟨rfl, rfl, rfl⟩
 ·have h1 : levN l[i] < req := by simpa using h1
  rw [if_pos h1] at hb ⊢
  simp only [List.length_cons, List.length_append, List.length_nil] at hb
  conv => whnf
  refine mcall (T := TM prM) (φ := []) (gf := false) (x_wbU (l := l) (bs := bs) 40 (by omega)) ?_
  conv => whnf
  refine mcall (T := TM prM) (φ := []) (gf := false) (hB (bs ++ [40]) (by simp only [List.length_cons, List.length_append, List.length_nil]; omega)) ?_
  conv => whnf
  refine mcall (T := TM prM) (φ := []) (gf := false) (x_wbU (l := l) (bs := bs ++ [40] ++ p) 41 (by simp only [List.length_cons, List.length_append, List.length_nil]; omega)) ?_
  conv => whnf
  exact ⟨rfl, by rw [show bs ++ 40 :: (p ++ [41]) = bs ++ [40] ++ p ++ [41] by simp]; rfl, rfl⟩
theorem x_ptoken (t : Tok) (ht : t.text.length ≤ 1000000) (hv : -9223372036854775808 ≤ t.val ∧ t.val ≤ 9223372036854775807) : Wr 179 [t.V] l (textT t).1 := by
 intro bs hb
 refine pcx Tryz.func179 (by kernel_rfl) (by kernel_rfl) ?_
 conv => whnf
 refine ⟨_, x_textOf t ht hv, ?_⟩
 conv => whnf
 refine mcall (T := TM prM) (φ := []) (gf := false) (x_wsU (l := l) (bs := bs) (textT t).1 (by omega)) ?_
 conv => whnf
 exact ⟨rfl, rfl, rfl⟩
abbrev wkM (bs : Bs) (l : List Nd) (n : Nd) : List Bk := [.box [.bx 1 0], wBox (.bx 1 0) 2 l, wRow bs, .box [int n.kind, bstr n.text, int n.val, .sl false 1 (n.keys.map strD), .sl false 1 (n.kids.map intD)]]
def PartOk (F : FuncId) (l : List Nd) (n : Nd) (j : Nat) (p : Bs) : Prop := ∀ bs : Bs, bs.length + p.length ≤ 70368744177664 → MCalls Tryz.prog F [int j, .bx 0 0, .bx 3 0] (wkM bs l n) (.tu []) (wkM (bs ++ p) l n)
abbrev aM (bs : Bs) (l : List Nd) (n : Nd) : List Bk := [wBox (.bx 0 0) 1 l, wRow bs, .box [.bx 0 0], .box [int n.kind, bstr n.text, int n.val, .sl false 1 (n.keys.map strD), .sl false 1 (n.kids.map intD)]]
def comB : List Bs → Bs
 | [] => []
 | [p] => p
 | p :: q :: ps => p ++ 44 :: 32 :: comB (q :: ps)
theorem comB_snoc : ∀ (ps : List Bs) (p : Bs), ps ≠ [] → comB (ps ++ [p]) = comB ps ++ 44 :: 32 :: p
 | [], _, h => absurd rfl h
 | [a], p, _ => by simp [comB]
 | a :: b :: ps, p, _ => by
  have := comB_snoc (b :: ps) p (by simp)
  simp only [List.cons_append] at this
  simp only [List.cons_append, comB, this, List.append_assoc, List.cons_append]
theorem comB_take {ps : List Bs} {k : Nat} (h : k < ps.length) (h0 : 0 < k) : comB (ps.take (k + 1)) = comB (ps.take k) ++ 44 :: 32 :: ps[k] := by
 rw [List.take_add_one, List.getElem?_eq_getElem h]
 refine comB_snoc _ _ ?_
 intro e
 have := congrArg List.length e
 rw [List.length_take, List.length_nil] at this
 omega
theorem comB_le : ∀ (ps : List Bs) (k : Nat), (comB (ps.take k)).length ≤ (comB ps).length
 | [], k => by simp [comB]
 | [a], 0 => by simp [comB]
 | [a], k + 1 => by simp
 | a :: b :: ps, 0 => by simp [comB]
 | a :: b :: ps, 1 => by simp [comB]
 | a :: b :: ps, k + 2 => by
  have := comB_le (b :: ps) (k + 1)
  simp only [List.take_succ_cons, comB, List.length_append, List.length_cons] at this ⊢
  omega
theorem x_all {F : FuncId} (hF : F = 204 ∨ F = 181 ∨ F = 182) (n : Nd) (ps : List Bs) (hps : ps.length ≤ 1000000) (hP : ∀ (j : Nat) (h : j < ps.length), PartOk F l n j ps[j]) (bs : Bs) (hb : bs.length + (comB ps).length ≤ 70368744177664) :
  MCalls Tryz.prog 180 [.bx 0 0, int ps.length, .fn F 0 [.bx 2 0, .bx 3 0]] (aM bs l n) (.tu []) (aM (bs ++ comB ps) l n) := by
 rcases hF with rfl | rfl | rfl
 all_goals
  refine pcx Tryz.func180 (by kernel_rfl) (by kernel_rfl) ?_
  conv => whnf
  refine ⟨[], Nat, fun k => [(8, int k)], fun k => [(22, some (wRow (bs ++ comB (ps.take k))))], fun k => k ≤ ps.length, fun k => ps.length - k, 0, Nat.zero_le _, ?_, ?_⟩
  ·refine ⟨rfl, ?_, ?_⟩ <;> repeat' (first | exact trivial | exact rfl | (simp [comB]; done) | refine and_rfl ?_ | refine and_two ?_ ?_)
  rintro k hk
  conv => whnf
  rintro (_ | _) h1
  ·have h1 : ps.length ≤ k := by simp at h1; omega
   have e : ps.take k = ps := List.take_of_length_le h1
   conv => whnf
   exact ⟨rfl, by rw [e]; rfl, rfl⟩
  have h1 : k < ps.length := by simp at h1; omega
  have hw : IntKind.i64.wrap (((k : Nat) : Int) + 1) = ((k + 1 : Nat) : Int) := wrap_succ (by omega)
  have hle := comB_le ps (k + 1)
  conv => whnf
  rintro (_ | _) h3
  ·have h3 : k = 0 := by simp at h3; omega
   have e : bs ++ comB (ps.take (k + 1)) = bs ++ comB (ps.take k) ++ ps[k] := by
    subst h3
    rw [List.take_zero, List.take_add_one, List.take_zero, List.getElem?_eq_getElem h1]
    simp [comB]
   have hl : bs.length + (comB (ps.take (k + 1))).length = (bs ++ comB (ps.take k)).length + ps[k].length := by
    have := congrArg List.length e
    rw [List.length_append, List.length_append] at this
    exact this
   conv => whnf
   refine mcall (T := TM prM) (φ := []) (gf := false) (hP k h1 (bs ++ comB (ps.take k)) (by omega)) ?_
   conv => whnf
   refine ⟨k + 1, h1, by (try dsimp only); omega, ?_⟩
   refine ⟨rfl, ?_, ?_⟩ <;> repeat' (first | exact trivial | exact rfl | (rw [e]) | refine and_rfl ?_ | refine and_val hw ?_ | refine and_two ?_ ?_)
  ·have h3 : 0 < k := by simp at h3; omega
   have e : bs ++ comB (ps.take (k + 1)) = bs ++ comB (ps.take k) ++ [44, 32] ++ ps[k] := by
    rw [comB_take h1 h3]; simp
   have hl : bs.length + (comB (ps.take (k + 1))).length = (bs ++ comB (ps.take k) ++ [44, 32]).length + ps[k].length := by
    have := congrArg List.length e
    rw [List.length_append, List.length_append] at this
    exact this
   conv => whnf
   refine mcall (T := TM prM) (φ := []) (gf := false) (x_wsU (l := l) (bs := bs ++ comB (ps.take k)) [44, 32] (by simp only [List.length_append] at hl ⊢; omega)) ?_
   conv => whnf
   refine mcall (T := TM prM) (φ := []) (gf := false) (hP k h1 (bs ++ comB (ps.take k) ++ [44, 32]) (by omega)) ?_
   conv => whnf
   refine ⟨k + 1, h1, by (try dsimp only); omega, ?_⟩
   refine ⟨rfl, ?_, ?_⟩ <;> repeat' (first | exact trivial | exact rfl | (rw [e]) | refine and_rfl ?_ | refine and_val hw ?_ | refine and_two ?_ ?_)
end
end Go.Proofs.YtglndfgmlminpaaGreatDoor
namespace Go.Proofs.YtglndfgmlminpaaGreatDoor
open Go.RowKit
section
variable {l : List Nd}
theorem x_call1 {n : Nd} {j q : Nat} {p : Bs} (hq : n.kids[j]? = some (q : Int)) (hE : ExprOk l q 1 p) : PartOk 204 l n j p := by
 intro bs hb
 have hg : (n.kids.map intD)[((j : Nat) : Int).toNat]? = some (intD ((q : Nat) : Int)) := by
  rw [Int.toNat_natCast, List.getElem?_map, hq]; rfl
 refine pcx Tryz.func204 (by kernel_rfl) (by kernel_rfl) ?_
 conv => whnf
 refine ⟨none, by kernel_rfl, ?_⟩
 conv => whnf
 refine ⟨Int.natCast_nonneg j, _, hg, ?_⟩
 conv => whnf
 refine mcall (T := TM prM) (φ := []) (gf := false) (hE bs hb) ?_
 conv => whnf
 exact ⟨rfl, rfl, rfl⟩
theorem x_bare1 {n : Nd} {j q : Nat} {p : Bs} (hq : n.kids[j]? = some (q : Int)) (hE : ExprOk l q 1 p) : PartOk 181 l n j p := by
 intro bs hb
 have hg : (n.kids.map intD)[((j : Nat) : Int).toNat]? = some (intD ((q : Nat) : Int)) := by
  rw [Int.toNat_natCast, List.getElem?_map, hq]; rfl
 refine pcx Tryz.func181 (by kernel_rfl) (by kernel_rfl) ?_
 conv => whnf
 refine ⟨none, by kernel_rfl, ?_⟩
 conv => whnf
 refine ⟨Int.natCast_nonneg j, _, hg, ?_⟩
 conv => whnf
 refine mcall (T := TM prM) (φ := []) (gf := false) (hE bs hb) ?_
 conv => whnf
 exact ⟨rfl, rfl, rfl⟩
theorem x_bare2 {n : Nd} {j q : Nat} {p s : Bs} (hk : n.keys[j]? = some s) (hs : s.length ≤ 1000000) (hq : n.kids[j]? = some (q : Int)) (hE : ExprOk l q 1 p) : PartOk 182 l n j ((textT (tk 4 s)).1 ++ 58 :: 32 :: p) := by
 intro bs hb
 simp only [List.length_append, List.length_cons] at hb
 have hg : (n.kids.map intD)[((j : Nat) : Int).toNat]? = some (intD ((q : Nat) : Int)) := by
  rw [Int.toNat_natCast, List.getElem?_map, hq]; rfl
 have hg2 : (n.keys.map strD)[((j : Nat) : Int).toNat]? = some (strD s) := by
  rw [Int.toNat_natCast, List.getElem?_map, hk]; rfl
 refine pcx Tryz.func182 (by kernel_rfl) (by kernel_rfl) ?_
 conv => whnf
 refine ⟨none, by kernel_rfl, ?_⟩
 conv => whnf
 refine ⟨Int.natCast_nonneg j, _, hg2, ?_⟩
 conv => whnf
 refine mcall (T := TM prM) (φ := []) (gf := false) (x_ptoken (l := l) (tk 4 s) hs ⟨by show (-9223372036854775808 : Int) ≤ 0; omega, by show (0 : Int) ≤ 9223372036854775807; omega⟩ bs (by omega)) ?_
 conv => whnf
 refine mcall (T := TM prM) (φ := []) (gf := false) (x_wsU (l := l) (bs := bs ++ (textT (tk 4 s)).1) [58, 32] (by simp only [List.length_append, List.length_cons, List.length_nil]; omega)) ?_
 conv => whnf
 refine ⟨none, by kernel_rfl, ?_⟩
 conv => whnf
 refine ⟨Int.natCast_nonneg j, _, hg, ?_⟩
 conv => whnf
 refine mcall (T := TM prM) (φ := []) (gf := false) (hE (bs ++ (textT (tk 4 s)).1 ++ [58, 32]) (by simp only [List.length_append, List.length_cons, List.length_nil]; omega)) ?_
 conv => whnf
 exact ⟨rfl, by rw [show bs ++ ((textT (tk 4 s)).1 ++ 58 :: 32 :: p) = bs ++ (textT (tk 4 s)).1 ++ [58, 32] ++ p by simp]; rfl, rfl⟩
abbrev nF (n : Nd) : V := .ag [int n.kind, bstr n.text, int n.val, .sl false 1 (n.keys.map strD), .sl false 1 (n.kids.map intD)]
theorem x_pcall {n : Nd} {ps : List Bs} (hl : n.kids.length = ps.length) (hn : ps.length ≤ 1000000) (hP : ∀ (j : Nat) (h : j < ps.length), ∃ q : Nat, n.kids[j]? = some (q : Int) ∧ ExprOk l q 1 ps[j]) : Wr 184 [nF n] l (40 :: (comB ps ++ [41])) := by
 intro bs hb
 simp only [List.length_append, List.length_cons, List.length_nil] at hb
 have hll : (n.kids.map intD).length = ps.length := by rw [List.length_map]; exact hl
 refine pcx Tryz.func184 (by kernel_rfl) (by kernel_rfl) ?_
 conv => whnf
 refine mcall (T := TM prM) (φ := []) (gf := false) (x_wbU (l := l) (bs := bs) 40 (by omega)) ?_
 conv => whnf
 rw [hll]
 conv => whnf
 refine mcall (T := TM prM) (φ := []) (gf := false) (x_all (.inl rfl) n ps hn (fun j h => by obtain ⟨q, h1, h2⟩ := hP j h; exact x_call1 h1 h2) (bs ++ [40]) (by simp only [List.length_append, List.length_cons, List.length_nil]; omega)) ?_
 conv => whnf
 refine mcall (T := TM prM) (φ := []) (gf := false) (x_wbU (l := l) (bs := bs ++ [40] ++ comB ps) 41 (by simp only [List.length_append, List.length_cons, List.length_nil]; omega)) ?_
 conv => whnf
 exact ⟨rfl, by rw [show bs ++ 40 :: (comB ps ++ [41]) = bs ++ [40] ++ comB ps ++ [41] by simp]; rfl, rfl⟩
theorem catL (d : Array UInt8) (s : Bs) : (⟨d⟩ : ByteArray) ++ mk s = mk (d.toList ++ s) := by
 rw [← mk_app]; rfl
theorem catR (d : Array UInt8) (s : Bs) : mk s ++ (⟨d⟩ : ByteArray) = mk (s ++ d.toList) := by
 rw [← mk_app]; rfl
theorem size_d (d : Array UInt8) : (⟨d⟩ : ByteArray).size = d.toList.length := by simp [ByteArray.size]
theorem x_oper {k v : Int} {s : Bs} {ks : List Bs} {q1 q2 : Nat} {p1 p2 : Bs} (hs : s.length ≤ 1000) (h1 : ExprOk l q1 (if binL s = 4 then 5 else binL s) p1) (h2 : ExprOk l q2 (binL s + 1) p2) (hbl : -1000 ≤ binL s ∧ binL s ≤ 1000) :
  Wr 183 [.ag [int k, bstr s, int v, .sl false 1 (ks.map strD), .sl false 1 ([(q1 : Int), (q2 : Int)].map intD)]] l (p1 ++ 32 :: (s ++ 32 :: p2)) := by
 intro bs hb
 simp only [List.length_append, List.length_cons] at hb
 have hw : IntKind.i64.wrap (binL s + 1) = binL s + 1 := wrap_in (by omega)
 refine pcx Tryz.func183 (by kernel_rfl) (by kernel_rfl) ?_
 conv => whnf
 refine ⟨_, x_sbinary s, ?_⟩
 conv => whnf
 rw [hw]
 conv => whnf
 rintro (_ | _) h4
 ·have h4 : binL s ≠ 4 := by simpa using h4
  rw [if_neg h4] at h1
  conv => whnf
  refine ⟨by decide, _, rfl, ?_⟩
  conv => whnf
  refine mcall (T := TM prM) (φ := []) (gf := false) (h1 bs (by omega)) ?_
  conv => whnf
  refine ⟨none, by kernel_rfl, ?_⟩
  conv => whnf
  refine ⟨by rw [mk_size, size_d]; show 1 + _ ≤ _; omega, ?_⟩
  conv => whnf
  rw [catL]
  refine ⟨by rw [mk_size, size_d, List.length_append]; show 1 + _ + 1 ≤ _; omega, ?_⟩
  conv => whnf
  rw [catR]
  refine mcall (T := TM prM) (φ := []) (gf := false) (x_wsU (l := l) (bs := bs ++ p1) ([32] ++ s ++ [32]) (by simp only [List.length_append, List.length_cons, List.length_nil]; omega)) ?_
  conv => whnf
  refine ⟨by decide, _, rfl, ?_⟩
  conv => whnf
  refine mcall (T := TM prM) (φ := []) (gf := false) (h2 (bs ++ p1 ++ ([32] ++ s ++ [32])) (by simp only [List.length_append, List.length_cons, List.length_nil]; omega)) ?_
  conv => whnf
  exact ⟨rfl, by rw [show bs ++ (p1 ++ 32 :: (s ++ 32 :: p2)) = bs ++ p1 ++ ([32] ++ s ++ [32]) ++ p2 by simp]; rfl, rfl⟩
 ·have h4 : binL s = 4 := by simpa using h4
  rw [if_pos h4] at h1
  conv => whnf
  refine ⟨by decide, _, rfl, ?_⟩
  conv => whnf
  refine mcall (T := TM prM) (φ := []) (gf := false) (h1 bs (by omega)) ?_
  conv => whnf
  refine ⟨none, by kernel_rfl, ?_⟩
  conv => whnf
  refine ⟨by rw [mk_size, size_d]; show 1 + _ ≤ _; omega, ?_⟩
  conv => whnf
  rw [catL]
  refine ⟨by rw [mk_size, size_d, List.length_append]; show 1 + _ + 1 ≤ _; omega, ?_⟩
  conv => whnf
  rw [catR]
  refine mcall (T := TM prM) (φ := []) (gf := false) (x_wsU (l := l) (bs := bs ++ p1) ([32] ++ s ++ [32]) (by simp only [List.length_append, List.length_cons, List.length_nil]; omega)) ?_
  conv => whnf
  refine ⟨by decide, _, rfl, ?_⟩
  conv => whnf
  refine mcall (T := TM prM) (φ := []) (gf := false) (h2 (bs ++ p1 ++ ([32] ++ s ++ [32])) (by simp only [List.length_append, List.length_cons, List.length_nil]; omega)) ?_
  conv => whnf
  exact ⟨rfl, by rw [show bs ++ (p1 ++ 32 :: (s ++ 32 :: p2)) = bs ++ p1 ++ ([32] ++ s ++ [32]) ++ p2 by simp]; rfl, rfl⟩
end
end Go.Proofs.YtglndfgmlminpaaGreatDoor
namespace Go.Proofs.YtglndfgmlminpaaGreatDoor
open Go.RowKit
theorem rep_tabs : ∀ d : Nat, Lib.repeatL [9] d = tabs d
 | 0 => rfl
 | d + 1 => by rw [Lib.repeatL, rep_tabs d]; simp [tabs, List.replicate_succ]
theorem x_tabs (d : Nat) (hd : d ≤ 1000000) : DCalls Tryz.prog 75 [bstr [9], int d] (bstr (tabs d)) := by
 refine ⟨⟨_, Tryz.func75, by kernel_rfl, by kernel_rfl⟩, fun w vs hi hvs => ?_⟩
 obtain ⟨v0, v1, rfl⟩ : ∃ v0 v1, vs = [v0, v1] := by
  have := hvs.1
  match vs, this with
  | [a, b], _ => exact ⟨a, b, rfl⟩
 have r0 := hvs.2 0 _ rfl
 have r1 := hvs.2 1 _ rfl
 simp only [List.getD_eq_getElem?_getD, List.getElem?_cons_zero, List.getElem?_cons_succ, Option.getD_some] at r0 r1
 cases r1
 cases r0
 have h := Tryz.strings_Repeat (mk [9]) d w (by omega) (by rw [mk_size]; show 1 * d ≤ _; omega)
 rw [show (mk [9]).data.toList = [9] from rfl, rep_tabs] at h
 refine h.mono ?_
 rintro e w' ⟨rfl, hb⟩
 exact ⟨_, rfl, .cv _, hb⟩
theorem tabs_len (d : Nat) : (tabs d).length = d := by simp [tabs]
theorem join_com : ∀ xs : List Bs, Lib.join xs [44, 32] = comB xs
 | [] => rfl
 | [a] => by simp [Lib.join, comB]
 | a :: b :: l => by
  have := join_com (b :: l)
  unfold Lib.join at this ⊢
  rw [comB, ← this]
  simp [List.intercalate, List.intersperse]
theorem x_sjoin2 (xs : List Bs) (hn : xs.length ≤ 140737488355328) (hl : (comB xs).length ≤ 140737488355328) : DCalls Tryz.prog 37 [strsV xs, bstr [44, 32]] (bstr (comB xs)) := by
 refine ⟨⟨_, Tryz.func37, by kernel_rfl, by kernel_rfl⟩, fun w vs hi hvs => ?_⟩
 obtain ⟨v0, v1, rfl⟩ : ∃ v0 v1, vs = [v0, v1] := by
  have := hvs.1
  match vs, this with
  | [a, b], _ => exact ⟨a, b, rfl⟩
 have r0 := hvs.2 0 _ rfl
 have r1 := hvs.2 1 _ rfl
 simp only [List.getD_eq_getElem?_getD, List.getElem?_cons_zero, List.getElem?_cons_succ, Option.getD_some] at r0 r1
 cases r1
 cases r0
 rename_i hr
 generalize hxs : xs.map strD = ys at hr
 cases hr with
 | nil _ A cap =>
  have : xs = [] := by simpa using hxs
  subst this
  refine (Any.strings_Join_none Tryz.lays156 Tryz.Builder_Extra_156 A cap (mk [44, 32]) w).mono ?_
  rintro e w' ⟨rfl, rfl⟩
  exact ⟨_, rfl, .cv _, Below.refl _ _⟩
 | sl _ _ b o' cap u hS hx hcap hc hd =>
  subst hxs
  rw [List.length_map] at hcap ⊢
  have hmm : (xs.map mk).map (·.data.toList) = xs := by rw [List.map_map]; exact List.map_id' xs
  have h := Tryz.strings_Join b o' cap (xs.map mk) (mk [44, 32]) w (fun j x hj => by
   rw [List.getElem?_map, Option.map_eq_some_iff] at hj
   obtain ⟨y, hy, rfl⟩ := hj
   have h0 : (((xs.map strD)[j]?).bind fun x => x[0]?) = some (.cv (.string (mk y))) := by rw [List.getElem?_map, hy]; rfl
   have h3 := hc j 0 _ h0
   have h4 := hd j 0 _ h0
   generalize u j 0 = z at h3 h4
   cases h4
   rw [show o' + j = o' + j * 1 + 0 by omega]; exact h3) hS (by rw [List.length_map]; exact hn) (by rw [List.length_map]; exact hcap) (by rw [hmm, show (mk [44, 32]).data.toList = [44, 32] from rfl, join_com]; exact hl)
  rw [hmm, show (mk [44, 32]).data.toList = [44, 32] from rfl, join_com, List.length_map] at h
  refine h.mono ?_
  rintro e w' ⟨rfl, hb⟩
  exact ⟨_, rfl, .cv _, hb⟩
section
variable {l : List Nd}
abbrev StmtOk (l : List Nd) (i d : Nat) (p : Bs) : Prop := Wr 76 [int i, int d] l p
abbrev BlockOk (l : List Nd) (i d : Nat) (p : Bs) : Prop := Wr 38 [int i, int d] l p
def linB (d : Nat) : List Bs → Bs
 | [] => []
 | p :: ps => tabs d ++ (p ++ 10 :: linB d ps)
theorem linB_snoc (d : Nat) : ∀ (ps : List Bs) (p : Bs), linB d (ps ++ [p]) = linB d ps ++ (tabs d ++ (p ++ [10]))
 | [], p => by simp [linB]
 | a :: ps, p => by simp [linB, linB_snoc d ps p]
theorem linB_take {d : Nat} {ps : List Bs} {k : Nat} (h : k < ps.length) : linB d (ps.take (k + 1)) = linB d (ps.take k) ++ (tabs d ++ (ps[k] ++ [10])) := by
 rw [List.take_add_one, List.getElem?_eq_getElem h]
 exact linB_snoc d _ _
theorem linB_le (d : Nat) : ∀ (ps : List Bs) (k : Nat), (linB d (ps.take k)).length ≤ (linB d ps).length
 | [], k => by simp [linB]
 | a :: ps, 0 => by simp [linB]
 | a :: ps, k + 1 => by
  have := linB_le d ps k
  simp only [List.take_succ_cons, linB, List.length_append, List.length_cons] at this ⊢
  omega
theorem x_pblock {i d : Nat} {K : Int} {s : Bs} {v : Int} {ks : List Bs} {js : List Int} {ps : List Bs} (hi : l[i]? = some ⟨K, s, v, ks, js⟩) (hl : js.length = ps.length) (hn : ps.length ≤ 1000000) (hd : d ≤ 900000)
  (hP : ∀ (j : Nat) (h : j < ps.length), ∃ q : Nat, js[j]? = some (q : Int) ∧ StmtOk l q (d + 1) ps[j]) : BlockOk l i d (123 :: 10 :: (linB (d + 1) ps ++ (tabs d ++ [125]))) := by
 intro bs hb
 simp only [List.length_append, List.length_cons, List.length_nil, tabs_len] at hb
 have hll : (js.map intD).length = ps.length := by rw [List.length_map]; exact hl
 have hg : (l.map ndD)[((i : Nat) : Int).toNat]? = some [.cv (.int .i64 K), .cv (.string (mk s)), .cv (.int .i64 v), .sl 1 (ks.map strD), .sl 1 (List.map intD js)] := by
  rw [Int.toNat_natCast, List.getElem?_map, hi]; rfl
 have hwd : IntKind.i64.wrap (((d : Nat) : Int) + 1) = ((d + 1 : Nat) : Int) := wrap_succ (by omega)
 refine pcx Tryz.func38 (by kernel_rfl) (by kernel_rfl) ?_
 conv => whnf
 refine mcall (T := TM prM) (φ := []) (gf := false) (x_wsU (l := l) (bs := bs) [123, 10] (by simp only [List.length_cons, List.length_nil]; omega)) ?_
 conv => whnf
 refine ⟨Int.natCast_nonneg i, _, hg, ?_⟩
 conv => whnf
 rw [hll]
 refine ⟨[], Nat, fun k => [(21, int k)], fun k => [(49, some (wBox (.bx 49 0) 50 l)), (50, some (wRow (bs ++ [123, 10] ++ linB (d + 1) (ps.take k))))], fun k => k ≤ ps.length, fun k => ps.length - k, 0, Nat.zero_le _, ?_, ?_⟩
 ·refine ⟨rfl, ?_, ?_⟩ <;> repeat' (first | exact trivial | exact rfl | (simp [linB]; done) | refine and_rfl ?_ | refine and_two ?_ ?_)
 rintro k hk
 conv => whnf
 rintro (_ | _) h1
 ·have h1 : ps.length ≤ k := by simp at h1; omega
  have e : ps.take k = ps := List.take_of_length_le h1
  rw [e]
  conv => whnf
  refine ⟨none, by kernel_rfl, ?_⟩
  conv => whnf
  refine ⟨_, x_tabs d (by omega), ?_⟩
  conv => whnf
  refine ⟨by rw [mk_size, size_d, tabs_len]; show d + 1 ≤ _; omega, ?_⟩
  conv => whnf
  rw [catR]
  refine mcall (T := TM prM) (φ := []) (gf := false) (x_wsU (l := l) (bs := bs ++ [123, 10] ++ linB (d + 1) ps) (tabs d ++ [125]) (by simp only [List.length_append, List.length_cons, List.length_nil, tabs_len]; omega)) ?_
  conv => whnf
  exact ⟨rfl, by rw [show bs ++ 123 :: 10 :: (linB (d + 1) ps ++ (tabs d ++ [125])) = bs ++ [123, 10] ++ linB (d + 1) ps ++ (tabs d ++ [125]) by simp]; rfl, rfl⟩
 have h1 : k < ps.length := by simp at h1; omega
 obtain ⟨q, hq, hS⟩ := hP k h1
 have hg2 : (js.map intD)[((k : Nat) : Int).toNat]? = some (intD ((q : Nat) : Int)) := by
  rw [Int.toNat_natCast, List.getElem?_map, hq]; rfl
 have hw : IntKind.i64.wrap (((k : Nat) : Int) + 1) = ((k + 1 : Nat) : Int) := wrap_succ (by omega)
 have hle := linB_le (d + 1) ps (k + 1)
 have e : bs ++ [123, 10] ++ linB (d + 1) (ps.take (k + 1)) = bs ++ [123, 10] ++ linB (d + 1) (ps.take k) ++ tabs (d + 1) ++ ps[k] ++ [10] := by
  rw [linB_take h1]; simp
 have hlen : bs.length + 2 + (linB (d + 1) (ps.take (k + 1))).length = (bs ++ [123, 10] ++ linB (d + 1) (ps.take k)).length + (d + 1) + ps[k].length + 1 := by
  have := congrArg List.length e
  simp only [List.length_append, List.length_cons, List.length_nil, tabs_len] at this ⊢
  omega
 generalize bs ++ [123, 10] ++ linB (d + 1) (ps.take k) = A at e hlen ⊢
 conv => whnf
 refine ⟨Int.natCast_nonneg k, _, hg2, ?_⟩
 conv => whnf
 refine ⟨none, by kernel_rfl, ?_⟩
 conv => whnf
 rw [hwd]
 refine ⟨_, x_tabs (d + 1) (by omega), ?_⟩
 conv => whnf
 refine mcall (T := TM prM) (φ := []) (gf := false) (x_wsU (l := l) (bs := A) (tabs (d + 1)) (by rw [tabs_len]; omega)) ?_
 conv => whnf
 rw [hwd]
 refine mcall (T := TM prM) (φ := []) (gf := false) (hS (A ++ tabs (d + 1)) (by simp only [List.length_append, tabs_len]; omega)) ?_
 conv => whnf
 refine mcall (T := TM prM) (φ := []) (gf := false) (x_wbU (l := l) (bs := A ++ tabs (d + 1) ++ ps[k]) 10 (by simp only [List.length_append, tabs_len]; omega)) ?_
 conv => whnf
 refine ⟨k + 1, h1, by (try dsimp only); omega, ?_⟩
 refine ⟨rfl, ?_, ?_⟩ <;> repeat' (first | exact trivial | exact rfl | (rw [e]) | (rw [e, List.map_append]; rfl) | refine and_rfl ?_ | refine and_val hw ?_ | refine and_two ?_ ?_)
end
end Go.Proofs.YtglndfgmlminpaaGreatDoor
namespace Go.Proofs.YtglndfgmlminpaaGreatDoor
theorem tt_wd {s : Bs} (h : kwL s = true) : (textT (wd s)).1 = s := by unfold textT; simp [tk, h]
theorem k_null : (textT (wd wNull)).1 = wNull := tt_wd (by kernel_rfl)
theorem k_true : (textT (wd wTrue)).1 = wTrue := tt_wd (by kernel_rfl)
theorem k_false : (textT (wd wFalse)).1 = wFalse := tt_wd (by kernel_rfl)
theorem k_not : (textT (wd wNot)).1 = wNot := tt_wd (by kernel_rfl)
theorem k_let : (textT (wd wLet)).1 = wLet := tt_wd (by kernel_rfl)
theorem k_if : (textT (wd wIf)).1 = wIf := tt_wd (by kernel_rfl)
theorem k_else : (textT (wd wElse)).1 = wElse := tt_wd (by kernel_rfl)
theorem k_while : (textT (wd wWhile)).1 = wWhile := tt_wd (by kernel_rfl)
theorem k_return : (textT (wd wReturn)).1 = wReturn := tt_wd (by kernel_rfl)
theorem k_func : (textT (wd wFunc)).1 = wFunc := tt_wd (by kernel_rfl)
theorem s_lp : (textT (sy sLP)).1 = [40] := rfl
theorem s_rp : (textT (sy sRP)).1 = [41] := rfl
theorem s_lb : (textT (sy sLB)).1 = [91] := rfl
theorem s_rb : (textT (sy sRB)).1 = [93] := rfl
theorem s_lc : (textT (sy sLC)).1 = [123] := rfl
theorem s_rc : (textT (sy sRC)).1 = [125] := rfl
theorem s_cm : (textT (sy sCm)).1 = [44] := rfl
theorem s_cl : (textT (sy sCl)).1 = [58] := rfl
theorem s_sc : (textT (sy sSc)).1 = [59] := rfl
theorem s_mi : (textT (sy sMi)).1 = [45] := rfl
theorem s_eq : (textT (sy sEq1)).1 = [61] := rfl
theorem tx_q (lv req : Int) (p : List Pc) : txP (qP lv req p) = if lv < req then 40 :: (txP p ++ [41]) else txP p := by
 unfold qP
 split
 ·simp only [txP, txP_append, s_lp, s_rp]; simp
 ·rfl
theorem tx_comma : ∀ ps : List (List Pc), txP (commaP ps) = comB (ps.map txP)
 | [] => rfl
 | [p] => rfl
 | p :: q :: l => by
  have := tx_comma (q :: l)
  simp only [List.map_cons] at this
  simp only [commaP, txP_append, txP, comB, List.map_cons, s_cm, this]
  simp
theorem keysP_get : ∀ (ks : List Bs) (ps : List (List Pc)) (j : Nat) (k : Bs) (p : List Pc), ks[j]? = some k → ps[j]? = some p → ((keysP ks ps).map txP)[j]? = some ((textT (tk 4 k)).1 ++ 58 :: 32 :: txP p)
 | [], _, j, k, p, h, _ => by simp at h
 | _ :: _, [], j, k, p, _, h => by simp at h
 | k0 :: ks, p0 :: ps, j, k, p, h1, h2 => by
  cases j with
  | zero =>
   simp at h1 h2; subst h1 h2
   simp [keysP, txP, s_cl]
  | succ j =>
   have := keysP_get ks ps j k p (by simpa using h1) (by simpa using h2)
   simpa [keysP] using this
theorem keysP_len : ∀ (ks : List Bs) (ps : List (List Pc)), ks.length = ps.length → (keysP ks ps).length = ps.length
 | [], [], _ => rfl
 | [], _ :: _, h => by simp at h
 | _ :: _, [], h => by simp at h
 | _ :: ks, _ :: ps, h => by simp [keysP, keysP_len ks ps (by simpa using h)]
theorem tx_lines (d : Nat) : ∀ (ps : List (List Pc)) (r : Bs), txP (linesP d ps) ++ 10 :: r = 10 :: (linB d (ps.map txP) ++ r)
 | [], r => rfl
 | p :: ps, r => by
  have := tx_lines d ps r
  simp only [linesP, txP, txP_append, List.map_cons, linB, List.cons_append, List.append_assoc, this]
section
variable {d : Nat} {text : Bs} {val : Int} {keys : List Bs} {ts : List Tr} {A B C : Tr}
theorem tx_null : txP ((Tr.node ⟨1, text, val, keys⟩ ts).pc d) = wNull := by
 rw [show (Tr.node ⟨1, text, val, keys⟩ ts).pc d = [.t (wd wNull)] from rfl]; simp only [txP, k_null, List.append_nil]
theorem tx_bool0 : txP ((Tr.node ⟨2, text, 0, keys⟩ ts).pc d) = wFalse := by
 rw [show (Tr.node ⟨2, text, 0, keys⟩ ts).pc d = [.t (wd wFalse)] from rfl]; simp only [txP, k_false, List.append_nil]
theorem tx_bool1 : txP ((Tr.node ⟨2, text, 1, keys⟩ ts).pc d) = wTrue := by
 rw [show (Tr.node ⟨2, text, 1, keys⟩ ts).pc d = [.t (wd wTrue)] from rfl]; simp only [txP, k_true, List.append_nil]
theorem tx_int : txP ((Tr.node ⟨3, text, val, keys⟩ ts).pc d) = (textT ⟨3, [], val, 0⟩).1 := by
 rw [show (Tr.node ⟨3, text, val, keys⟩ ts).pc d = [.t ⟨3, [], val, 0⟩] from rfl]; simp only [txP, List.append_nil]
theorem tx_str : txP ((Tr.node ⟨4, text, val, keys⟩ ts).pc d) = (textT (tk 4 text)).1 := by
 rw [show (Tr.node ⟨4, text, val, keys⟩ ts).pc d = [.t (tk 4 text)] from rfl]; simp only [txP, List.append_nil]
theorem tx_var (h : nameB text = true) : txP ((Tr.node ⟨5, text, val, keys⟩ ts).pc d) = text := by
 rw [show (Tr.node ⟨5, text, val, keys⟩ ts).pc d = [.t (tk 1 text)] from rfl]; simp only [txP, tt_name h, List.append_nil]
theorem tx_list : txP ((Tr.node ⟨6, text, val, keys⟩ ts).pc d) = 91 :: (comB ((Tr.pcl d ts).map txP) ++ [93]) := by
 rw [show (Tr.node ⟨6, text, val, keys⟩ ts).pc d = .t (sy sLB) :: (commaP (Tr.pcl d ts) ++ [.t (sy sRB)]) from rfl]
 simp only [txP, txP_append, tx_comma, s_lb, s_rb]; simp
theorem tx_map : txP ((Tr.node ⟨7, text, val, keys⟩ ts).pc d) = 123 :: (comB ((keysP keys (Tr.pcl d ts)).map txP) ++ [125]) := by
 rw [show (Tr.node ⟨7, text, val, keys⟩ ts).pc d = .t (sy sLC) :: (commaP (keysP keys (Tr.pcl d ts)) ++ [.t (sy sRC)]) from rfl]
 simp only [txP, txP_append, tx_comma, s_lc, s_rc]; simp
theorem tx_not : txP ((Tr.node ⟨8, wNot, val, keys⟩ [A]).pc d) = 110 :: 111 :: 116 :: 32 :: txP (qP A.level 3 (A.pc d)) := by
 rw [show (Tr.node ⟨8, wNot, val, keys⟩ [A]).pc d = .t (wd wNot) :: sp1 :: qP A.level 3 (A.pc d) from rfl]
 simp only [txP, k_not]; rfl
theorem tx_neg (h : text ≠ wNot) : txP ((Tr.node ⟨8, text, val, keys⟩ [A]).pc d) = 45 :: txP (qP A.level 7 (A.pc d)) := by
 rw [show (Tr.node ⟨8, text, val, keys⟩ [A]).pc d = if text = wNot then .t (wd wNot) :: sp1 :: qP A.level 3 (A.pc d) else .t (sy sMi) :: qP A.level 7 (A.pc d) from rfl, if_neg h]
 simp only [txP, s_mi]; rfl
theorem tx_bin (h : 0 < binL text) : txP ((Tr.node ⟨9, text, val, keys⟩ [A, B]).pc d) = txP (qP A.level (if binL text = 4 then 5 else binL text) (A.pc d)) ++ 32 :: (text ++ 32 :: txP (qP B.level (binL text + 1) (B.pc d))) := by
 rw [show (Tr.node ⟨9, text, val, keys⟩ [A, B]).pc d = qP A.level (if binL text = 4 then 5 else binL text) (A.pc d) ++ sp1 :: .t (tk (opK text) text) :: sp1 :: qP B.level (binL text + 1) (B.pc d) from rfl]
 simp only [txP, txP_append, tt_bin h]; simp
theorem tx_index : txP ((Tr.node ⟨10, text, val, keys⟩ [A, B]).pc d) = txP (qP A.level 8 (A.pc d)) ++ 91 :: (txP (B.pc d) ++ [93]) := by
 rw [show (Tr.node ⟨10, text, val, keys⟩ [A, B]).pc d = qP A.level 8 (A.pc d) ++ .t (sy sLB) :: (B.pc d ++ [.t (sy sRB)]) from rfl]
 simp only [txP, txP_append, s_lb, s_rb]; simp
theorem tx_call (h : nameB text = true) : txP ((Tr.node ⟨11, text, val, keys⟩ ts).pc d) = text ++ 40 :: (comB ((Tr.pcl d ts).map txP) ++ [41]) := by
 rw [show (Tr.node ⟨11, text, val, keys⟩ ts).pc d = .t (tk 1 text) :: .t (sy sLP) :: (commaP (Tr.pcl d ts) ++ [.t (sy sRP)]) from rfl]
 simp only [txP, txP_append, tx_comma, tt_name h, s_lp, s_rp]; simp
theorem tx_host (h : wholeB text = true) : txP ((Tr.node ⟨12, text, val, keys⟩ ts).pc d) = 64 :: (text ++ 40 :: (comB ((Tr.pcl d ts).map txP) ++ [41])) := by
 rw [show (Tr.node ⟨12, text, val, keys⟩ ts).pc d = .t (tk 6 text) :: .t (sy sLP) :: (commaP (Tr.pcl d ts) ++ [.t (sy sRP)]) from rfl]
 simp only [txP, txP_append, tx_comma, tt_whole h, s_lp, s_rp]; simp
theorem tx_let (h : nameB text = true) : txP ((Tr.node ⟨13, text, val, keys⟩ [A]).pc d) = [108, 101, 116, 32] ++ text ++ [32, 61, 32] ++ txP (A.pc d) ++ [59] := by
 rw [show (Tr.node ⟨13, text, val, keys⟩ [A]).pc d = .t (wd wLet) :: sp1 :: .t (tk 1 text) :: sp1 :: .t (sy sEq1) :: sp1 :: (A.pc d ++ [.t (sy sSc)]) from rfl]
 simp only [txP, txP_append, tt_name h, k_let, s_eq, s_sc]; simp [wLet]
theorem tx_set (h : nameB text = true) : txP ((Tr.node ⟨14, text, val, keys⟩ [A]).pc d) = text ++ [32, 61, 32] ++ txP (A.pc d) ++ [59] := by
 rw [show (Tr.node ⟨14, text, val, keys⟩ [A]).pc d = .t (tk 1 text) :: sp1 :: .t (sy sEq1) :: sp1 :: (A.pc d ++ [.t (sy sSc)]) from rfl]
 simp only [txP, txP_append, tt_name h, s_eq, s_sc]; simp
theorem tx_ret : txP ((Tr.node ⟨17, text, val, keys⟩ [A]).pc d) = [114, 101, 116, 117, 114, 110, 32] ++ txP (A.pc d) ++ [59] := by
 rw [show (Tr.node ⟨17, text, val, keys⟩ [A]).pc d = .t (wd wReturn) :: sp1 :: (A.pc d ++ [.t (sy sSc)]) from rfl]
 simp only [txP, txP_append, k_return, s_sc]; simp [wReturn]
theorem tx_do : txP ((Tr.node ⟨18, text, val, keys⟩ [A]).pc d) = txP (A.pc d) ++ [59] := by
 rw [show (Tr.node ⟨18, text, val, keys⟩ [A]).pc d = A.pc d ++ [.t (sy sSc)] from rfl]
 simp only [txP, txP_append, s_sc]; simp
theorem tx_while : txP ((Tr.node ⟨16, text, val, keys⟩ [A, B]).pc d) = [119, 104, 105, 108, 101, 32] ++ txP (A.pc d) ++ [32] ++ txP (B.pc d) := by
 rw [show (Tr.node ⟨16, text, val, keys⟩ [A, B]).pc d = .t (wd wWhile) :: sp1 :: (A.pc d ++ sp1 :: B.pc d) from rfl]
 simp only [txP, txP_append, k_while]; simp [wWhile]
theorem tx_if : txP ((Tr.node ⟨15, text, val, keys⟩ [A, B]).pc d) = [105, 102, 32] ++ txP (A.pc d) ++ [32] ++ txP (B.pc d) := by
 rw [show (Tr.node ⟨15, text, val, keys⟩ [A, B]).pc d = .t (wd wIf) :: sp1 :: (A.pc d ++ sp1 :: B.pc d) from rfl]
 simp only [txP, txP_append, k_if]; simp [wIf]
theorem tx_else : txP ((Tr.node ⟨15, text, val, keys⟩ [A, B, C]).pc d) = [105, 102, 32] ++ txP (A.pc d) ++ [32] ++ txP (B.pc d) ++ [32, 101, 108, 115, 101, 32] ++ txP (C.pc d) := by
 rw [show (Tr.node ⟨15, text, val, keys⟩ [A, B, C]).pc d = .t (wd wIf) :: sp1 :: (A.pc d ++ sp1 :: (B.pc d ++ sp1 :: .t (wd wElse) :: sp1 :: C.pc d)) from rfl]
 simp only [txP, txP_append, k_if, k_else]; simp [wIf, wElse]
theorem tx_block : txP ((Tr.node ⟨19, text, val, keys⟩ ts).pc d) = 123 :: 10 :: (linB (d + 1) ((Tr.pcl (d + 1) ts).map txP) ++ (tabs d ++ [125])) := by
 rw [show (Tr.node ⟨19, text, val, keys⟩ ts).pc d = .t (sy sLC) :: (linesP (d + 1) (Tr.pcl (d + 1) ts) ++ [nl d, .t (sy sRC)]) from rfl]
 have := tx_lines (d + 1) (Tr.pcl (d + 1) ts) (tabs d ++ [125])
 simp only [txP, txP_append, s_lc, s_rc, List.append_nil, List.cons_append, List.nil_append, this]
end
theorem tx_par : ∀ ps : List Bs, (∀ s ∈ ps, nameB s = true) → txP (parPc ps) = comB ps
 | [], _ => rfl
 | [s], h => by simp only [parPc, txP, tt_name (h s (by simp)), comB, List.append_nil]
 | s :: q :: l, h => by
  have := tx_par (q :: l) fun x hx => h x (by simp at hx ⊢; exact .inr hx)
  simp only [parPc, txP, tt_name (h s (by simp)), s_cm, comB, this]
  simp
theorem tx_func {F : FnT} (h : FnTOk F) : txP F.pc = [102, 117, 110, 99, 32] ++ F.name ++ [40] ++ comB F.params ++ [41, 32] ++ txP (F.body.pc 0) ++ [10] := by
 simp only [FnT.pc, txP, txP_append, tt_name h.name, tx_par _ h.params, k_func, s_lp, s_rp, tabs, List.replicate]
 simp [wFunc]
theorem tx_prog_take {fs : List FnT} {k : Nat} (h : k < fs.length) : txP (progPc (fs.take (k + 1))) = txP (progPc (fs.take k)) ++ txP fs[k].pc := by
 rw [List.take_add_one, List.getElem?_eq_getElem h]
 show txP (progPc (fs.take k ++ [fs[k]])) = _
 simp only [progPc, List.map_append, List.flatten_append, txP_append, List.map_cons, List.map_nil, List.flatten_cons, List.flatten_nil, List.append_nil]
theorem tx_prog_le : ∀ (fs : List FnT) (k : Nat), (txP (progPc (fs.take k))).length ≤ (txP (progPc fs)).length
 | [], k => by simp
 | F :: fs, 0 => by simp [progPc, txP]
 | F :: fs, k + 1 => by
  have := tx_prog_le fs k
  simp only [progPc, List.take_succ_cons, List.map_cons, List.flatten_cons, txP_append, List.length_append] at this ⊢
  omega
end Go.Proofs.YtglndfgmlminpaaGreatDoor
namespace Go.Proofs.YtglndfgmlminpaaGreatDoor
open Go.RowKit
section
variable {l : List Nd}
theorem x_bare_null {i : Nat} {s : Bs} {v : Int} {ks : List Bs} {js : List Int} (hi : l[i]? = some ⟨1, s, v, ks, js⟩) : BareOk l i wNull := by
 intro bs hb
 have hb2 : bs.length + 4 ≤ 70368744177664 := hb
 have hg : (l.map ndD)[((i : Nat) : Int).toNat]? = some [.cv (.int .i64 1), .cv (.string (mk s)), .cv (.int .i64 v), .sl 1 (ks.map strD), .sl 1 (List.map intD js)] := by
  rw [Int.toNat_natCast, List.getElem?_map, hi]; rfl
 refine pcx Tryz.func161 (by kernel_rfl) (by kernel_rfl) ?_
 conv => whnf
 refine ⟨Int.natCast_nonneg i, _, hg, ?_⟩
 repeat ((conv => whnf); first | refine known true rfl ?_ | refine known false rfl ?_)
 refine mcall (T := TM prM) (φ := []) (gf := false) (x_wsU (l := l) (bs := bs) wNull (Nat.le_trans hb (by decide))) ?_
 conv => whnf
 exact ⟨rfl, rfl, rfl⟩
theorem x_bare_bool0 {i : Nat} {s : Bs} {ks : List Bs} {js : List Int} (hi : l[i]? = some ⟨2, s, 0, ks, js⟩) : BareOk l i wFalse := by
 intro bs hb
 have hw : IntKind.i64.wrap ((BitVec.ofInt IntKind.i64.bits 0 &&& BitVec.ofInt IntKind.i64.bits 1).toNat : Nat) = 0 := by decide
 have hg : (l.map ndD)[((i : Nat) : Int).toNat]? = some [.cv (.int .i64 2), .cv (.string (mk s)), .cv (.int .i64 0), .sl 1 (ks.map strD), .sl 1 (List.map intD js)] := by
  rw [Int.toNat_natCast, List.getElem?_map, hi]; rfl
 refine pcx Tryz.func161 (by kernel_rfl) (by kernel_rfl) ?_
 conv => whnf
 refine ⟨Int.natCast_nonneg i, _, hg, ?_⟩
 repeat ((conv => whnf); first | refine known true rfl ?_ | refine known false rfl ?_)
 refine ⟨none, by kernel_rfl, ?_⟩
 conv => whnf
 rw [hw]
 refine ⟨by decide, by decide, _, rfl, ?_⟩
 conv => whnf
 refine mcall (T := TM prM) (φ := []) (gf := false) (x_wsU (l := l) (bs := bs) wFalse (Nat.le_trans hb (by decide))) ?_
 conv => whnf
 exact ⟨rfl, rfl, rfl⟩
theorem x_bare_bool1 {i : Nat} {s : Bs} {ks : List Bs} {js : List Int} (hi : l[i]? = some ⟨2, s, 1, ks, js⟩) : BareOk l i wTrue := by
 intro bs hb
 have hw : IntKind.i64.wrap ((BitVec.ofInt IntKind.i64.bits 1 &&& BitVec.ofInt IntKind.i64.bits 1).toNat : Nat) = 1 := by decide
 have hg : (l.map ndD)[((i : Nat) : Int).toNat]? = some [.cv (.int .i64 2), .cv (.string (mk s)), .cv (.int .i64 1), .sl 1 (ks.map strD), .sl 1 (List.map intD js)] := by
  rw [Int.toNat_natCast, List.getElem?_map, hi]; rfl
 refine pcx Tryz.func161 (by kernel_rfl) (by kernel_rfl) ?_
 conv => whnf
 refine ⟨Int.natCast_nonneg i, _, hg, ?_⟩
 repeat ((conv => whnf); first | refine known true rfl ?_ | refine known false rfl ?_)
 refine ⟨none, by kernel_rfl, ?_⟩
 conv => whnf
 rw [hw]
 refine ⟨by decide, by decide, _, rfl, ?_⟩
 conv => whnf
 refine mcall (T := TM prM) (φ := []) (gf := false) (x_wsU (l := l) (bs := bs) wTrue (Nat.le_trans hb (by decide))) ?_
 conv => whnf
 exact ⟨rfl, rfl, rfl⟩
theorem x_bare_int {i : Nat} {s : Bs} {v : Int} {ks : List Bs} {js : List Int} (hi : l[i]? = some ⟨3, s, v, ks, js⟩) (hv : -9223372036854775808 ≤ v ∧ v ≤ 9223372036854775807) : BareOk l i (textT ⟨3, [], v, 0⟩).1 := by
 intro bs hb
 have hg : (l.map ndD)[((i : Nat) : Int).toNat]? = some [.cv (.int .i64 3), .cv (.string (mk s)), .cv (.int .i64 v), .sl 1 (ks.map strD), .sl 1 (List.map intD js)] := by
  rw [Int.toNat_natCast, List.getElem?_map, hi]; rfl
 refine pcx Tryz.func161 (by kernel_rfl) (by kernel_rfl) ?_
 conv => whnf
 refine ⟨Int.natCast_nonneg i, _, hg, ?_⟩
 repeat ((conv => whnf); first | refine known true rfl ?_ | refine known false rfl ?_)
 refine mcall (T := TM prM) (φ := []) (gf := false) (x_ptoken (l := l) ⟨3, [], v, 0⟩ (by simp) hv bs hb) ?_
 conv => whnf
 exact ⟨rfl, rfl, rfl⟩
theorem x_bare_str {i : Nat} {s : Bs} {v : Int} {ks : List Bs} {js : List Int} (hi : l[i]? = some ⟨4, s, v, ks, js⟩) (hs : s.length ≤ 1000000) : BareOk l i (textT (tk 4 s)).1 := by
 intro bs hb
 have hg : (l.map ndD)[((i : Nat) : Int).toNat]? = some [.cv (.int .i64 4), .cv (.string (mk s)), .cv (.int .i64 v), .sl 1 (ks.map strD), .sl 1 (List.map intD js)] := by
  rw [Int.toNat_natCast, List.getElem?_map, hi]; rfl
 refine pcx Tryz.func161 (by kernel_rfl) (by kernel_rfl) ?_
 conv => whnf
 refine ⟨Int.natCast_nonneg i, _, hg, ?_⟩
 repeat ((conv => whnf); first | refine known true rfl ?_ | refine known false rfl ?_)
 refine mcall (T := TM prM) (φ := []) (gf := false) (x_ptoken (l := l) (tk 4 s) hs ⟨by show (-9223372036854775808 : Int) ≤ 0; omega, by show (0 : Int) ≤ 9223372036854775807; omega⟩ bs hb) ?_
 conv => whnf
 exact ⟨rfl, rfl, rfl⟩
theorem x_bare_var {i : Nat} {s : Bs} {v : Int} {ks : List Bs} {js : List Int} (hi : l[i]? = some ⟨5, s, v, ks, js⟩) : BareOk l i s := by
 intro bs hb
 have hg : (l.map ndD)[((i : Nat) : Int).toNat]? = some [.cv (.int .i64 5), .cv (.string (mk s)), .cv (.int .i64 v), .sl 1 (ks.map strD), .sl 1 (List.map intD js)] := by
  rw [Int.toNat_natCast, List.getElem?_map, hi]; rfl
 refine pcx Tryz.func161 (by kernel_rfl) (by kernel_rfl) ?_
 conv => whnf
 refine ⟨Int.natCast_nonneg i, _, hg, ?_⟩
 repeat ((conv => whnf); first | refine known true rfl ?_ | refine known false rfl ?_)
 refine ⟨none, by kernel_rfl, ?_⟩
 conv => whnf
 refine mcall (T := TM prM) (φ := []) (gf := false) (x_wsU (l := l) (bs := bs) s (Nat.le_trans hb (by decide))) ?_
 conv => whnf
 exact ⟨rfl, rfl, rfl⟩
end
end Go.Proofs.YtglndfgmlminpaaGreatDoor
