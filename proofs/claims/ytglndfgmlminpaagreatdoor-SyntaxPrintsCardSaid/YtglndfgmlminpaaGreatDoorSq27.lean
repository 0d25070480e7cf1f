/- Texts joined by pack.py: XLx23c XLx23 XSyXB XSyXC XSyXG XSyXI -/
import Derived.Test.YtglndfgmlminpaaGreatDoorSq26
set_option maxHeartbeats 8000000
set_option maxRecDepth 100000
namespace Go.Proofs.YtglndfgmlminpaaGreatDoor
section
open Go.RowKit
theorem xt_str_c (l : Bs) (v a : Int) (hl : l.length ≤ 1000000) (hw : (!(mk l).toList == (⟨#[]⟩ : ByteArray).toList) = true) (hw2 : ((bk_ l : Int) == ((mk l).size : Int)) = true) : DCalls Tryz.prog 52 [(⟨4, l, v, a⟩ : Tok).V] (teV (aa_ ⟨4, l, v, a⟩)) := by
 refine sxm tmS Tryz.func52 kR ?_
 conv => whnf
 refine ⟨none, kR, ?_⟩
 conv => whnf
 refine Q_ true hw ?_
 conv => whnf
 refine ⟨_, mf_ l oM, ?_⟩
 conv => whnf
 refine Q_ true hw2 ?_
 conv => whnf
 refine kF ?_
 conv => whnf
 rintro (_ | _) v0
 rotate_left
 ·have v0 : v ≠ 0 := by simpa using v0
  conv => whnf
  exact V_ (by rw [dd_]; simp [v0])
 have v0 : v = 0 := by simpa using v0
 conv => whnf
 refine kF ?_
 conv => whnf
 refine kF ?_
 conv => whnf
 refine kF ?_
 conv => whnf
 refine kF ?_
 conv => whnf
 refine kT ?_
 conv => whnf
 refine ⟨_, it_ l, ?_⟩
 conv => whnf
 rintro (_ | _) i4
 ·conv => whnf
  exact V_ (by rw [dd_]; simp [v0, i4])
 have hlc := fp_ i4
 have hel := d6_ l
 have hxl := ex_le l
 have hs1 : (⟨#[34]⟩ : ByteArray).size + (mk (esc l)).size ≤ 9223372036854775807 := by rw [P_, show (⟨#[34]⟩ : ByteArray).size = 1 from rfl]; omega
 have hs2 : ((⟨#[34]⟩ : ByteArray) ++ mk (esc l)).size + (⟨#[34]⟩ : ByteArray).size ≤ 9223372036854775807 := by
  rw [show (⟨#[34]⟩ : ByteArray) ++ mk (esc l) = mk (34 :: esc l) from a3_ [34] _, P_, show (⟨#[34]⟩ : ByteArray).size = 1 from rfl, b_]; omega
 conv => whnf
 refine ⟨some (.alt 0 (.alt 1 (.one 2 (.one 3 (.one 4 (.one 5 (.one 6 (.one 7 (.one 8 (.done)))))))) (.alt 2 (.alt 1 (.one 3 (.one 4 (.one 5 (.one 6 (.one 7 (.one 8 (.done))))))) (.alt 3 (.one 1 (.one 4 (.one 5 (.one 6 (.one 7 (.one 8 (.done))))))) (.stop))) (.stop))) (.alt 2 (.alt 0 (.alt 1 (.one 3 (.one 4 (.one 5 (.one 6 (.one 7 (.one 8 (.done))))))) (.alt 3 (.one 1 (.one 4 (.one 5 (.one 6 (.one 7 (.one 8 (.done))))))) (.stop))) (.alt 3 (.one 0 (.one 1 (.one 4 (.one 5 (.one 6 (.one 7 (.one 8 (.done)))))))) (.stop))) (.stop))), kR, ?_⟩
 have hfin : V.tu [.cv (.string (⟨#[34]⟩ ++ mk (esc l) ++ ⟨#[34]⟩)), int 0] = teV (aa_ ⟨4, l, v, a⟩) := fin_te4 (by rw [dd_]; simp [v0, i4])
 repeat' ((conv => whnf); first
   | exact trivial
   | exact hfin
   | with_reducible refine And.intro ?_ ?_
   | refine T_ (T := TM tmS) (φ := [5, 6]) fq_ ?_
   | refine T_ (T := TM tmS) (φ := []) (ks_ l hl) ?_
   | exact hs1
   | exact hs2)
end
section
open Go.RowKit
theorem xt_str (l : Bs) (v a : Int) (hl : l.length ≤ 1000000) : DCalls Tryz.prog 52 [(⟨4, l, v, a⟩ : Tok).V] (teV (aa_ ⟨4, l, v, a⟩)) := by
 cases h1 : !(mk l).toList == (⟨#[]⟩ : ByteArray).toList with
 | false => exact xt_str_a l v a hl h1
 | true =>
  cases h2 : (bk_ l : Int) == ((mk l).size : Int) with
  | false => exact xt_str_b l v a hl h1 h2
  | true => exact xt_str_c l v a hl h1 h2
theorem x_textOf (t : Tok) (hl : t.text.length ≤ 1000000) (hv : -9223372036854775808 ≤ t.val ∧ t.val ≤ 9223372036854775807) : DCalls Tryz.prog 52 [t.V] (teV (aa_ t)) := by
 obtain ⟨K, l, v, a⟩ := t
 by_cases h1 : K = 1
 ·subst h1; exact xt_name l v a hl hv
 by_cases h2 : K = 2
 ·subst h2; exact xt_word l v a hl hv
 by_cases h3 : K = 3
 ·subst h3; exact xt_int l v a hl hv
 by_cases h4 : K = 4
 ·subst h4; exact xt_str l v a hl
 by_cases h5 : K = 5
 ·subst h5; exact xt_sym l v a hl hv
 by_cases h6 : K = 6
 ·subst h6; exact xt_host l v a hl hv
 exact xt_no K l v a hl hv ⟨h1, h2, h3, h4, h5, h6⟩
end
section
open Go.RowKit
section
variable {bs : Bs} {l : List Nd}
theorem plit {a : Bs} {d : Array UInt8} {b : Bool} (h : (a == d.toList) = b) : ((mk a).toList == (⟨d⟩ : ByteArray).toList) = b := (bq_ a d).trans h
def o7_ (n : Nd) : Int := if n.kind = 9 then b1_ n.text else if n.kind = 8 then (if n.text = e9_ then 3 else 7) else if n.kind = 10 then 8 else 9
theorem x_level (i : Nat) (hi : i < l.length) : bm_ Tryz.prog 160 [.bx 0 0, int i] (wM bs l) (int (o7_ l[i])) (wM bs l) := by
 have hg : (l.map ndD)[((i : Nat) : Int).toNat]? = some (ndD l[i]) := W_ ndD hi
 generalize l[i] = n at hg ⊢
 obtain ⟨k, s, v, ks, js⟩ := n
 refine pcx Tryz.func160 kR kR ?_
 conv => whnf
 refine ⟨g_ i, _, hg, ?_⟩
 conv => whnf
 rintro (_ | _) h1
 rotate_left
 ·have h1 : k = 9 := by simpa using h1
  subst h1
  conv => whnf
  refine ⟨_, kq_ s, ?_⟩
  conv => whnf
  exact ⟨rfl, rfl, rfl⟩
 have h1 : k ≠ 9 := by simpa using h1
 conv => whnf
 rintro (_ | _) h2
 rotate_left
 ·have h2 : k = 8 := by simpa using h2
  subst h2
  by_cases hs : s = e9_
  ·subst hs
   conv => whnf
   refine Q_ true (plit rfl) ?_
   conv => whnf
   exact ⟨rfl, rfl, rfl⟩
  ·rw [show o7_ ⟨8, s, v, ks, js⟩ = 7 by unfold o7_; simp [hs]]
   conv => whnf
   refine Q_ false (plit (by simpa [e9_] using hs)) ?_
   conv => whnf
   exact ⟨rfl, rfl, rfl⟩
 have h2 : k ≠ 8 := by simpa using h2
 conv => whnf
 rintro (_ | _) h3
 ·have h3 : k ≠ 10 := by simpa using h3
  rw [show o7_ ⟨k, s, v, ks, js⟩ = 9 by unfold o7_; simp [h1, h2, h3]]
  conv => whnf
  exact ⟨rfl, rfl, rfl⟩
 ·have h3 : k = 10 := by simpa using h3
  subst h3
  conv => whnf
  exact ⟨rfl, rfl, rfl⟩
def Wr (f : FuncId) (args : List V) (l : List Nd) (p : Bs) : Prop := ∀ bs : Bs, bs.length + p.length ≤ 70368744177664 → bm_ Tryz.prog f (.bx 0 0 :: args) (wM bs l) (.tu []) (wM (bs ++ p) l)
abbrev d2_ (l : List Nd) (i : Nat) (p : Bs) : Prop := Wr 161 [int i] l p
abbrev bz_ (l : List Nd) (i : Nat) (req : Int) (p : Bs) : Prop := Wr 121 [int i, int req] l p
theorem x_pexpr {i : Nat} {p : Bs} (req : Int) (hi : i < l.length) (hB : d2_ l i p) : bz_ l i req (if o7_ l[i] < req then 40 :: (p ++ [41]) else p) := by
 intro bs hb
 refine pcx Tryz.func121 kR kR ?_
 conv => whnf
 refine T_ (T := TM prM) (φ := []) (gf := false) (x_level i hi) ?_
 conv => whnf
 rintro (_ | _) h1
 ·have h1 : ¬ o7_ l[i] < req := by simpa using h1
  rw [if_neg h1] at hb ⊢
  conv => whnf
  refine T_ (T := TM prM) (φ := []) (gf := false) (hB bs hb) ?_
  conv => whnf
  exact ⟨rfl, rfl, rfl⟩
 ·have h1 : o7_ l[i] < req := by simpa using h1
  rw [if_pos h1] at hb ⊢
  simp only [b_, a_, c_] at hb
  conv => whnf
  refine T_ (T := TM prM) (φ := []) (gf := false) (e4_ (l := l) (bs := bs) 40 oM) ?_
  conv => whnf
  refine T_ (T := TM prM) (φ := []) (gf := false) (hB (bs ++ [40]) (by simp only [b_, a_, c_]; omega)) ?_
  conv => whnf
  refine T_ (T := TM prM) (φ := []) (gf := false) (e4_ (l := l) (bs := bs ++ [40] ++ p) 41 (by simp only [b_, a_, c_]; omega)) ?_
  conv => whnf
  exact ⟨rfl, by rw [show bs ++ 40 :: (p ++ [41]) = bs ++ [40] ++ p ++ [41] by simp]; rfl, rfl⟩
theorem oe_ (t : Tok) (ht : t.text.length ≤ 1000000) (hv : -9223372036854775808 ≤ t.val ∧ t.val ≤ 9223372036854775807) : Wr 179 [t.V] l (aa_ t).1 := by
 intro bs hb
 refine pcx Tryz.func179 kR kR ?_
 conv => whnf
 refine ⟨_, x_textOf t ht hv, ?_⟩
 conv => whnf
 refine T_ (T := TM prM) (φ := []) (gf := false) (el_ (l := l) (bs := bs) (aa_ t).1 oM) ?_
 conv => whnf
 exact ⟨rfl, rfl, rfl⟩
abbrev wkM (bs : Bs) (l : List Nd) (n : Nd) : List Bk := [.box [.bx 1 0], wBox (.bx 1 0) 2 l, wRow bs, .box [int n.kind, bc_ n.text, int n.val, .sl false 1 (n.keys.map bl_), .sl false 1 (n.kids.map ae_)]]
def PartOk (F : FuncId) (l : List Nd) (n : Nd) (j : Nat) (p : Bs) : Prop := ∀ bs : Bs, bs.length + p.length ≤ 70368744177664 → bm_ Tryz.prog F [int j, .bx 0 0, .bx 3 0] (wkM bs l n) (.tu []) (wkM (bs ++ p) l n)
abbrev aM (bs : Bs) (l : List Nd) (n : Nd) : List Bk := [wBox (.bx 0 0) 1 l, wRow bs, .box [.bx 0 0], .box [int n.kind, bc_ n.text, int n.val, .sl false 1 (n.keys.map bl_), .sl false 1 (n.kids.map ae_)]]
def bf_ : List Bs → Bs
 | [] => []
 | [p] => p
 | p :: q :: ps => p ++ 44 :: 32 :: bf_ (q :: ps)
theorem comB_snoc : ∀ (ps : List Bs) (p : Bs), ps ≠ [] → bf_ (ps ++ [p]) = bf_ ps ++ 44 :: 32 :: p
 | [], _, h => absurd rfl h
 | [a], p, _ => by simp [bf_]
 | a :: b :: ps, p, _ => by
  have := comB_snoc (b :: ps) p sI
  simp only [List.cons_append] at this
  simp only [List.cons_append, bf_, this, List.append_assoc, List.cons_append]
theorem in_ {ps : List Bs} {k : Nat} (h : k < ps.length) (h0 : 0 < k) : bf_ (ps.take (k + 1)) = bf_ (ps.take k) ++ 44 :: 32 :: ps[k] := by
 rw [List.take_add_one, h_ h]
 refine comB_snoc _ _ ?_
 intro e
 have := congrArg List.length e
 rw [B_, c_] at this
 omega
theorem l1_ : ∀ (ps : List Bs) (k : Nat), (bf_ (ps.take k)).length ≤ (bf_ ps).length
 | [], k => by simp [bf_]
 | [a], 0 => by simp [bf_]
 | [a], k + 1 => by simp
 | a :: b :: ps, 0 => by simp [bf_]
 | a :: b :: ps, 1 => by simp [bf_]
 | a :: b :: ps, k + 2 => by
  have := l1_ (b :: ps) (k + 1)
  simp only [List.take_succ_cons, bf_, a_, b_] at this ⊢
  omega
theorem x_all {F : FuncId} (hF : F = 204 ∨ F = 181 ∨ F = 182) (n : Nd) (ps : List Bs) (hps : ps.length ≤ 1000000) (hP : ∀ (j : Nat) (h : j < ps.length), PartOk F l n j ps[j]) (bs : Bs) (hb : bs.length + (bf_ ps).length ≤ 70368744177664) :
  bm_ Tryz.prog 180 [.bx 0 0, int ps.length, .fn F 0 [.bx 2 0, .bx 3 0]] (aM bs l n) (.tu []) (aM (bs ++ bf_ ps) l n) := by
 rcases hF with rfl | rfl | rfl
 all_goals
  refine pcx Tryz.func180 kR kR ?_
  conv => whnf
  refine ⟨[], Nat, fun k => [(8, int k)], fun k => [(22, some (wRow (bs ++ bf_ (ps.take k))))], fun k => k ≤ ps.length, fun k => ps.length - k, 0, l_ _, ?_, ?_⟩
  ·refine ⟨rfl, ?_, ?_⟩ <;> repeat' (first | exact trivial | exact rfl | (simp [bf_]; done) | refine am_ ?_ | refine ah_ ?_ ?_)
  rintro k hk
  conv => whnf
  rintro (_ | _) h1
  ·have h1 : ps.length ≤ k := by simp at h1; omega
   have e : ps.take k = ps := M_ h1
   conv => whnf
   exact ⟨rfl, by rw [e]; rfl, rfl⟩
  have h1 : k < ps.length := by simp at h1; omega
  have hw : IntKind.i64.wrap (((k : Nat) : Int) + 1) = ((k + 1 : Nat) : Int) := R_ oM
  have hle := l1_ ps (k + 1)
  conv => whnf
  rintro (_ | _) h3
  ·have h3 : k = 0 := by simp at h3; omega
   have e : bs ++ bf_ (ps.take (k + 1)) = bs ++ bf_ (ps.take k) ++ ps[k] := by
    subst h3
    rw [List.take_zero, List.take_add_one, List.take_zero, h_ h1]
    simp [bf_]
   have hl : bs.length + (bf_ (ps.take (k + 1))).length = (bs ++ bf_ (ps.take k)).length + ps[k].length := by
    have := congrArg List.length e
    rw [a_, a_] at this
    exact this
   conv => whnf
   refine T_ (T := TM prM) (φ := []) (gf := false) (hP k h1 (bs ++ bf_ (ps.take k)) oM) ?_
   conv => whnf
   refine ⟨k + 1, h1, by (try dsimp only); omega, ?_⟩
   refine ⟨rfl, ?_, ?_⟩ <;> repeat' (first | exact trivial | exact rfl | (rw [e]) | refine am_ ?_ | refine aw_ hw ?_ | refine ah_ ?_ ?_)
  ·have h3 : 0 < k := by simp at h3; omega
   have e : bs ++ bf_ (ps.take (k + 1)) = bs ++ bf_ (ps.take k) ++ [44, 32] ++ ps[k] := by
    rw [in_ h1 h3]; simp
   have hl : bs.length + (bf_ (ps.take (k + 1))).length = (bs ++ bf_ (ps.take k) ++ [44, 32]).length + ps[k].length := by
    have := congrArg List.length e
    rw [a_, a_] at this
    exact this
   conv => whnf
   refine T_ (T := TM prM) (φ := []) (gf := false) (el_ (l := l) (bs := bs ++ bf_ (ps.take k)) [44, 32] (by simp only [a_] at hl ⊢; omega)) ?_
   conv => whnf
   refine T_ (T := TM prM) (φ := []) (gf := false) (hP k h1 (bs ++ bf_ (ps.take k) ++ [44, 32]) oM) ?_
   conv => whnf
   refine ⟨k + 1, h1, by (try dsimp only); omega, ?_⟩
   refine ⟨rfl, ?_, ?_⟩ <;> repeat' (first | exact trivial | exact rfl | (rw [e]) | refine am_ ?_ | refine aw_ hw ?_ | refine ah_ ?_ ?_)
end
end
section
open Go.RowKit
section
variable {l : List Nd}
theorem x_call1 {n : Nd} {j q : Nat} {p : Bs} (hq : n.kids[j]? = some (q : Int)) (hE : bz_ l q 1 p) : PartOk 204 l n j p := by
 intro bs hb
 have hg : (n.kids.map ae_)[((j : Nat) : Int).toNat]? = some (ae_ ((q : Nat) : Int)) := by
  rw [i_, e_, hq]; rfl
 refine pcx Tryz.func204 kR kR ?_
 conv => whnf
 refine ⟨none, kR, ?_⟩
 conv => whnf
 refine ⟨g_ j, _, hg, ?_⟩
 conv => whnf
 refine T_ (T := TM prM) (φ := []) (gf := false) (hE bs hb) ?_
 conv => whnf
 exact ⟨rfl, rfl, rfl⟩
theorem x_bare1 {n : Nd} {j q : Nat} {p : Bs} (hq : n.kids[j]? = some (q : Int)) (hE : bz_ l q 1 p) : PartOk 181 l n j p := by
 intro bs hb
 have hg : (n.kids.map ae_)[((j : Nat) : Int).toNat]? = some (ae_ ((q : Nat) : Int)) := by
  rw [i_, e_, hq]; rfl
 refine pcx Tryz.func181 kR kR ?_
 conv => whnf
 refine ⟨none, kR, ?_⟩
 conv => whnf
 refine ⟨g_ j, _, hg, ?_⟩
 conv => whnf
 refine T_ (T := TM prM) (φ := []) (gf := false) (hE bs hb) ?_
 conv => whnf
 exact ⟨rfl, rfl, rfl⟩
theorem x_bare2 {n : Nd} {j q : Nat} {p s : Bs} (hk : n.keys[j]? = some s) (hs : s.length ≤ 1000000) (hq : n.kids[j]? = some (q : Int)) (hE : bz_ l q 1 p) : PartOk 182 l n j ((aa_ (tk 4 s)).1 ++ 58 :: 32 :: p) := by
 intro bs hb
 simp only [a_, b_] at hb
 have hg : (n.kids.map ae_)[((j : Nat) : Int).toNat]? = some (ae_ ((q : Nat) : Int)) := by
  rw [i_, e_, hq]; rfl
 have hg2 : (n.keys.map bl_)[((j : Nat) : Int).toNat]? = some (bl_ s) := by
  rw [i_, e_, hk]; rfl
 refine pcx Tryz.func182 kR kR ?_
 conv => whnf
 refine ⟨none, kR, ?_⟩
 conv => whnf
 refine ⟨g_ j, _, hg2, ?_⟩
 conv => whnf
 refine T_ (T := TM prM) (φ := []) (gf := false) (oe_ (l := l) (tk 4 s) hs ⟨by show (-9223372036854775808 : Int) ≤ 0; omega, by show (0 : Int) ≤ 9223372036854775807; omega⟩ bs oM) ?_
 conv => whnf
 refine T_ (T := TM prM) (φ := []) (gf := false) (el_ (l := l) (bs := bs ++ (aa_ (tk 4 s)).1) [58, 32] oL) ?_
 conv => whnf
 refine ⟨none, kR, ?_⟩
 conv => whnf
 refine ⟨g_ j, _, hg, ?_⟩
 conv => whnf
 refine T_ (T := TM prM) (φ := []) (gf := false) (hE (bs ++ (aa_ (tk 4 s)).1 ++ [58, 32]) oL) ?_
 conv => whnf
 exact ⟨rfl, by rw [show bs ++ ((aa_ (tk 4 s)).1 ++ 58 :: 32 :: p) = bs ++ (aa_ (tk 4 s)).1 ++ [58, 32] ++ p by simp]; rfl, rfl⟩
abbrev nF (n : Nd) : V := .ag [int n.kind, bc_ n.text, int n.val, .sl false 1 (n.keys.map bl_), .sl false 1 (n.kids.map ae_)]
theorem x_pcall {n : Nd} {ps : List Bs} (hl : n.kids.length = ps.length) (hn : ps.length ≤ 1000000) (hP : ∀ (j : Nat) (h : j < ps.length), ∃ q : Nat, n.kids[j]? = some (q : Int) ∧ bz_ l q 1 ps[j]) : Wr 184 [nF n] l (40 :: (bf_ ps ++ [41])) := by
 intro bs hb
 simp only [a_, b_, c_] at hb
 have hll : (n.kids.map ae_).length = ps.length := by rw [d_]; exact hl
 refine pcx Tryz.func184 kR kR ?_
 conv => whnf
 refine T_ (T := TM prM) (φ := []) (gf := false) (e4_ (l := l) (bs := bs) 40 oM) ?_
 conv => whnf
 rw [hll]
 conv => whnf
 refine T_ (T := TM prM) (φ := []) (gf := false) (x_all (.inl rfl) n ps hn (fun j h => by obtain ⟨q, h1, h2⟩ := hP j h; exact x_call1 h1 h2) (bs ++ [40]) oL) ?_
 conv => whnf
 refine T_ (T := TM prM) (φ := []) (gf := false) (e4_ (l := l) (bs := bs ++ [40] ++ bf_ ps) 41 oL) ?_
 conv => whnf
 exact ⟨rfl, by rw [show bs ++ 40 :: (bf_ ps ++ [41]) = bs ++ [40] ++ bf_ ps ++ [41] by simp]; rfl, rfl⟩
theorem catL (d : Array UInt8) (s : Bs) : (⟨d⟩ : ByteArray) ++ mk s = mk (d.toList ++ s) := by
 rw [← a3_]; rfl
theorem e3_ (d : Array UInt8) (s : Bs) : mk s ++ (⟨d⟩ : ByteArray) = mk (s ++ d.toList) := by
 rw [← a3_]; rfl
theorem cu_ (d : Array UInt8) : (⟨d⟩ : ByteArray).size = d.toList.length := by simp [ByteArray.size]
theorem x_oper {k v : Int} {s : Bs} {ks : List Bs} {q1 q2 : Nat} {p1 p2 : Bs} (hs : s.length ≤ 1000) (h1 : bz_ l q1 (if b1_ s = 4 then 5 else b1_ s) p1) (h2 : bz_ l q2 (b1_ s + 1) p2) (hbl : -1000 ≤ b1_ s ∧ b1_ s ≤ 1000) :
  Wr 183 [.ag [int k, bc_ s, int v, .sl false 1 (ks.map bl_), .sl false 1 ([(q1 : Int), (q2 : Int)].map ae_)]] l (p1 ++ 32 :: (s ++ 32 :: p2)) := by
 intro bs hb
 simp only [a_, b_] at hb
 have hw : IntKind.i64.wrap (b1_ s + 1) = b1_ s + 1 := ci_ oM
 refine pcx Tryz.func183 kR kR ?_
 conv => whnf
 refine ⟨_, kq_ s, ?_⟩
 conv => whnf
 rw [hw]
 conv => whnf
 rintro (_ | _) h4
 ·have h4 : b1_ s ≠ 4 := by simpa using h4
  rw [if_neg h4] at h1
  conv => whnf
  refine ⟨dC, _, rfl, ?_⟩
  conv => whnf
  refine T_ (T := TM prM) (φ := []) (gf := false) (h1 bs oM) ?_
  conv => whnf
  refine ⟨none, kR, ?_⟩
  conv => whnf
  refine ⟨by rw [P_, cu_]; show 1 + _ ≤ _; omega, ?_⟩
  conv => whnf
  rw [catL]
  refine ⟨by rw [P_, cu_, a_]; show 1 + _ + 1 ≤ _; omega, ?_⟩
  conv => whnf
  rw [e3_]
  refine T_ (T := TM prM) (φ := []) (gf := false) (el_ (l := l) (bs := bs ++ p1) ([32] ++ s ++ [32]) oL) ?_
  conv => whnf
  refine ⟨dC, _, rfl, ?_⟩
  conv => whnf
  refine T_ (T := TM prM) (φ := []) (gf := false) (h2 (bs ++ p1 ++ ([32] ++ s ++ [32])) oL) ?_
  conv => whnf
  exact ⟨rfl, by rw [show bs ++ (p1 ++ 32 :: (s ++ 32 :: p2)) = bs ++ p1 ++ ([32] ++ s ++ [32]) ++ p2 by simp]; rfl, rfl⟩
 ·have h4 : b1_ s = 4 := by simpa using h4
  rw [if_pos h4] at h1
  conv => whnf
  refine ⟨dC, _, rfl, ?_⟩
  conv => whnf
  refine T_ (T := TM prM) (φ := []) (gf := false) (h1 bs oM) ?_
  conv => whnf
  refine ⟨none, kR, ?_⟩
  conv => whnf
  refine ⟨by rw [P_, cu_]; show 1 + _ ≤ _; omega, ?_⟩
  conv => whnf
  rw [catL]
  refine ⟨by rw [P_, cu_, a_]; show 1 + _ + 1 ≤ _; omega, ?_⟩
  conv => whnf
  rw [e3_]
  refine T_ (T := TM prM) (φ := []) (gf := false) (el_ (l := l) (bs := bs ++ p1) ([32] ++ s ++ [32]) oL) ?_
  conv => whnf
  refine ⟨dC, _, rfl, ?_⟩
  conv => whnf
  refine T_ (T := TM prM) (φ := []) (gf := false) (h2 (bs ++ p1 ++ ([32] ++ s ++ [32])) oL) ?_
  conv => whnf
  exact ⟨rfl, by rw [show bs ++ (p1 ++ 32 :: (s ++ 32 :: p2)) = bs ++ p1 ++ ([32] ++ s ++ [32]) ++ p2 by simp]; rfl, rfl⟩
end
end
section
open Go.RowKit
theorem rep_tabs : ∀ d : Nat, Lib.repeatL [9] d = hs_ d
 | 0 => rfl
 | d + 1 => by rw [Lib.repeatL, rep_tabs d]; simp [hs_, List.replicate_succ]
theorem x_tabs (d : Nat) (hd : d ≤ 1000000) : DCalls Tryz.prog 75 [bc_ [9], int d] (bc_ (hs_ d)) := by
 refine ⟨⟨_, Tryz.func75, kR, kR⟩, fun w vs hi hvs => ?_⟩
 obtain ⟨v0, v1, rfl⟩ : ∃ v0 v1, vs = [v0, v1] := by
  have := hvs.1
  match vs, this with
  | [a, b], _ => exact ⟨a, b, rfl⟩
 have r0 := hvs.2 0 _ rfl
 have r1 := hvs.2 1 _ rfl
 simp only [v_, List.getElem?_cons_zero, List.getElem?_cons_succ, Option.getD_some] at r0 r1
 cases r1
 cases r0
 have h := Tryz.strings_Repeat (mk [9]) d w oM (by rw [P_]; show 1 * d ≤ _; omega)
 rw [show (mk [9]).data.toList = [9] from rfl, rep_tabs] at h
 refine h.mono ?_
 rintro e w' ⟨rfl, hb⟩
 exact ⟨_, rfl, .cv _, hb⟩
theorem cj_ (d : Nat) : (hs_ d).length = d := by simp [hs_]
theorem pb_ : ∀ xs : List Bs, Lib.join xs [44, 32] = bf_ xs
 | [] => rfl
 | [a] => by simp [Lib.join, bf_]
 | a :: b :: l => by
  have := pb_ (b :: l)
  unfold Lib.join at this ⊢
  rw [bf_, ← this]
  simp [List.intercalate, List.intersperse]
theorem x_sjoin2 (xs : List Bs) (hn : xs.length ≤ 140737488355328) (hl : (bf_ xs).length ≤ 140737488355328) : DCalls Tryz.prog 37 [qj_ xs, bc_ [44, 32]] (bc_ (bf_ xs)) := by
 refine ⟨⟨_, Tryz.func37, kR, kR⟩, fun w vs hi hvs => ?_⟩
 obtain ⟨v0, v1, rfl⟩ : ∃ v0 v1, vs = [v0, v1] := by
  have := hvs.1
  match vs, this with
  | [a, b], _ => exact ⟨a, b, rfl⟩
 have r0 := hvs.2 0 _ rfl
 have r1 := hvs.2 1 _ rfl
 simp only [v_, List.getElem?_cons_zero, List.getElem?_cons_succ, Option.getD_some] at r0 r1
 cases r1
 cases r0
 rename_i hr
 generalize hxs : xs.map bl_ = ys at hr
 cases hr with
 | nil _ A cap =>
  have : xs = [] := by simpa using hxs
  subst this
  refine (Any.strings_Join_none Tryz.lays156 Tryz.Builder_Extra_156 A cap (mk [44, 32]) w).mono ?_
  rintro e w' ⟨rfl, rfl⟩
  exact ⟨_, rfl, .cv _, Below.refl _ _⟩
 | sl _ _ b o' cap u hS hx hcap hc hd =>
  subst hxs
  rw [d_] at hcap ⊢
  have hmm : (xs.map mk).map (·.data.toList) = xs := by rw [List.map_map]; exact List.map_id' xs
  have h := Tryz.strings_Join b o' cap (xs.map mk) (mk [44, 32]) w (fun j x hj => by
   rw [e_, o_] at hj
   obtain ⟨y, hy, rfl⟩ := hj
   have h0 : (((xs.map bl_)[j]?).bind fun x => x[0]?) = some (.cv (.string (mk y))) := by rw [e_, hy]; rfl
   have h3 := hc j 0 _ h0
   have h4 := hd j 0 _ h0
   generalize u j 0 = z at h3 h4
   cases h4
   rw [show o' + j = o' + j * 1 + 0 by omega]; exact h3) hS (by rw [d_]; exact hn) (by rw [d_]; exact hcap) (by rw [hmm, show (mk [44, 32]).data.toList = [44, 32] from rfl, pb_]; exact hl)
  rw [hmm, show (mk [44, 32]).data.toList = [44, 32] from rfl, pb_, d_] at h
  refine h.mono ?_
  rintro e w' ⟨rfl, hb⟩
  exact ⟨_, rfl, .cv _, hb⟩
section
variable {l : List Nd}
abbrev ir_ (l : List Nd) (i d : Nat) (p : Bs) : Prop := Wr 76 [int i, int d] l p
abbrev gr_ (l : List Nd) (i d : Nat) (p : Bs) : Prop := Wr 38 [int i, int d] l p
def gk_ (d : Nat) : List Bs → Bs
 | [] => []
 | p :: ps => hs_ d ++ (p ++ 10 :: gk_ d ps)
theorem linB_snoc (d : Nat) : ∀ (ps : List Bs) (p : Bs), gk_ d (ps ++ [p]) = gk_ d ps ++ (hs_ d ++ (p ++ [10]))
 | [], p => by simp [gk_]
 | a :: ps, p => by simp [gk_, linB_snoc d ps p]
theorem linB_take {d : Nat} {ps : List Bs} {k : Nat} (h : k < ps.length) : gk_ d (ps.take (k + 1)) = gk_ d (ps.take k) ++ (hs_ d ++ (ps[k] ++ [10])) := by
 rw [List.take_add_one, h_ h]
 exact linB_snoc d _ _
theorem linB_le (d : Nat) : ∀ (ps : List Bs) (k : Nat), (gk_ d (ps.take k)).length ≤ (gk_ d ps).length
 | [], k => by simp [gk_]
 | a :: ps, 0 => by simp [gk_]
 | a :: ps, k + 1 => by
  have := linB_le d ps k
  simp only [List.take_succ_cons, gk_, a_, b_] at this ⊢
  omega
theorem x_pblock {i d : Nat} {K : Int} {s : Bs} {v : Int} {ks : List Bs} {js : List Int} {ps : List Bs} (hi : l[i]? = some ⟨K, s, v, ks, js⟩) (hl : js.length = ps.length) (hn : ps.length ≤ 1000000) (hd : d ≤ 900000)
  (hP : ∀ (j : Nat) (h : j < ps.length), ∃ q : Nat, js[j]? = some (q : Int) ∧ ir_ l q (d + 1) ps[j]) : gr_ l i d (123 :: 10 :: (gk_ (d + 1) ps ++ (hs_ d ++ [125]))) := by
 intro bs hb
 simp only [a_, b_, c_, cj_] at hb
 have hll : (js.map ae_).length = ps.length := by rw [d_]; exact hl
 have hg : (l.map ndD)[((i : Nat) : Int).toNat]? = some [.cv (.int .i64 K), .cv (.string (mk s)), .cv (.int .i64 v), .sl 1 (ks.map bl_), .sl 1 (List.map ae_ js)] := by
  rw [i_, e_, hi]; rfl
 have hwd : IntKind.i64.wrap (((d : Nat) : Int) + 1) = ((d + 1 : Nat) : Int) := R_ oM
 refine pcx Tryz.func38 kR kR ?_
 conv => whnf
 refine T_ (T := TM prM) (φ := []) (gf := false) (el_ (l := l) (bs := bs) [123, 10] (by simp only [b_, c_]; omega)) ?_
 conv => whnf
 refine ⟨g_ i, _, hg, ?_⟩
 conv => whnf
 rw [hll]
 refine ⟨[], Nat, fun k => [(21, int k)], fun k => [(49, some (wBox (.bx 49 0) 50 l)), (50, some (wRow (bs ++ [123, 10] ++ gk_ (d + 1) (ps.take k))))], fun k => k ≤ ps.length, fun k => ps.length - k, 0, l_ _, ?_, ?_⟩
 ·refine ⟨rfl, ?_, ?_⟩ <;> repeat' (first | exact trivial | exact rfl | (simp [gk_]; done) | refine am_ ?_ | refine ah_ ?_ ?_)
 rintro k hk
 conv => whnf
 rintro (_ | _) h1
 ·have h1 : ps.length ≤ k := by simp at h1; omega
  have e : ps.take k = ps := M_ h1
  rw [e]
  conv => whnf
  refine ⟨none, kR, ?_⟩
  conv => whnf
  refine ⟨_, x_tabs d oM, ?_⟩
  conv => whnf
  refine ⟨by rw [P_, cu_, cj_]; show d + 1 ≤ _; omega, ?_⟩
  conv => whnf
  rw [e3_]
  refine T_ (T := TM prM) (φ := []) (gf := false) (el_ (l := l) (bs := bs ++ [123, 10] ++ gk_ (d + 1) ps) (hs_ d ++ [125]) (by simp only [a_, b_, c_, cj_]; omega)) ?_
  conv => whnf
  exact ⟨rfl, by rw [show bs ++ 123 :: 10 :: (gk_ (d + 1) ps ++ (hs_ d ++ [125])) = bs ++ [123, 10] ++ gk_ (d + 1) ps ++ (hs_ d ++ [125]) by simp]; rfl, rfl⟩
 have h1 : k < ps.length := by simp at h1; omega
 obtain ⟨q, hq, hS⟩ := hP k h1
 have hg2 : (js.map ae_)[((k : Nat) : Int).toNat]? = some (ae_ ((q : Nat) : Int)) := by
  rw [i_, e_, hq]; rfl
 have hw : IntKind.i64.wrap (((k : Nat) : Int) + 1) = ((k + 1 : Nat) : Int) := R_ oM
 have hle := linB_le (d + 1) ps (k + 1)
 have e : bs ++ [123, 10] ++ gk_ (d + 1) (ps.take (k + 1)) = bs ++ [123, 10] ++ gk_ (d + 1) (ps.take k) ++ hs_ (d + 1) ++ ps[k] ++ [10] := by
  rw [linB_take h1]; simp
 have hlen : bs.length + 2 + (gk_ (d + 1) (ps.take (k + 1))).length = (bs ++ [123, 10] ++ gk_ (d + 1) (ps.take k)).length + (d + 1) + ps[k].length + 1 := by
  have := congrArg List.length e
  simp only [a_, b_, c_, cj_] at this ⊢
  omega
 generalize bs ++ [123, 10] ++ gk_ (d + 1) (ps.take k) = A at e hlen ⊢
 conv => whnf
 refine ⟨g_ k, _, hg2, ?_⟩
 conv => whnf
 refine ⟨none, kR, ?_⟩
 conv => whnf
 rw [hwd]
 refine ⟨_, x_tabs (d + 1) oM, ?_⟩
 conv => whnf
 refine T_ (T := TM prM) (φ := []) (gf := false) (el_ (l := l) (bs := A) (hs_ (d + 1)) (by rw [cj_]; omega)) ?_
 conv => whnf
 rw [hwd]
 refine T_ (T := TM prM) (φ := []) (gf := false) (hS (A ++ hs_ (d + 1)) (by simp only [a_, cj_]; omega)) ?_
 conv => whnf
 refine T_ (T := TM prM) (φ := []) (gf := false) (e4_ (l := l) (bs := A ++ hs_ (d + 1) ++ ps[k]) 10 (by simp only [a_, cj_]; omega)) ?_
 conv => whnf
 refine ⟨k + 1, h1, by (try dsimp only); omega, ?_⟩
 refine ⟨rfl, ?_, ?_⟩ <;> repeat' (first | exact trivial | exact rfl | (rw [e]) | (rw [e, List.map_append]; rfl) | refine am_ ?_ | refine aw_ hw ?_ | refine ah_ ?_ ?_)
end
end
section
theorem mh_ {s : Bs} (h : kwL s = true) : (aa_ (wd s)).1 = s := by unfold aa_; simp [tk, h]
theorem k_null : (aa_ (wd ec_)).1 = ec_ := mh_ kR
theorem k_true : (aa_ (wd eb_)).1 = eb_ := mh_ kR
theorem k_false : (aa_ (wd cy_)).1 = cy_ := mh_ kR
theorem k_not : (aa_ (wd e9_)).1 = e9_ := mh_ kR
theorem k_let : (aa_ (wd mb_)).1 = mb_ := mh_ kR
theorem k_if : (aa_ (wd wIf)).1 = wIf := mh_ kR
theorem k_else : (aa_ (wd h0_)).1 = h0_ := mh_ kR
theorem k_while : (aa_ (wd ct_)).1 = ct_ := mh_ kR
theorem k_return : (aa_ (wd b0_)).1 = b0_ := mh_ kR
theorem k_func : (aa_ (wd kw_)).1 = kw_ := mh_ kR
theorem s_lp : (aa_ (sy sLP)).1 = [40] := rfl
theorem s_rp : (aa_ (sy sRP)).1 = [41] := rfl
theorem s_lb : (aa_ (sy sLB)).1 = [91] := rfl
theorem s_rb : (aa_ (sy sRB)).1 = [93] := rfl
theorem s_lc : (aa_ (sy sLC)).1 = [123] := rfl
theorem s_rc : (aa_ (sy sRC)).1 = [125] := rfl
theorem s_cm : (aa_ (sy sCm)).1 = [44] := rfl
theorem s_cl : (aa_ (sy sCl)).1 = [58] := rfl
theorem s_sc : (aa_ (sy sSc)).1 = [59] := rfl
theorem s_mi : (aa_ (sy sMi)).1 = [45] := rfl
theorem s_eq : (aa_ (sy lb_)).1 = [61] := rfl
theorem tx_q (lv req : Int) (p : List Pc) : txP (qP lv req p) = if lv < req then 40 :: (txP p ++ [41]) else txP p := by
 unfold qP
 split
 ·simp only [txP, aq_, s_lp, s_rp]; simp
 ·rfl
theorem h2_ : ∀ ps : List (List Pc), txP (dq_ ps) = bf_ (ps.map txP)
 | [] => rfl
 | [p] => rfl
 | p :: q :: l => by
  have := h2_ (q :: l)
  simp only [List.map_cons] at this
  simp only [dq_, aq_, txP, bf_, List.map_cons, s_cm, this]
  simp
theorem lp_ : ∀ (ks : List Bs) (ps : List (List Pc)) (j : Nat) (k : Bs) (p : List Pc), ks[j]? = some k → ps[j]? = some p → ((hj_ ks ps).map txP)[j]? = some ((aa_ (tk 4 k)).1 ++ 58 :: 32 :: txP p)
 | [], _, j, k, p, h, _ => by simp at h
 | _ :: _, [], j, k, p, _, h => by simp at h
 | k0 :: ks, p0 :: ps, j, k, p, h1, h2 => by
  cases j with
  | zero =>
   simp at h1 h2; subst h1 h2
   simp [hj_, txP, s_cl]
  | succ j =>
   have := lp_ ks ps j k p (by simpa using h1) (by simpa using h2)
   simpa [hj_] using this
theorem es_ : ∀ (ks : List Bs) (ps : List (List Pc)), ks.length = ps.length → (hj_ ks ps).length = ps.length
 | [], [], _ => rfl
 | [], _ :: _, h => by simp at h
 | _ :: _, [], h => by simp at h
 | _ :: ks, _ :: ps, h => by simp [hj_, es_ ks ps (by simpa using h)]
theorem tx_lines (d : Nat) : ∀ (ps : List (List Pc)) (r : Bs), txP (ln_ d ps) ++ 10 :: r = 10 :: (gk_ d (ps.map txP) ++ r)
 | [], r => rfl
 | p :: ps, r => by
  have := tx_lines d ps r
  simp only [ln_, txP, aq_, List.map_cons, gk_, List.cons_append, List.append_assoc, this]
section
variable {d : Nat} {text : Bs} {val : Int} {keys : List Bs} {ts : List Tr} {A B C : Tr}
theorem tx_null : txP ((Tr.node ⟨1, text, val, keys⟩ ts).pc d) = ec_ := by
 rw [show (Tr.node ⟨1, text, val, keys⟩ ts).pc d = [.t (wd ec_)] from rfl]; simp only [txP, k_null, List.append_nil]
theorem tx_bool0 : txP ((Tr.node ⟨2, text, 0, keys⟩ ts).pc d) = cy_ := by
 rw [show (Tr.node ⟨2, text, 0, keys⟩ ts).pc d = [.t (wd cy_)] from rfl]; simp only [txP, k_false, List.append_nil]
theorem tx_bool1 : txP ((Tr.node ⟨2, text, 1, keys⟩ ts).pc d) = eb_ := by
 rw [show (Tr.node ⟨2, text, 1, keys⟩ ts).pc d = [.t (wd eb_)] from rfl]; simp only [txP, k_true, List.append_nil]
theorem tx_int : txP ((Tr.node ⟨3, text, val, keys⟩ ts).pc d) = (aa_ ⟨3, [], val, 0⟩).1 := by
 rw [show (Tr.node ⟨3, text, val, keys⟩ ts).pc d = [.t ⟨3, [], val, 0⟩] from rfl]; simp only [txP, List.append_nil]
theorem tx_str : txP ((Tr.node ⟨4, text, val, keys⟩ ts).pc d) = (aa_ (tk 4 text)).1 := by
 rw [show (Tr.node ⟨4, text, val, keys⟩ ts).pc d = [.t (tk 4 text)] from rfl]; simp only [txP, List.append_nil]
theorem tx_var (h : a7_ text = true) : txP ((Tr.node ⟨5, text, val, keys⟩ ts).pc d) = text := by
 rw [show (Tr.node ⟨5, text, val, keys⟩ ts).pc d = [.t (tk 1 text)] from rfl]; simp only [txP, he_ h, List.append_nil]
theorem tx_list : txP ((Tr.node ⟨6, text, val, keys⟩ ts).pc d) = 91 :: (bf_ ((Tr.pcl d ts).map txP) ++ [93]) := by
 rw [show (Tr.node ⟨6, text, val, keys⟩ ts).pc d = .t (sy sLB) :: (dq_ (Tr.pcl d ts) ++ [.t (sy sRB)]) from rfl]
 simp only [txP, aq_, h2_, s_lb, s_rb]; simp
theorem tx_map : txP ((Tr.node ⟨7, text, val, keys⟩ ts).pc d) = 123 :: (bf_ ((hj_ keys (Tr.pcl d ts)).map txP) ++ [125]) := by
 rw [show (Tr.node ⟨7, text, val, keys⟩ ts).pc d = .t (sy sLC) :: (dq_ (hj_ keys (Tr.pcl d ts)) ++ [.t (sy sRC)]) from rfl]
 simp only [txP, aq_, h2_, s_lc, s_rc]; simp
theorem tx_not : txP ((Tr.node ⟨8, e9_, val, keys⟩ [A]).pc d) = 110 :: 111 :: 116 :: 32 :: txP (qP A.level 3 (A.pc d)) := by
 rw [show (Tr.node ⟨8, e9_, val, keys⟩ [A]).pc d = .t (wd e9_) :: sp1 :: qP A.level 3 (A.pc d) from rfl]
 simp only [txP, k_not]; rfl
theorem tx_neg (h : text ≠ e9_) : txP ((Tr.node ⟨8, text, val, keys⟩ [A]).pc d) = 45 :: txP (qP A.level 7 (A.pc d)) := by
 rw [show (Tr.node ⟨8, text, val, keys⟩ [A]).pc d = if text = e9_ then .t (wd e9_) :: sp1 :: qP A.level 3 (A.pc d) else .t (sy sMi) :: qP A.level 7 (A.pc d) from rfl, if_neg h]
 simp only [txP, s_mi]; rfl
theorem tx_bin (h : 0 < b1_ text) : txP ((Tr.node ⟨9, text, val, keys⟩ [A, B]).pc d) = txP (qP A.level (if b1_ text = 4 then 5 else b1_ text) (A.pc d)) ++ 32 :: (text ++ 32 :: txP (qP B.level (b1_ text + 1) (B.pc d))) := by
 rw [show (Tr.node ⟨9, text, val, keys⟩ [A, B]).pc d = qP A.level (if b1_ text = 4 then 5 else b1_ text) (A.pc d) ++ sp1 :: .t (tk (opK text) text) :: sp1 :: qP B.level (b1_ text + 1) (B.pc d) from rfl]
 simp only [txP, aq_, tt_bin h]; simp
theorem tx_index : txP ((Tr.node ⟨10, text, val, keys⟩ [A, B]).pc d) = txP (qP A.level 8 (A.pc d)) ++ 91 :: (txP (B.pc d) ++ [93]) := by
 rw [show (Tr.node ⟨10, text, val, keys⟩ [A, B]).pc d = qP A.level 8 (A.pc d) ++ .t (sy sLB) :: (B.pc d ++ [.t (sy sRB)]) from rfl]
 simp only [txP, aq_, s_lb, s_rb]; simp
theorem tx_call (h : a7_ text = true) : txP ((Tr.node ⟨11, text, val, keys⟩ ts).pc d) = text ++ 40 :: (bf_ ((Tr.pcl d ts).map txP) ++ [41]) := by
 rw [show (Tr.node ⟨11, text, val, keys⟩ ts).pc d = .t (tk 1 text) :: .t (sy sLP) :: (dq_ (Tr.pcl d ts) ++ [.t (sy sRP)]) from rfl]
 simp only [txP, aq_, h2_, he_ h, s_lp, s_rp]; simp
theorem tx_host (h : ba_ text = true) : txP ((Tr.node ⟨12, text, val, keys⟩ ts).pc d) = 64 :: (text ++ 40 :: (bf_ ((Tr.pcl d ts).map txP) ++ [41])) := by
 rw [show (Tr.node ⟨12, text, val, keys⟩ ts).pc d = .t (tk 6 text) :: .t (sy sLP) :: (dq_ (Tr.pcl d ts) ++ [.t (sy sRP)]) from rfl]
 simp only [txP, aq_, h2_, tt_whole h, s_lp, s_rp]; simp
theorem tx_let (h : a7_ text = true) : txP ((Tr.node ⟨13, text, val, keys⟩ [A]).pc d) = [108, 101, 116, 32] ++ text ++ [32, 61, 32] ++ txP (A.pc d) ++ [59] := by
 rw [show (Tr.node ⟨13, text, val, keys⟩ [A]).pc d = .t (wd mb_) :: sp1 :: .t (tk 1 text) :: sp1 :: .t (sy lb_) :: sp1 :: (A.pc d ++ [.t (sy sSc)]) from rfl]
 simp only [txP, aq_, he_ h, k_let, s_eq, s_sc]; simp [mb_]
theorem tx_set (h : a7_ text = true) : txP ((Tr.node ⟨14, text, val, keys⟩ [A]).pc d) = text ++ [32, 61, 32] ++ txP (A.pc d) ++ [59] := by
 rw [show (Tr.node ⟨14, text, val, keys⟩ [A]).pc d = .t (tk 1 text) :: sp1 :: .t (sy lb_) :: sp1 :: (A.pc d ++ [.t (sy sSc)]) from rfl]
 simp only [txP, aq_, he_ h, s_eq, s_sc]; simp
theorem tx_ret : txP ((Tr.node ⟨17, text, val, keys⟩ [A]).pc d) = [114, 101, 116, 117, 114, 110, 32] ++ txP (A.pc d) ++ [59] := by
 rw [show (Tr.node ⟨17, text, val, keys⟩ [A]).pc d = .t (wd b0_) :: sp1 :: (A.pc d ++ [.t (sy sSc)]) from rfl]
 simp only [txP, aq_, k_return, s_sc]; simp [b0_]
theorem tx_do : txP ((Tr.node ⟨18, text, val, keys⟩ [A]).pc d) = txP (A.pc d) ++ [59] := by
 rw [show (Tr.node ⟨18, text, val, keys⟩ [A]).pc d = A.pc d ++ [.t (sy sSc)] from rfl]
 simp only [txP, aq_, s_sc]; simp
theorem tx_while : txP ((Tr.node ⟨16, text, val, keys⟩ [A, B]).pc d) = [119, 104, 105, 108, 101, 32] ++ txP (A.pc d) ++ [32] ++ txP (B.pc d) := by
 rw [show (Tr.node ⟨16, text, val, keys⟩ [A, B]).pc d = .t (wd ct_) :: sp1 :: (A.pc d ++ sp1 :: B.pc d) from rfl]
 simp only [txP, aq_, k_while]; simp [ct_]
theorem tx_if : txP ((Tr.node ⟨15, text, val, keys⟩ [A, B]).pc d) = [105, 102, 32] ++ txP (A.pc d) ++ [32] ++ txP (B.pc d) := by
 rw [show (Tr.node ⟨15, text, val, keys⟩ [A, B]).pc d = .t (wd wIf) :: sp1 :: (A.pc d ++ sp1 :: B.pc d) from rfl]
 simp only [txP, aq_, k_if]; simp [wIf]
theorem tx_else : txP ((Tr.node ⟨15, text, val, keys⟩ [A, B, C]).pc d) = [105, 102, 32] ++ txP (A.pc d) ++ [32] ++ txP (B.pc d) ++ [32, 101, 108, 115, 101, 32] ++ txP (C.pc d) := by
 rw [show (Tr.node ⟨15, text, val, keys⟩ [A, B, C]).pc d = .t (wd wIf) :: sp1 :: (A.pc d ++ sp1 :: (B.pc d ++ sp1 :: .t (wd h0_) :: sp1 :: C.pc d)) from rfl]
 simp only [txP, aq_, k_if, k_else]; simp [wIf, h0_]
theorem tx_block : txP ((Tr.node ⟨19, text, val, keys⟩ ts).pc d) = 123 :: 10 :: (gk_ (d + 1) ((Tr.pcl (d + 1) ts).map txP) ++ (hs_ d ++ [125])) := by
 rw [show (Tr.node ⟨19, text, val, keys⟩ ts).pc d = .t (sy sLC) :: (ln_ (d + 1) (Tr.pcl (d + 1) ts) ++ [nl d, .t (sy sRC)]) from rfl]
 have := tx_lines (d + 1) (Tr.pcl (d + 1) ts) (hs_ d ++ [125])
 simp only [txP, aq_, s_lc, s_rc, List.append_nil, List.cons_append, List.nil_append, this]
end
theorem tx_par : ∀ ps : List Bs, (∀ s ∈ ps, a7_ s = true) → txP (parPc ps) = bf_ ps
 | [], _ => rfl
 | [s], h => by simp only [parPc, txP, he_ (h s sI), bf_, List.append_nil]
 | s :: q :: l, h => by
  have := tx_par (q :: l) fun x hx => h x (by simp at hx ⊢; exact .inr hx)
  simp only [parPc, txP, he_ (h s sI), s_cm, bf_, this]
  simp
theorem oo_ {F : FnT} (h : f8_ F) : txP F.pc = [102, 117, 110, 99, 32] ++ F.name ++ [40] ++ bf_ F.params ++ [41, 32] ++ txP (F.body.pc 0) ++ [10] := by
 simp only [FnT.pc, txP, aq_, he_ h.name, tx_par _ h.params, k_func, s_lp, s_rp, hs_, List.replicate]
 simp [kw_]
theorem ez_ {fs : List FnT} {k : Nat} (h : k < fs.length) : txP (cn_ (fs.take (k + 1))) = txP (cn_ (fs.take k)) ++ txP fs[k].pc := by
 rw [List.take_add_one, h_ h]
 show txP (cn_ (fs.take k ++ [fs[k]])) = _
 simp only [cn_, List.map_append, List.flatten_append, aq_, List.map_cons, List.map_nil, List.flatten_cons, List.flatten_nil, List.append_nil]
theorem m2_ : ∀ (fs : List FnT) (k : Nat), (txP (cn_ (fs.take k))).length ≤ (txP (cn_ fs)).length
 | [], k => by simp
 | F :: fs, 0 => by simp [cn_, txP]
 | F :: fs, k + 1 => by
  have := m2_ fs k
  simp only [cn_, List.take_succ_cons, List.map_cons, List.flatten_cons, aq_, a_] at this ⊢
  omega
end
end Go.Proofs.YtglndfgmlminpaaGreatDoor
