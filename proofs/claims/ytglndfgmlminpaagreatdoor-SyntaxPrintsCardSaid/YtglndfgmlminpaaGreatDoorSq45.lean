/- Texts joined by pack.py: XSyVC XSyVD XSyVE -/
import Derived.Test.YtglndfgmlminpaaGreatDoorSq44
set_option maxHeartbeats 16000000
set_option maxRecDepth 100000
namespace Go.Proofs.YtglndfgmlminpaaGreatDoor
section
open Go.RowKit
section
variable {l : List Nd}
theorem w_map {s : Bs} {v : Int} {ks : List Bs} {js : List Int} {ps : List Bs} (hl : js.length = ps.length) (hn : ps.length ≤ 1000000) (hb : (bf_ ps).length ≤ 100000000) (hP : ∀ (j : Nat) (_ : j < ps.length), ∃ (q : Nat) (k p : Bs), js[j]? = some (q : Int) ∧ ks[j]? = some k ∧ k.length ≤ 1000 ∧ e6_ l q 1 p ∧ ps[j] = (aa_ (tk 4 k)).1 ++ 58 :: 32 :: p) : gp_ l ⟨7, s, v, ks, js⟩ (123 :: (bf_ ps ++ [125])) := by
 have hll : (js.map ae_).length = ps.length := by rw [d_]; exact hl
 refine sx Tryz.func162 kR ?_
 repeat ((conv => whnf); first | refine kT ?_ | refine kF ?_)
 refine ⟨[], Nat, fun k => [(7, bc_ (123 :: bf_ (ps.take k))), (8, int k)], fun _ => [], fun k => k ≤ ps.length, fun k => ps.length - k, 0, l_ _, ?_, ?_⟩
 ·refine ⟨rfl, ?_, ?_⟩ <;> repeat' (first | exact trivial | exact rfl | (simp [bf_]; done) | refine am_ ?_ | refine ah_ ?_ ?_)
 rintro k hk
 conv => whnf
 rintro (_ | _) h1
 ·have h1 : ps.length ≤ k := by rw [hll] at h1; simp at h1; omega
  rw [M_ h1]
  conv => whnf
  refine ⟨szR 1 rfl oL, ?_⟩
  conv => whnf
  rw [e3_]
  conv => whnf
  exact ed_ sI
 have h1 : k < ps.length := by rw [hll] at h1; simp at h1; omega
 have hw : IntKind.i64.wrap (((k : Nat) : Int) + 1) = ((k + 1 : Nat) : Int) := R_ oM
 obtain ⟨q, kk, p, hq, hkk, hkl, hO, he⟩ := hP k h1
 have hg : (js.map ae_)[((k : Nat) : Int).toNat]? = some (ae_ ((q : Nat) : Int)) := by
  rw [i_, e_, hq]; rfl
 have hg2 : (ks.map bl_)[((k : Nat) : Int).toNat]? = some (bl_ kk) := by
  rw [i_, e_, hkk]; rfl
 have hle := l1_ ps (k + 1)
 conv => whnf
 rintro (_ | _) h3
 ·have h3 : k = 0 := by simp at h3; omega
  have e : 123 :: bf_ (ps.take (k + 1)) = 123 :: bf_ (ps.take k) ++ (aa_ (tk 4 kk)).1 ++ [58, 32] ++ p := by
   subst h3
   rw [List.take_zero, List.take_add_one, List.take_zero, h_ h1, he]
   simp [bf_]
  have hlen := congrArg List.length e
  simp only [a_, b_, c_] at hlen
  conv => whnf
  refine ⟨none, kR, ?_⟩
  conv => whnf
  refine ⟨g_ k, _, hg2, ?_⟩
  conv => whnf
  refine ⟨_, kr_ kk oM, ?_⟩
  conv => whnf
  refine ⟨szA oL, ?_⟩
  conv => whnf
  rw [a3_]
  refine ⟨szR 2 rfl oL, ?_⟩
  conv => whnf
  rw [e3_]
  refine ⟨g_ k, _, hg, ?_⟩
  conv => whnf
  refine ⟨_, hO, ?_⟩
  conv => whnf
  refine ⟨szA oL, ?_⟩
  conv => whnf
  rw [a3_, ← e]
  refine ⟨k + 1, h1, by (try dsimp only); omega, ?_⟩
  exact eA
 ·have h3 : 0 < k := by simp at h3; omega
  have e : 123 :: bf_ (ps.take (k + 1)) = 123 :: bf_ (ps.take k) ++ [44, 32] ++ (aa_ (tk 4 kk)).1 ++ [58, 32] ++ p := by
   rw [in_ h1 h3, he]; simp
  have hlen := congrArg List.length e
  simp only [a_, b_, c_] at hlen
  conv => whnf
  refine ⟨szR 2 rfl oL, ?_⟩
  conv => whnf
  rw [e3_]
  refine ⟨none, kR, ?_⟩
  conv => whnf
  refine ⟨g_ k, _, hg2, ?_⟩
  conv => whnf
  refine ⟨_, kr_ kk oM, ?_⟩
  conv => whnf
  refine ⟨szA oL, ?_⟩
  conv => whnf
  rw [a3_]
  refine ⟨szR 2 rfl oL, ?_⟩
  conv => whnf
  rw [e3_]
  refine ⟨g_ k, _, hg, ?_⟩
  conv => whnf
  refine ⟨_, hO, ?_⟩
  conv => whnf
  refine ⟨szA oL, ?_⟩
  conv => whnf
  rw [a3_, show 123 :: bf_ (ps.take k) ++ [44, 32] ++ (aa_ (tk 4 kk)).1 ++ [58, 32] ++ p = 123 :: bf_ (ps.take (k + 1)) from e.symm]
  refine ⟨k + 1, h1, by (try dsimp only); omega, ?_⟩
  exact eA
abbrev pt_ (l : List Nd) (n : Nd) (d : Nat) (p : Bs) : Prop := DCalls Tryz.prog 78 [lV l, n.V, int d] (bc_ p)
abbrev BlkOk (l : List Nd) (i d : Nat) (p : Bs) : Prop := DCalls Tryz.prog 42 [lV l, int i, int d] (bc_ p)
theorem x_rblocked {i d : Nat} {n0 : Nd} {ps : List Bs} (hi : l[i]? = some n0) (hl : n0.kids.length = ps.length) (hn : ps.length ≤ 1000000) (hd : d ≤ 900000) (hb : (gk_ (d + 1) ps).length ≤ 100000000)
  (hP : ∀ (j : Nat) (_ : j < ps.length), ∃ (q : Nat) (n : Nd), n0.kids[j]? = some (q : Int) ∧ l[q]? = some n ∧ pt_ l n (d + 1) ps[j]) : BlkOk l i d (123 :: 10 :: (gk_ (d + 1) ps ++ (hs_ d ++ [125]))) := by
 have hll : (n0.kids.map ae_).length = ps.length := by rw [d_]; exact hl
 have hg0 : (l.map ndD)[((i : Nat) : Int).toNat]? = some (ndD n0) := by
  rw [i_, e_, hi]; rfl
 have hwd : IntKind.i64.wrap (((d : Nat) : Int) + 1) = ((d + 1 : Nat) : Int) := R_ oM
 refine sx Tryz.func42 kR ?_
 repeat ((conv => whnf); first | refine kT ?_ | refine kF ?_)
 refine ⟨[], Nat, fun k => [(7, bc_ (123 :: 10 :: gk_ (d + 1) (ps.take k))), (8, int k)], fun _ => [], fun k => k ≤ ps.length, fun k => ps.length - k, 0, l_ _, ?_, ?_⟩
 ·refine ⟨rfl, ?_, ?_⟩ <;> repeat' (first | exact trivial | exact rfl | (simp [gk_]; done) | refine am_ ?_ | refine ah_ ?_ ?_)
 rintro k hk
 conv => whnf
 refine ⟨g_ i, _, hg0, ?_⟩
 conv => whnf
 rintro (_ | _) h1
 ·have h1 : ps.length ≤ k := by rw [hll] at h1; simp at h1; omega
  rw [M_ h1]
  conv => whnf
  refine ⟨_, x_rtabs d oM, ?_⟩
  conv => whnf
  refine ⟨szA (by (try simp only [b_, cj_]); omega), ?_⟩
  conv => whnf
  rw [a3_]
  refine ⟨szR 1 rfl (by (try simp only [a_, b_, cj_]); omega), ?_⟩
  conv => whnf
  rw [e3_]
  conv => whnf
  exact ed_ sI
 have h1 : k < ps.length := by rw [hll] at h1; simp at h1; omega
 have hw : IntKind.i64.wrap (((k : Nat) : Int) + 1) = ((k + 1 : Nat) : Int) := R_ oM
 obtain ⟨q, n, hq, hnq, hS⟩ := hP k h1
 have hg : (n0.kids.map ae_)[((k : Nat) : Int).toNat]? = some (ae_ ((q : Nat) : Int)) := by
  rw [i_, e_, hq]; rfl
 have hg2 : (l.map ndD)[((q : Nat) : Int).toNat]? = some (ndD n) := by
  rw [i_, e_, hnq]; rfl
 have hle := linB_le (d + 1) ps (k + 1)
 have e : 123 :: 10 :: gk_ (d + 1) (ps.take (k + 1)) = 123 :: 10 :: gk_ (d + 1) (ps.take k) ++ hs_ (d + 1) ++ ps[k] ++ [10] := by
  rw [linB_take h1]; simp
 have hlen := congrArg List.length e
 simp only [a_, b_, c_, cj_] at hlen
 conv => whnf
 refine ⟨none, kR, ?_⟩
 conv => whnf
 rw [hwd]
 refine ⟨_, x_rtabs (d + 1) oM, ?_⟩
 conv => whnf
 refine ⟨szA (by (try simp only [b_, cj_]); omega), ?_⟩
 conv => whnf
 rw [a3_]
 refine ⟨g_ i, _, hg0, ?_⟩
 conv => whnf
 refine ⟨g_ k, _, hg, ?_⟩
 conv => whnf
 refine ⟨g_ q, _, hg2, ?_⟩
 conv => whnf
 rw [hwd]
 refine ⟨_, hS, ?_⟩
 conv => whnf
 refine ⟨szA (by (try simp only [a_, b_, cj_]); omega), ?_⟩
 conv => whnf
 rw [a3_]
 refine ⟨szR 1 rfl (by (try simp only [a_, b_, cj_]); omega), ?_⟩
 conv => whnf
 rw [e3_]
 rw [show 123 :: 10 :: gk_ (d + 1) (ps.take k) ++ hs_ (d + 1) ++ ps[k] ++ (#[10] : Array UInt8).toList = 123 :: 10 :: gk_ (d + 1) (ps.take (k + 1)) from e.symm]
 refine ⟨k + 1, h1, by (try dsimp only); omega, ?_⟩
 exact eA
theorem s_let {q d : Nat} {s : Bs} {v : Int} {ks : List Bs} {p : Bs} (hs : s.length ≤ 1000) (b1 : p.length ≤ 100000000) (h1 : e6_ l q 1 p) : pt_ l ⟨13, s, v, ks, [(q : Int)]⟩ d ([108, 101, 116, 32] ++ s ++ [32, 61, 32] ++ p ++ [59]) := by
 refine sx Tryz.func78 kR ?_
 repeat ((conv => whnf); first | refine kT ?_ | refine kF ?_)
 refine ⟨dC, _, rfl, ?_⟩
 conv => whnf
 refine ⟨_, h1, ?_⟩
 repeat ((conv => whnf); first | refine kT ?_ | refine kF ?_)
 refine ⟨szL 4 rfl oL, ?_⟩
 conv => whnf
 rw [catL]
 refine ⟨szR 3 rfl oL, ?_⟩
 conv => whnf
 rw [e3_]
 refine ⟨szA oL, ?_⟩
 conv => whnf
 rw [a3_]
 refine ⟨szR 1 rfl oL, ?_⟩
 conv => whnf
 rw [e3_]
 all_goals (first | exact ed_ sI | ((conv => whnf); exact ed_ sI))
theorem s_set {q d : Nat} {s : Bs} {v : Int} {ks : List Bs} {p : Bs} (hs : s.length ≤ 1000) (b1 : p.length ≤ 100000000) (h1 : e6_ l q 1 p) : pt_ l ⟨14, s, v, ks, [(q : Int)]⟩ d (s ++ [32, 61, 32] ++ p ++ [59]) := by
 refine sx Tryz.func78 kR ?_
 repeat ((conv => whnf); first | refine kT ?_ | refine kF ?_)
 refine ⟨dC, _, rfl, ?_⟩
 conv => whnf
 refine ⟨_, h1, ?_⟩
 repeat ((conv => whnf); first | refine kT ?_ | refine kF ?_)
 refine ⟨szR 3 rfl oL, ?_⟩
 conv => whnf
 rw [e3_]
 refine ⟨szA oL, ?_⟩
 conv => whnf
 rw [a3_]
 refine ⟨szR 1 rfl oL, ?_⟩
 conv => whnf
 rw [e3_]
 all_goals (first | exact ed_ sI | ((conv => whnf); exact ed_ sI))
theorem s_ret {q d : Nat} {s : Bs} {v : Int} {ks : List Bs} {p : Bs} (b1 : p.length ≤ 100000000) (h1 : e6_ l q 1 p) : pt_ l ⟨17, s, v, ks, [(q : Int)]⟩ d ([114, 101, 116, 117, 114, 110, 32] ++ p ++ [59]) := by
 refine sx Tryz.func78 kR ?_
 repeat ((conv => whnf); first | refine kT ?_ | refine kF ?_)
 refine ⟨dC, _, rfl, ?_⟩
 conv => whnf
 refine ⟨_, h1, ?_⟩
 repeat ((conv => whnf); first | refine kT ?_ | refine kF ?_)
 refine ⟨szL 7 rfl oL, ?_⟩
 conv => whnf
 rw [catL]
 refine ⟨szR 1 rfl oL, ?_⟩
 conv => whnf
 rw [e3_]
 all_goals (first | exact ed_ sI | ((conv => whnf); exact ed_ sI))
theorem s_do {q d : Nat} {s : Bs} {v : Int} {ks : List Bs} {p : Bs} (b1 : p.length ≤ 100000000) (h1 : e6_ l q 1 p) : pt_ l ⟨18, s, v, ks, [(q : Int)]⟩ d (p ++ [59]) := by
 refine sx Tryz.func78 kR ?_
 repeat ((conv => whnf); first | refine kT ?_ | refine kF ?_)
 refine ⟨dC, _, rfl, ?_⟩
 conv => whnf
 refine ⟨_, h1, ?_⟩
 repeat ((conv => whnf); first | refine kT ?_ | refine kF ?_)
 refine ⟨szR 1 rfl oL, ?_⟩
 conv => whnf
 rw [e3_]
 all_goals (first | exact ed_ sI | ((conv => whnf); exact ed_ sI))
theorem s_while {q q2 d : Nat} {s : Bs} {v : Int} {ks : List Bs} {p b : Bs} (b1 : p.length ≤ 100000000) (h1 : e6_ l q 1 p) (b2 : b.length ≤ 100000000) (h2 : BlkOk l q2 d b) : pt_ l ⟨16, s, v, ks, [(q : Int), (q2 : Int)]⟩ d ([119, 104, 105, 108, 101, 32] ++ p ++ [32] ++ b) := by
 refine sx Tryz.func78 kR ?_
 repeat ((conv => whnf); first | refine kT ?_ | refine kF ?_)
 refine ⟨dC, _, rfl, ?_⟩
 conv => whnf
 refine ⟨_, h1, ?_⟩
 repeat ((conv => whnf); first | refine kT ?_ | refine kF ?_)
 refine ⟨szL 6 rfl oL, ?_⟩
 conv => whnf
 rw [catL]
 refine ⟨szR 1 rfl oL, ?_⟩
 conv => whnf
 rw [e3_]
 refine ⟨dC, _, rfl, ?_⟩
 conv => whnf
 refine ⟨_, h2, ?_⟩
 conv => whnf
 refine ⟨szA oL, ?_⟩
 conv => whnf
 rw [a3_]
 all_goals (first | exact ed_ sI | ((conv => whnf); exact ed_ sI))
theorem s_if {q q2 d : Nat} {s : Bs} {v : Int} {ks : List Bs} {p b : Bs} (b1 : p.length ≤ 100000000) (h1 : e6_ l q 1 p) (b2 : b.length ≤ 100000000) (h2 : BlkOk l q2 d b) : pt_ l ⟨15, s, v, ks, [(q : Int), (q2 : Int)]⟩ d ([105, 102, 32] ++ p ++ [32] ++ b) := by
 refine sx Tryz.func78 kR ?_
 repeat ((conv => whnf); first | refine kT ?_ | refine kF ?_)
 refine ⟨dC, _, rfl, ?_⟩
 conv => whnf
 refine ⟨_, h1, ?_⟩
 repeat ((conv => whnf); first | refine kT ?_ | refine kF ?_)
 refine ⟨szL 3 rfl oL, ?_⟩
 conv => whnf
 rw [catL]
 refine ⟨szR 1 rfl oL, ?_⟩
 conv => whnf
 rw [e3_]
 refine ⟨dC, _, rfl, ?_⟩
 conv => whnf
 refine ⟨_, h2, ?_⟩
 conv => whnf
 refine ⟨szA oL, ?_⟩
 conv => whnf
 rw [a3_]
 refine kF ?_
 all_goals (first | exact ed_ sI | ((conv => whnf); exact ed_ sI))
theorem s_else {q q2 q3 d : Nat} {s : Bs} {v : Int} {ks : List Bs} {p b e : Bs} (b1 : p.length ≤ 100000000) (h1 : e6_ l q 1 p) (b2 : b.length ≤ 100000000) (h2 : BlkOk l q2 d b) (b3 : e.length ≤ 100000000) (h3 : BlkOk l q3 d e) : pt_ l ⟨15, s, v, ks, [(q : Int), (q2 : Int), (q3 : Int)]⟩ d ([105, 102, 32] ++ p ++ [32] ++ b ++ [32, 101, 108, 115, 101, 32] ++ e) := by
 refine sx Tryz.func78 kR ?_
 repeat ((conv => whnf); first | refine kT ?_ | refine kF ?_)
 refine ⟨dC, _, rfl, ?_⟩
 conv => whnf
 refine ⟨_, h1, ?_⟩
 repeat ((conv => whnf); first | refine kT ?_ | refine kF ?_)
 refine ⟨szL 3 rfl oL, ?_⟩
 conv => whnf
 rw [catL]
 refine ⟨szR 1 rfl oL, ?_⟩
 conv => whnf
 rw [e3_]
 refine ⟨dC, _, rfl, ?_⟩
 conv => whnf
 refine ⟨_, h2, ?_⟩
 conv => whnf
 refine ⟨szA oL, ?_⟩
 conv => whnf
 rw [a3_]
 refine kT ?_
 conv => whnf
 refine ⟨szR 6 rfl oL, ?_⟩
 conv => whnf
 rw [e3_]
 refine ⟨dC, _, rfl, ?_⟩
 conv => whnf
 refine ⟨_, h3, ?_⟩
 conv => whnf
 refine ⟨szA oL, ?_⟩
 conv => whnf
 rw [a3_]
 all_goals (first | exact ed_ sI | ((conv => whnf); exact ed_ sI))
end
end
section
theorem r_len {T : Tr} {d : Nat} (hw : T.wf = true) (hd : d + T.size ≤ 600) : (txP (T.pc d)).length ≤ 10000000 := by
 have h1 := pc_len _ T d (f_ _) hw
 have h4 := Tr.ht_size _ T (f_ _)
 have h5 : T.size * (1000 + 2 * (d + T.ht)) ≤ 600 * (1000 + 2 * (600 + 600)) := Nat.mul_le_mul oM oM
 have h6 : tl (T.pc d) = (txP (T.pc d)).length := rfl
 omega
theorem lev_node {k : Int} {s : Bs} {v : Int} {ks : List Bs} {js : List Int} {m : Nat} (hf : X_ ⟨k, s, v, ks⟩ m = true) : DCalls Tryz.prog 163 [Nd.V ⟨k, s, v, ks, js⟩] (int (o7_ ⟨k, s, v, ks, js⟩)) := by
 refine x_rlevel _ (fun h => ?_) (fun h => ?_)
 ·dsimp only at h; subst h; simp [X_] at hf; exact hf.2
 ·dsimp only at h; subst h; simp [X_] at hf; exact hf.2
section
variable {l : List Nd}
def RB (l : List Nd) (m : Nat) : Prop := ∀ (T : Tr), T.size ≤ m → ∀ (a i d : Nat) (n : Nd), Seg l T a i → d + T.size ≤ 600 → an_ T.kind = true → l[i]? = some n → gp_ l n (txP (T.pc d))
theorem rb_expr {T : Tr} {a i d : Nat} (req : Int) (hs : Seg l T a i) (hd : d + T.size ≤ 600) (hB : ∀ n, l[i]? = some n → gp_ l n (txP (T.pc d))) : e6_ l i req (txP (qP T.level req (T.pc d))) := by
 obtain ⟨b, ts⟩ := T
 have hn := gu_ hs
 obtain ⟨hf, _, _⟩ := b4_ hs.wf
 have h := x_roperand req hn (by have := r_len hs.wf hd; omega) (lev_node hf) (hB _ hn)
 rw [show o7_ ⟨b.kind, b.text, b.val, b.keys, Tr.roots a ts⟩ = (Tr.node b ts).level from rfl, ← tx_q] at h
 exact h
theorem rb_kid {m : Nat} (hI : RB l m) {b : Lab} {ts : List Tr} {a i : Nat} (d : Nat) (hd : d + (Tr.node b ts).size ≤ 600) (hs : Seg l (.node b ts) a i) (hm : (Tr.node b ts).size ≤ m + 1) {j : Nat} {X : Tr} (hX : ts[j]? = some X) (hk : an_ X.kind = true) :
  ∃ q : Nat, (Tr.roots a ts)[j]? = some (q : Int) ∧ ∀ req, e6_ l q req (txP (qP X.level req (X.pc d))) := by
 obtain ⟨c, q, h1, h2⟩ := i0_ hs j X hX
 have hXs := e0_ (m_ hX) (f_ ((Tr.node b ts).size - 1 + 1) |> fun h => by have := (Tr.node b ts).size_pos; omega : (Tr.node b ts).size ≤ (Tr.node b ts).size - 1 + 1)
 exact ⟨q, h1, fun req => rb_expr req h2 oM fun n hn => hI X (e0_ (m_ hX) hm) c q d n h2 oM hk hn⟩
theorem ot_ {m : Nat} (hI : RB l m) {b : Lab} {ts : List Tr} {a i : Nat} (d : Nat) (hd : d + (Tr.node b ts).size ≤ 600) (hs : Seg l (.node b ts) a i) (hm : (Tr.node b ts).size ≤ m + 1) {j : Nat} {X : Tr} (hX : ts[j]? = some X) (hk : an_ X.kind = true) :
  ∃ q : Nat, (Tr.roots a ts)[j]? = some (q : Int) ∧ e6_ l q 1 (txP (X.pc d)) := by
 obtain ⟨q, h1, h2⟩ := rb_kid hI d hd hs hm hX hk
 obtain ⟨_, _, hws⟩ := b4_ hs.wf
 have := h2 1
 rw [q_one (ic_ (m_ hX) hws)] at this
 exact ⟨q, h1, this⟩
theorem rb_all : ∀ m, RB l m
 | 0 => fun T h => by have := T.size_pos; omega
 | m + 1 => fun T hm a i d n hs hd hk hn' => by
  have hI := rb_all m
  obtain ⟨⟨kind, text, val, keys⟩, ts⟩ := T
  obtain ⟨hf, hc, hws⟩ := b4_ hs.wf
  have hn := gu_ hs
  rw [hn] at hn'
  obtain rfl := Option.some.inj hn'
  have hT := r_len hs.wf hd
  clear hn'
  have hsz : ts.length ≤ 1000000 := by
   have := h4_ ts
   simp only [Tr.size] at hd
   omega
  simp only at hf hc hws hn
  have hk : an_ kind = true := hk
  have hkid : ∀ {j : Nat} {X : Tr}, ts[j]? = some X → kind ≠ 15 → kind ≠ 16 → kind ≠ 19 → an_ X.kind = true := fun hX h15 h16 h19 => by
   have := (iu_ hws _ _ hX).2
   unfold ap_ at this
   rw [if_neg h19, if_neg (by intro e; rcases e.1 with e | e <;> omega)] at this
   exact this
  have hP : kind ≠ 15 → kind ≠ 16 → kind ≠ 19 → ∀ (j : Nat) (h : j < ((Tr.pcl d ts).map txP).length), ∃ q : Nat, (Tr.roots a ts)[j]? = some (q : Int) ∧ e6_ l q 1 ((Tr.pcl d ts).map txP)[j] := fun h15 h16 h19 j h => by
   obtain ⟨X, hX, e⟩ := ov_ h
   rw [e]
   exact ot_ hI d hd hs hm hX (hkid hX h15 h16 h19)
  have hlen : (Tr.roots a ts).length = ((Tr.pcl d ts).map txP).length := by rw [bs_]; simp [Tr.pcl_eq]
  have hlen2 : ((Tr.pcl d ts).map txP).length ≤ 1000000 := by rw [← hlen, bs_]; exact hsz
  have hcases : kind = 1 ∨ kind = 2 ∨ kind = 3 ∨ kind = 4 ∨ kind = 5 ∨ kind = 6 ∨ kind = 7 ∨ kind = 8 ∨ kind = 9 ∨ kind = 10 ∨ kind = 11 ∨ kind = 12 := by
   unfold an_ at hk; simp at hk; omega
  rcases hcases with rfl | rfl | rfl | rfl | rfl | rfl | rfl | rfl | rfl | rfl | rfl | rfl
  ·rw [tx_null]; exact w_null
  ·have hv : val = 0 ∨ val = 1 := by simp [X_] at hf; exact hf.2.2
   rcases hv with rfl | rfl
   ·rw [tx_bool0]; exact w_bool0
   ·rw [tx_bool1]; exact w_bool1
  ·have hv : 0 ≤ val ∧ val ≤ 1000000000000 := by simp [X_] at hf; exact ⟨hf.2.1.2, hf.2.2⟩
   rw [tx_int]; exact w_int hv
  ·have := o8_ hf
   rw [tx_str]; exact w_str (by show text.length ≤ 1000; simp only at this; omega)
  ·have hv : a7_ text = true := by simp [X_] at hf; exact hf.2
   rw [tx_var hv]; exact w_var
  ·rw [tx_list] at hT ⊢; exact w_list (by (try simp only [a_, b_, c_] at hT); omega) (x_rrow hlen hlen2 (by (try simp only [a_, b_, c_] at hT); omega) (hP dC dC dC))
  ·have hv : keys.length = ts.length := by simp [X_] at hf; exact hf.2.1.2
   have hkl : keys.length = (Tr.pcl d ts).length := by rw [hv]; simp [Tr.pcl_eq]
   have hks := o9_ hf
   rw [tx_map] at hT ⊢
   refine w_map (by rw [d_, es_ _ _ hkl, hlen, d_]) (by rw [d_, es_ _ _ hkl]; rw [d_] at hlen2; exact hlen2) (by (try simp only [a_, b_, c_] at hT); omega) fun j h => ?_
   have hj : j < keys.length := by rw [d_, es_ _ _ hkl, ← hkl] at h; exact h
   have hj2 : j < ts.length := by omega
   have hX : ts[j]? = some ts[j] := h_ hj2
   obtain ⟨q, h1, h2⟩ := ot_ hI d hd hs hm hX (hkid hX dC dC dC)
   have hp : (Tr.pcl d ts)[j]? = some (ts[j].pc d) := by rw [Tr.pcl_eq, e_, hX]; rfl
   have hg := lp_ keys (Tr.pcl d ts) j keys[j] _ (h_ hj) hp
   rw [h_ h] at hg
   exact ⟨q, keys[j], _, h1, h_ hj, by have := hks keys[j] (q_ hj); omega, h2, Option.some.inj hg⟩
  ·have h1 : ts.length = 1 := by simpa [Y_] using hc
   obtain ⟨A, rfl⟩ := len1 h1
   have hA : [A][0]? = some A := rfl
   obtain ⟨q, h1, h2⟩ := rb_kid hI d hd hs hm hA (hkid hA dC dC dC)
   have hr : Tr.roots a [A] = [(q : Int)] := by
    have : (Tr.roots a [A]).length = 1 := bs_ a [A]
    match h9 : Tr.roots a [A], this with
    | [x], _ => rw [h9] at h1; simp at h1; rw [h1]
   simp only [hr]
   have hv : text = sMi ∨ text = e9_ := by simp [X_] at hf; exact hf.2
   rcases hv with rfl | rfl
   ·rw [tx_neg dC] at hT ⊢; exact w_neg (by (try simp only [b_] at hT); omega) (h2 7)
   ·rw [tx_not] at hT ⊢; exact w_not (by (try simp only [b_] at hT); omega) (h2 3)
  ·have h1 : ts.length = 2 := by simpa [Y_] using hc
   obtain ⟨A, B, rfl⟩ := len2 h1
   have hA : [A, B][0]? = some A := rfl
   have hB : [A, B][1]? = some B := rfl
   obtain ⟨q1, h1, h2⟩ := rb_kid hI d hd hs hm hA (hkid hA dC dC dC)
   obtain ⟨q2, h3, h4⟩ := rb_kid hI d hd hs hm hB (hkid hB dC dC dC)
   have hr : Tr.roots a [A, B] = [(q1 : Int), (q2 : Int)] := by
    have : (Tr.roots a [A, B]).length = 2 := bs_ a [A, B]
    match h9 : Tr.roots a [A, B], this with
    | [x, y], _ => rw [h9] at h1 h3; simp at h1 h3; rw [h1, h3]
   simp only [hr]
   have hv : 0 < b1_ text := by simp [X_] at hf; exact hf.2
   rw [tx_bin hv] at hT ⊢
   exact w_bin hv (by (try simp only [a_, b_] at hT); omega) (by (try simp only [a_, b_] at hT); omega) (h2 _) (h4 _)
  ·have h1 : ts.length = 2 := by simpa [Y_] using hc
   obtain ⟨A, B, rfl⟩ := len2 h1
   have hA : [A, B][0]? = some A := rfl
   have hB : [A, B][1]? = some B := rfl
   obtain ⟨q1, h1, h2⟩ := rb_kid hI d hd hs hm hA (hkid hA dC dC dC)
   obtain ⟨q2, h3, h4⟩ := ot_ hI d hd hs hm hB (hkid hB dC dC dC)
   have hr : Tr.roots a [A, B] = [(q1 : Int), (q2 : Int)] := by
    have : (Tr.roots a [A, B]).length = 2 := bs_ a [A, B]
    match h9 : Tr.roots a [A, B], this with
    | [x, y], _ => rw [h9] at h1 h3; simp at h1 h3; rw [h1, h3]
   simp only [hr]
   rw [tx_index] at hT ⊢
   exact w_index (by (try simp only [a_, b_, c_] at hT); omega) (by (try simp only [a_, b_, c_] at hT); omega) (h2 _) h4
  ·have hv : a7_ text = true := by simp [X_] at hf; exact hf.2
   rw [tx_call hv] at hT ⊢; exact w_call (by show text.length ≤ 1000; have := d3_ hv; omega) (by (try simp only [a_, b_, c_] at hT); omega) (x_rrow hlen hlen2 (by (try simp only [a_, b_, c_] at hT); omega) (hP dC dC dC))
  ·have hv : ba_ text = true := by simp [X_] at hf; exact hf.2
   rw [tx_host hv] at hT ⊢; exact w_host (by show text.length ≤ 1000; have := ka_ hv; omega) (by (try simp only [a_, b_, c_] at hT); omega) (x_rrow hlen hlen2 (by (try simp only [a_, b_, c_] at hT); omega) (hP dC dC dC))
def RSt (l : List Nd) (m : Nat) : Prop := ∀ (T : Tr), T.size ≤ m → ∀ (a i d : Nat), Seg l T a i → d + T.size ≤ 600 → (hg_ T.kind = true → ∀ n, l[i]? = some n → pt_ l n d (txP (T.pc d))) ∧ (T.kind = 19 → BlkOk l i d (txP (T.pc d)))
theorem rs_all : ∀ m, RSt l m
 | 0 => fun T h => by have := T.size_pos; omega
 | m + 1 => fun T hm a i d hs hd => by
  have hI := rs_all m
  obtain ⟨⟨kind, text, val, keys⟩, ts⟩ := T
  obtain ⟨hf, hc, hws⟩ := b4_ hs.wf
  have hn := gu_ hs
  have hsz := h4_ ts
  simp only at hf hc hws hn
  have hT := r_len hs.wf hd
  have hd0 := hd
  simp only [Tr.size] at hd
  have hE : ∀ {j : Nat} {X : Tr}, ts[j]? = some X → an_ X.kind = true → ∃ q : Nat, (Tr.roots a ts)[j]? = some (q : Int) ∧ e6_ l q 1 (txP (X.pc d)) := fun hX hk => ot_ (rb_all _) d hd hs hm hX hk
  have hB : ∀ {j : Nat} {X : Tr}, ts[j]? = some X → X.kind = 19 → ∃ q : Nat, (Tr.roots a ts)[j]? = some (q : Int) ∧ BlkOk l q d (txP (X.pc d)) := fun {j X} hX hk => by
   obtain ⟨c, q, h1, h2⟩ := i0_ hs j X hX
   have hXs := Tr.mem_size (m_ hX)
   exact ⟨q, h1, (hI X (e0_ (m_ hX) hm) c q d h2 oM).2 hk⟩
  have hfit : ∀ {j : Nat} {X : Tr}, ts[j]? = some X → ap_ kind j X.kind = true := fun {j X} hX => by
   have := (iu_ hws _ _ hX).2
   rwa [Nat.zero_add] at this
  refine ⟨fun hk n hn' => ?_, fun hk => ?_⟩
  ·have hk : hg_ kind = true := hk
   rw [hn] at hn'
   obtain rfl := Option.some.inj hn'
   clear hn'
   have hcases : kind = 13 ∨ kind = 14 ∨ kind = 15 ∨ kind = 16 ∨ kind = 17 ∨ kind = 18 := by
    unfold hg_ at hk; simp at hk; omega
   rcases hcases with rfl | rfl | rfl | rfl | rfl | rfl
   ·obtain ⟨A, rfl⟩ := len1 (by simpa [Y_] using hc)
    have hv : a7_ text = true := by simp [X_] at hf; exact hf.2
    obtain ⟨q, h1, h2⟩ := hE (j := 0) (X := A) rfl (by simpa [ap_] using hfit (j := 0) (X := A) rfl)
    simp only [jw_ h1]
    rw [tx_let hv] at hT ⊢
    exact s_let (by show text.length ≤ 1000; have := d3_ hv; omega) (by (try simp only [a_, b_, c_] at hT); omega) h2
   ·obtain ⟨A, rfl⟩ := len1 (by simpa [Y_] using hc)
    have hv : a7_ text = true := by simp [X_] at hf; exact hf.2
    obtain ⟨q, h1, h2⟩ := hE (j := 0) (X := A) rfl (by simpa [ap_] using hfit (j := 0) (X := A) rfl)
    simp only [jw_ h1]
    rw [tx_set hv] at hT ⊢
    exact s_set (by show text.length ≤ 1000; have := d3_ hv; omega) (by (try simp only [a_, b_, c_] at hT); omega) h2
   ·have h23 : ts.length = 2 ∨ ts.length = 3 := by simpa [Y_] using hc
    rcases len23 h23 with ⟨A, B, rfl⟩ | ⟨A, B, C, rfl⟩
    ·obtain ⟨q1, h1, h2⟩ := hE (j := 0) (X := A) rfl (by simpa [ap_] using hfit (j := 0) (X := A) rfl)
     obtain ⟨q2, h3, h4⟩ := hB (j := 1) (X := B) rfl (by simpa [ap_] using hfit (j := 1) (X := B) rfl)
     simp only [roots2 h1 h3]
     rw [tx_if] at hT ⊢
     exact s_if (by (try simp only [a_, b_, c_] at hT); omega) h2 (by (try simp only [a_, b_, c_] at hT); omega) h4
    ·obtain ⟨q1, h1, h2⟩ := hE (j := 0) (X := A) rfl (by simpa [ap_] using hfit (j := 0) (X := A) rfl)
     obtain ⟨q2, h3, h4⟩ := hB (j := 1) (X := B) rfl (by simpa [ap_] using hfit (j := 1) (X := B) rfl)
     obtain ⟨q3, h5, h6⟩ := hB (j := 2) (X := C) rfl (by simpa [ap_] using hfit (j := 2) (X := C) rfl)
     simp only [roots3 h1 h3 h5]
     rw [tx_else] at hT ⊢
     exact s_else (by (try simp only [a_, b_, c_] at hT); omega) h2 (by (try simp only [a_, b_, c_] at hT); omega) h4 (by (try simp only [a_, b_, c_] at hT); omega) h6
   ·obtain ⟨A, B, rfl⟩ := len2 (by simpa [Y_] using hc)
    obtain ⟨q1, h1, h2⟩ := hE (j := 0) (X := A) rfl (by simpa [ap_] using hfit (j := 0) (X := A) rfl)
    obtain ⟨q2, h3, h4⟩ := hB (j := 1) (X := B) rfl (by simpa [ap_] using hfit (j := 1) (X := B) rfl)
    simp only [roots2 h1 h3]
    rw [tx_while] at hT ⊢
    exact s_while (by (try simp only [a_, b_, c_] at hT); omega) h2 (by (try simp only [a_, b_, c_] at hT); omega) h4
   ·obtain ⟨A, rfl⟩ := len1 (by simpa [Y_] using hc)
    obtain ⟨q, h1, h2⟩ := hE (j := 0) (X := A) rfl (by simpa [ap_] using hfit (j := 0) (X := A) rfl)
    simp only [jw_ h1]
    rw [tx_ret] at hT ⊢
    exact s_ret (by (try simp only [a_, b_, c_] at hT); omega) h2
   ·obtain ⟨A, rfl⟩ := len1 (by simpa [Y_] using hc)
    obtain ⟨q, h1, h2⟩ := hE (j := 0) (X := A) rfl (by simpa [ap_] using hfit (j := 0) (X := A) rfl)
    simp only [jw_ h1]
    rw [tx_do] at hT ⊢
    exact s_do (by (try simp only [a_, b_, c_] at hT); omega) h2
  ·have hk : kind = 19 := hk
   subst hk
   rw [tx_block] at hT ⊢
   refine x_rblocked hn (by rw [bs_]; simp [Tr.pcl_eq]) (by simp only [d_, Tr.pcl_eq]; omega) oM (by (try simp only [a_, b_, c_] at hT); omega) fun j h => ?_
   obtain ⟨X, hX, e⟩ := ov_ h
   obtain ⟨c, q, h1, h2⟩ := i0_ hs j X hX
   have hXs := Tr.mem_size (m_ hX)
   rw [e]
   obtain ⟨nX, hnX⟩ : ∃ nX, l[q]? = some nX := by obtain ⟨nX, h3, _⟩ := h2.kind; exact ⟨nX, h3⟩
   exact ⟨q, nX, h1, hnX, (hI X (e0_ (m_ hX) hm) c q (d + 1) h2 oM).1 (by simpa [ap_] using hfit hX) nX hnX⟩
theorem r_block {T : Tr} {a i : Nat} (hl : l.length ≤ 600) (hs : Seg l T a i) (hk : T.kind = 19) : BlkOk l i 0 (txP (T.pc 0)) :=
 (rs_all _ T (f_ _) a i 0 hs (by have := hs.len_le.1; have := hs.len; omega)).2 hk
end
end
section
open Go.RowKit
abbrev RChk (p : Pg) : Prop := DCalls Tryz.prog 14 [p.V] (int (bd_ p))
theorem x_rprintN (p : Pg) (hx : RChk p) (h : bd_ p ≠ 0) : DCalls Tryz.prog 16 [p.V] (prV ([], bd_ p)) := by
 refine sx Tryz.func16 kR ?_
 conv => whnf
 refine ⟨_, hx, ?_⟩
 conv => whnf
 refine Q_ true (by simpa using h) ?_
 (conv => whnf) <;> rfl
theorem x_rprintS (Fs : List FnT) (hF : ∀ F ∈ Fs, f8_ F) (hc : bd_ (a1_ Fs) = 0) (hx : RChk (a1_ Fs)) : DCalls Tryz.prog 16 [(a1_ Fs).V] (prV (eo_ Fs)) := by
 have hseg : ∀ (j : Nat) (F : FnT), Fs[j]? = some F → ∃ b q : Nat, (a1_ Fs).funcs[j]? = some ⟨F.name, F.params, (q : Int)⟩ ∧ Seg (a1_ Fs).nodes F.body b q := fun j F hj => prog_seg hF hj
 obtain ⟨hl6, hl16, hps⟩ := check_le hc
 have hlf : (a1_ Fs).funcs.length = Fs.length := jm_ Fs 0
 unfold RChk at hx
 rw [hc] at hx
 have hpr : eo_ Fs = if (al_ (W Fs Fs.length)).2.2 ≠ 0 then ([], 3) else (W Fs Fs.length, 0) := by
  rw [W, M_ (f_ _)]; rfl
 generalize a1_ Fs = p at *
 have hll : (p.funcs.map fcD).length = Fs.length := by rw [d_]; exact hlf
 have hlen16 : Fs.length ≤ 16 := by omega
 refine sx Tryz.func16 kR ?_
 conv => whnf
 refine ⟨_, hx, ?_⟩
 conv => whnf
 refine kF ?_
 conv => whnf
 refine ⟨[], Nat, fun k => [(5, bc_ (W Fs k)), (6, int k)], fun _ => [], fun k => k ≤ Fs.length ∧ (W Fs k).length ≤ k * 20000000, fun k => Fs.length - k, 0, ⟨l_ _, by simp [W, cn_, txP]⟩, ?_, ?_⟩
 ·exact eN
 rintro k ⟨hk, hWl⟩
 conv => whnf
 rintro (_ | _) h1
 ·have h1 : k = Fs.length := by rw [hll] at h1; simp at h1; omega
  subst h1
  rw [hpr]
  conv => whnf
  refine ⟨_, x_rtokens (W Fs Fs.length) oM, ?_⟩
  conv => whnf
  rintro (_ | _) h2
  ·have h2 : (al_ (W Fs Fs.length)).2.2 = 0 := by simpa using h2
   rw [if_neg (by simp [h2])]
   (conv => whnf) <;> rfl
  ·have h2 : (al_ (W Fs Fs.length)).2.2 ≠ 0 := by simpa using h2
   rw [if_pos h2]
   (conv => whnf) <;> rfl
 have h1 : k < Fs.length := by rw [hll] at h1; simp at h1; omega
 have hw : IntKind.i64.wrap (((k : Nat) : Int) + 1) = ((k + 1 : Nat) : Int) := R_ oM
 obtain ⟨b, q, hf, hsg⟩ := hseg k Fs[k] (h_ h1)
 have hok := hF Fs[k] (q_ h1)
 have hpl := hps _ (m_ hf)
 have e0 : W Fs (k + 1) = W Fs k ++ txP Fs[k].pc := ez_ h1
 rw [oo_ hok] at e0
 have hnm := d3_ hok.name
 have hpn := kp_ 24 Fs[k].params fun x hx => d3_ (hok.params x hx)
 have hbl := pp_ hl6 hsg
 have hBk := r_block hl6 hsg hok.kind
 have hg : (p.funcs.map fcD)[((k : Nat) : Int).toNat]? = some [.cv (.string (mk Fs[k].name)), .sl 1 (Fs[k].params.map bl_), .cv (.int .i64 (q : Int))] := by
  rw [i_, e_, hf]; rfl
 dsimp only at hpl
 generalize hW1 : W Fs (k + 1) = W1 at e0
 generalize Fs[k].name = nm at *
 generalize Fs[k].params = ps at *
 generalize txP (Tr.pc 0 Fs[k].body) = B at *
 generalize W Fs k = A at *
 have hcl : (bf_ ps).length ≤ 8 * 26 := w_ hpn (H_ _ hpl)
 have hk16 : k * 20000000 ≤ 320000000 := by omega
 have hlp : (ps.map bl_).length = ps.length := d_ _
 conv => whnf
 refine ⟨by rw [P_, cu_]; show _ + 5 ≤ _; omega, ?_⟩
 conv => whnf
 rw [e3_]
 refine ⟨g_ _, _, hg, ?_⟩
 conv => whnf
 refine ⟨szA (by rw [a_]; show _ + 5 + _ ≤ _; omega), ?_⟩
 conv => whnf
 rw [a3_]
 refine ⟨szR 1 rfl (by rw [a_, a_]; show _ + 5 + _ + _ ≤ _; omega), ?_⟩
 conv => whnf
 rw [e3_]
 rw [show A ++ (#[102, 117, 110, 99, 32] : Array UInt8).toList ++ nm ++ (#[40] : Array UInt8).toList = A ++ [102, 117, 110, 99, 32] ++ nm ++ [40] ++ bf_ (ps.take 0) from by simp [bf_]]
 refine ⟨[], Nat, fun j => [(5, bc_ (A ++ [102, 117, 110, 99, 32] ++ nm ++ [40] ++ bf_ (ps.take j))), (7, int j)], fun _ => [], fun j => j ≤ ps.length, fun j => ps.length - j, 0, l_ _, ?_, ?_⟩
 ·refine ⟨rfl, ?_, ?_⟩ <;> repeat' (first | exact trivial | exact rfl | (simp [bf_]; done) | refine am_ ?_ | refine ah_ ?_ ?_)
 rintro j hj
 conv => whnf
 refine ⟨g_ _, _, hg, ?_⟩
 conv => whnf
 rintro (_ | _) h2
 ·have h2 : ps.length ≤ j := by rw [hlp] at h2; simp at h2; omega
  rw [M_ h2]
  conv => whnf
  refine ⟨none, kR, ?_⟩
  conv => whnf
  refine ⟨szR 2 rfl oL, ?_⟩
  conv => whnf
  rw [e3_]
  refine ⟨g_ _, _, hg, ?_⟩
  conv => whnf
  refine ⟨_, hBk, ?_⟩
  conv => whnf
  refine ⟨szA oL, ?_⟩
  conv => whnf
  rw [a3_]
  refine ⟨szR 1 rfl oL, ?_⟩
  conv => whnf
  rw [e3_]
  have e1 : A ++ [102, 117, 110, 99, 32] ++ nm ++ [40] ++ bf_ ps ++ [41, 32] ++ B ++ [10] = W Fs (k + 1) := by rw [hW1, e0]; simp
  rw [show A ++ [102, 117, 110, 99, 32] ++ nm ++ [40] ++ bf_ ps ++ (#[41, 32] : Array UInt8).toList ++ B ++ (#[10] : Array UInt8).toList = W Fs (k + 1) from e1]
  refine ⟨k + 1, ⟨h1, by rw [← e1]; simp only [a_, b_, c_, Nat.add_mul]; omega⟩, by (try dsimp only); omega, ?_⟩
  exact eA
 have h2 : j < ps.length := by rw [hlp] at h2; simp at h2; omega
 have hwj : IntKind.i64.wrap (((j : Nat) : Int) + 1) = ((j + 1 : Nat) : Int) := R_ oM
 have hgj : (ps.map bl_)[((j : Nat) : Int).toNat]? = some (bl_ ps[j]) := by
  rw [i_, e_, h_ h2]; rfl
 have hle := l1_ ps (j + 1)
 conv => whnf
 rintro (_ | _) h3
 ·have h3 : j = 0 := by simp at h3; omega
  have e : A ++ [102, 117, 110, 99, 32] ++ nm ++ [40] ++ bf_ (ps.take (j + 1)) = A ++ [102, 117, 110, 99, 32] ++ nm ++ [40] ++ bf_ (ps.take j) ++ ps[j] := by
   subst h3
   rw [List.take_zero, List.take_add_one, List.take_zero, h_ h2]
   simp [bf_]
  have hlen := congrArg List.length e
  simp only [a_, b_, c_] at hlen
  conv => whnf
  refine ⟨g_ _, _, hg, ?_⟩
  conv => whnf
  refine ⟨g_ _, _, hgj, ?_⟩
  conv => whnf
  refine ⟨szA oL, ?_⟩
  conv => whnf
  rw [a3_, ← e]
  refine ⟨j + 1, h2, by (try dsimp only); omega, ?_⟩
  exact eA
 ·have h3 : 0 < j := by simp at h3; omega
  have e : A ++ [102, 117, 110, 99, 32] ++ nm ++ [40] ++ bf_ (ps.take (j + 1)) = A ++ [102, 117, 110, 99, 32] ++ nm ++ [40] ++ bf_ (ps.take j) ++ [44, 32] ++ ps[j] := by
   rw [in_ h2 h3]; simp
  have hlen := congrArg List.length e
  simp only [a_, b_, c_] at hlen
  conv => whnf
  refine ⟨szR 2 rfl oL, ?_⟩
  conv => whnf
  rw [e3_]
  refine ⟨g_ _, _, hg, ?_⟩
  conv => whnf
  refine ⟨g_ _, _, hgj, ?_⟩
  conv => whnf
  refine ⟨szA (by simp only [a_, b_, c_]; show _ + 2 + _ ≤ _; omega), ?_⟩
  conv => whnf
  rw [a3_, show A ++ [102, 117, 110, 99, 32] ++ nm ++ [40] ++ bf_ (ps.take j) ++ (#[44, 32] : Array UInt8).toList ++ ps[j] = A ++ [102, 117, 110, 99, 32] ++ nm ++ [40] ++ bf_ (ps.take (j + 1)) from e.symm]
  refine ⟨j + 1, h2, by (try dsimp only); omega, ?_⟩
  exact eA
end
end Go.Proofs.YtglndfgmlminpaaGreatDoor
