/- Texts joined by pack.py: XSyWJ XSyVA XSyVB -/
import Derived.Test.YtglndfgmlminpaaGreatDoorSq43
set_option maxHeartbeats 8000000
set_option maxRecDepth 100000
namespace Go.Proofs.YtglndfgmlminpaaGreatDoor
section
open Go.RowKit
theorem textN (l : Bs) (h : a7_ l = true) : aa_ ⟨1, l, 0, 0⟩ = (l, 0) := by
 unfold a7_ at h
 simp only [j_, Bool.not_eq_true'] at h
 unfold aa_
 simp [h.1, h.2]
theorem textN0 (l : Bs) : ((aa_ ⟨1, l, 0, 0⟩).2 == 0) = a7_ l := by
 cases h : a7_ l with
 | true => rw [textN l h]; rfl
 | false =>
  unfold a7_ at h
  unfold aa_
  simp only [show ¬ ((1 : Int) = 3) by omega, show ¬ ((1 : Int) = 2) by omega, show ¬ ((1 : Int) = 5) by omega, show ¬ ((1 : Int) = 6) by omega, show ¬ ((1 : Int) = 4) by omega, false_and, if_false, or_false, ne_eq, not_true_eq_false, true_and]
  rw [if_neg (by cases h1 : ba_ l <;> cases h2 : kwL l <;> simp_all)]
  rfl
theorem textS0 (l : Bs) : ((aa_ ⟨4, l, 0, 0⟩).2 == 0) = cl_ l := by
 unfold aa_
 simp only [show ¬ ((4 : Int) = 3) by omega, show ¬ ((4 : Int) = 2) by omega, show ¬ ((4 : Int) = 5) by omega, show ¬ ((4 : Int) = 6) by omega, show ¬ ((4 : Int) = 1) by omega, false_and, if_false, or_false, ne_eq, not_true_eq_false, true_and]
 cases h : cl_ l <;> simp
theorem hy_ (l : Bs) (hl : l.length ≤ 281474976710656) : DCalls Tryz.prog 70 [bc_ l] (boo (a7_ l)) := by
 refine sx Tryz.func70 kR ?_
 conv => whnf
 refine ⟨_, e7_ ⟨1, l, 0, 0⟩ hl, ?_⟩
 conv => whnf
 rw [← textN0]
theorem oc_ (l : Bs) (hl : l.length ≤ 281474976710656) : DCalls Tryz.prog 114 [bc_ l] (boo (cl_ l)) := by
 refine sx Tryz.func114 kR ?_
 conv => whnf
 refine ⟨_, e7_ ⟨4, l, 0, 0⟩ hl, ?_⟩
 conv => whnf
 rw [← textS0]
theorem bb_ (l : Bs) : DCalls Tryz.prog 156 [bc_ l] (boo (opCmp.contains l)) := by
 by_cases h0 : l = [61, 61]
 ·subst h0
  refine sx Tryz.func156 kR ?_
  repeat ((conv => whnf); first | refine Q_ true ((bq_ _ _).trans rfl) ?_ | refine Q_ false ((bq_ _ _).trans rfl) ?_ | refine kT ?_ | refine kF ?_)
  try ((conv => whnf) <;> first | rfl | exact S_ ((bq_ _ _).trans rfl))
 by_cases h1 : l = [33, 61]
 ·subst h1
  refine sx Tryz.func156 kR ?_
  repeat ((conv => whnf); first | refine Q_ true ((bq_ _ _).trans rfl) ?_ | refine Q_ false ((bq_ _ _).trans rfl) ?_ | refine kT ?_ | refine kF ?_)
  try ((conv => whnf) <;> first | rfl | exact S_ ((bq_ _ _).trans rfl))
 by_cases h2 : l = [60]
 ·subst h2
  refine sx Tryz.func156 kR ?_
  repeat ((conv => whnf); first | refine Q_ true ((bq_ _ _).trans rfl) ?_ | refine Q_ false ((bq_ _ _).trans rfl) ?_ | refine kT ?_ | refine kF ?_)
  try ((conv => whnf) <;> first | rfl | exact S_ ((bq_ _ _).trans rfl))
 by_cases h3 : l = [60, 61]
 ·subst h3
  refine sx Tryz.func156 kR ?_
  repeat ((conv => whnf); first | refine Q_ true ((bq_ _ _).trans rfl) ?_ | refine Q_ false ((bq_ _ _).trans rfl) ?_ | refine kT ?_ | refine kF ?_)
  try ((conv => whnf) <;> first | rfl | exact S_ ((bq_ _ _).trans rfl))
 by_cases h4 : l = [62]
 ·subst h4
  refine sx Tryz.func156 kR ?_
  repeat ((conv => whnf); first | refine Q_ true ((bq_ _ _).trans rfl) ?_ | refine Q_ false ((bq_ _ _).trans rfl) ?_ | refine kT ?_ | refine kF ?_)
  try ((conv => whnf) <;> first | rfl | exact S_ ((bq_ _ _).trans rfl))
 by_cases h5 : l = [62, 61]
 ·subst h5
  refine sx Tryz.func156 kR ?_
  repeat ((conv => whnf); first | refine Q_ true ((bq_ _ _).trans rfl) ?_ | refine Q_ false ((bq_ _ _).trans rfl) ?_ | refine kT ?_ | refine kF ?_)
  try ((conv => whnf) <;> first | rfl | exact S_ ((bq_ _ _).trans rfl))
 rw [show opCmp.contains l = false by simp [opCmp, h0, h1, h2, h3, h4, h5]]
 refine sx Tryz.func156 kR ?_
 repeat ((conv => whnf); first | refine Q_ false (snE h0) ?_ | refine Q_ false (snE h1) ?_ | refine Q_ false (snE h2) ?_ | refine Q_ false (snE h3) ?_ | refine Q_ false (snE h4) ?_ | refine Q_ false (snE h5) ?_ | refine kF ?_)
 try ((conv => whnf) <;> first | rfl | exact S_ (snE h0) | exact S_ (snE h1) | exact S_ (snE h2) | exact S_ (snE h3) | exact S_ (snE h4) | exact S_ (snE h5))
theorem kt_ (l : Bs) : DCalls Tryz.prog 115 [bc_ l] (boo (decide (0 < b1_ l))) := by
 by_cases h0 : l = [111, 114]
 ·subst h0
  refine sx Tryz.func115 kR ?_
  repeat ((conv => whnf); first | refine Q_ true ((bq_ _ _).trans rfl) ?_ | refine Q_ false ((bq_ _ _).trans rfl) ?_ | refine ⟨_, bb_ _, ?_⟩ | refine kT ?_ | refine kF ?_)
  try ((conv => whnf) <;> first | rfl | exact S_ ((bq_ _ _).trans rfl))
 by_cases h1 : l = [97, 110, 100]
 ·subst h1
  refine sx Tryz.func115 kR ?_
  repeat ((conv => whnf); first | refine Q_ true ((bq_ _ _).trans rfl) ?_ | refine Q_ false ((bq_ _ _).trans rfl) ?_ | refine ⟨_, bb_ _, ?_⟩ | refine kT ?_ | refine kF ?_)
  try ((conv => whnf) <;> first | rfl | exact S_ ((bq_ _ _).trans rfl))
 by_cases h2 : l = [61, 61]
 ·subst h2
  refine sx Tryz.func115 kR ?_
  repeat ((conv => whnf); first | refine Q_ true ((bq_ _ _).trans rfl) ?_ | refine Q_ false ((bq_ _ _).trans rfl) ?_ | refine ⟨_, bb_ _, ?_⟩ | refine kT ?_ | refine kF ?_)
  try ((conv => whnf) <;> first | rfl | exact S_ ((bq_ _ _).trans rfl))
 by_cases h3 : l = [33, 61]
 ·subst h3
  refine sx Tryz.func115 kR ?_
  repeat ((conv => whnf); first | refine Q_ true ((bq_ _ _).trans rfl) ?_ | refine Q_ false ((bq_ _ _).trans rfl) ?_ | refine ⟨_, bb_ _, ?_⟩ | refine kT ?_ | refine kF ?_)
  try ((conv => whnf) <;> first | rfl | exact S_ ((bq_ _ _).trans rfl))
 by_cases h4 : l = [60]
 ·subst h4
  refine sx Tryz.func115 kR ?_
  repeat ((conv => whnf); first | refine Q_ true ((bq_ _ _).trans rfl) ?_ | refine Q_ false ((bq_ _ _).trans rfl) ?_ | refine ⟨_, bb_ _, ?_⟩ | refine kT ?_ | refine kF ?_)
  try ((conv => whnf) <;> first | rfl | exact S_ ((bq_ _ _).trans rfl))
 by_cases h5 : l = [60, 61]
 ·subst h5
  refine sx Tryz.func115 kR ?_
  repeat ((conv => whnf); first | refine Q_ true ((bq_ _ _).trans rfl) ?_ | refine Q_ false ((bq_ _ _).trans rfl) ?_ | refine ⟨_, bb_ _, ?_⟩ | refine kT ?_ | refine kF ?_)
  try ((conv => whnf) <;> first | rfl | exact S_ ((bq_ _ _).trans rfl))
 by_cases h6 : l = [62]
 ·subst h6
  refine sx Tryz.func115 kR ?_
  repeat ((conv => whnf); first | refine Q_ true ((bq_ _ _).trans rfl) ?_ | refine Q_ false ((bq_ _ _).trans rfl) ?_ | refine ⟨_, bb_ _, ?_⟩ | refine kT ?_ | refine kF ?_)
  try ((conv => whnf) <;> first | rfl | exact S_ ((bq_ _ _).trans rfl))
 by_cases h7 : l = [62, 61]
 ·subst h7
  refine sx Tryz.func115 kR ?_
  repeat ((conv => whnf); first | refine Q_ true ((bq_ _ _).trans rfl) ?_ | refine Q_ false ((bq_ _ _).trans rfl) ?_ | refine ⟨_, bb_ _, ?_⟩ | refine kT ?_ | refine kF ?_)
  try ((conv => whnf) <;> first | rfl | exact S_ ((bq_ _ _).trans rfl))
 by_cases h8 : l = [43]
 ·subst h8
  refine sx Tryz.func115 kR ?_
  repeat ((conv => whnf); first | refine Q_ true ((bq_ _ _).trans rfl) ?_ | refine Q_ false ((bq_ _ _).trans rfl) ?_ | refine ⟨_, bb_ _, ?_⟩ | refine kT ?_ | refine kF ?_)
  try ((conv => whnf) <;> first | rfl | exact S_ ((bq_ _ _).trans rfl))
 by_cases h9 : l = [45]
 ·subst h9
  refine sx Tryz.func115 kR ?_
  repeat ((conv => whnf); first | refine Q_ true ((bq_ _ _).trans rfl) ?_ | refine Q_ false ((bq_ _ _).trans rfl) ?_ | refine ⟨_, bb_ _, ?_⟩ | refine kT ?_ | refine kF ?_)
  try ((conv => whnf) <;> first | rfl | exact S_ ((bq_ _ _).trans rfl))
 by_cases h10 : l = [42]
 ·subst h10
  refine sx Tryz.func115 kR ?_
  repeat ((conv => whnf); first | refine Q_ true ((bq_ _ _).trans rfl) ?_ | refine Q_ false ((bq_ _ _).trans rfl) ?_ | refine ⟨_, bb_ _, ?_⟩ | refine kT ?_ | refine kF ?_)
  try ((conv => whnf) <;> first | rfl | exact S_ ((bq_ _ _).trans rfl))
 by_cases h11 : l = [47]
 ·subst h11
  refine sx Tryz.func115 kR ?_
  repeat ((conv => whnf); first | refine Q_ true ((bq_ _ _).trans rfl) ?_ | refine Q_ false ((bq_ _ _).trans rfl) ?_ | refine ⟨_, bb_ _, ?_⟩ | refine kT ?_ | refine kF ?_)
  try ((conv => whnf) <;> first | rfl | exact S_ ((bq_ _ _).trans rfl))
 by_cases h12 : l = [37]
 ·subst h12
  refine sx Tryz.func115 kR ?_
  repeat ((conv => whnf); first | refine Q_ true ((bq_ _ _).trans rfl) ?_ | refine Q_ false ((bq_ _ _).trans rfl) ?_ | refine ⟨_, bb_ _, ?_⟩ | refine kT ?_ | refine kF ?_)
  try ((conv => whnf) <;> first | rfl | exact S_ ((bq_ _ _).trans rfl))
 rw [show decide (0 < b1_ l) = false by simp [b1_, wOr, qc_, opCmp, opAdd, opMul, h0, h1, h2, h3, h4, h5, h6, h7, h8, h9, h10, h11, h12]]
 refine sx Tryz.func115 kR ?_
 repeat ((conv => whnf); first | refine Q_ false (snE h0) ?_ | refine Q_ false (snE h1) ?_ | refine Q_ false (snE h2) ?_ | refine Q_ false (snE h3) ?_ | refine Q_ false (snE h4) ?_ | refine Q_ false (snE h5) ?_ | refine Q_ false (snE h6) ?_ | refine Q_ false (snE h7) ?_ | refine Q_ false (snE h8) ?_ | refine Q_ false (snE h9) ?_ | refine Q_ false (snE h10) ?_ | refine Q_ false (snE h11) ?_ | refine Q_ false (snE h12) ?_ | (refine ⟨_, bb_ _, ?_⟩; rw [show opCmp.contains l = false by simp [opCmp, h2, h3, h4, h5, h6, h7]]) | refine kF ?_)
 try ((conv => whnf) <;> first | rfl | exact S_ (snE h0) | exact S_ (snE h1) | exact S_ (snE h2) | exact S_ (snE h3) | exact S_ (snE h4) | exact S_ (snE h5) | exact S_ (snE h6) | exact S_ (snE h7) | exact S_ (snE h8) | exact S_ (snE h9) | exact S_ (snE h10) | exact S_ (snE h11) | exact S_ (snE h12))
theorem aj_ (n : Nd) : DCalls Tryz.prog 117 [n.V] (boo (an_ n.kind)) := by
 obtain ⟨k, s, v, ks, js⟩ := n
 refine sx Tryz.func117 kR ?_
 unfold an_
 conv => whnf
 rintro (_ | _) h
 ·(conv => whnf); exact S_ (by simp at *; omega)
 ·(conv => whnf); exact S_ (by simp at *; omega)
theorem pz_ (n : Nd) : DCalls Tryz.prog 116 [n.V] (boo (hg_ n.kind)) := by
 obtain ⟨k, s, v, ks, js⟩ := n
 refine sx Tryz.func116 kR ?_
 unfold hg_
 conv => whnf
 rintro (_ | _) h
 ·(conv => whnf); exact S_ (by simp at *; omega)
 ·(conv => whnf); exact S_ (by simp at *; omega)
end
section
open Go.RowKit
theorem kr_ (s : Bs) (hs : s.length ≤ 281474976710656) : DCalls Tryz.prog 185 [bc_ s] (bc_ (aa_ (tk 4 s)).1) := by
 refine sx Tryz.func185 kR ?_
 conv => whnf
 refine ⟨_, e7_ (tk 4 s) hs, ?_⟩
 (conv => whnf) <;> rfl
theorem x_rlevel (n : Nd) (h8 : n.kind = 8 → n.text = sMi ∨ n.text = e9_) (h9 : n.kind = 9 → 0 < b1_ n.text) : DCalls Tryz.prog 163 [n.V] (int (o7_ n)) := by
 obtain ⟨k, s, v, ks, js⟩ := n
 dsimp only at h8 h9
 by_cases e10 : k = 10
 ·subst e10
  refine sx Tryz.func163 kR ?_
  conv => whnf
  refine kT ?_
  (conv => whnf) <;> rfl
 by_cases e8 : k = 8
 ·subst e8
  rcases h8 rfl with rfl | rfl
  ·refine sx Tryz.func163 kR ?_
   repeat ((conv => whnf); first | refine Q_ true (plit (b := true) rfl) ?_ | refine kT ?_ | refine kF ?_)
   (conv => whnf) <;> rfl
  ·refine sx Tryz.func163 kR ?_
   repeat ((conv => whnf); first | refine Q_ false (plit (b := false) rfl) ?_ | refine kT ?_ | refine kF ?_)
   (conv => whnf) <;> rfl
 by_cases e9 : k = 9
 ·subst e9
  have hm := x0_bina (h9 rfl)
  simp only [opAdd, opMul, List.mem_append, List.mem_cons, List.not_mem_nil, or_false] at hm
  rcases hm with ((rfl | rfl | rfl | rfl | rfl | rfl | rfl | rfl) | rfl | rfl) | rfl | rfl | rfl
  all_goals
   refine sx Tryz.func163 kR ?_
   repeat ((conv => whnf); first | refine Q_ true (plit (b := true) rfl) ?_ | refine Q_ false (plit (b := false) rfl) ?_ | refine kT ?_ | refine kF ?_ | refine ⟨_, bb_ _, ?_⟩)
   (conv => whnf) <;> rfl
 ·have hl : o7_ ⟨k, s, v, ks, js⟩ = 9 := by unfold o7_; simp [e8, e9, e10]
  rw [hl]
  refine sx Tryz.func163 kR ?_
  conv => whnf
  refine Q_ false (by simpa using e10) ?_
  conv => whnf
  refine Q_ false (by simpa using e8) ?_
  conv => whnf
  refine Q_ false (by simpa using e8) ?_
  conv => whnf
  refine Q_ true (by simpa using e9) ?_
  (conv => whnf) <;> rfl
section
variable {l : List Nd}
abbrev lV (l : List Nd) : V := .sl true 5 (l.map ndD)
abbrev gp_ (l : List Nd) (n : Nd) (p : Bs) : Prop := DCalls Tryz.prog 162 [lV l, n.V] (bc_ p)
abbrev e6_ (l : List Nd) (i : Nat) (req : Int) (p : Bs) : Prop := DCalls Tryz.prog 122 [lV l, int i, int req] (bc_ p)
theorem x_roperand {i : Nat} {n : Nd} {p : Bs} (req : Int) (hi : l[i]? = some n) (hp : p.length ≤ 1000000000) (hL : DCalls Tryz.prog 163 [n.V] (int (o7_ n))) (hW : gp_ l n p) : e6_ l i req (if o7_ n < req then 40 :: (p ++ [41]) else p) := by
 have hg : (l.map ndD)[((i : Nat) : Int).toNat]? = some (ndD n) := by
  rw [i_, e_, hi]; rfl
 refine sx Tryz.func122 kR ?_
 conv => whnf
 refine ⟨g_ i, _, hg, ?_⟩
 conv => whnf
 refine ⟨_, hW, ?_⟩
 conv => whnf
 refine ⟨g_ i, _, hg, ?_⟩
 conv => whnf
 refine ⟨_, hL, ?_⟩
 conv => whnf
 rintro (_ | _) h1
 ·have h1 : ¬ o7_ n < req := by simpa using h1
  rw [if_neg h1]
  (conv => whnf) <;> rfl
 ·have h1 : o7_ n < req := by simpa using h1
  rw [if_pos h1]
  conv => whnf
  refine ⟨by rw [P_, cu_]; show 1 + _ ≤ _; omega, ?_⟩
  conv => whnf
  rw [catL]
  refine ⟨by rw [P_, cu_, a_]; show 1 + _ + 1 ≤ _; omega, ?_⟩
  conv => whnf
  rw [e3_]
  rfl
theorem x_rrow {js : List Int} {ps : List Bs} (hl : js.length = ps.length) (hn : ps.length ≤ 1000000) (hb : (bf_ ps).length ≤ 1000000000) (hP : ∀ (j : Nat) (h : j < ps.length), ∃ q : Nat, js[j]? = some (q : Int) ∧ e6_ l q 1 ps[j]) : DCalls Tryz.prog 186 [lV l, pc_ js] (bc_ (bf_ ps)) := by
 have hll : (js.map ae_).length = ps.length := by rw [d_]; exact hl
 refine sx Tryz.func186 kR ?_
 conv => whnf
 refine ⟨[], Nat, fun k => [(6, int k), (5, bc_ (bf_ (ps.take k)))], fun _ => [], fun k => k ≤ ps.length, fun k => ps.length - k, 0, l_ _, ?_, ?_⟩
 ·exact eN
 rintro k hk
 conv => whnf
 rintro (_ | _) h1
 ·have h1 : ps.length ≤ k := by rw [hll] at h1; simp at h1; omega
  rw [M_ h1]
  (conv => whnf) <;> rfl
 have h1 : k < ps.length := by rw [hll] at h1; simp at h1; omega
 have hw : IntKind.i64.wrap (((k : Nat) : Int) + 1) = ((k + 1 : Nat) : Int) := R_ oM
 obtain ⟨q, hq, hO⟩ := hP k h1
 have hg : (js.map ae_)[((k : Nat) : Int).toNat]? = some (ae_ ((q : Nat) : Int)) := by
  rw [i_, e_, hq]; rfl
 have hle := l1_ ps (k + 1)
 conv => whnf
 rintro (_ | _) h3
 ·have h3 : k = 0 := by simp at h3; omega
  have e : bf_ (ps.take (k + 1)) = bf_ (ps.take k) ++ ps[k] := by
   subst h3
   rw [List.take_zero, List.take_add_one, List.take_zero, h_ h1]
   simp [bf_]
  have hlen := congrArg List.length e
  rw [a_] at hlen
  conv => whnf
  refine ⟨g_ k, _, hg, ?_⟩
  conv => whnf
  refine ⟨_, hO, ?_⟩
  conv => whnf
  refine ⟨by rw [P_, P_]; omega, ?_⟩
  conv => whnf
  rw [a3_, ← e]
  refine ⟨k + 1, h1, by (try dsimp only); omega, ?_⟩
  exact eA
 ·have h3 : 0 < k := by simp at h3; omega
  have e : bf_ (ps.take (k + 1)) = bf_ (ps.take k) ++ [44, 32] ++ ps[k] := by
   rw [in_ h1 h3]; simp
  have hlen := congrArg List.length e
  rw [a_, a_] at hlen
  simp only [b_, c_] at hlen
  conv => whnf
  refine ⟨by rw [P_, cu_]; show _ + 2 ≤ _; omega, ?_⟩
  conv => whnf
  rw [e3_]
  refine ⟨g_ k, _, hg, ?_⟩
  conv => whnf
  refine ⟨_, hO, ?_⟩
  conv => whnf
  refine ⟨by rw [P_, P_, a_]; show _ + 2 + _ ≤ _; omega, ?_⟩
  conv => whnf
  rw [a3_, ← e]
  refine ⟨k + 1, h1, by (try dsimp only); omega, ?_⟩
  exact eA
theorem x_rtabs (n : Nat) (hn : n ≤ 1000000) : DCalls Tryz.prog 77 [int n] (bc_ (hs_ n)) := by
 refine sx Tryz.func77 kR ?_
 conv => whnf
 refine ⟨[], Nat, fun k => [(4, int k), (3, bc_ (hs_ k))], fun _ => [], fun k => k ≤ n, fun k => n - k, 0, l_ _, ?_, ?_⟩
 ·exact eN
 rintro k hk
 conv => whnf
 rintro (_ | _) h1
 ·have h1 : k = n := by simp at h1; omega
  rw [h1]
  (conv => whnf) <;> rfl
 have h1 : k < n := by simp at h1; omega
 have hw : IntKind.i64.wrap (((k : Nat) : Int) + 1) = ((k + 1 : Nat) : Int) := R_ oM
 have e : hs_ k ++ [9] = hs_ (k + 1) := by simp [hs_, ← List.replicate_succ']
 conv => whnf
 refine ⟨by rw [P_, cu_, cj_]; show _ + 1 ≤ _; omega, ?_⟩
 conv => whnf
 rw [e3_, show (#[9] : Array UInt8).toList = [9] from rfl, e]
 refine ⟨k + 1, h1, by (try dsimp only); omega, ?_⟩
 exact eA
end
end
section
open Go.RowKit
theorem szR {d : Array UInt8} {s : Bs} (k : Nat) (hk : d.toList.length = k) (h : s.length + k ≤ 9223372036854775807) : (mk s).size + (⟨d⟩ : ByteArray).size ≤ 9223372036854775807 := by rw [P_, cu_, hk]; exact h
theorem szL {d : Array UInt8} {s : Bs} (k : Nat) (hk : d.toList.length = k) (h : k + s.length ≤ 9223372036854775807) : (⟨d⟩ : ByteArray).size + (mk s).size ≤ 9223372036854775807 := by rw [P_, cu_, hk]; exact h
theorem szA {s t : Bs} (h : s.length + t.length ≤ 9223372036854775807) : (mk s).size + (mk t).size ≤ 9223372036854775807 := by rw [P_, P_]; exact h
theorem ed_ {a b : Bs} (h : a = b) : bc_ a = bc_ b := by rw [h]
theorem tt_int {v : Int} (h : 0 ≤ v ∧ v ≤ 1000000000000) : (aa_ ⟨3, [], v, 0⟩).1 = Lib.itoa v := by
 unfold aa_
 rw [if_pos ⟨rfl, rfl, h.1, by unfold en_; simp; omega⟩]
section
variable {l : List Nd}
theorem w_null {s : Bs} {v : Int} {ks : List Bs} {js : List Int} : gp_ l ⟨1, s, v, ks, js⟩ ec_ := by
 refine sx Tryz.func162 kR ?_
 repeat ((conv => whnf); first | refine kT ?_ | refine kF ?_)
 all_goals ((conv => whnf) <;> rfl)
theorem w_bool0 {s : Bs} {ks : List Bs} {js : List Int} : gp_ l ⟨2, s, 0, ks, js⟩ cy_ := by
 refine sx Tryz.func162 kR ?_
 repeat ((conv => whnf); first | refine kT ?_ | refine kF ?_)
 all_goals ((conv => whnf) <;> rfl)
theorem w_bool1 {s : Bs} {ks : List Bs} {js : List Int} : gp_ l ⟨2, s, 1, ks, js⟩ eb_ := by
 refine sx Tryz.func162 kR ?_
 repeat ((conv => whnf); first | refine kT ?_ | refine kF ?_)
 all_goals ((conv => whnf) <;> rfl)
theorem w_int {s : Bs} {v : Int} {ks : List Bs} {js : List Int} (hv : 0 ≤ v ∧ v ≤ 1000000000000) : gp_ l ⟨3, s, v, ks, js⟩ (aa_ ⟨3, [], v, 0⟩).1 := by
 rw [tt_int hv]
 obtain ⟨n, rfl⟩ : ∃ n : Nat, v = n := ⟨v.toNat, oM⟩
 refine sx Tryz.func162 kR ?_
 repeat ((conv => whnf); first | refine kT ?_ | refine kF ?_)
 refine ⟨_, p0_ n oM, ?_⟩
 all_goals ((conv => whnf) <;> rfl)
theorem w_str {s : Bs} {v : Int} {ks : List Bs} {js : List Int} (hs : s.length ≤ 1000) : gp_ l ⟨4, s, v, ks, js⟩ (aa_ (tk 4 s)).1 := by
 refine sx Tryz.func162 kR ?_
 repeat ((conv => whnf); first | refine kT ?_ | refine kF ?_)
 refine ⟨_, kr_ s oM, ?_⟩
 all_goals ((conv => whnf) <;> rfl)
theorem w_var {s : Bs} {v : Int} {ks : List Bs} {js : List Int} : gp_ l ⟨5, s, v, ks, js⟩ s := by
 refine sx Tryz.func162 kR ?_
 repeat ((conv => whnf); first | refine kT ?_ | refine kF ?_)
 all_goals ((conv => whnf) <;> rfl)
theorem w_list {s : Bs} {v : Int} {ks : List Bs} {js : List Int} {ps : List Bs} (hb : (bf_ ps).length ≤ 100000000) (hR : DCalls Tryz.prog 186 [lV l, pc_ js] (bc_ (bf_ ps))) : gp_ l ⟨6, s, v, ks, js⟩ (91 :: (bf_ ps ++ [93])) := by
 refine sx Tryz.func162 kR ?_
 repeat ((conv => whnf); first | refine kT ?_ | refine kF ?_)
 refine ⟨_, hR, ?_⟩
 conv => whnf
 refine ⟨szL 1 rfl oL, ?_⟩
 conv => whnf
 rw [catL]
 refine ⟨szR 1 rfl oL, ?_⟩
 conv => whnf
 rw [e3_]
 conv => whnf
 exact ed_ sI
theorem w_call {s : Bs} {v : Int} {ks : List Bs} (hs : s.length ≤ 1000) {js : List Int} {ps : List Bs} (hb : (bf_ ps).length ≤ 100000000) (hR : DCalls Tryz.prog 186 [lV l, pc_ js] (bc_ (bf_ ps))) : gp_ l ⟨11, s, v, ks, js⟩ (s ++ 40 :: (bf_ ps ++ [41])) := by
 refine sx Tryz.func162 kR ?_
 repeat ((conv => whnf); first | refine kT ?_ | refine kF ?_)
 refine ⟨none, kR, ?_⟩
 conv => whnf
 refine ⟨szR 1 rfl oL, ?_⟩
 conv => whnf
 rw [e3_]
 refine ⟨_, hR, ?_⟩
 conv => whnf
 refine ⟨szA oL, ?_⟩
 conv => whnf
 rw [a3_]
 refine ⟨szR 1 rfl oL, ?_⟩
 conv => whnf
 rw [e3_]
 conv => whnf
 exact ed_ sI
theorem w_host {s : Bs} {v : Int} {ks : List Bs} (hs : s.length ≤ 1000) {js : List Int} {ps : List Bs} (hb : (bf_ ps).length ≤ 100000000) (hR : DCalls Tryz.prog 186 [lV l, pc_ js] (bc_ (bf_ ps))) : gp_ l ⟨12, s, v, ks, js⟩ (64 :: (s ++ 40 :: (bf_ ps ++ [41]))) := by
 refine sx Tryz.func162 kR ?_
 repeat ((conv => whnf); first | refine kT ?_ | refine kF ?_)
 refine ⟨none, kR, ?_⟩
 conv => whnf
 refine ⟨szL 1 rfl oL, ?_⟩
 conv => whnf
 rw [catL]
 refine ⟨szR 1 rfl oL, ?_⟩
 conv => whnf
 rw [e3_]
 refine ⟨_, hR, ?_⟩
 conv => whnf
 refine ⟨szA oL, ?_⟩
 conv => whnf
 rw [a3_]
 refine ⟨szR 1 rfl oL, ?_⟩
 conv => whnf
 rw [e3_]
 conv => whnf
 exact ed_ sI
theorem w_index {q1 q2 : Nat} {s : Bs} {v : Int} {ks : List Bs} {p1 p2 : Bs} (b1 : p1.length ≤ 100000000) (b2 : p2.length ≤ 100000000) (h1 : e6_ l q1 8 p1) (h2 : e6_ l q2 1 p2) : gp_ l ⟨10, s, v, ks, [(q1 : Int), (q2 : Int)]⟩ (p1 ++ 91 :: (p2 ++ [93])) := by
 refine sx Tryz.func162 kR ?_
 repeat ((conv => whnf); first | refine kT ?_ | refine kF ?_)
 refine ⟨none, kR, ?_⟩
 conv => whnf
 refine ⟨dC, _, rfl, ?_⟩
 conv => whnf
 refine ⟨_, h1, ?_⟩
 conv => whnf
 refine ⟨szR 1 rfl oL, ?_⟩
 conv => whnf
 rw [e3_]
 refine ⟨dC, _, rfl, ?_⟩
 conv => whnf
 refine ⟨_, h2, ?_⟩
 conv => whnf
 refine ⟨szA oL, ?_⟩
 conv => whnf
 rw [a3_]
 refine ⟨szR 1 rfl oL, ?_⟩
 conv => whnf
 rw [e3_]
 conv => whnf
 exact ed_ sI
theorem w_not {q : Nat} {v : Int} {ks : List Bs} {p : Bs} (b1 : p.length ≤ 100000000) (h1 : e6_ l q 3 p) : gp_ l ⟨8, e9_, v, ks, [(q : Int)]⟩ (110 :: 111 :: 116 :: 32 :: p) := by
 refine sx Tryz.func162 kR ?_
 repeat ((conv => whnf); first | refine kT ?_ | refine kF ?_)
 refine Q_ false (plit (b := false) rfl) ?_
 repeat ((conv => whnf); first | refine kT ?_ | refine kF ?_)
 refine ⟨dC, _, rfl, ?_⟩
 conv => whnf
 refine ⟨_, h1, ?_⟩
 conv => whnf
 refine ⟨szL 4 rfl oL, ?_⟩
 conv => whnf
 rw [catL]
 conv => whnf
 exact ed_ sI
theorem w_neg {q : Nat} {v : Int} {ks : List Bs} {p : Bs} (b1 : p.length ≤ 100000000) (h1 : e6_ l q 7 p) : gp_ l ⟨8, sMi, v, ks, [(q : Int)]⟩ (45 :: p) := by
 refine sx Tryz.func162 kR ?_
 repeat ((conv => whnf); first | refine kT ?_ | refine kF ?_)
 refine Q_ true (plit (b := true) rfl) ?_
 repeat ((conv => whnf); first | refine kT ?_ | refine kF ?_)
 refine ⟨dC, _, rfl, ?_⟩
 conv => whnf
 refine ⟨_, h1, ?_⟩
 conv => whnf
 refine ⟨szL 1 rfl oL, ?_⟩
 conv => whnf
 rw [catL]
 conv => whnf
 exact ed_ sI
theorem w_bin {q1 q2 : Nat} {s : Bs} {v : Int} {ks : List Bs} {p1 p2 : Bs} (hs : 0 < b1_ s) (b1 : p1.length ≤ 100000000) (b2 : p2.length ≤ 100000000) (h1 : e6_ l q1 (if b1_ s = 4 then 5 else b1_ s) p1) (h2 : e6_ l q2 (b1_ s + 1) p2) : gp_ l ⟨9, s, v, ks, [(q1 : Int), (q2 : Int)]⟩ (p1 ++ 32 :: (s ++ 32 :: p2)) := by
 have hsl := x0_bin hs
 have hbl : -1000 ≤ b1_ s ∧ b1_ s ≤ 1000 := by
  unfold b1_
  repeat' (first | (split <;> first | omega | skip) | omega)
 have hw : IntKind.i64.wrap (b1_ s + 1) = b1_ s + 1 := ci_ oM
 have hL := x_rlevel ⟨9, s, v, ks, [(q1 : Int), (q2 : Int)]⟩ (fun h => by cases h) (fun _ => hs)
 rw [show o7_ ⟨9, s, v, ks, [(q1 : Int), (q2 : Int)]⟩ = b1_ s from rfl] at hL
 refine sx Tryz.func162 kR ?_
 repeat ((conv => whnf); first | refine kT ?_ | refine kF ?_)
 refine ⟨_, hL, ?_⟩
 conv => whnf
 rintro (_ | _) h4
 ·have h4 : b1_ s ≠ 4 := by simpa using h4
  rw [if_neg h4] at h1
  conv => whnf
  refine ⟨none, kR, ?_⟩
  conv => whnf
  refine ⟨dC, _, rfl, ?_⟩
  conv => whnf
  refine ⟨_, h1, ?_⟩
  conv => whnf
  refine ⟨szR 1 rfl oL, ?_⟩
  conv => whnf
  rw [e3_]
  refine ⟨szA oL, ?_⟩
  conv => whnf
  rw [a3_]
  refine ⟨szR 1 rfl oL, ?_⟩
  conv => whnf
  rw [e3_]
  refine ⟨dC, _, rfl, ?_⟩
  conv => whnf
  rw [hw]
  refine ⟨_, h2, ?_⟩
  conv => whnf
  refine ⟨szA oL, ?_⟩
  conv => whnf
  rw [a3_]
  conv => whnf
  exact ed_ sI
 ·have h4 : b1_ s = 4 := by simpa using h4
  rw [if_pos h4] at h1
  conv => whnf
  refine ⟨none, kR, ?_⟩
  conv => whnf
  refine ⟨dC, _, rfl, ?_⟩
  conv => whnf
  refine ⟨_, h1, ?_⟩
  conv => whnf
  refine ⟨szR 1 rfl oL, ?_⟩
  conv => whnf
  rw [e3_]
  refine ⟨szA oL, ?_⟩
  conv => whnf
  rw [a3_]
  refine ⟨szR 1 rfl oL, ?_⟩
  conv => whnf
  rw [e3_]
  refine ⟨dC, _, rfl, ?_⟩
  conv => whnf
  rw [hw]
  refine ⟨_, h2, ?_⟩
  conv => whnf
  refine ⟨szA oL, ?_⟩
  conv => whnf
  rw [a3_]
  conv => whnf
  exact ed_ sI
end
end
end Go.Proofs.YtglndfgmlminpaaGreatDoor
