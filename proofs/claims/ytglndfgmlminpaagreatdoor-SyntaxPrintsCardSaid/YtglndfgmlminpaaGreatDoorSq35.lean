/- Texts joined by pack.py: XSyF XSyWC XSyWD XSyWE XSyWF -/
import Derived.Test.YtglndfgmlminpaaGreatDoorSq34
set_option maxHeartbeats 8000000
set_option maxRecDepth 100000
namespace Go.Proofs.YtglndfgmlminpaaGreatDoor
section
open Go.RowKit
theorem n3_ : ∀ a b : Bs, (Op.bytesLess a b || (a == b)) = !(Op.bytesLess b a)
 | [], [] => rfl
 | [], b :: y => rfl
 | a :: x, [] => rfl
 | a :: x, b :: y => by
  have ih := n3_ x y
  rcases Nat.lt_trichotomy a.toNat b.toNat with h | h | h
  ·have h1 : a < b := UInt8.lt_iff_toNat_lt.2 h
   have h2 : ¬ b < a := fun h' => by have := UInt8.lt_iff_toNat_lt.1 h'; omega
   have h3 : ¬ b = a := by rintro rfl; omega
   simp [Op.bytesLess, h1, h2, h3]
  ·obtain rfl : a = b := UInt8.toNat_inj.1 h
   have h2 : ¬ a < a := fun h' => by have := UInt8.lt_iff_toNat_lt.1 h'; omega
   simp only [Op.bytesLess, h2, decide_false, Bool.false_or, beq_self_eq_true, n_, List.cons_beq_cons]
   exact ih
  ·have h1 : ¬ a < b := fun h' => by have := UInt8.lt_iff_toNat_lt.1 h'; omega
   have h2 : b < a := UInt8.lt_iff_toNat_lt.2 h
   have h3 : ¬ a = b := by rintro rfl; omega
   simp [Op.bytesLess, h1, h2, h3]
theorem c1_ (l : Bs) : (mk l).toList = l := by
 rw [ByteArray.toList_eq]
 simp [mk]
section
variable {l : List Tok} {k : Nat} {e : Int} {ns : List Nd} {fs : List Fc} {f : Nat} {E : b2_} {ks : List Bs} {js : List Int}
abbrev kM (l : List Tok) (k : Nat) (e : Int) (ns : List Nd) (fs : List Fc) (ks : List Bs) (js : List Int) : List Bk :=
 [.box [int 7, bc_ [], int 0, .ow 1 0, .ow 2 0], sRow false ks, iRow false js, .box [.bx 4 0], kg_ l k e 5 6, kh_ ns, km_ fs]
def planK (T : Plan) : Plan := .one 2 (.pull 0 (.alt 1 (.alt 3 T .stop) (.alt 3 (.one 1 T) .stop)))
def ld_ : Plan := planK (.one 4 (.one 5 (.one 6 (.one 7 (.one 8 .done)))))
def planK2 : Plan := planK (.one 4 (.one 5 (.one 6 (.one 7 .done))))
theorem x_kitemY {i : Int} {k1 : Nat} {ns1 : List Nd} (hk : k < l.length) (h4 : l[k].kind = 4) (ho : ks = [] ∨ Op.bytesLess (ks.getLastD []) l[k].text = true) (hcl : a8_ sCl (l.drop (k + 1)) = true) (hk2 : k + 1 < l.length)
  (c : bm_ Tryz.prog 139 [.bx 0 0] (pM l (k + 2) e ns fs) (int i) (pM l k1 e ns1 fs)) (hl : l.length ≤ 1000000) (hks : ks.length ≤ 1000000) (hjs : js.length ≤ 1000000) :
  bm_ Tryz.prog 269 [.bx 0 0, .bx 3 0] (kM l k e ns fs ks js) (.tu []) (kM l k1 e ns1 fs (ks ++ [l[k].text]) (js ++ [i])) := by
 have e1 : kM l k1 e ns1 fs (ks ++ [l[k].text]) (js ++ [i]) = [.box [int 7, bc_ [], int 0, .ow 1 0, .ow 2 0], .row 0 9 1 false (ks.map bl_ ++ [bl_ l[k].text]), .row 0 3 1 false (js.map ae_ ++ [ae_ i]), .box [.bx 4 0], kg_ l k1 e 5 6, kh_ ns1, km_ fs] := by simp only [kM, iRow, sRow, List.map_append, List.map_cons, List.map_nil]
 have hb4 : ak_ 4 [] (l.drop k) = true := by rw [c6_ _ _ hk]; simp [h4]
 have hb5 : ak_ 5 [sCl] (l.drop (k + 1)) = true := by rw [ay_]; exact hcl
 have hlk : (ks.map bl_).length = ks.length := d_ _
 refine mcx Tryz.func269 kR kR ?_
 conv => whnf
 refine ⟨none, kR, ?_⟩
 rcases List.eq_nil_or_concat ks with rfl | ⟨kt, kl, rfl⟩
 repeat ((conv => whnf); first | refine kT ?_ | refine kF ?_)
 rotate_left
 rw [List.concat_eq_append] at *
 have hlk : ((kt ++ [kl]).map bl_).length = kt.length + 1 := by simp
 have hw : IntKind.i64.wrap ((((((kt ++ [kl]).map bl_).length : Nat)) : Int) - 1) = ((kt.length : Nat) : Int) := by rw [hlk, ci_ (by simp at hks; omega)]; omega
 have hget : ((kt ++ [kl]).map bl_)[((kt.length : Nat) : Int).toNat]? = some (bl_ kl) := by simp
 conv => whnf
 refine Q_ true (by rw [hlk]; simp) ?_
 conv => whnf
 refine T_ (T := TM ab_) (φ := []) (gf := false) (hz_ 4 [] (Nat.le_of_lt hk) hl sI) ?_
 rw [hb4]
 conv => whnf
 refine kT ?_
 conv => whnf
 refine ⟨oM, _, W_ mi_ hk, ?_⟩
 conv => whnf
 rw [hw]
 conv => whnf
 refine ⟨oM, by rw [hlk]; simp, ?_⟩
 conv => whnf
 refine ⟨_, hget, ?_⟩
 have ho : Op.bytesLess kl l[k].text = true := by
  rcases ho with ho | ho
  ·simp at ho
  ·simpa using ho
 conv => whnf
 refine Q_ false (by rw [c1_, c1_, n3_, ho]; rfl) ?_
 all_goals
  conv => whnf
  refine ⟨some ld_, kR, ?_⟩
  conv => whnf
  refine ⟨.bx 52 3, fun m2 K2 hK => hK, ?_⟩
  conv => whnf
  refine ⟨?_, ?_, trivial⟩
 all_goals
  conv => whnf
  try refine ⟨?_, trivial⟩
  conv => whnf
  refine T_ (T := TM ab_) (φ := []) (gf := false) (br_ (ts := []) hl sI hb4 hk) ?_
  conv => whnf
  refine ⟨by rw [d_]; show (_ + 1) * 16 ≤ _; simp only [c_, a_, b_] at *; omega, ?_⟩
  conv => whnf
  refine T_ (T := TM ab_) (φ := []) (gf := false) (br_ (k := k + 1) (ts := [sCl]) hl sI hb5 hk2) ?_
  conv => whnf
  refine ⟨some planK2, kR, ?_⟩
  conv => whnf
  refine ⟨.bx 52 4, fun m2 K2 hK => hK, ?_⟩
  conv => whnf
  refine ⟨?_, ?_, trivial⟩
 all_goals
  conv => whnf
  try refine ⟨?_, trivial⟩
  conv => whnf
  refine T_ (T := TM ab_) (φ := []) (gf := false) c ?_
  conv => whnf
  refine ⟨by rw [d_]; show (js.length + 1) * 8 ≤ _; omega, ?_⟩
  conv => whnf
  exact ⟨rfl, by rw [e1]; rfl, rfl⟩
end
end
section
open Go.RowKit
def leS (a b : Bs) : Bool := Op.bytesLess (mk a).toList (mk b).toList || ((mk a).toList == (mk b).toList)
def ms_ : Option Bs → List Bs → Bool
 | _, [] => true
 | p, s :: r => cl_ s && !(match p with | none => false | some q => leS s q) && ms_ (some s) r
def pa_ (l : List Bs) : Bool := ms_ none l
def prv (l : List Bs) : Nat → Option Bs
 | 0 => none
 | k + 1 => l[k]?
theorem i_pred {k : Nat} (h : k < 9223372036854775807) : IntKind.i64.wrap (((k + 1 : Nat) : Int) - 1) = (k : Int) := by
 rw [A_ _ oM]; omega
theorem keysF_at {l : List Bs} {k : Nat} (h : k < l.length) : ms_ (prv l k) (l.drop k) = (cl_ l[k] && !(match prv l k with | none => false | some q => leS l[k] q) && ms_ (prv l (k + 1)) (l.drop (k + 1))) := by
 rw [r_ h, show prv l (k + 1) = some l[k] from h_ h]; rfl
theorem x_skeys (l : List Bs) (hn : l.length ≤ 8796093022207) (hl : ∀ b ∈ l, b.length ≤ 281474976710656) : DCalls Tryz.prog 149 [qj_ l] (boo (pa_ l)) := by
 refine sx Tryz.func149 kR ?_
 conv => whnf
 refine ⟨[], Nat, fun k => [(7, int k)], fun _ => [], fun k => k ≤ l.length ∧ ms_ (prv l k) (l.drop k) = pa_ l, fun k => l.length - k, 0, ⟨l_ _, rfl⟩, ?_, ?_⟩
 ·exact eN
 rintro k ⟨hk1, hk⟩
 conv => whnf
 rintro (_ | _) h2
 ·have h2 : l.length ≤ k := by simp at h2; omega
  rw [k_ h2] at hk
  rw [← hk]
  (conv => whnf) <;> rfl
 have h2 : k < l.length := by simp at h2; omega
 have hw : IntKind.i64.wrap (((k : Nat) : Int) + 1) = ((k + 1 : Nat) : Int) := R_ oM
 rw [keysF_at h2] at hk
 conv => whnf
 refine ⟨oM, _, W_ bl_ h2, ?_⟩
 conv => whnf
 refine ⟨_, x_stext l[k] (hl _ (q_ h2)), ?_⟩
 conv => whnf
 rintro (_ | _) h3
 rotate_left
 ·have h3 : cl_ l[k] = false := by simpa using h3
  rw [show pa_ l = false by rw [← hk, h3]; rfl]
  (conv => whnf) <;> rfl
 have h3 : cl_ l[k] = true := by simpa using h3
 rw [h3, n_] at hk
 cases k with
 | zero =>
  conv => whnf
  refine kF ?_
  conv => whnf
  refine ⟨1, ⟨h2, hk⟩, by dsimp only; omega, ?_⟩
  exact eA
 | succ k =>
  rw [show prv l (k + 1) = some l[k] from h_ oM] at hk
  conv => whnf
  refine Q_ true (by simp <;> omega) ?_
  conv => whnf
  refine ⟨(by (rw [i_pred oM]) <;> omega), _, (by rw [i_pred oM]; exact W_ bl_ oM), ?_⟩
  conv => whnf
  rintro (_ | _) h4
  rotate_left
  ·have h4 : leS l[k + 1] l[k] = true := h4
   rw [show pa_ l = false by rw [← hk]; simp [h4]]
   (conv => whnf) <;> rfl
  have h4 : leS l[k + 1] l[k] = false := h4
  simp only [h4, Bool.not_false, n_] at hk
  conv => whnf
  refine ⟨k + 1 + 1, ⟨h2, hk⟩, by dsimp only; omega, ?_⟩
  exact eA
theorem keysF_asc : ∀ (l : List Bs) (q : Bs), (ms_ (some q) l = match l with | [] => true | b :: r => Op.bytesLess q b && n6_ (b :: r))
 | [], q => rfl
 | b :: r, q => by
  have ih := keysF_asc r b
  have e : (!leS b q) = Op.bytesLess q b := by unfold leS; rw [c1_, c1_, n3_]; simp
  unfold ms_
  rw [ih, e]
  cases r with
  | nil => simp [n6_, Bool.and_comm]
  | cons c r => simp only [n6_]; cases cl_ b <;> cases Op.bytesLess q b <;> simp
theorem keysB_asc (l : List Bs) : pa_ l = n6_ l := by
 cases l with
 | nil => rfl
 | cons b r =>
  unfold pa_ ms_
  rw [keysF_asc]
  cases r with
  | nil => simp [n6_]
  | cons c r => simp only [n6_]; cases cl_ b <;> simp
structure NdOk (n : Nd) : Prop where
 text : n.text.length ≤ 281474976710656
 keys : n.keys.length ≤ 8796093022207
 keyl : ∀ b ∈ n.keys, b.length ≤ 281474976710656
 kids : n.kids.length ≤ 17592186044415
theorem kinds (n : Int) : n = 1 ∨ n = 2 ∨ n = 3 ∨ n = 4 ∨ n = 5 ∨ n = 6 ∨ n = 7 ∨ n = 8 ∨ n = 9 ∨ n = 10 ∨ n = 11 ∨ n = 12 ∨ n = 13 ∨ n = 14 ∨ n = 15 ∨ n = 16 ∨ n = 17 ∨ n = 18 ∨ n = 19 ∨ (n < 1 ∨ 19 < n) := by omega
theorem x_scount (n : Nd) : DCalls Tryz.prog 111 [n.V] (boo (Y_ n.kind n.kids.length)) := by
 obtain ⟨k, s, v, ks, js⟩ := n
 have hl : (js.map ae_).length = js.length := d_ _
 rcases kinds k with h | h | h | h | h | h | h | h | h | h | h | h | h | h | h | h | h | h | h | h
 rotate_right
 ·refine sx Tryz.func111 kR ?_
  repeat ((conv => whnf); first | refine Q_ false sO ?_)
  conv => whnf
  exact S_ (by dsimp only; unfold Y_; rw [if_neg oM, if_neg oM, if_neg oM, if_neg oM]; symm; simp; omega)
 all_goals subst h
 all_goals
  refine sx Tryz.func111 kR ?_
  repeat ((conv => whnf); first | refine kT ?_ | refine kF ?_)
  try conv => whnf
 all_goals first
  | (refine S_ ?_; dsimp only; rw [hl]; generalize js.length = m; rw [z_]; simp [Y_]; done)
  | (refine S_ ?_; dsimp only; rw [hl]; generalize js.length = m; rw [z_]; simp [Y_]; omega)
  | (refine S_ ?_; dsimp only; simp [Y_]; done)
  | skip
 rintro (_ | _) h
 all_goals
  conv => whnf
  dsimp only at h
  rw [hl] at h
  simp at h
  exact S_ (by dsimp only; rw [z_]; simp [Y_]; omega)
theorem x_sfits (n : Nd) (j : Nat) (part : Int) : DCalls Tryz.prog 112 [n.V, int j, int part] (boo (ap_ n.kind j part)) := by
 obtain ⟨k, s, v, ks, js⟩ := n
 by_cases h19 : k = 19
 ·subst h19
  refine sx Tryz.func112 kR ?_
  conv => whnf
  refine kT ?_
  conv => whnf
  refine ⟨_, px_ part, ?_⟩
  conv => whnf
  exact S_ (by simp [ap_])
 by_cases h15 : k = 15 ∨ k = 16
 ·cases j with
  | zero =>
   rcases h15 with h | h <;> subst h
   all_goals
    refine sx Tryz.func112 kR ?_
    repeat ((conv => whnf); first | refine kT ?_ | refine kF ?_)
    conv => whnf
    refine ⟨_, hx_ part, ?_⟩
    conv => whnf
    exact S_ (by simp [ap_])
  | succ j =>
   rcases h15 with h | h <;> subst h
   all_goals
    refine sx Tryz.func112 kR ?_
    repeat ((conv => whnf); first | refine kT ?_ | refine kF ?_)
    try (refine Q_ true (decide_eq_true oM) ?_)
    try conv => whnf
    exact S_ (by rw [z_]; simp [ap_])
 ·refine sx Tryz.func112 kR ?_
  repeat ((conv => whnf); first | refine Q_ false sO ?_)
  conv => whnf
  refine ⟨_, hx_ part, ?_⟩
  conv => whnf
  exact S_ (by simp [ap_, h19]; intro h; exact absurd h h15)
end
section
open Go.RowKit
theorem lit0 {a : Bs} {d : Array UInt8} {b : Bool} (h : (a == d.toList) = b) : ((mk a).toList == (⟨d⟩ : ByteArray).toList) = b := (bq_ a d).trans h
theorem kk_ {k : Bs} {l : List Bs} : decide (((((k :: l).map bl_).length : Nat) : Int) > 0) = true := by simp
theorem x_sfields7 (s : Bs) (v : Int) (ks : List Bs) (js : List Int) (hn : NdOk ⟨7, s, v, ks, js⟩) : DCalls Tryz.prog 110 [Nd.V ⟨7, s, v, ks, js⟩] (boo (X_ ⟨7, s, v, ks⟩ js.length)) := by
 have hl : (ks.map bl_).length = ks.length := d_ _
 have hj : (js.map ae_).length = js.length := d_ _
 by_cases hv : v = 0
 rotate_left
 ·refine sx Tryz.func110 kR ?_
  repeat ((conv => whnf); first | refine kT ?_ | refine kF ?_)
  conv => whnf
  refine Q_ true (by simpa using hv) ?_
  conv => whnf
  exact S_ (by simp [X_, hv])
 subst hv
 have e : X_ ⟨7, s, 0, ks⟩ js.length = (decide (s = []) && decide (ks.length = js.length) && n6_ ks) := by simp [X_]
 rw [e]
 by_cases hs : s = []
 rotate_left
 ·refine sx Tryz.func110 kR ?_
  repeat ((conv => whnf); first | refine kT ?_ | refine kF ?_)
  conv => whnf
  refine Q_ false (lit0 (by simpa using hs)) ?_
  repeat ((conv => whnf); first | refine kT ?_ | refine kF ?_)
  try conv => whnf
  exact S_ (by simp [hs])
 subst hs
 have hk := x_skeys ks hn.keys hn.keyl
 rw [keysB_asc] at hk
 refine sx Tryz.func110 kR ?_
 repeat ((conv => whnf); first | refine kT ?_ | refine kF ?_)
 conv => whnf
 refine Q_ true (lit0 rfl) ?_
 conv => whnf
 rintro (_ | _) h
 ·dsimp only at h
  rw [hl, hj] at h
  conv => whnf
  exact S_ (by rw [show decide (ks.length = js.length) = false by simp at h ⊢; omega]; simp)
 ·dsimp only at h
  rw [hl, hj] at h
  conv => whnf
  refine ⟨_, hk, ?_⟩
  conv => whnf
  exact S_ (by rw [show decide (ks.length = js.length) = true by simp at h ⊢; omega]; simp)
theorem x_sfields2 (s : Bs) (v : Int) (js : List Int) : DCalls Tryz.prog 110 [Nd.V ⟨2, s, v, [], js⟩] (boo (X_ ⟨2, s, v, []⟩ js.length)) := by
 have e : X_ ⟨2, s, v, []⟩ js.length = (decide (s = []) && (decide (v = 0) || decide (v = 1))) := by simp [X_]
 rw [e]
 refine sx Tryz.func110 kR ?_
 by_cases hs : s = []
 rotate_left
 ·repeat ((conv => whnf); first | refine kT ?_ | refine kF ?_)
  conv => whnf
  refine Q_ false (lit0 (by simpa using hs)) ?_
  repeat ((conv => whnf); first | refine kT ?_ | refine kF ?_)
  try conv => whnf
  exact S_ (by simp [hs])
 subst hs
 repeat ((conv => whnf); first | refine kT ?_ | refine kF ?_)
 conv => whnf
 refine Q_ true (lit0 rfl) ?_
 conv => whnf
 rintro (_ | _) h
 all_goals
  conv => whnf
  exact S_ (by simp at h; simp [h, Bool.beq_eq_decide_eq])
theorem x_sfields3 (s : Bs) (v : Int) (js : List Int) : DCalls Tryz.prog 110 [Nd.V ⟨3, s, v, [], js⟩] (boo (X_ ⟨3, s, v, []⟩ js.length)) := by
 have e : X_ ⟨3, s, v, []⟩ js.length = (decide (s = []) && decide (0 ≤ v) && decide (v ≤ 1000000000000)) := by simp [X_]
 rw [e]
 refine sx Tryz.func110 kR ?_
 by_cases hs : s = []
 rotate_left
 ·repeat ((conv => whnf); first | refine kT ?_ | refine kF ?_)
  conv => whnf
  refine Q_ false (lit0 (by simpa using hs)) ?_
  repeat ((conv => whnf); first | refine kT ?_ | refine kF ?_)
  try conv => whnf
  exact S_ (by simp [hs])
 subst hs
 repeat ((conv => whnf); first | refine kT ?_ | refine kF ?_)
 conv => whnf
 refine Q_ true (lit0 rfl) ?_
 conv => whnf
 rintro (_ | _) h
 all_goals
  conv => whnf
  exact S_ (by rw [z_]; simp at h ⊢; omega)
theorem x_sfields (n : Nd) (hn : NdOk n) : DCalls Tryz.prog 110 [n.V] (boo (X_ ⟨n.kind, n.text, n.val, n.keys⟩ n.kids.length)) := by
 obtain ⟨k, s, v, ks, js⟩ := n
 by_cases h7 : k = 7
 ·subst h7; exact x_sfields7 s v ks js hn
 cases ks with
 | cons b ks =>
  refine sx Tryz.func110 kR ?_
  conv => whnf
  refine Q_ true (by simpa using h7) ?_
  conv => whnf
  refine Q_ true kk_ ?_
  conv => whnf
  exact S_ (by simp [X_, h7])
 | nil =>
 by_cases h2 : k = 2
 ·subst h2; exact x_sfields2 s v js
 by_cases h3 : k = 3
 ·subst h3; exact x_sfields3 s v js
 by_cases hv : v = 0
 rotate_left
 ·refine sx Tryz.func110 kR ?_
  conv => whnf
  refine Q_ true (by simpa using h7) ?_
  conv => whnf
  refine kF ?_
  conv => whnf
  refine Q_ true (by simpa using h2) ?_
  conv => whnf
  refine Q_ true (by simpa using h3) ?_
  conv => whnf
  refine Q_ true (by simpa using hv) ?_
  conv => whnf
  exact S_ (by simp [X_, h7, h2, h3, hv])
 subst hv
 have ht := hn.text
 dsimp only at ht
 rcases kinds k with h | h | h | h | h | h | h | h | h | h | h | h | h | h | h | h | h | h | h | h
 rotate_right
 ·refine sx Tryz.func110 kR ?_
  conv => whnf
  refine Q_ true (by simpa using h7) ?_
  conv => whnf
  refine kF ?_
  conv => whnf
  refine Q_ true (by simpa using h2) ?_
  conv => whnf
  refine Q_ true (by simpa using h3) ?_
  conv => whnf
  refine kF ?_
  repeat ((conv => whnf); refine Q_ false sO ?_)
  conv => whnf
  refine S_ ((bq_ _ _).trans ?_)
  rw [show X_ ⟨k, s, 0, []⟩ js.length = decide (s = []) by unfold X_; rw [if_neg sI, if_neg sO, if_neg sO, if_neg sO, if_neg sO, if_neg sO, if_neg sO, if_neg sO, if_neg sO]]
  rw [z_]; simp
 all_goals subst h
 all_goals try (exfalso; omega)
 all_goals
  refine sx Tryz.func110 kR ?_
  repeat ((conv => whnf); first | refine kT ?_ | refine kF ?_ | refine ⟨_, x_stext s ht, ?_⟩ | refine ⟨_, x_sname s ht, ?_⟩ | refine ⟨_, x_srun s ht, ?_⟩ | refine ⟨_, x_soperator s, ?_⟩)
  try conv => whnf
 all_goals first
  | (refine S_ ((bq_ _ _).trans ?_); rw [z_]; simp [X_]; done)
  | (refine S_ ?_; simp [X_]; done)
  | skip
 rintro (_ | _) h
 ·dsimp only at h
  rw [bq_] at h
  conv => whnf
  refine S_ ((bq_ _ _).trans ?_)
  rw [z_]
  simp at h
  simp [X_, sMi, e9_, h]
  exact decide_eq_true_iff.symm
 ·dsimp only at h
  rw [bq_] at h
  conv => whnf
  refine S_ ?_
  simp at h
  simp [X_, sMi, e9_, h]
end
section
open Go.RowKit
structure NsOk (l : List Nd) : Prop where
 len : l.length ≤ 8796093022207
 nd : ∀ n ∈ l, NdOk n
def natI : Option Nat → Int
 | some a => (a : Int)
 | none => -1
theorem take_rev {α : Type} {l : List α} {m : Nat} (h : m < l.length) : (l.take (m + 1)).reverse = l[m] :: (l.take m).reverse := by
 rw [List.take_add_one, h_ h]; simp
theorem x_first (l : List Nd) (hn : NsOk l) : ∀ (f i : Nat), i < f → i < l.length → DCalls Tryz.prog 68 [.sl true 5 (l.map ndD), int i] (int (natI (de_ l f i)))
 | 0, i, h, _ => absurd h (Nat.not_lt_zero _)
 | f + 1, i, hif, hi => by
  have hlen := hn.len
  have hll : (l.map ndD).length = l.length := d_ _
  have hok := hn.nd l[i] (q_ hi)
  have hkids := hok.kids
  have hgi : (l.map ndD)[((i : Nat) : Int).toNat]? = some (ndD l[i]) := W_ ndD hi
  have hF : de_ l (f + 1) i = if ng_ l[i] then ho_ l (de_ l f) l[i].kind l[i].kids.reverse i else none := by
   simp only [de_, h_ hi]
  have hfld := x_sfields l[i] hok
  have hcnt := x_scount l[i]
  have hnok : ng_ l[i] = (X_ ⟨l[i].kind, l[i].text, l[i].val, l[i].keys⟩ l[i].kids.length && Y_ l[i].kind l[i].kids.length) := rfl
  rw [hF]
  refine sx Tryz.func68 kR ?_
  conv => whnf
  refine ⟨oM, _, hgi, ?_⟩
  generalize hq : l[i] = q at *
  obtain ⟨k, s, v, ks, js⟩ := q
  dsimp only at *
  have hjl : (js.map ae_).length = js.length := d_ _
  cases h1 : X_ ⟨k, s, v, ks⟩ js.length with
  | false =>
   rw [h1] at hfld hnok
   rw [hnok, u_, if_neg sI]
   conv => whnf
   refine ⟨_, hfld, ?_⟩
   conv => whnf
   refine kT ?_
   (conv => whnf) <;> rfl
  | true =>
  rw [h1] at hfld hnok
  rw [hnok, n_]
  conv => whnf
  refine ⟨_, hfld, ?_⟩
  conv => whnf
  refine kF ?_
  conv => whnf
  refine ⟨_, hcnt, ?_⟩
  conv => whnf
  rintro (_ | _) h2
  rotate_left
  ·have h2 : Y_ k js.length = false := by simpa using h2
   rw [h2, if_neg sI]
   (conv => whnf) <;> rfl
  have h2 : Y_ k js.length = true := by simpa using h2
  rw [h2, if_pos rfl]
  conv => whnf
  rw [show IntKind.i64.wrap ((((js.map ae_).length : Nat) : Int) - 1) = ((js.length : Nat) : Int) - 1 by rw [hjl, ci_ oM]]
  refine ⟨[], Nat × Nat, fun ⟨m, at_⟩ => [(6, int at_), (7, int (((m : Nat) : Int) - 1))], fun _ => [], fun ⟨m, at_⟩ => m ≤ js.length ∧ at_ ≤ i ∧ ho_ l (de_ l f) k (js.take m).reverse at_ = ho_ l (de_ l f) k js.reverse i, fun ⟨m, _⟩ => m, (js.length, i), ⟨f_ _, f_ _, by rw [List.take_length]⟩, ?_, ?_⟩
  ·exact eN
  rintro ⟨m, at_⟩ ⟨hm, hat, hk⟩
  cases m with
  | zero =>
   simp only [List.take_zero, List.reverse_nil, ho_] at hk
   rw [← hk]
   conv => whnf
   refine kF ?_
   (conv => whnf) <;> rfl
  | succ m =>
  have hm' : m < js.length := hm
  rw [take_rev hm'] at hk
  simp only [ho_, List.length_reverse, B_, Nat.min_eq_left (Nat.le_of_lt hm')] at hk
  conv => whnf
  refine Q_ true (decide_eq_true oM) ?_
  conv => whnf
  refine ⟨none, kR, ?_⟩
  conv => whnf
  rintro (_ | _) h3
  rotate_left
  ·have h3 : at_ < 1 := by simp at h3; omega
   rw [if_pos (.inl h3)] at hk
   rw [← hk]
   (conv => whnf) <;> rfl
  have h3 : 1 ≤ at_ := by simp at h3; omega
  have hwa : IntKind.i64.wrap (((at_ : Nat) : Int) - 1) = ((at_ - 1 : Nat) : Int) := by rw [ci_ oM]; omega
  have hgj : (js.map ae_)[(((m + 1 : Nat) : Int) - 1).toNat]? = some (ae_ js[m]) := by
   rw [show (((m + 1 : Nat) : Int) - 1).toNat = m by omega]; simp [hm']
  have hat' : at_ - 1 < l.length := by omega
  have hga : (l.map ndD)[((at_ - 1 : Nat) : Int).toNat]? = some (ndD l[at_ - 1]) := W_ ndD hat'
  have hfit : DCalls Tryz.prog 112 [Nd.V ⟨k, s, v, ks, js⟩, int (((m + 1 : Nat) : Int) - 1), int l[at_ - 1].kind] (boo (ap_ k m l[at_ - 1].kind)) := by
   rw [show ((m + 1 : Nat) : Int) - 1 = ((m : Nat) : Int) by omega]
   exact x_sfits ⟨k, s, v, ks, js⟩ m _
  have ih := x_first l hn f (at_ - 1) oM hat'
  have hw2 : IntKind.i64.wrap ((((m + 1 : Nat) : Int) - 1) - 1) = ((m : Nat) : Int) - 1 := by rw [ci_ oM]; omega
  rw [h_ hat'] at hk
  simp only [Option.map_some, Option.getD_some] at hk
  conv => whnf
  refine ⟨oM, _, hgj, ?_⟩
  conv => whnf
  rintro (_ | _) h4
  rotate_left
  ·have h4 : js[m] ≠ (at_ : Int) - 1 := by rw [hwa] at h4; simp at h4; omega
   rw [if_pos (.inr (.inl h4))] at hk
   rw [← hk]
   (conv => whnf) <;> rfl
  have h4 : js[m] = (at_ : Int) - 1 := by rw [hwa] at h4; simp at h4; omega
  conv => whnf
  rw [hwa]
  refine ⟨oM, _, hga, ?_⟩
  conv => whnf
  refine ⟨_, hfit, ?_⟩
  conv => whnf
  rintro (_ | _) h5
  rotate_left
  ·have h5 : ap_ k m l[at_ - 1].kind = false := by simpa using h5
   rw [if_pos (.inr (.inr h5))] at hk
   rw [← hk]
   (conv => whnf) <;> rfl
  have h5 : ap_ k m l[at_ - 1].kind = true := by simpa using h5
  rw [if_neg (by simp [h5, h4]; omega)] at hk
  conv => whnf
  rw [hwa]
  refine ⟨_, ih, ?_⟩
  cases h6 : de_ l f (at_ - 1) with
  | none =>
   rw [h6] at hk
   rw [← hk]
   conv => whnf
   refine kT ?_
   (conv => whnf) <;> rfl
  | some a =>
   rw [h6] at hk
   have ha : a ≤ at_ - 1 := by
    obtain ⟨T, hT⟩ := fz_ f _ _ h6
    have := hT.len
    have := T.size_pos
    omega
   conv => whnf
   refine Q_ false (decide_eq_false (by show ¬ ((a : Nat) : Int) < 0; omega)) ?_
   conv => whnf
   refine ⟨(m, a), ⟨oM, oM, hk⟩, by (try dsimp only); omega, ?_⟩
   exact eA
end
section
open Go.RowKit
def idxG {α : Type} (p : α → Bool) : List α → Nat → Int
 | [], _ => -1
 | c :: l, k => if p c then k else idxG p l (k + 1)
theorem pe_ {α : Type} (p : α → Bool) : ∀ (l : List α) (k : Nat), decide (0 ≤ idxG p l k) = l.any p
 | [], _ => rfl
 | c :: l, k => by
  rw [List.any_cons]
  cases h : p c with
  | true => rw [show idxG p (c :: l) k = (k : Int) from if_pos h]; simp
  | false => rw [show idxG p (c :: l) k = idxG p l (k + 1) from if_neg (by simp [h]), Bool.false_or]; exact pe_ p l (k + 1)
theorem x_notname (l : Bs) (hl : l.length ≤ 281474976710656) : DCalls Tryz.prog 67 [bc_ l] (boo (!a7_ l)) := by
 refine sx Tryz.func67 kR ?_
 conv => whnf
 refine ⟨_, x_sname l hl, ?_⟩
 (conv => whnf) <;> rfl
theorem x_idxN (l : List Bs) (hl : l.length ≤ 8796093022207) (hb : ∀ b ∈ l, b.length ≤ 281474976710656) : DCalls Tryz.prog 109 [qj_ l, .cv (.func (.func 67) #[] #[])] (int (idxG (fun s => !a7_ s) l 0)) := by
 refine sx Tryz.func109 kR ?_
 conv => whnf
 refine ⟨[], Nat, fun k => [(8, int k)], fun _ => [], fun k => k ≤ l.length ∧ idxG (fun s => !a7_ s) (l.drop k) k = idxG (fun s => !a7_ s) l 0, fun k => l.length - k, 0, ⟨by simp, rfl⟩, ?_, ?_⟩
 ·exact eN
 rintro k ⟨hk, hf⟩
 conv => whnf
 rintro (_ | _) h1
 ·simp at h1
  rw [k_ oM] at hf
  conv => whnf
  exact bg_ hf
 have h1 : k < l.length := by simp at h1; omega
 rw [r_ h1] at hf
 simp only [idxG] at hf
 conv => whnf
 refine ⟨oM, _, W_ bl_ h1, ?_⟩
 conv => whnf
 refine ⟨_, x_notname l[k] (hb _ (q_ h1)), ?_⟩
 conv => whnf
 rintro (_ | _) h2
 ·have h2' : ¬ ((!a7_ l[k]) = true) := by rw [h2]; simp
  rw [if_neg h2'] at hf
  conv => whnf
  refine ⟨k + 1, ⟨h1, hf⟩, by dsimp only; omega, ?_⟩
  exact eW
 ·rw [if_pos h2] at hf
  conv => whnf
  exact bg_ hf
theorem x_anyN (l : List Bs) (hl : l.length ≤ 8796093022207) (hb : ∀ b ∈ l, b.length ≤ 281474976710656) : DCalls Tryz.prog 66 [qj_ l, .cv (.func (.func 67) #[] #[])] (boo (l.any (fun s => !a7_ s))) := by
 refine sx Tryz.func66 kR ?_
 conv => whnf
 refine ⟨_, x_idxN l hl hb, ?_⟩
 conv => whnf
 exact S_ (pe_ _ l 0)
structure FcOk (f : Fc) : Prop where
 name : f.name.length ≤ 281474976710656
 ps : f.params.length ≤ 8796093022207
 psl : ∀ b ∈ f.params, b.length ≤ 281474976710656
structure mv_ (p : Pg) : Prop where
 ns : NsOk p.nodes
 fs : p.funcs.length ≤ 8796093022207
 fc : ∀ f ∈ p.funcs, FcOk f
theorem any_not : ∀ (l : List Bs), l.all a7_ = !(l.any (fun s => !a7_ s))
 | [] => rfl
 | c :: l => by rw [List.all_cons, List.any_cons, any_not l]; cases a7_ c <;> simp
theorem ordF_cons {l : List Nd} {f : Fc} {fs : List Fc} {s : Nat} : oz_ l (f :: fs) s = if a7_ f.name = false ∨ f.params.all a7_ = false then none
  else if f.body < (s : Int) ∨ (l.length : Int) ≤ f.body ∨ (l[f.body.toNat]?.map (·.kind)) ≠ some 19 ∨ de_ l (l.length + 1) f.body.toNat ≠ some s then none
  else oz_ l fs (f.body.toNat + 1) := rfl
theorem x_ordered (p : Pg) (hp : mv_ p) : DCalls Tryz.prog 31 [p.V] (boo (mq_ p)) := by
 obtain ⟨ns, fs⟩ := p
 have hln := hp.ns.len
 have hlf := hp.fs
 dsimp only at hln hlf
 have hnl : (ns.map ndD).length = ns.length := d_ _
 have hfl : (fs.map fcD).length = fs.length := d_ _
 have hF := fun i h => x_first ns hp.ns (ns.length + 1) i (Nat.lt_succ_of_lt h) h
 have bad : ∀ {k s : Nat}, oz_ ns (fs.drop k) s = oz_ ns fs 0 → oz_ ns (fs.drop k) s = none → mq_ ⟨ns, fs⟩ = false := by
  intro k s h1 h2
  unfold mq_
  rw [← h1, h2]
  simp
 refine sx Tryz.func31 kR ?_
 conv => whnf
 refine ⟨[], Nat × Nat, fun ⟨k, s⟩ => [(9, int k), (3, int s)], fun _ => [], fun ⟨k, s⟩ => k ≤ fs.length ∧ s ≤ ns.length ∧ oz_ ns (fs.drop k) s = oz_ ns fs 0, fun ⟨k, _⟩ => fs.length - k, (0, 0), ⟨l_ _, l_ _, rfl⟩, ?_, ?_⟩
 ·exact eN
 rintro ⟨k, s⟩ ⟨hk1, hs, hk⟩
 conv => whnf
 rintro (_ | _) h1
 ·have h1 : fs.length ≤ k := by simp at h1; omega
  rw [k_ h1] at hk
  conv => whnf
  refine S_ ?_
  unfold mq_
  rw [← hk]
  dsimp only
  rw [hnl, z_]
  simp [oz_]
  omega
 have h1 : k < fs.length := by simp at h1; omega
 have hb := bad hk
 have hfo := hp.fc fs[k] (q_ h1)
 have hgf : (fs.map fcD)[((k : Nat) : Int).toNat]? = some (fcD fs[k]) := W_ fcD h1
 rw [r_ h1, ordF_cons] at hk hb
 conv => whnf
 refine ⟨oM, _, hgf, ?_⟩
 generalize fs[k] = q at *
 obtain ⟨nm, ps, bd⟩ := q
 have hb1 := hfo.name
 dsimp only at *
 have hps := x_anyN ps hfo.ps hfo.psl
 have hnc := x_sname nm hb1
 rw [any_not] at hk hb
 cases hnm : a7_ nm with
 | false =>
  rw [hnm] at hnc
  rw [hb (if_pos (.inl hnm))]
  conv => whnf
  refine ⟨_, hnc, ?_⟩
  conv => whnf
  refine kT ?_
  (conv => whnf) <;> rfl
 | true =>
 rw [hnm] at hnc
 cases hpa : ps.any (fun s => !a7_ s) with
 | true =>
  rw [hpa] at hps
  rw [hb (if_pos (.inr (by rw [hpa]; rfl)))]
  conv => whnf
  refine ⟨_, hnc, ?_⟩
  conv => whnf
  refine kF ?_
  conv => whnf
  refine ⟨_, hps, ?_⟩
  conv => whnf
  refine kT ?_
  (conv => whnf) <;> rfl
 | false =>
 rw [hpa] at hps
 have hno : ¬ (a7_ nm = false ∨ (!(ps.any fun s => !a7_ s)) = false) := by rw [hpa, hnm]; simp
 rw [if_neg hno] at hk hb
 conv => whnf
 refine ⟨_, hnc, ?_⟩
 conv => whnf
 refine kF ?_
 conv => whnf
 refine ⟨_, hps, ?_⟩
 conv => whnf
 refine kF ?_
 conv => whnf
 rintro (_ | _) h2
 rotate_left
 ·have h2 : bd < (s : Int) := by simpa using h2
  rw [hb (if_pos (.inl h2))]
  (conv => whnf) <;> rfl
 have h2 : (s : Int) ≤ bd := by simpa using h2
 conv => whnf
 rintro (_ | _) h3
 rotate_left
 ·have h3 : (ns.length : Int) ≤ bd := by simp at h3; omega
  rw [hb (if_pos (.inr (.inl h3)))]
  (conv => whnf) <;> rfl
 have h3 : bd < (ns.length : Int) := by simp at h3; omega
 obtain ⟨b, rfl⟩ : ∃ b : Nat, bd = ((b : Nat) : Int) := ⟨bd.toNat, oM⟩
 have h3 : b < ns.length := by omega
 have hgn : (ns.map ndD)[((b : Nat) : Int).toNat]? = some (ndD ns[b]) := W_ ndD h3
 have hFb := hF b h3
 have hwb : IntKind.i64.wrap (((b : Nat) : Int) + 1) = ((b + 1 : Nat) : Int) := R_ oM
 have hwk : IntKind.i64.wrap (((k : Nat) : Int) + 1) = ((k + 1 : Nat) : Int) := R_ oM
 rw [i_, h_ h3] at hk hb
 simp only [Option.map_some] at hk hb
 conv => whnf
 refine ⟨g_ b, _, hgn, ?_⟩
 conv => whnf
 rintro (_ | _) h4
 rotate_left
 ·have h4 : ns[b].kind ≠ 19 := by simpa using h4
  rw [hb (if_pos (.inr (.inr (.inl (by simpa using h4)))))]
  (conv => whnf) <;> rfl
 have h4 : ns[b].kind = 19 := by simpa using h4
 conv => whnf
 refine ⟨_, hFb, ?_⟩
 conv => whnf
 rintro (_ | _) h5
 rotate_left
 ·have h5 : de_ ns (ns.length + 1) b ≠ some s := by
   intro e
   rw [e] at h5
   simp [natI] at h5
  rw [hb (if_pos (.inr (.inr (.inr h5))))]
  (conv => whnf) <;> rfl
 have h5 : de_ ns (ns.length + 1) b = some s := by
  cases e : de_ ns (ns.length + 1) b with
  | none => rw [e] at h5; simp [natI] at h5
  | some a => rw [e] at h5; simp [natI] at h5; rw [show a = s by omega]
 rw [if_neg (by rw [h5, h4]; simp; omega)] at hk
 conv => whnf
 refine ⟨(k + 1, b + 1), ⟨oM, oM, hk⟩, by (try dsimp only); omega, ?_⟩
 exact eA
end
end Go.Proofs.YtglndfgmlminpaaGreatDoor
