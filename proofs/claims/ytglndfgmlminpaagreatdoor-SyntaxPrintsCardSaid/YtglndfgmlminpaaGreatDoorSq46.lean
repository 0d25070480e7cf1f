/- Texts joined by pack.py: XSyWK XSyWL XSyWMa -/
import Derived.Test.YtglndfgmlminpaaGreatDoorSq44
set_option maxHeartbeats 16000000
set_option maxRecDepth 100000
namespace Go.Proofs.YtglndfgmlminpaaGreatDoor
section
open Go.RowKit
theorem textH0 (l : Bs) : ((aa_ ⟨6, l, 0, 0⟩).2 == 0) = ba_ l := by
 rw [dh_]
 cases h : ba_ l <;> simp
theorem nlit {a : Bs} {d : Array UInt8} {b : Bool} (h : (a == d.toList) = b) : (!((mk a).toList == (⟨d⟩ : ByteArray).toList)) = !b := by rw [bq_, h]
theorem x_rfields7 (s : Bs) (v : Int) (ks : List Bs) (js : List Int) (hn : NdOk ⟨7, s, v, ks, js⟩) : DCalls Tryz.prog 71 [Nd.V ⟨7, s, v, ks, js⟩] (boo (X_ ⟨7, s, v, ks⟩ js.length)) := by
 have hl : (ks.map bl_).length = ks.length := d_ _
 have hj : (js.map ae_).length = js.length := d_ _
 by_cases hv : v = 0
 rotate_left
 ·refine sx Tryz.func71 kR ?_
  repeat ((conv => whnf); first | refine kT ?_ | refine kF ?_)
  conv => whnf
  refine Q_ true (by simpa using hv) ?_
  conv => whnf
  exact S_ (by simp [X_, hv])
 subst hv
 have e : X_ ⟨7, s, 0, ks⟩ js.length = (decide (s = []) && decide (ks.length = js.length) && n6_ ks) := by simp [X_]
 rw [e]
 by_cases hs : s = []
 rotate_left
 ·refine sx Tryz.func71 kR ?_
  repeat ((conv => whnf); first | refine kT ?_ | refine kF ?_)
  conv => whnf
  refine Q_ true (nlit (b := false) (by simpa using hs)) ?_
  try conv => whnf
  exact S_ (by simp [hs])
 subst hs
 have hkn := hn.keys
 have hkl := hn.keyl
 dsimp only at hkn hkl
 refine sx Tryz.func71 kR ?_
 repeat ((conv => whnf); first | refine kT ?_ | refine kF ?_)
 conv => whnf
 refine Q_ false (nlit (b := true) rfl) ?_
 repeat ((conv => whnf); first | refine kT ?_ | refine kF ?_)
 rw [← keysB_asc]
 conv => whnf
 refine ⟨[], Nat, fun k => [(5, int k)], fun _ => [], fun k => k ≤ ks.length ∧ ms_ (prv ks k) (ks.drop k) = pa_ ks, fun k => ks.length - k, 0, ⟨l_ _, rfl⟩, ?_, ?_⟩
 ·exact eN
 rintro k ⟨hk1, hk⟩
 conv => whnf
 rintro (_ | _) h2
 ·have h2 : ks.length ≤ k := by simp at h2; omega
  rw [k_ h2] at hk
  conv => whnf
  rw [← hk]
  refine S_ ?_
  dsimp only
  rw [hl, hj, z_]
  simp [ms_]
  try omega
 have h2 : k < ks.length := by simp at h2; omega
 have hw : IntKind.i64.wrap (((k : Nat) : Int) + 1) = ((k + 1 : Nat) : Int) := R_ oM
 rw [keysF_at h2] at hk
 conv => whnf
 refine ⟨none, kR, ?_⟩
 conv => whnf
 refine ⟨oM, _, W_ bl_ h2, ?_⟩
 conv => whnf
 refine ⟨_, oc_ ks[k] (hkl _ (q_ h2)), ?_⟩
 conv => whnf
 rintro (_ | _) h3
 rotate_left
 ·have h3 : cl_ ks[k] = false := by simpa using h3
  rw [show pa_ ks = false by rw [← hk, h3]; rfl]
  conv => whnf
  exact S_ sI
 have h3 : cl_ ks[k] = true := by simpa using h3
 rw [h3, n_] at hk
 cases k with
 | zero =>
  conv => whnf
  refine kF ?_
  conv => whnf
  refine ⟨1, ⟨h2, hk⟩, by (try dsimp only); omega, ?_⟩
  exact eA
 | succ k =>
  rw [show prv ks (k + 1) = some ks[k] from h_ oM] at hk
  have hgk : (ks.map bl_)[((k : Nat) : Int).toNat]? = some (bl_ ks[k]) := W_ bl_ oM
  conv => whnf
  refine Q_ true (by simp <;> omega) ?_
  conv => whnf
  refine ⟨oM, _, W_ bl_ h2, ?_⟩
  conv => whnf
  refine ⟨(by (rw [i_pred oM]) <;> omega), _, (by rw [i_pred oM]; exact hgk), ?_⟩
  conv => whnf
  rintro (_ | _) h4
  rotate_left
  ·have h4 : leS ks[k + 1] ks[k] = true := h4
   rw [show pa_ ks = false by rw [← hk]; simp [h4]]
   conv => whnf
   exact S_ sI
  have h4 : leS ks[k + 1] ks[k] = false := h4
  simp only [h4, Bool.not_false, n_] at hk
  conv => whnf
  refine ⟨k + 1 + 1, ⟨h2, hk⟩, by (try dsimp only); omega, ?_⟩
  exact eA
end
section
open Go.RowKit
theorem x_rfields2 (s : Bs) (v : Int) (js : List Int) : DCalls Tryz.prog 71 [Nd.V ⟨2, s, v, [], js⟩] (boo (X_ ⟨2, s, v, []⟩ js.length)) := by
 have e : X_ ⟨2, s, v, []⟩ js.length = (decide (s = []) && (decide (v = 0) || decide (v = 1))) := by simp [X_]
 rw [e]
 refine sx Tryz.func71 kR ?_
 by_cases hs : s = []
 rotate_left
 ·repeat ((conv => whnf); first | refine kT ?_ | refine kF ?_)
  conv => whnf
  refine Q_ true (nlit (b := false) (by simpa using hs)) ?_
  try conv => whnf
  exact S_ (by simp [hs])
 subst hs
 repeat ((conv => whnf); first | refine kT ?_ | refine kF ?_)
 conv => whnf
 refine Q_ false (nlit (b := true) rfl) ?_
 repeat ((conv => whnf); first | refine kT ?_ | refine kF ?_)
 conv => whnf
 rintro (_ | _) h
 all_goals
  conv => whnf
  exact S_ (by simp at h; simp [h, Bool.beq_eq_decide_eq])
theorem x_rfields3 (s : Bs) (v : Int) (js : List Int) : DCalls Tryz.prog 71 [Nd.V ⟨3, s, v, [], js⟩] (boo (X_ ⟨3, s, v, []⟩ js.length)) := by
 have e : X_ ⟨3, s, v, []⟩ js.length = (decide (s = []) && decide (0 ≤ v) && decide (v ≤ 1000000000000)) := by simp [X_]
 rw [e]
 refine sx Tryz.func71 kR ?_
 by_cases hs : s = []
 rotate_left
 ·repeat ((conv => whnf); first | refine kT ?_ | refine kF ?_)
  conv => whnf
  refine Q_ true (nlit (b := false) (by simpa using hs)) ?_
  try conv => whnf
  exact S_ (by simp [hs])
 subst hs
 repeat ((conv => whnf); first | refine kT ?_ | refine kF ?_)
 conv => whnf
 refine Q_ false (nlit (b := true) rfl) ?_
 repeat ((conv => whnf); first | refine kT ?_ | refine kF ?_)
 conv => whnf
 rintro (_ | _) h
 all_goals
  conv => whnf
  exact S_ (by rw [z_]; simp at h ⊢; omega)
theorem x_rfields (n : Nd) (hn : NdOk n) : DCalls Tryz.prog 71 [n.V] (boo (X_ ⟨n.kind, n.text, n.val, n.keys⟩ n.kids.length)) := by
 obtain ⟨k, s, v, ks, js⟩ := n
 by_cases h7 : k = 7
 ·subst h7; exact x_rfields7 s v ks js hn
 by_cases hA : k ≠ 3 ∧ k ≠ 2 ∧ v ≠ 0
 ·obtain ⟨h3, h2, hv⟩ := hA
  refine sx Tryz.func71 kR ?_
  conv => whnf
  refine Q_ true (by simpa using h3) ?_
  conv => whnf
  refine Q_ true (by simpa using h2) ?_
  conv => whnf
  refine Q_ true (by simpa using hv) ?_
  conv => whnf
  exact S_ (by simp [X_, h2, h3, hv])
 cases ks with
 | cons b ks =>
  by_cases h3 : k = 3
  ·subst h3
   refine sx Tryz.func71 kR ?_
   repeat ((conv => whnf); first | refine kT ?_ | refine kF ?_ | refine Q_ true kk_ ?_)
   try conv => whnf
   exact S_ (by simp [X_])
  by_cases h2 : k = 2
  ·subst h2
   refine sx Tryz.func71 kR ?_
   repeat ((conv => whnf); first | refine kT ?_ | refine kF ?_ | refine Q_ true kk_ ?_)
   try conv => whnf
   exact S_ (by simp [X_])
  obtain rfl : v = 0 := Classical.byContradiction fun h => hA ⟨h3, h2, h⟩
  refine sx Tryz.func71 kR ?_
  conv => whnf
  refine Q_ true (by simpa using h3) ?_
  conv => whnf
  refine Q_ true (by simpa using h2) ?_
  conv => whnf
  refine kF ?_
  conv => whnf
  refine Q_ true (by simpa using h7) ?_
  conv => whnf
  refine Q_ true kk_ ?_
  try conv => whnf
  exact S_ (by simp [X_, h7])
 | nil =>
 by_cases h2 : k = 2
 ·subst h2; exact x_rfields2 s v js
 by_cases h3 : k = 3
 ·subst h3; exact x_rfields3 s v js
 obtain rfl : v = 0 := Classical.byContradiction fun h => hA ⟨h3, h2, h⟩
 have ht := hn.text
 dsimp only at ht
 rcases kinds k with h | h | h | h | h | h | h | h | h | h | h | h | h | h | h | h | h | h | h | h
 rotate_right
 ·refine sx Tryz.func71 kR ?_
  conv => whnf
  refine Q_ true (by simpa using h3) ?_
  conv => whnf
  refine Q_ true (by simpa using h2) ?_
  conv => whnf
  refine kF ?_
  conv => whnf
  refine Q_ true (by simpa using h7) ?_
  conv => whnf
  refine kF ?_
  iterate 8 ((conv => whnf); refine Q_ false sO ?_)
  have e : X_ ⟨k, s, 0, []⟩ js.length = decide (s = []) := by unfold X_; rw [if_neg sI, if_neg sO, if_neg sO, if_neg sO, if_neg sO, if_neg sO, if_neg sO, if_neg sO, if_neg sO]
  dsimp only
  rw [e]
  by_cases hs : s = []
  ·subst hs
   conv => whnf
   refine Q_ false (nlit (b := true) rfl) ?_
   conv => whnf
   refine Q_ false (by simpa using h2) ?_
   conv => whnf
   refine Q_ false (by simpa using h3) ?_
   conv => whnf
   refine Q_ true (by simpa using h7) ?_
   conv => whnf
   exact S_ rfl
  ·conv => whnf
   refine Q_ true (nlit (b := false) (by simpa using hs)) ?_
   conv => whnf
   exact S_ (by simp [hs])
 all_goals subst h
 all_goals try (exfalso; omega)
 all_goals
  by_cases hs : s = []
  ·subst hs
   refine sx Tryz.func71 kR ?_
   repeat ((conv => whnf); first | refine kT ?_ | refine kF ?_ | refine Q_ false (nlit (b := true) rfl) ?_ | refine Q_ false (lit0 rfl) ?_ | refine ⟨_, oc_ [] ht, ?_⟩ | refine ⟨_, hy_ [] ht, ?_⟩ | refine ⟨_, kt_ [], ?_⟩ | (refine ⟨_, e7_ ⟨6, [], 0, 0⟩ ht, ?_⟩))
   try conv => whnf
   all_goals first
    | (exact S_ rfl)
    | (exact S_ ((bq_ _ _).trans rfl))
    | (exact S_ ((textH0 _).trans rfl))
    | skip
  ·refine sx Tryz.func71 kR ?_
   repeat ((conv => whnf); first | refine kT ?_ | refine kF ?_ | refine Q_ true (nlit (b := false) (by simpa using hs)) ?_ | refine ⟨_, oc_ s ht, ?_⟩ | refine ⟨_, hy_ s ht, ?_⟩ | refine ⟨_, kt_ s, ?_⟩ | (refine ⟨_, e7_ ⟨6, s, 0, 0⟩ ht, ?_⟩))
   try conv => whnf
   all_goals first
    | (refine S_ ?_; simp [X_, hs]; done)
    | (exact S_ ((textH0 _).trans (by simp [X_])))
    | skip
   try
    rintro (_ | _) h
    ·dsimp only at h
     rw [bq_] at h
     conv => whnf
     refine S_ ((bq_ _ _).trans ?_)
     rw [z_]
     simp at h
     simp [X_, sMi, e9_, h]
     exact decide_eq_true_iff.symm
    ·dsimp only at h
     rw [bq_] at h
     conv => whnf
     refine S_ ?_
     simp at h
     simp [X_, sMi, e9_, h]
end
section
open Go.RowKit
theorem x_rparts1 (l : List Nd) (s : Bs) (v : Int) (ks : List Bs) (js : List Int) (_hln : l.length ≤ 8796093022207) (_hjs : js.length ≤ 17592186044415) (hkid : ∀ k ∈ js, ∃ j : Nat, k = ((j : Nat) : Int) ∧ j < l.length) : DCalls Tryz.prog 72 [.sl true 5 (l.map ndD), Nd.V ⟨1, s, v, ks, js⟩] (boo (a6_ l ⟨1, s, v, ks, js⟩)) := by
 have hjl : (js.map ae_).length = js.length := d_ _
 have e : a6_ l ⟨1, s, v, ks, js⟩ = (Y_ 1 js.length && a5_ l 1 0 js) := rfl
 rw [e]
 obtain ⟨F, hF⟩ : ∃ F : Nat → List Int → Bool, F = a5_ l 1 := ⟨_, rfl⟩
 rw [← hF]
 cases hc : Y_ 1 js.length with
 | false =>
  simp [Y_] at hc
  refine sx Tryz.func72 kR ?_
  repeat ((conv => whnf); first | refine kT ?_ | refine kF ?_ | refine Q_ true (by simp [hc]; done) ?_ | refine Q_ true sO ?_)
  (conv => whnf) <;> rfl
 | true =>
 rw [n_]
 have hc : js.length = 0 := by simp [Y_] at hc; simp [hc]
 have hcb : (((js.map ae_).length : Int) != 0) = false := by rw [hjl, hc]; rfl
 refine sx Tryz.func72 kR ?_
 repeat ((conv => whnf); first | refine kT ?_ | refine kF ?_ | refine Q_ false hcb ?_)
 conv => whnf
 refine ⟨[], Nat, fun m => [(7, int m)], fun _ => [], fun m => m ≤ js.length ∧ F m (js.drop m) = F 0 js, fun m => js.length - m, 0, ⟨l_ _, rfl⟩, ?_, ?_⟩
 ·exact eN
 rintro m ⟨hm, hk⟩
 conv => whnf
 rintro (_ | _) h2
 ·have h2 : js.length ≤ m := by simp at h2; omega
  rw [k_ h2] at hk
  rw [← hk, hF]
  (conv => whnf) <;> rfl
 have h2 : m < js.length := by simp at h2; omega
 have hw : IntKind.i64.wrap (((m : Nat) : Int) + 1) = ((m + 1 : Nat) : Int) := R_ oM
 obtain ⟨j, hj1, hj2⟩ := hkid _ (q_ h2)
 have hgj : (js.map ae_)[((m : Nat) : Int).toNat]? = some (ae_ ((j : Nat) : Int)) := by rw [← hj1]; exact W_ ae_ h2
 have hgn : (l.map ndD)[((j : Nat) : Int).toNat]? = some (ndD l[j]) := W_ ndD hj2
 have hka : a4_ l js[m] = l[j].kind := by unfold a4_; rw [hj1, i_, h_ hj2]; rfl
 rw [r_ h2, hF] at hk
 simp only [a5_] at hk
 rw [hka, ← hF] at hk
 conv => whnf
 refine ⟨g_ m, _, hgj, ?_⟩
 conv => whnf
 refine ⟨g_ j, _, hgn, ?_⟩
 repeat ((conv => whnf); first | refine kT ?_ | refine kF ?_)
 simp only [ap_] at hk
 rw [if_neg dC, if_neg sI] at hk
 refine ⟨_, aj_ l[j], ?_⟩
 conv => whnf
 rintro (_ | _) h3
 ·have h3 : an_ l[j].kind = true := by simpa using h3
  rw [h3, n_] at hk
  conv => whnf
  refine ⟨m + 1, ⟨h2, hk⟩, by (try dsimp only); omega, ?_⟩
  exact eA
 ·have h3 : an_ l[j].kind = false := by simpa using h3
  rw [h3, u_] at hk
  rw [← hk]
  (conv => whnf) <;> rfl
theorem x_rparts2 (l : List Nd) (s : Bs) (v : Int) (ks : List Bs) (js : List Int) (_hln : l.length ≤ 8796093022207) (_hjs : js.length ≤ 17592186044415) (hkid : ∀ k ∈ js, ∃ j : Nat, k = ((j : Nat) : Int) ∧ j < l.length) : DCalls Tryz.prog 72 [.sl true 5 (l.map ndD), Nd.V ⟨2, s, v, ks, js⟩] (boo (a6_ l ⟨2, s, v, ks, js⟩)) := by
 have hjl : (js.map ae_).length = js.length := d_ _
 have e : a6_ l ⟨2, s, v, ks, js⟩ = (Y_ 2 js.length && a5_ l 2 0 js) := rfl
 rw [e]
 obtain ⟨F, hF⟩ : ∃ F : Nat → List Int → Bool, F = a5_ l 2 := ⟨_, rfl⟩
 rw [← hF]
 cases hc : Y_ 2 js.length with
 | false =>
  simp [Y_] at hc
  refine sx Tryz.func72 kR ?_
  repeat ((conv => whnf); first | refine kT ?_ | refine kF ?_ | refine Q_ true (by simp [hc]; done) ?_ | refine Q_ true sO ?_)
  (conv => whnf) <;> rfl
 | true =>
 rw [n_]
 have hc : js.length = 0 := by simp [Y_] at hc; simp [hc]
 have hcb : (((js.map ae_).length : Int) != 0) = false := by rw [hjl, hc]; rfl
 refine sx Tryz.func72 kR ?_
 repeat ((conv => whnf); first | refine kT ?_ | refine kF ?_ | refine Q_ false hcb ?_)
 conv => whnf
 refine ⟨[], Nat, fun m => [(7, int m)], fun _ => [], fun m => m ≤ js.length ∧ F m (js.drop m) = F 0 js, fun m => js.length - m, 0, ⟨l_ _, rfl⟩, ?_, ?_⟩
 ·exact eN
 rintro m ⟨hm, hk⟩
 conv => whnf
 rintro (_ | _) h2
 ·have h2 : js.length ≤ m := by simp at h2; omega
  rw [k_ h2] at hk
  rw [← hk, hF]
  (conv => whnf) <;> rfl
 have h2 : m < js.length := by simp at h2; omega
 have hw : IntKind.i64.wrap (((m : Nat) : Int) + 1) = ((m + 1 : Nat) : Int) := R_ oM
 obtain ⟨j, hj1, hj2⟩ := hkid _ (q_ h2)
 have hgj : (js.map ae_)[((m : Nat) : Int).toNat]? = some (ae_ ((j : Nat) : Int)) := by rw [← hj1]; exact W_ ae_ h2
 have hgn : (l.map ndD)[((j : Nat) : Int).toNat]? = some (ndD l[j]) := W_ ndD hj2
 have hka : a4_ l js[m] = l[j].kind := by unfold a4_; rw [hj1, i_, h_ hj2]; rfl
 rw [r_ h2, hF] at hk
 simp only [a5_] at hk
 rw [hka, ← hF] at hk
 conv => whnf
 refine ⟨g_ m, _, hgj, ?_⟩
 conv => whnf
 refine ⟨g_ j, _, hgn, ?_⟩
 repeat ((conv => whnf); first | refine kT ?_ | refine kF ?_)
 simp only [ap_] at hk
 rw [if_neg dC, if_neg sI] at hk
 refine ⟨_, aj_ l[j], ?_⟩
 conv => whnf
 rintro (_ | _) h3
 ·have h3 : an_ l[j].kind = true := by simpa using h3
  rw [h3, n_] at hk
  conv => whnf
  refine ⟨m + 1, ⟨h2, hk⟩, by (try dsimp only); omega, ?_⟩
  exact eA
 ·have h3 : an_ l[j].kind = false := by simpa using h3
  rw [h3, u_] at hk
  rw [← hk]
  (conv => whnf) <;> rfl
theorem x_rparts3 (l : List Nd) (s : Bs) (v : Int) (ks : List Bs) (js : List Int) (_hln : l.length ≤ 8796093022207) (_hjs : js.length ≤ 17592186044415) (hkid : ∀ k ∈ js, ∃ j : Nat, k = ((j : Nat) : Int) ∧ j < l.length) : DCalls Tryz.prog 72 [.sl true 5 (l.map ndD), Nd.V ⟨3, s, v, ks, js⟩] (boo (a6_ l ⟨3, s, v, ks, js⟩)) := by
 have hjl : (js.map ae_).length = js.length := d_ _
 have e : a6_ l ⟨3, s, v, ks, js⟩ = (Y_ 3 js.length && a5_ l 3 0 js) := rfl
 rw [e]
 obtain ⟨F, hF⟩ : ∃ F : Nat → List Int → Bool, F = a5_ l 3 := ⟨_, rfl⟩
 rw [← hF]
 cases hc : Y_ 3 js.length with
 | false =>
  simp [Y_] at hc
  refine sx Tryz.func72 kR ?_
  repeat ((conv => whnf); first | refine kT ?_ | refine kF ?_ | refine Q_ true (by simp [hc]; done) ?_ | refine Q_ true sO ?_)
  (conv => whnf) <;> rfl
 | true =>
 rw [n_]
 have hc : js.length = 0 := by simp [Y_] at hc; simp [hc]
 have hcb : (((js.map ae_).length : Int) != 0) = false := by rw [hjl, hc]; rfl
 refine sx Tryz.func72 kR ?_
 repeat ((conv => whnf); first | refine kT ?_ | refine kF ?_ | refine Q_ false hcb ?_)
 conv => whnf
 refine ⟨[], Nat, fun m => [(7, int m)], fun _ => [], fun m => m ≤ js.length ∧ F m (js.drop m) = F 0 js, fun m => js.length - m, 0, ⟨l_ _, rfl⟩, ?_, ?_⟩
 ·exact eN
 rintro m ⟨hm, hk⟩
 conv => whnf
 rintro (_ | _) h2
 ·have h2 : js.length ≤ m := by simp at h2; omega
  rw [k_ h2] at hk
  rw [← hk, hF]
  (conv => whnf) <;> rfl
 have h2 : m < js.length := by simp at h2; omega
 have hw : IntKind.i64.wrap (((m : Nat) : Int) + 1) = ((m + 1 : Nat) : Int) := R_ oM
 obtain ⟨j, hj1, hj2⟩ := hkid _ (q_ h2)
 have hgj : (js.map ae_)[((m : Nat) : Int).toNat]? = some (ae_ ((j : Nat) : Int)) := by rw [← hj1]; exact W_ ae_ h2
 have hgn : (l.map ndD)[((j : Nat) : Int).toNat]? = some (ndD l[j]) := W_ ndD hj2
 have hka : a4_ l js[m] = l[j].kind := by unfold a4_; rw [hj1, i_, h_ hj2]; rfl
 rw [r_ h2, hF] at hk
 simp only [a5_] at hk
 rw [hka, ← hF] at hk
 conv => whnf
 refine ⟨g_ m, _, hgj, ?_⟩
 conv => whnf
 refine ⟨g_ j, _, hgn, ?_⟩
 repeat ((conv => whnf); first | refine kT ?_ | refine kF ?_)
 simp only [ap_] at hk
 rw [if_neg dC, if_neg sI] at hk
 refine ⟨_, aj_ l[j], ?_⟩
 conv => whnf
 rintro (_ | _) h3
 ·have h3 : an_ l[j].kind = true := by simpa using h3
  rw [h3, n_] at hk
  conv => whnf
  refine ⟨m + 1, ⟨h2, hk⟩, by (try dsimp only); omega, ?_⟩
  exact eA
 ·have h3 : an_ l[j].kind = false := by simpa using h3
  rw [h3, u_] at hk
  rw [← hk]
  (conv => whnf) <;> rfl
theorem x_rparts4 (l : List Nd) (s : Bs) (v : Int) (ks : List Bs) (js : List Int) (_hln : l.length ≤ 8796093022207) (_hjs : js.length ≤ 17592186044415) (hkid : ∀ k ∈ js, ∃ j : Nat, k = ((j : Nat) : Int) ∧ j < l.length) : DCalls Tryz.prog 72 [.sl true 5 (l.map ndD), Nd.V ⟨4, s, v, ks, js⟩] (boo (a6_ l ⟨4, s, v, ks, js⟩)) := by
 have hjl : (js.map ae_).length = js.length := d_ _
 have e : a6_ l ⟨4, s, v, ks, js⟩ = (Y_ 4 js.length && a5_ l 4 0 js) := rfl
 rw [e]
 obtain ⟨F, hF⟩ : ∃ F : Nat → List Int → Bool, F = a5_ l 4 := ⟨_, rfl⟩
 rw [← hF]
 cases hc : Y_ 4 js.length with
 | false =>
  simp [Y_] at hc
  refine sx Tryz.func72 kR ?_
  repeat ((conv => whnf); first | refine kT ?_ | refine kF ?_ | refine Q_ true (by simp [hc]; done) ?_ | refine Q_ true sO ?_)
  (conv => whnf) <;> rfl
 | true =>
 rw [n_]
 have hc : js.length = 0 := by simp [Y_] at hc; simp [hc]
 have hcb : (((js.map ae_).length : Int) != 0) = false := by rw [hjl, hc]; rfl
 refine sx Tryz.func72 kR ?_
 repeat ((conv => whnf); first | refine kT ?_ | refine kF ?_ | refine Q_ false hcb ?_)
 conv => whnf
 refine ⟨[], Nat, fun m => [(7, int m)], fun _ => [], fun m => m ≤ js.length ∧ F m (js.drop m) = F 0 js, fun m => js.length - m, 0, ⟨l_ _, rfl⟩, ?_, ?_⟩
 ·exact eN
 rintro m ⟨hm, hk⟩
 conv => whnf
 rintro (_ | _) h2
 ·have h2 : js.length ≤ m := by simp at h2; omega
  rw [k_ h2] at hk
  rw [← hk, hF]
  (conv => whnf) <;> rfl
 have h2 : m < js.length := by simp at h2; omega
 have hw : IntKind.i64.wrap (((m : Nat) : Int) + 1) = ((m + 1 : Nat) : Int) := R_ oM
 obtain ⟨j, hj1, hj2⟩ := hkid _ (q_ h2)
 have hgj : (js.map ae_)[((m : Nat) : Int).toNat]? = some (ae_ ((j : Nat) : Int)) := by rw [← hj1]; exact W_ ae_ h2
 have hgn : (l.map ndD)[((j : Nat) : Int).toNat]? = some (ndD l[j]) := W_ ndD hj2
 have hka : a4_ l js[m] = l[j].kind := by unfold a4_; rw [hj1, i_, h_ hj2]; rfl
 rw [r_ h2, hF] at hk
 simp only [a5_] at hk
 rw [hka, ← hF] at hk
 conv => whnf
 refine ⟨g_ m, _, hgj, ?_⟩
 conv => whnf
 refine ⟨g_ j, _, hgn, ?_⟩
 repeat ((conv => whnf); first | refine kT ?_ | refine kF ?_)
 simp only [ap_] at hk
 rw [if_neg dC, if_neg sI] at hk
 refine ⟨_, aj_ l[j], ?_⟩
 conv => whnf
 rintro (_ | _) h3
 ·have h3 : an_ l[j].kind = true := by simpa using h3
  rw [h3, n_] at hk
  conv => whnf
  refine ⟨m + 1, ⟨h2, hk⟩, by (try dsimp only); omega, ?_⟩
  exact eA
 ·have h3 : an_ l[j].kind = false := by simpa using h3
  rw [h3, u_] at hk
  rw [← hk]
  (conv => whnf) <;> rfl
theorem x_rparts5 (l : List Nd) (s : Bs) (v : Int) (ks : List Bs) (js : List Int) (_hln : l.length ≤ 8796093022207) (_hjs : js.length ≤ 17592186044415) (hkid : ∀ k ∈ js, ∃ j : Nat, k = ((j : Nat) : Int) ∧ j < l.length) : DCalls Tryz.prog 72 [.sl true 5 (l.map ndD), Nd.V ⟨5, s, v, ks, js⟩] (boo (a6_ l ⟨5, s, v, ks, js⟩)) := by
 have hjl : (js.map ae_).length = js.length := d_ _
 have e : a6_ l ⟨5, s, v, ks, js⟩ = (Y_ 5 js.length && a5_ l 5 0 js) := rfl
 rw [e]
 obtain ⟨F, hF⟩ : ∃ F : Nat → List Int → Bool, F = a5_ l 5 := ⟨_, rfl⟩
 rw [← hF]
 cases hc : Y_ 5 js.length with
 | false =>
  simp [Y_] at hc
  refine sx Tryz.func72 kR ?_
  repeat ((conv => whnf); first | refine kT ?_ | refine kF ?_ | refine Q_ true (by simp [hc]; done) ?_ | refine Q_ true sO ?_)
  (conv => whnf) <;> rfl
 | true =>
 rw [n_]
 have hc : js.length = 0 := by simp [Y_] at hc; simp [hc]
 have hcb : (((js.map ae_).length : Int) != 0) = false := by rw [hjl, hc]; rfl
 refine sx Tryz.func72 kR ?_
 repeat ((conv => whnf); first | refine kT ?_ | refine kF ?_ | refine Q_ false hcb ?_)
 conv => whnf
 refine ⟨[], Nat, fun m => [(7, int m)], fun _ => [], fun m => m ≤ js.length ∧ F m (js.drop m) = F 0 js, fun m => js.length - m, 0, ⟨l_ _, rfl⟩, ?_, ?_⟩
 ·exact eN
 rintro m ⟨hm, hk⟩
 conv => whnf
 rintro (_ | _) h2
 ·have h2 : js.length ≤ m := by simp at h2; omega
  rw [k_ h2] at hk
  rw [← hk, hF]
  (conv => whnf) <;> rfl
 have h2 : m < js.length := by simp at h2; omega
 have hw : IntKind.i64.wrap (((m : Nat) : Int) + 1) = ((m + 1 : Nat) : Int) := R_ oM
 obtain ⟨j, hj1, hj2⟩ := hkid _ (q_ h2)
 have hgj : (js.map ae_)[((m : Nat) : Int).toNat]? = some (ae_ ((j : Nat) : Int)) := by rw [← hj1]; exact W_ ae_ h2
 have hgn : (l.map ndD)[((j : Nat) : Int).toNat]? = some (ndD l[j]) := W_ ndD hj2
 have hka : a4_ l js[m] = l[j].kind := by unfold a4_; rw [hj1, i_, h_ hj2]; rfl
 rw [r_ h2, hF] at hk
 simp only [a5_] at hk
 rw [hka, ← hF] at hk
 conv => whnf
 refine ⟨g_ m, _, hgj, ?_⟩
 conv => whnf
 refine ⟨g_ j, _, hgn, ?_⟩
 repeat ((conv => whnf); first | refine kT ?_ | refine kF ?_)
 simp only [ap_] at hk
 rw [if_neg dC, if_neg sI] at hk
 refine ⟨_, aj_ l[j], ?_⟩
 conv => whnf
 rintro (_ | _) h3
 ·have h3 : an_ l[j].kind = true := by simpa using h3
  rw [h3, n_] at hk
  conv => whnf
  refine ⟨m + 1, ⟨h2, hk⟩, by (try dsimp only); omega, ?_⟩
  exact eA
 ·have h3 : an_ l[j].kind = false := by simpa using h3
  rw [h3, u_] at hk
  rw [← hk]
  (conv => whnf) <;> rfl
theorem x_rparts6 (l : List Nd) (s : Bs) (v : Int) (ks : List Bs) (js : List Int) (_hln : l.length ≤ 8796093022207) (hjs : js.length ≤ 17592186044415) (hkid : ∀ k ∈ js, ∃ j : Nat, k = ((j : Nat) : Int) ∧ j < l.length) : DCalls Tryz.prog 72 [.sl true 5 (l.map ndD), Nd.V ⟨6, s, v, ks, js⟩] (boo (a6_ l ⟨6, s, v, ks, js⟩)) := by
 have hjl : (js.map ae_).length = js.length := d_ _
 have e : a6_ l ⟨6, s, v, ks, js⟩ = (Y_ 6 js.length && a5_ l 6 0 js) := rfl
 rw [e]
 obtain ⟨F, hF⟩ : ∃ F : Nat → List Int → Bool, F = a5_ l 6 := ⟨_, rfl⟩
 rw [← hF]
 rw [show Y_ 6 js.length = true by simp [Y_], n_]
 refine sx Tryz.func72 kR ?_
 repeat ((conv => whnf); first | refine kT ?_ | refine kF ?_)
 conv => whnf
 refine ⟨[], Nat, fun m => [(7, int m)], fun _ => [], fun m => m ≤ js.length ∧ F m (js.drop m) = F 0 js, fun m => js.length - m, 0, ⟨l_ _, rfl⟩, ?_, ?_⟩
 ·exact eN
 rintro m ⟨hm, hk⟩
 conv => whnf
 rintro (_ | _) h2
 ·have h2 : js.length ≤ m := by simp at h2; omega
  rw [k_ h2] at hk
  rw [← hk, hF]
  (conv => whnf) <;> rfl
 have h2 : m < js.length := by simp at h2; omega
 have hw : IntKind.i64.wrap (((m : Nat) : Int) + 1) = ((m + 1 : Nat) : Int) := R_ oM
 obtain ⟨j, hj1, hj2⟩ := hkid _ (q_ h2)
 have hgj : (js.map ae_)[((m : Nat) : Int).toNat]? = some (ae_ ((j : Nat) : Int)) := by rw [← hj1]; exact W_ ae_ h2
 have hgn : (l.map ndD)[((j : Nat) : Int).toNat]? = some (ndD l[j]) := W_ ndD hj2
 have hka : a4_ l js[m] = l[j].kind := by unfold a4_; rw [hj1, i_, h_ hj2]; rfl
 rw [r_ h2, hF] at hk
 simp only [a5_] at hk
 rw [hka, ← hF] at hk
 conv => whnf
 refine ⟨g_ m, _, hgj, ?_⟩
 conv => whnf
 refine ⟨g_ j, _, hgn, ?_⟩
 repeat ((conv => whnf); first | refine kT ?_ | refine kF ?_)
 simp only [ap_] at hk
 rw [if_neg dC, if_neg sI] at hk
 refine ⟨_, aj_ l[j], ?_⟩
 conv => whnf
 rintro (_ | _) h3
 ·have h3 : an_ l[j].kind = true := by simpa using h3
  rw [h3, n_] at hk
  conv => whnf
  refine ⟨m + 1, ⟨h2, hk⟩, by (try dsimp only); omega, ?_⟩
  exact eA
 ·have h3 : an_ l[j].kind = false := by simpa using h3
  rw [h3, u_] at hk
  rw [← hk]
  (conv => whnf) <;> rfl
theorem x_rparts7 (l : List Nd) (s : Bs) (v : Int) (ks : List Bs) (js : List Int) (_hln : l.length ≤ 8796093022207) (hjs : js.length ≤ 17592186044415) (hkid : ∀ k ∈ js, ∃ j : Nat, k = ((j : Nat) : Int) ∧ j < l.length) : DCalls Tryz.prog 72 [.sl true 5 (l.map ndD), Nd.V ⟨7, s, v, ks, js⟩] (boo (a6_ l ⟨7, s, v, ks, js⟩)) := by
 have hjl : (js.map ae_).length = js.length := d_ _
 have e : a6_ l ⟨7, s, v, ks, js⟩ = (Y_ 7 js.length && a5_ l 7 0 js) := rfl
 rw [e]
 obtain ⟨F, hF⟩ : ∃ F : Nat → List Int → Bool, F = a5_ l 7 := ⟨_, rfl⟩
 rw [← hF]
 rw [show Y_ 7 js.length = true by simp [Y_], n_]
 refine sx Tryz.func72 kR ?_
 repeat ((conv => whnf); first | refine kT ?_ | refine kF ?_)
 conv => whnf
 refine ⟨[], Nat, fun m => [(7, int m)], fun _ => [], fun m => m ≤ js.length ∧ F m (js.drop m) = F 0 js, fun m => js.length - m, 0, ⟨l_ _, rfl⟩, ?_, ?_⟩
 ·exact eN
 rintro m ⟨hm, hk⟩
 conv => whnf
 rintro (_ | _) h2
 ·have h2 : js.length ≤ m := by simp at h2; omega
  rw [k_ h2] at hk
  rw [← hk, hF]
  (conv => whnf) <;> rfl
 have h2 : m < js.length := by simp at h2; omega
 have hw : IntKind.i64.wrap (((m : Nat) : Int) + 1) = ((m + 1 : Nat) : Int) := R_ oM
 obtain ⟨j, hj1, hj2⟩ := hkid _ (q_ h2)
 have hgj : (js.map ae_)[((m : Nat) : Int).toNat]? = some (ae_ ((j : Nat) : Int)) := by rw [← hj1]; exact W_ ae_ h2
 have hgn : (l.map ndD)[((j : Nat) : Int).toNat]? = some (ndD l[j]) := W_ ndD hj2
 have hka : a4_ l js[m] = l[j].kind := by unfold a4_; rw [hj1, i_, h_ hj2]; rfl
 rw [r_ h2, hF] at hk
 simp only [a5_] at hk
 rw [hka, ← hF] at hk
 conv => whnf
 refine ⟨g_ m, _, hgj, ?_⟩
 conv => whnf
 refine ⟨g_ j, _, hgn, ?_⟩
 repeat ((conv => whnf); first | refine kT ?_ | refine kF ?_)
 simp only [ap_] at hk
 rw [if_neg dC, if_neg sI] at hk
 refine ⟨_, aj_ l[j], ?_⟩
 conv => whnf
 rintro (_ | _) h3
 ·have h3 : an_ l[j].kind = true := by simpa using h3
  rw [h3, n_] at hk
  conv => whnf
  refine ⟨m + 1, ⟨h2, hk⟩, by (try dsimp only); omega, ?_⟩
  exact eA
 ·have h3 : an_ l[j].kind = false := by simpa using h3
  rw [h3, u_] at hk
  rw [← hk]
  (conv => whnf) <;> rfl
end
end Go.Proofs.YtglndfgmlminpaaGreatDoor
