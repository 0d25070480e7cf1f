/- Texts joined by pack.py: XSyWMb XSyWMc XSyWMd XSyWM -/
import Derived.Test.YtglndfgmlminpaaGreatDoorSq46
set_option maxHeartbeats 16000000
set_option maxRecDepth 100000
namespace Go.Proofs.YtglndfgmlminpaaGreatDoor
section
open Go.RowKit
theorem x_rparts8 (l : List Nd) (s : Bs) (v : Int) (ks : List Bs) (js : List Int) (_hln : l.length ≤ 8796093022207) (_hjs : js.length ≤ 17592186044415) (hkid : ∀ k ∈ js, ∃ j : Nat, k = ((j : Nat) : Int) ∧ j < l.length) : DCalls Tryz.prog 72 [.sl true 5 (l.map ndD), Nd.V ⟨8, s, v, ks, js⟩] (boo (a6_ l ⟨8, s, v, ks, js⟩)) := by
 have hjl : (js.map ae_).length = js.length := d_ _
 have e : a6_ l ⟨8, s, v, ks, js⟩ = (Y_ 8 js.length && a5_ l 8 0 js) := rfl
 rw [e]
 obtain ⟨F, hF⟩ : ∃ F : Nat → List Int → Bool, F = a5_ l 8 := ⟨_, rfl⟩
 rw [← hF]
 cases hc : Y_ 8 js.length with
 | false =>
  simp [Y_] at hc
  have hcF1 : (((js.map ae_).length : Int) != 1) = true := by rw [hjl, bne_iff_ne]; have hc' := hc; (try simp at hc'); omega
  refine sx Tryz.func72 kR ?_
  repeat ((conv => whnf); first | refine kT ?_ | refine kF ?_ | refine Q_ true hcF1 ?_)
  (conv => whnf) <;> rfl
 | true =>
 rw [n_]
 have hc : js.length = 1 := by simp [Y_] at hc; simp [hc]
 have hcb : (((js.map ae_).length : Int) != 1) = false := by rw [hjl, hc]; rfl
 refine sx Tryz.func72 kR ?_
 repeat ((conv => whnf); first | refine kT ?_ | refine kF ?_ | refine Q_ false hcb ?_)
 conv => whnf
 refine ⟨[], Nat, fun m => [(7, int m)], fun _ => [], fun m => m ≤ js.length ∧ F m (js.drop m) = F 0 js, fun m => js.length - m, 0, ⟨l_ _, rfl⟩, ?_, ?_⟩
 ·exact eN
 rintro m ⟨hm, hk⟩
 conv => whnf
 rintro (_ | _) h2
 ·have h2 : js.length ≤ m := by simp at h2; omega
  rw [k_ h2] at hk
  rw [← hk, hF]
  (conv => whnf) <;> rfl
 have h2 : m < js.length := by simp at h2; omega
 have hw : IntKind.i64.wrap (((m : Nat) : Int) + 1) = ((m + 1 : Nat) : Int) := R_ oM
 obtain ⟨j, hj1, hj2⟩ := hkid _ (q_ h2)
 have hgj : (js.map ae_)[((m : Nat) : Int).toNat]? = some (ae_ ((j : Nat) : Int)) := by rw [← hj1]; exact W_ ae_ h2
 have hgn : (l.map ndD)[((j : Nat) : Int).toNat]? = some (ndD l[j]) := W_ ndD hj2
 have hka : a4_ l js[m] = l[j].kind := by unfold a4_; rw [hj1, i_, h_ hj2]; rfl
 rw [r_ h2, hF] at hk
 simp only [a5_] at hk
 rw [hka, ← hF] at hk
 conv => whnf
 refine ⟨g_ m, _, hgj, ?_⟩
 conv => whnf
 refine ⟨g_ j, _, hgn, ?_⟩
 repeat ((conv => whnf); first | refine kT ?_ | refine kF ?_)
 simp only [ap_] at hk
 rw [if_neg dC, if_neg sI] at hk
 refine ⟨_, aj_ l[j], ?_⟩
 conv => whnf
 rintro (_ | _) h3
 ·have h3 : an_ l[j].kind = true := by simpa using h3
  rw [h3, n_] at hk
  conv => whnf
  refine ⟨m + 1, ⟨h2, hk⟩, by (try dsimp only); omega, ?_⟩
  exact eA
 ·have h3 : an_ l[j].kind = false := by simpa using h3
  rw [h3, u_] at hk
  rw [← hk]
  (conv => whnf) <;> rfl
theorem x_rparts9 (l : List Nd) (s : Bs) (v : Int) (ks : List Bs) (js : List Int) (_hln : l.length ≤ 8796093022207) (_hjs : js.length ≤ 17592186044415) (hkid : ∀ k ∈ js, ∃ j : Nat, k = ((j : Nat) : Int) ∧ j < l.length) : DCalls Tryz.prog 72 [.sl true 5 (l.map ndD), Nd.V ⟨9, s, v, ks, js⟩] (boo (a6_ l ⟨9, s, v, ks, js⟩)) := by
 have hjl : (js.map ae_).length = js.length := d_ _
 have e : a6_ l ⟨9, s, v, ks, js⟩ = (Y_ 9 js.length && a5_ l 9 0 js) := rfl
 rw [e]
 obtain ⟨F, hF⟩ : ∃ F : Nat → List Int → Bool, F = a5_ l 9 := ⟨_, rfl⟩
 rw [← hF]
 cases hc : Y_ 9 js.length with
 | false =>
  simp [Y_] at hc
  have hcF2 : (((js.map ae_).length : Int) != 2) = true := by rw [hjl, bne_iff_ne]; have hc' := hc; (try simp at hc'); omega
  refine sx Tryz.func72 kR ?_
  repeat ((conv => whnf); first | refine kT ?_ | refine kF ?_ | refine Q_ true hcF2 ?_)
  (conv => whnf) <;> rfl
 | true =>
 rw [n_]
 have hc : js.length = 2 := by simp [Y_] at hc; simp [hc]
 have hcb : (((js.map ae_).length : Int) != 2) = false := by rw [hjl, hc]; rfl
 refine sx Tryz.func72 kR ?_
 repeat ((conv => whnf); first | refine kT ?_ | refine kF ?_ | refine Q_ false hcb ?_)
 conv => whnf
 refine ⟨[], Nat, fun m => [(7, int m)], fun _ => [], fun m => m ≤ js.length ∧ F m (js.drop m) = F 0 js, fun m => js.length - m, 0, ⟨l_ _, rfl⟩, ?_, ?_⟩
 ·exact eN
 rintro m ⟨hm, hk⟩
 conv => whnf
 rintro (_ | _) h2
 ·have h2 : js.length ≤ m := by simp at h2; omega
  rw [k_ h2] at hk
  rw [← hk, hF]
  (conv => whnf) <;> rfl
 have h2 : m < js.length := by simp at h2; omega
 have hw : IntKind.i64.wrap (((m : Nat) : Int) + 1) = ((m + 1 : Nat) : Int) := R_ oM
 obtain ⟨j, hj1, hj2⟩ := hkid _ (q_ h2)
 have hgj : (js.map ae_)[((m : Nat) : Int).toNat]? = some (ae_ ((j : Nat) : Int)) := by rw [← hj1]; exact W_ ae_ h2
 have hgn : (l.map ndD)[((j : Nat) : Int).toNat]? = some (ndD l[j]) := W_ ndD hj2
 have hka : a4_ l js[m] = l[j].kind := by unfold a4_; rw [hj1, i_, h_ hj2]; rfl
 rw [r_ h2, hF] at hk
 simp only [a5_] at hk
 rw [hka, ← hF] at hk
 conv => whnf
 refine ⟨g_ m, _, hgj, ?_⟩
 conv => whnf
 refine ⟨g_ j, _, hgn, ?_⟩
 repeat ((conv => whnf); first | refine kT ?_ | refine kF ?_)
 simp only [ap_] at hk
 rw [if_neg dC, if_neg sI] at hk
 refine ⟨_, aj_ l[j], ?_⟩
 conv => whnf
 rintro (_ | _) h3
 ·have h3 : an_ l[j].kind = true := by simpa using h3
  rw [h3, n_] at hk
  conv => whnf
  refine ⟨m + 1, ⟨h2, hk⟩, by (try dsimp only); omega, ?_⟩
  exact eA
 ·have h3 : an_ l[j].kind = false := by simpa using h3
  rw [h3, u_] at hk
  rw [← hk]
  (conv => whnf) <;> rfl
theorem x_rparts10 (l : List Nd) (s : Bs) (v : Int) (ks : List Bs) (js : List Int) (_hln : l.length ≤ 8796093022207) (_hjs : js.length ≤ 17592186044415) (hkid : ∀ k ∈ js, ∃ j : Nat, k = ((j : Nat) : Int) ∧ j < l.length) : DCalls Tryz.prog 72 [.sl true 5 (l.map ndD), Nd.V ⟨10, s, v, ks, js⟩] (boo (a6_ l ⟨10, s, v, ks, js⟩)) := by
 have hjl : (js.map ae_).length = js.length := d_ _
 have e : a6_ l ⟨10, s, v, ks, js⟩ = (Y_ 10 js.length && a5_ l 10 0 js) := rfl
 rw [e]
 obtain ⟨F, hF⟩ : ∃ F : Nat → List Int → Bool, F = a5_ l 10 := ⟨_, rfl⟩
 rw [← hF]
 cases hc : Y_ 10 js.length with
 | false =>
  simp [Y_] at hc
  have hcF2 : (((js.map ae_).length : Int) != 2) = true := by rw [hjl, bne_iff_ne]; have hc' := hc; (try simp at hc'); omega
  refine sx Tryz.func72 kR ?_
  repeat ((conv => whnf); first | refine kT ?_ | refine kF ?_ | refine Q_ true hcF2 ?_)
  (conv => whnf) <;> rfl
 | true =>
 rw [n_]
 have hc : js.length = 2 := by simp [Y_] at hc; simp [hc]
 have hcb : (((js.map ae_).length : Int) != 2) = false := by rw [hjl, hc]; rfl
 refine sx Tryz.func72 kR ?_
 repeat ((conv => whnf); first | refine kT ?_ | refine kF ?_ | refine Q_ false hcb ?_)
 conv => whnf
 refine ⟨[], Nat, fun m => [(7, int m)], fun _ => [], fun m => m ≤ js.length ∧ F m (js.drop m) = F 0 js, fun m => js.length - m, 0, ⟨l_ _, rfl⟩, ?_, ?_⟩
 ·exact eN
 rintro m ⟨hm, hk⟩
 conv => whnf
 rintro (_ | _) h2
 ·have h2 : js.length ≤ m := by simp at h2; omega
  rw [k_ h2] at hk
  rw [← hk, hF]
  (conv => whnf) <;> rfl
 have h2 : m < js.length := by simp at h2; omega
 have hw : IntKind.i64.wrap (((m : Nat) : Int) + 1) = ((m + 1 : Nat) : Int) := R_ oM
 obtain ⟨j, hj1, hj2⟩ := hkid _ (q_ h2)
 have hgj : (js.map ae_)[((m : Nat) : Int).toNat]? = some (ae_ ((j : Nat) : Int)) := by rw [← hj1]; exact W_ ae_ h2
 have hgn : (l.map ndD)[((j : Nat) : Int).toNat]? = some (ndD l[j]) := W_ ndD hj2
 have hka : a4_ l js[m] = l[j].kind := by unfold a4_; rw [hj1, i_, h_ hj2]; rfl
 rw [r_ h2, hF] at hk
 simp only [a5_] at hk
 rw [hka, ← hF] at hk
 conv => whnf
 refine ⟨g_ m, _, hgj, ?_⟩
 conv => whnf
 refine ⟨g_ j, _, hgn, ?_⟩
 repeat ((conv => whnf); first | refine kT ?_ | refine kF ?_)
 simp only [ap_] at hk
 rw [if_neg dC, if_neg sI] at hk
 refine ⟨_, aj_ l[j], ?_⟩
 conv => whnf
 rintro (_ | _) h3
 ·have h3 : an_ l[j].kind = true := by simpa using h3
  rw [h3, n_] at hk
  conv => whnf
  refine ⟨m + 1, ⟨h2, hk⟩, by (try dsimp only); omega, ?_⟩
  exact eA
 ·have h3 : an_ l[j].kind = false := by simpa using h3
  rw [h3, u_] at hk
  rw [← hk]
  (conv => whnf) <;> rfl
theorem x_rparts11 (l : List Nd) (s : Bs) (v : Int) (ks : List Bs) (js : List Int) (_hln : l.length ≤ 8796093022207) (hjs : js.length ≤ 17592186044415) (hkid : ∀ k ∈ js, ∃ j : Nat, k = ((j : Nat) : Int) ∧ j < l.length) : DCalls Tryz.prog 72 [.sl true 5 (l.map ndD), Nd.V ⟨11, s, v, ks, js⟩] (boo (a6_ l ⟨11, s, v, ks, js⟩)) := by
 have hjl : (js.map ae_).length = js.length := d_ _
 have e : a6_ l ⟨11, s, v, ks, js⟩ = (Y_ 11 js.length && a5_ l 11 0 js) := rfl
 rw [e]
 obtain ⟨F, hF⟩ : ∃ F : Nat → List Int → Bool, F = a5_ l 11 := ⟨_, rfl⟩
 rw [← hF]
 rw [show Y_ 11 js.length = true by simp [Y_], n_]
 refine sx Tryz.func72 kR ?_
 repeat ((conv => whnf); first | refine kT ?_ | refine kF ?_)
 conv => whnf
 refine ⟨[], Nat, fun m => [(7, int m)], fun _ => [], fun m => m ≤ js.length ∧ F m (js.drop m) = F 0 js, fun m => js.length - m, 0, ⟨l_ _, rfl⟩, ?_, ?_⟩
 ·exact eN
 rintro m ⟨hm, hk⟩
 conv => whnf
 rintro (_ | _) h2
 ·have h2 : js.length ≤ m := by simp at h2; omega
  rw [k_ h2] at hk
  rw [← hk, hF]
  (conv => whnf) <;> rfl
 have h2 : m < js.length := by simp at h2; omega
 have hw : IntKind.i64.wrap (((m : Nat) : Int) + 1) = ((m + 1 : Nat) : Int) := R_ oM
 obtain ⟨j, hj1, hj2⟩ := hkid _ (q_ h2)
 have hgj : (js.map ae_)[((m : Nat) : Int).toNat]? = some (ae_ ((j : Nat) : Int)) := by rw [← hj1]; exact W_ ae_ h2
 have hgn : (l.map ndD)[((j : Nat) : Int).toNat]? = some (ndD l[j]) := W_ ndD hj2
 have hka : a4_ l js[m] = l[j].kind := by unfold a4_; rw [hj1, i_, h_ hj2]; rfl
 rw [r_ h2, hF] at hk
 simp only [a5_] at hk
 rw [hka, ← hF] at hk
 conv => whnf
 refine ⟨g_ m, _, hgj, ?_⟩
 conv => whnf
 refine ⟨g_ j, _, hgn, ?_⟩
 repeat ((conv => whnf); first | refine kT ?_ | refine kF ?_)
 simp only [ap_] at hk
 rw [if_neg dC, if_neg sI] at hk
 refine ⟨_, aj_ l[j], ?_⟩
 conv => whnf
 rintro (_ | _) h3
 ·have h3 : an_ l[j].kind = true := by simpa using h3
  rw [h3, n_] at hk
  conv => whnf
  refine ⟨m + 1, ⟨h2, hk⟩, by (try dsimp only); omega, ?_⟩
  exact eA
 ·have h3 : an_ l[j].kind = false := by simpa using h3
  rw [h3, u_] at hk
  rw [← hk]
  (conv => whnf) <;> rfl
theorem x_rparts12 (l : List Nd) (s : Bs) (v : Int) (ks : List Bs) (js : List Int) (_hln : l.length ≤ 8796093022207) (hjs : js.length ≤ 17592186044415) (hkid : ∀ k ∈ js, ∃ j : Nat, k = ((j : Nat) : Int) ∧ j < l.length) : DCalls Tryz.prog 72 [.sl true 5 (l.map ndD), Nd.V ⟨12, s, v, ks, js⟩] (boo (a6_ l ⟨12, s, v, ks, js⟩)) := by
 have hjl : (js.map ae_).length = js.length := d_ _
 have e : a6_ l ⟨12, s, v, ks, js⟩ = (Y_ 12 js.length && a5_ l 12 0 js) := rfl
 rw [e]
 obtain ⟨F, hF⟩ : ∃ F : Nat → List Int → Bool, F = a5_ l 12 := ⟨_, rfl⟩
 rw [← hF]
 rw [show Y_ 12 js.length = true by simp [Y_], n_]
 refine sx Tryz.func72 kR ?_
 repeat ((conv => whnf); first | refine kT ?_ | refine kF ?_)
 conv => whnf
 refine ⟨[], Nat, fun m => [(7, int m)], fun _ => [], fun m => m ≤ js.length ∧ F m (js.drop m) = F 0 js, fun m => js.length - m, 0, ⟨l_ _, rfl⟩, ?_, ?_⟩
 ·exact eN
 rintro m ⟨hm, hk⟩
 conv => whnf
 rintro (_ | _) h2
 ·have h2 : js.length ≤ m := by simp at h2; omega
  rw [k_ h2] at hk
  rw [← hk, hF]
  (conv => whnf) <;> rfl
 have h2 : m < js.length := by simp at h2; omega
 have hw : IntKind.i64.wrap (((m : Nat) : Int) + 1) = ((m + 1 : Nat) : Int) := R_ oM
 obtain ⟨j, hj1, hj2⟩ := hkid _ (q_ h2)
 have hgj : (js.map ae_)[((m : Nat) : Int).toNat]? = some (ae_ ((j : Nat) : Int)) := by rw [← hj1]; exact W_ ae_ h2
 have hgn : (l.map ndD)[((j : Nat) : Int).toNat]? = some (ndD l[j]) := W_ ndD hj2
 have hka : a4_ l js[m] = l[j].kind := by unfold a4_; rw [hj1, i_, h_ hj2]; rfl
 rw [r_ h2, hF] at hk
 simp only [a5_] at hk
 rw [hka, ← hF] at hk
 conv => whnf
 refine ⟨g_ m, _, hgj, ?_⟩
 conv => whnf
 refine ⟨g_ j, _, hgn, ?_⟩
 repeat ((conv => whnf); first | refine kT ?_ | refine kF ?_)
 simp only [ap_] at hk
 rw [if_neg dC, if_neg sI] at hk
 refine ⟨_, aj_ l[j], ?_⟩
 conv => whnf
 rintro (_ | _) h3
 ·have h3 : an_ l[j].kind = true := by simpa using h3
  rw [h3, n_] at hk
  conv => whnf
  refine ⟨m + 1, ⟨h2, hk⟩, by (try dsimp only); omega, ?_⟩
  exact eA
 ·have h3 : an_ l[j].kind = false := by simpa using h3
  rw [h3, u_] at hk
  rw [← hk]
  (conv => whnf) <;> rfl
end
section
open Go.RowKit
theorem x_rparts13 (l : List Nd) (s : Bs) (v : Int) (ks : List Bs) (js : List Int) (_hln : l.length ≤ 8796093022207) (_hjs : js.length ≤ 17592186044415) (hkid : ∀ k ∈ js, ∃ j : Nat, k = ((j : Nat) : Int) ∧ j < l.length) : DCalls Tryz.prog 72 [.sl true 5 (l.map ndD), Nd.V ⟨13, s, v, ks, js⟩] (boo (a6_ l ⟨13, s, v, ks, js⟩)) := by
 have hjl : (js.map ae_).length = js.length := d_ _
 have e : a6_ l ⟨13, s, v, ks, js⟩ = (Y_ 13 js.length && a5_ l 13 0 js) := rfl
 rw [e]
 obtain ⟨F, hF⟩ : ∃ F : Nat → List Int → Bool, F = a5_ l 13 := ⟨_, rfl⟩
 rw [← hF]
 cases hc : Y_ 13 js.length with
 | false =>
  simp [Y_] at hc
  have hcF1 : (((js.map ae_).length : Int) != 1) = true := by rw [hjl, bne_iff_ne]; have hc' := hc; (try simp at hc'); omega
  refine sx Tryz.func72 kR ?_
  repeat ((conv => whnf); first | refine kT ?_ | refine kF ?_ | refine Q_ true hcF1 ?_)
  (conv => whnf) <;> rfl
 | true =>
 rw [n_]
 have hc : js.length = 1 := by simp [Y_] at hc; simp [hc]
 have hcb : (((js.map ae_).length : Int) != 1) = false := by rw [hjl, hc]; rfl
 refine sx Tryz.func72 kR ?_
 repeat ((conv => whnf); first | refine kT ?_ | refine kF ?_ | refine Q_ false hcb ?_)
 conv => whnf
 refine ⟨[], Nat, fun m => [(7, int m)], fun _ => [], fun m => m ≤ js.length ∧ F m (js.drop m) = F 0 js, fun m => js.length - m, 0, ⟨l_ _, rfl⟩, ?_, ?_⟩
 ·exact eN
 rintro m ⟨hm, hk⟩
 conv => whnf
 rintro (_ | _) h2
 ·have h2 : js.length ≤ m := by simp at h2; omega
  rw [k_ h2] at hk
  rw [← hk, hF]
  (conv => whnf) <;> rfl
 have h2 : m < js.length := by simp at h2; omega
 have hw : IntKind.i64.wrap (((m : Nat) : Int) + 1) = ((m + 1 : Nat) : Int) := R_ oM
 obtain ⟨j, hj1, hj2⟩ := hkid _ (q_ h2)
 have hgj : (js.map ae_)[((m : Nat) : Int).toNat]? = some (ae_ ((j : Nat) : Int)) := by rw [← hj1]; exact W_ ae_ h2
 have hgn : (l.map ndD)[((j : Nat) : Int).toNat]? = some (ndD l[j]) := W_ ndD hj2
 have hka : a4_ l js[m] = l[j].kind := by unfold a4_; rw [hj1, i_, h_ hj2]; rfl
 rw [r_ h2, hF] at hk
 simp only [a5_] at hk
 rw [hka, ← hF] at hk
 conv => whnf
 refine ⟨g_ m, _, hgj, ?_⟩
 conv => whnf
 refine ⟨g_ j, _, hgn, ?_⟩
 repeat ((conv => whnf); first | refine kT ?_ | refine kF ?_)
 simp only [ap_] at hk
 rw [if_neg dC, if_neg sI] at hk
 refine ⟨_, aj_ l[j], ?_⟩
 conv => whnf
 rintro (_ | _) h3
 ·have h3 : an_ l[j].kind = true := by simpa using h3
  rw [h3, n_] at hk
  conv => whnf
  refine ⟨m + 1, ⟨h2, hk⟩, by (try dsimp only); omega, ?_⟩
  exact eA
 ·have h3 : an_ l[j].kind = false := by simpa using h3
  rw [h3, u_] at hk
  rw [← hk]
  (conv => whnf) <;> rfl
theorem x_rparts14 (l : List Nd) (s : Bs) (v : Int) (ks : List Bs) (js : List Int) (_hln : l.length ≤ 8796093022207) (_hjs : js.length ≤ 17592186044415) (hkid : ∀ k ∈ js, ∃ j : Nat, k = ((j : Nat) : Int) ∧ j < l.length) : DCalls Tryz.prog 72 [.sl true 5 (l.map ndD), Nd.V ⟨14, s, v, ks, js⟩] (boo (a6_ l ⟨14, s, v, ks, js⟩)) := by
 have hjl : (js.map ae_).length = js.length := d_ _
 have e : a6_ l ⟨14, s, v, ks, js⟩ = (Y_ 14 js.length && a5_ l 14 0 js) := rfl
 rw [e]
 obtain ⟨F, hF⟩ : ∃ F : Nat → List Int → Bool, F = a5_ l 14 := ⟨_, rfl⟩
 rw [← hF]
 cases hc : Y_ 14 js.length with
 | false =>
  simp [Y_] at hc
  have hcF1 : (((js.map ae_).length : Int) != 1) = true := by rw [hjl, bne_iff_ne]; have hc' := hc; (try simp at hc'); omega
  refine sx Tryz.func72 kR ?_
  repeat ((conv => whnf); first | refine kT ?_ | refine kF ?_ | refine Q_ true hcF1 ?_)
  (conv => whnf) <;> rfl
 | true =>
 rw [n_]
 have hc : js.length = 1 := by simp [Y_] at hc; simp [hc]
 have hcb : (((js.map ae_).length : Int) != 1) = false := by rw [hjl, hc]; rfl
 refine sx Tryz.func72 kR ?_
 repeat ((conv => whnf); first | refine kT ?_ | refine kF ?_ | refine Q_ false hcb ?_)
 conv => whnf
 refine ⟨[], Nat, fun m => [(7, int m)], fun _ => [], fun m => m ≤ js.length ∧ F m (js.drop m) = F 0 js, fun m => js.length - m, 0, ⟨l_ _, rfl⟩, ?_, ?_⟩
 ·exact eN
 rintro m ⟨hm, hk⟩
 conv => whnf
 rintro (_ | _) h2
 ·have h2 : js.length ≤ m := by simp at h2; omega
  rw [k_ h2] at hk
  rw [← hk, hF]
  (conv => whnf) <;> rfl
 have h2 : m < js.length := by simp at h2; omega
 have hw : IntKind.i64.wrap (((m : Nat) : Int) + 1) = ((m + 1 : Nat) : Int) := R_ oM
 obtain ⟨j, hj1, hj2⟩ := hkid _ (q_ h2)
 have hgj : (js.map ae_)[((m : Nat) : Int).toNat]? = some (ae_ ((j : Nat) : Int)) := by rw [← hj1]; exact W_ ae_ h2
 have hgn : (l.map ndD)[((j : Nat) : Int).toNat]? = some (ndD l[j]) := W_ ndD hj2
 have hka : a4_ l js[m] = l[j].kind := by unfold a4_; rw [hj1, i_, h_ hj2]; rfl
 rw [r_ h2, hF] at hk
 simp only [a5_] at hk
 rw [hka, ← hF] at hk
 conv => whnf
 refine ⟨g_ m, _, hgj, ?_⟩
 conv => whnf
 refine ⟨g_ j, _, hgn, ?_⟩
 repeat ((conv => whnf); first | refine kT ?_ | refine kF ?_)
 simp only [ap_] at hk
 rw [if_neg dC, if_neg sI] at hk
 refine ⟨_, aj_ l[j], ?_⟩
 conv => whnf
 rintro (_ | _) h3
 ·have h3 : an_ l[j].kind = true := by simpa using h3
  rw [h3, n_] at hk
  conv => whnf
  refine ⟨m + 1, ⟨h2, hk⟩, by (try dsimp only); omega, ?_⟩
  exact eA
 ·have h3 : an_ l[j].kind = false := by simpa using h3
  rw [h3, u_] at hk
  rw [← hk]
  (conv => whnf) <;> rfl
theorem x_rparts17 (l : List Nd) (s : Bs) (v : Int) (ks : List Bs) (js : List Int) (_hln : l.length ≤ 8796093022207) (_hjs : js.length ≤ 17592186044415) (hkid : ∀ k ∈ js, ∃ j : Nat, k = ((j : Nat) : Int) ∧ j < l.length) : DCalls Tryz.prog 72 [.sl true 5 (l.map ndD), Nd.V ⟨17, s, v, ks, js⟩] (boo (a6_ l ⟨17, s, v, ks, js⟩)) := by
 have hjl : (js.map ae_).length = js.length := d_ _
 have e : a6_ l ⟨17, s, v, ks, js⟩ = (Y_ 17 js.length && a5_ l 17 0 js) := rfl
 rw [e]
 obtain ⟨F, hF⟩ : ∃ F : Nat → List Int → Bool, F = a5_ l 17 := ⟨_, rfl⟩
 rw [← hF]
 cases hc : Y_ 17 js.length with
 | false =>
  simp [Y_] at hc
  have hcF1 : (((js.map ae_).length : Int) != 1) = true := by rw [hjl, bne_iff_ne]; have hc' := hc; (try simp at hc'); omega
  refine sx Tryz.func72 kR ?_
  repeat ((conv => whnf); first | refine kT ?_ | refine kF ?_ | refine Q_ true hcF1 ?_)
  (conv => whnf) <;> rfl
 | true =>
 rw [n_]
 have hc : js.length = 1 := by simp [Y_] at hc; simp [hc]
 have hcb : (((js.map ae_).length : Int) != 1) = false := by rw [hjl, hc]; rfl
 refine sx Tryz.func72 kR ?_
 repeat ((conv => whnf); first | refine kT ?_ | refine kF ?_ | refine Q_ false hcb ?_)
 conv => whnf
 refine ⟨[], Nat, fun m => [(7, int m)], fun _ => [], fun m => m ≤ js.length ∧ F m (js.drop m) = F 0 js, fun m => js.length - m, 0, ⟨l_ _, rfl⟩, ?_, ?_⟩
 ·exact eN
 rintro m ⟨hm, hk⟩
 conv => whnf
 rintro (_ | _) h2
 ·have h2 : js.length ≤ m := by simp at h2; omega
  rw [k_ h2] at hk
  rw [← hk, hF]
  (conv => whnf) <;> rfl
 have h2 : m < js.length := by simp at h2; omega
 have hw : IntKind.i64.wrap (((m : Nat) : Int) + 1) = ((m + 1 : Nat) : Int) := R_ oM
 obtain ⟨j, hj1, hj2⟩ := hkid _ (q_ h2)
 have hgj : (js.map ae_)[((m : Nat) : Int).toNat]? = some (ae_ ((j : Nat) : Int)) := by rw [← hj1]; exact W_ ae_ h2
 have hgn : (l.map ndD)[((j : Nat) : Int).toNat]? = some (ndD l[j]) := W_ ndD hj2
 have hka : a4_ l js[m] = l[j].kind := by unfold a4_; rw [hj1, i_, h_ hj2]; rfl
 rw [r_ h2, hF] at hk
 simp only [a5_] at hk
 rw [hka, ← hF] at hk
 conv => whnf
 refine ⟨g_ m, _, hgj, ?_⟩
 conv => whnf
 refine ⟨g_ j, _, hgn, ?_⟩
 repeat ((conv => whnf); first | refine kT ?_ | refine kF ?_)
 simp only [ap_] at hk
 rw [if_neg dC, if_neg sI] at hk
 refine ⟨_, aj_ l[j], ?_⟩
 conv => whnf
 rintro (_ | _) h3
 ·have h3 : an_ l[j].kind = true := by simpa using h3
  rw [h3, n_] at hk
  conv => whnf
  refine ⟨m + 1, ⟨h2, hk⟩, by (try dsimp only); omega, ?_⟩
  exact eA
 ·have h3 : an_ l[j].kind = false := by simpa using h3
  rw [h3, u_] at hk
  rw [← hk]
  (conv => whnf) <;> rfl
theorem x_rparts18 (l : List Nd) (s : Bs) (v : Int) (ks : List Bs) (js : List Int) (_hln : l.length ≤ 8796093022207) (_hjs : js.length ≤ 17592186044415) (hkid : ∀ k ∈ js, ∃ j : Nat, k = ((j : Nat) : Int) ∧ j < l.length) : DCalls Tryz.prog 72 [.sl true 5 (l.map ndD), Nd.V ⟨18, s, v, ks, js⟩] (boo (a6_ l ⟨18, s, v, ks, js⟩)) := by
 have hjl : (js.map ae_).length = js.length := d_ _
 have e : a6_ l ⟨18, s, v, ks, js⟩ = (Y_ 18 js.length && a5_ l 18 0 js) := rfl
 rw [e]
 obtain ⟨F, hF⟩ : ∃ F : Nat → List Int → Bool, F = a5_ l 18 := ⟨_, rfl⟩
 rw [← hF]
 cases hc : Y_ 18 js.length with
 | false =>
  simp [Y_] at hc
  have hcF1 : (((js.map ae_).length : Int) != 1) = true := by rw [hjl, bne_iff_ne]; have hc' := hc; (try simp at hc'); omega
  refine sx Tryz.func72 kR ?_
  repeat ((conv => whnf); first | refine kT ?_ | refine kF ?_ | refine Q_ true hcF1 ?_)
  (conv => whnf) <;> rfl
 | true =>
 rw [n_]
 have hc : js.length = 1 := by simp [Y_] at hc; simp [hc]
 have hcb : (((js.map ae_).length : Int) != 1) = false := by rw [hjl, hc]; rfl
 refine sx Tryz.func72 kR ?_
 repeat ((conv => whnf); first | refine kT ?_ | refine kF ?_ | refine Q_ false hcb ?_)
 conv => whnf
 refine ⟨[], Nat, fun m => [(7, int m)], fun _ => [], fun m => m ≤ js.length ∧ F m (js.drop m) = F 0 js, fun m => js.length - m, 0, ⟨l_ _, rfl⟩, ?_, ?_⟩
 ·exact eN
 rintro m ⟨hm, hk⟩
 conv => whnf
 rintro (_ | _) h2
 ·have h2 : js.length ≤ m := by simp at h2; omega
  rw [k_ h2] at hk
  rw [← hk, hF]
  (conv => whnf) <;> rfl
 have h2 : m < js.length := by simp at h2; omega
 have hw : IntKind.i64.wrap (((m : Nat) : Int) + 1) = ((m + 1 : Nat) : Int) := R_ oM
 obtain ⟨j, hj1, hj2⟩ := hkid _ (q_ h2)
 have hgj : (js.map ae_)[((m : Nat) : Int).toNat]? = some (ae_ ((j : Nat) : Int)) := by rw [← hj1]; exact W_ ae_ h2
 have hgn : (l.map ndD)[((j : Nat) : Int).toNat]? = some (ndD l[j]) := W_ ndD hj2
 have hka : a4_ l js[m] = l[j].kind := by unfold a4_; rw [hj1, i_, h_ hj2]; rfl
 rw [r_ h2, hF] at hk
 simp only [a5_] at hk
 rw [hka, ← hF] at hk
 conv => whnf
 refine ⟨g_ m, _, hgj, ?_⟩
 conv => whnf
 refine ⟨g_ j, _, hgn, ?_⟩
 repeat ((conv => whnf); first | refine kT ?_ | refine kF ?_)
 simp only [ap_] at hk
 rw [if_neg dC, if_neg sI] at hk
 refine ⟨_, aj_ l[j], ?_⟩
 conv => whnf
 rintro (_ | _) h3
 ·have h3 : an_ l[j].kind = true := by simpa using h3
  rw [h3, n_] at hk
  conv => whnf
  refine ⟨m + 1, ⟨h2, hk⟩, by (try dsimp only); omega, ?_⟩
  exact eA
 ·have h3 : an_ l[j].kind = false := by simpa using h3
  rw [h3, u_] at hk
  rw [← hk]
  (conv => whnf) <;> rfl
end
section
open Go.RowKit
theorem x_rparts15 (l : List Nd) (s : Bs) (v : Int) (ks : List Bs) (js : List Int) (_hln : l.length ≤ 8796093022207) (hjs : js.length ≤ 17592186044415) (hkid : ∀ k ∈ js, ∃ j : Nat, k = ((j : Nat) : Int) ∧ j < l.length) : DCalls Tryz.prog 72 [.sl true 5 (l.map ndD), Nd.V ⟨15, s, v, ks, js⟩] (boo (a6_ l ⟨15, s, v, ks, js⟩)) := by
 have hjl : (js.map ae_).length = js.length := d_ _
 have e : a6_ l ⟨15, s, v, ks, js⟩ = (Y_ 15 js.length && a5_ l 15 0 js) := rfl
 rw [e]
 obtain ⟨F, hF⟩ : ∃ F : Nat → List Int → Bool, F = a5_ l 15 := ⟨_, rfl⟩
 rw [← hF]
 cases hc : Y_ 15 js.length with
 | false =>
  simp [Y_] at hc
  have hcF2 : (((js.map ae_).length : Int) != 2) = true := by rw [hjl, bne_iff_ne]; have hc' := hc; (try simp at hc'); omega
  have hcF3 : (((js.map ae_).length : Int) != 3) = true := by rw [hjl, bne_iff_ne]; have hc' := hc; (try simp at hc'); omega
  refine sx Tryz.func72 kR ?_
  repeat ((conv => whnf); first | refine kT ?_ | refine kF ?_ | refine Q_ true hcF2 ?_ | refine Q_ true hcF3 ?_)
  (conv => whnf) <;> rfl
 | true =>
 rw [n_]
 have hc : js.length = 2 ∨ js.length = 3 := by simp [Y_] at hc; simp [hc]
 have hc2 : ∀ b : Bool, ((js.map ae_).length : Int) = 2 ∨ ((js.map ae_).length : Int) = 3 := fun _ => by rw [hjl]; omega
 refine sx Tryz.func72 kR ?_
 repeat ((conv => whnf); first | refine kT ?_ | refine kF ?_)
 conv => whnf
 rintro (_ | _) h9
 all_goals (repeat ((conv => whnf); first | refine kT ?_ | refine kF ?_ | refine Q_ false (by simp at h9 ⊢; omega) ?_))
 all_goals
  conv => whnf
  refine ⟨[], Nat, fun m => [(7, int m)], fun _ => [], fun m => m ≤ js.length ∧ F m (js.drop m) = F 0 js, fun m => js.length - m, 0, ⟨l_ _, rfl⟩, ?_, ?_⟩
  ·exact eN
  rintro m ⟨hm, hk⟩
  conv => whnf
  rintro (_ | _) h2
  ·have h2 : js.length ≤ m := by simp at h2; omega
   rw [k_ h2] at hk
   rw [← hk, hF]
   (conv => whnf) <;> rfl
  have h2 : m < js.length := by simp at h2; omega
  have hw : IntKind.i64.wrap (((m : Nat) : Int) + 1) = ((m + 1 : Nat) : Int) := R_ oM
  obtain ⟨j, hj1, hj2⟩ := hkid _ (q_ h2)
  have hgj : (js.map ae_)[((m : Nat) : Int).toNat]? = some (ae_ ((j : Nat) : Int)) := by rw [← hj1]; exact W_ ae_ h2
  have hgn : (l.map ndD)[((j : Nat) : Int).toNat]? = some (ndD l[j]) := W_ ndD hj2
  have hka : a4_ l js[m] = l[j].kind := by unfold a4_; rw [hj1, i_, h_ hj2]; rfl
  rw [r_ h2, hF] at hk
  simp only [a5_] at hk
  rw [hka, ← hF] at hk
  conv => whnf
  refine ⟨g_ m, _, hgj, ?_⟩
  conv => whnf
  refine ⟨g_ j, _, hgn, ?_⟩
  repeat ((conv => whnf); first | refine kT ?_ | refine kF ?_)
  conv => whnf
  rintro (_ | _) h4
  ·have h4 : m = 0 := by simp at h4; omega
   simp only [ap_] at hk
   rw [if_neg dC, if_neg oM] at hk
   conv => whnf
   refine ⟨_, aj_ l[j], ?_⟩
   conv => whnf
   rintro (_ | _) h3
   ·have h3 : an_ l[j].kind = true := by simpa using h3
    rw [h3, n_] at hk
    conv => whnf
    refine ⟨m + 1, ⟨h2, hk⟩, by (try dsimp only); omega, ?_⟩
    exact eA
   ·have h3 : an_ l[j].kind = false := by simpa using h3
    rw [h3, u_] at hk
    rw [← hk]
    (conv => whnf) <;> rfl
  ·have h4 : 0 < m := by simp at h4; omega
   simp only [ap_] at hk
   rw [if_neg dC, if_pos sO] at hk
   conv => whnf
   rintro (_ | _) h3
   ·have h3 : l[j].kind = 19 := by simpa using h3
    rw [h3, decide_eq_true rfl, n_] at hk
    conv => whnf
    refine ⟨m + 1, ⟨h2, hk⟩, by (try dsimp only); omega, ?_⟩
    exact eA
   ·have h3 : l[j].kind ≠ 19 := by simpa using h3
    rw [decide_eq_false h3, u_] at hk
    rw [← hk]
    (conv => whnf) <;> rfl
theorem x_rparts16 (l : List Nd) (s : Bs) (v : Int) (ks : List Bs) (js : List Int) (_hln : l.length ≤ 8796093022207) (_hjs : js.length ≤ 17592186044415) (hkid : ∀ k ∈ js, ∃ j : Nat, k = ((j : Nat) : Int) ∧ j < l.length) : DCalls Tryz.prog 72 [.sl true 5 (l.map ndD), Nd.V ⟨16, s, v, ks, js⟩] (boo (a6_ l ⟨16, s, v, ks, js⟩)) := by
 have hjl : (js.map ae_).length = js.length := d_ _
 have e : a6_ l ⟨16, s, v, ks, js⟩ = (Y_ 16 js.length && a5_ l 16 0 js) := rfl
 rw [e]
 obtain ⟨F, hF⟩ : ∃ F : Nat → List Int → Bool, F = a5_ l 16 := ⟨_, rfl⟩
 rw [← hF]
 cases hc : Y_ 16 js.length with
 | false =>
  simp [Y_] at hc
  have hcF2 : (((js.map ae_).length : Int) != 2) = true := by rw [hjl, bne_iff_ne]; have hc' := hc; (try simp at hc'); omega
  refine sx Tryz.func72 kR ?_
  repeat ((conv => whnf); first | refine kT ?_ | refine kF ?_ | refine Q_ true hcF2 ?_)
  (conv => whnf) <;> rfl
 | true =>
 rw [n_]
 have hc : js.length = 2 := by simp [Y_] at hc; simp [hc]
 have hcb : (((js.map ae_).length : Int) != 2) = false := by rw [hjl, hc]; rfl
 refine sx Tryz.func72 kR ?_
 repeat ((conv => whnf); first | refine kT ?_ | refine kF ?_ | refine Q_ false hcb ?_)
 conv => whnf
 refine ⟨[], Nat, fun m => [(7, int m)], fun _ => [], fun m => m ≤ js.length ∧ F m (js.drop m) = F 0 js, fun m => js.length - m, 0, ⟨l_ _, rfl⟩, ?_, ?_⟩
 ·exact eN
 rintro m ⟨hm, hk⟩
 conv => whnf
 rintro (_ | _) h2
 ·have h2 : js.length ≤ m := by simp at h2; omega
  rw [k_ h2] at hk
  rw [← hk, hF]
  (conv => whnf) <;> rfl
 have h2 : m < js.length := by simp at h2; omega
 have hw : IntKind.i64.wrap (((m : Nat) : Int) + 1) = ((m + 1 : Nat) : Int) := R_ oM
 obtain ⟨j, hj1, hj2⟩ := hkid _ (q_ h2)
 have hgj : (js.map ae_)[((m : Nat) : Int).toNat]? = some (ae_ ((j : Nat) : Int)) := by rw [← hj1]; exact W_ ae_ h2
 have hgn : (l.map ndD)[((j : Nat) : Int).toNat]? = some (ndD l[j]) := W_ ndD hj2
 have hka : a4_ l js[m] = l[j].kind := by unfold a4_; rw [hj1, i_, h_ hj2]; rfl
 rw [r_ h2, hF] at hk
 simp only [a5_] at hk
 rw [hka, ← hF] at hk
 conv => whnf
 refine ⟨g_ m, _, hgj, ?_⟩
 conv => whnf
 refine ⟨g_ j, _, hgn, ?_⟩
 repeat ((conv => whnf); first | refine kT ?_ | refine kF ?_)
 conv => whnf
 rintro (_ | _) h4
 ·have h4 : m = 0 := by simp at h4; omega
  simp only [ap_] at hk
  rw [if_neg dC, if_neg oM] at hk
  conv => whnf
  refine ⟨_, aj_ l[j], ?_⟩
  conv => whnf
  rintro (_ | _) h3
  ·have h3 : an_ l[j].kind = true := by simpa using h3
   rw [h3, n_] at hk
   conv => whnf
   refine ⟨m + 1, ⟨h2, hk⟩, by (try dsimp only); omega, ?_⟩
   exact eA
  ·have h3 : an_ l[j].kind = false := by simpa using h3
   rw [h3, u_] at hk
   rw [← hk]
   (conv => whnf) <;> rfl
 ·have h4 : 0 < m := by simp at h4; omega
  simp only [ap_] at hk
  rw [if_neg dC, if_pos sO] at hk
  conv => whnf
  rintro (_ | _) h3
  ·have h3 : l[j].kind = 19 := by simpa using h3
   rw [h3, decide_eq_true rfl, n_] at hk
   conv => whnf
   refine ⟨m + 1, ⟨h2, hk⟩, by (try dsimp only); omega, ?_⟩
   exact eA
  ·have h3 : l[j].kind ≠ 19 := by simpa using h3
   rw [decide_eq_false h3, u_] at hk
   rw [← hk]
   (conv => whnf) <;> rfl
theorem x_rparts19 (l : List Nd) (s : Bs) (v : Int) (ks : List Bs) (js : List Int) (_hln : l.length ≤ 8796093022207) (hjs : js.length ≤ 17592186044415) (hkid : ∀ k ∈ js, ∃ j : Nat, k = ((j : Nat) : Int) ∧ j < l.length) : DCalls Tryz.prog 72 [.sl true 5 (l.map ndD), Nd.V ⟨19, s, v, ks, js⟩] (boo (a6_ l ⟨19, s, v, ks, js⟩)) := by
 have hjl : (js.map ae_).length = js.length := d_ _
 have e : a6_ l ⟨19, s, v, ks, js⟩ = (Y_ 19 js.length && a5_ l 19 0 js) := rfl
 rw [e]
 obtain ⟨F, hF⟩ : ∃ F : Nat → List Int → Bool, F = a5_ l 19 := ⟨_, rfl⟩
 rw [← hF]
 rw [show Y_ 19 js.length = true by simp [Y_], n_]
 refine sx Tryz.func72 kR ?_
 repeat ((conv => whnf); first | refine kT ?_ | refine kF ?_)
 conv => whnf
 refine ⟨[], Nat, fun m => [(7, int m)], fun _ => [], fun m => m ≤ js.length ∧ F m (js.drop m) = F 0 js, fun m => js.length - m, 0, ⟨l_ _, rfl⟩, ?_, ?_⟩
 ·exact eN
 rintro m ⟨hm, hk⟩
 conv => whnf
 rintro (_ | _) h2
 ·have h2 : js.length ≤ m := by simp at h2; omega
  rw [k_ h2] at hk
  rw [← hk, hF]
  (conv => whnf) <;> rfl
 have h2 : m < js.length := by simp at h2; omega
 have hw : IntKind.i64.wrap (((m : Nat) : Int) + 1) = ((m + 1 : Nat) : Int) := R_ oM
 obtain ⟨j, hj1, hj2⟩ := hkid _ (q_ h2)
 have hgj : (js.map ae_)[((m : Nat) : Int).toNat]? = some (ae_ ((j : Nat) : Int)) := by rw [← hj1]; exact W_ ae_ h2
 have hgn : (l.map ndD)[((j : Nat) : Int).toNat]? = some (ndD l[j]) := W_ ndD hj2
 have hka : a4_ l js[m] = l[j].kind := by unfold a4_; rw [hj1, i_, h_ hj2]; rfl
 rw [r_ h2, hF] at hk
 simp only [a5_] at hk
 rw [hka, ← hF] at hk
 conv => whnf
 refine ⟨g_ m, _, hgj, ?_⟩
 conv => whnf
 refine ⟨g_ j, _, hgn, ?_⟩
 repeat ((conv => whnf); first | refine kT ?_ | refine kF ?_)
 simp only [ap_, if_true] at hk
 refine ⟨_, pz_ l[j], ?_⟩
 conv => whnf
 rintro (_ | _) h3
 ·have h3 : hg_ l[j].kind = true := by simpa using h3
  rw [h3, n_] at hk
  conv => whnf
  refine ⟨m + 1, ⟨h2, hk⟩, by (try dsimp only); omega, ?_⟩
  exact eA
 ·have h3 : hg_ l[j].kind = false := by simpa using h3
  rw [h3, u_] at hk
  rw [← hk]
  (conv => whnf) <;> rfl
end
section
open Go.RowKit
theorem x_rparts (l : List Nd) (hn : NsOk l) (n : Nd) (ho : NdOk n) (hkid : ∀ k ∈ n.kids, ∃ j : Nat, k = ((j : Nat) : Int) ∧ j < l.length) : DCalls Tryz.prog 72 [.sl true 5 (l.map ndD), n.V] (boo (a6_ l n)) := by
 obtain ⟨k, s, v, ks, js⟩ := n
 have hjs := ho.kids
 have hln := hn.len
 dsimp only at hjs hkid
 rcases kinds k with h | h | h | h | h | h | h | h | h | h | h | h | h | h | h | h | h | h | h | h
 rotate_right
 ·have e : a6_ l ⟨k, s, v, ks, js⟩ = (Y_ k js.length && a5_ l k 0 js) := rfl
  rw [e, show Y_ k js.length = false by unfold Y_; rw [if_neg oM, if_neg oM, if_neg oM, if_neg oM]; simp; omega]
  refine sx Tryz.func72 kR ?_
  conv => whnf
  rintro (_ | _) h1
  ·dsimp only at h1
   conv => whnf
   refine Q_ true (by simp at h1 ⊢; omega) ?_
   (conv => whnf) <;> rfl
  ·(conv => whnf) <;> rfl
 all_goals subst h
 ·exact x_rparts1 l s v ks js hln hjs hkid
 ·exact x_rparts2 l s v ks js hln hjs hkid
 ·exact x_rparts3 l s v ks js hln hjs hkid
 ·exact x_rparts4 l s v ks js hln hjs hkid
 ·exact x_rparts5 l s v ks js hln hjs hkid
 ·exact x_rparts6 l s v ks js hln hjs hkid
 ·exact x_rparts7 l s v ks js hln hjs hkid
 ·exact x_rparts8 l s v ks js hln hjs hkid
 ·exact x_rparts9 l s v ks js hln hjs hkid
 ·exact x_rparts10 l s v ks js hln hjs hkid
 ·exact x_rparts11 l s v ks js hln hjs hkid
 ·exact x_rparts12 l s v ks js hln hjs hkid
 ·exact x_rparts13 l s v ks js hln hjs hkid
 ·exact x_rparts14 l s v ks js hln hjs hkid
 ·exact x_rparts15 l s v ks js hln hjs hkid
 ·exact x_rparts16 l s v ks js hln hjs hkid
 ·exact x_rparts17 l s v ks js hln hjs hkid
 ·exact x_rparts18 l s v ks js hln hjs hkid
 ·exact x_rparts19 l s v ks js hln hjs hkid
end
end Go.Proofs.YtglndfgmlminpaaGreatDoor
