/- Texts joined by pack.py: XSyYF XSyYG XSyN3 -/
import Derived.Test.YtglndfgmlminpaaGreatDoorSq48
set_option maxHeartbeats 64000000
set_option maxRecDepth 100000
namespace Go.Proofs.YtglndfgmlminpaaGreatDoor
section
open Go.RowKit
theorem x_equalIW (a b : List Int) (ha : a.length ≤ 17592186044415) : DCalls Tryz.prog 79 [.sl true 1 (a.map ae_), .sl true 1 (b.map ae_)] (boo (cd_ if_ a b)) := by
 have hla : (a.map ae_).length = a.length := d_ _
 have hlb : (b.map ae_).length = b.length := d_ _
 refine sx Tryz.func79 kR ?_
 conv => whnf
 rintro (_ | _) h0
 rotate_left
 ·have h0 : a.length ≠ b.length := by rw [hla, hlb] at h0; simp at h0; omega
  rw [dl_ h0]
  (conv => whnf) <;> rfl
 have h0 : a.length = b.length := by rw [hla, hlb] at h0; simp at h0; omega
 conv => whnf
 refine ⟨[], Nat, fun k => [(13, int k)], fun _ => [], fun k => k ≤ a.length ∧ cd_ if_ (a.drop k) (b.drop k) = cd_ if_ a b, fun k => a.length - k, 0, ⟨l_ _, rfl⟩, ?_, ?_⟩
 ·exact eN
 rintro k ⟨hk1, hk⟩
 conv => whnf
 rintro (_ | _) h1
 ·have h1 : a.length ≤ k := by rw [← hla]; simpa using h1
  rw [k_ h1, k_ oM, show cd_ if_ [] [] = true from rfl] at hk
  rw [← hk]
  (conv => whnf) <;> rfl
 have h1 : k < a.length := by rw [← hla]; simpa using h1
 have h2 : k < b.length := by omega
 rw [c4_ h1 h2] at hk
 conv => whnf
 refine ⟨none, kR, ?_⟩
 conv => whnf
 refine ⟨oM, _, W_ ae_ h1, ?_⟩
 conv => whnf
 refine ⟨oM, _, W_ ae_ h2, ?_⟩
 conv => whnf
 rintro (_ | _) h3
 ·have h3 : if_ a[k] b[k] = true := by unfold if_; simpa using h3
  rw [h3, n_] at hk
  conv => whnf
  refine ⟨k + 1, ⟨h1, hk⟩, by dsimp only; omega, ?_⟩
  exact eW
 ·have h3 : if_ a[k] b[k] = false := by unfold if_; simpa using h3
  rw [h3, u_] at hk
  rw [← hk]
  (conv => whnf) <;> rfl
theorem x_nodeW (x y : Nd) (hx : x.keys.length ≤ 8796093022207) (hy : x.kids.length ≤ 17592186044415) : DCalls Tryz.prog 44 [x.V, y.V] (boo (ndB x y)) := by
 obtain ⟨op, s, a, ks, l⟩ := x
 obtain ⟨op', s', a', ks', l'⟩ := y
 refine sx Tryz.func44 kR ?_
 conv => whnf
 rintro (_ | _) h1
 ·rw [show ndB ⟨op, s, a, ks, l⟩ ⟨op', s', a', ks', l'⟩ = false by unfold ndB; rw [show (op == op') = false from h1]; simp]
  (conv => whnf) <;> rfl
 conv => whnf
 rintro (_ | _) h3
 ·have h3 : (s == s') = false := (a2_ s s').symm.trans h3
  rw [show ndB ⟨op, s, a, ks, l⟩ ⟨op', s', a', ks', l'⟩ = false by unfold ndB; rw [h3]; simp]
  (conv => whnf) <;> rfl
 have h3 : (s == s') = true := (a2_ s s').symm.trans h3
 conv => whnf
 rintro (_ | _) h2
 ·rw [show ndB ⟨op, s, a, ks, l⟩ ⟨op', s', a', ks', l'⟩ = false by unfold ndB; rw [show (a == a') = false from h2]; simp]
  (conv => whnf) <;> rfl
 conv => whnf
 refine ⟨_, og_ ks ks' hx, ?_⟩
 have hq : ndB ⟨op, s, a, ks, l⟩ ⟨op', s', a', ks', l'⟩ = (cd_ hf_ ks ks' && cd_ if_ l l') := by unfold ndB; rw [show (op == op') = true from h1, show (a == a') = true from h2, h3]; rfl
 rw [hq]
 conv => whnf
 rintro (_ | _) h4
 ·rw [show cd_ hf_ ks ks' = false from h4]
  (conv => whnf) <;> rfl
 rw [show cd_ hf_ ks ks' = true from h4, n_]
 conv => whnf
 refine ⟨_, x_equalIW l l' hy, ?_⟩
 (conv => whnf) <;> rfl
theorem x_equalNW (a b : List Nd) (ha : a.length ≤ 8796093022207) (hk2 : ∀ x ∈ a, x.keys.length ≤ 8796093022207) (hk3 : ∀ x ∈ a, x.kids.length ≤ 17592186044415) : DCalls Tryz.prog 43 [.sl true 5 (a.map ndD), .sl true 5 (b.map ndD), .cv (.func (.func 44) #[] #[])] (boo (cd_ ndB a b)) := by
 have hla : (a.map ndD).length = a.length := d_ _
 have hlb : (b.map ndD).length = b.length := d_ _
 refine sx Tryz.func43 kR ?_
 conv => whnf
 rintro (_ | _) h0
 rotate_left
 ·have h0 : a.length ≠ b.length := by rw [hla, hlb] at h0; simp at h0; omega
  rw [dl_ h0]
  (conv => whnf) <;> rfl
 have h0 : a.length = b.length := by rw [hla, hlb] at h0; simp at h0; omega
 conv => whnf
 refine ⟨[], Nat, fun k => [(17, int k)], fun _ => [], fun k => k ≤ a.length ∧ cd_ ndB (a.drop k) (b.drop k) = cd_ ndB a b, fun k => a.length - k, 0, ⟨l_ _, rfl⟩, ?_, ?_⟩
 ·exact eN
 rintro k ⟨hk1, hk⟩
 conv => whnf
 rintro (_ | _) h1
 ·have h1 : a.length ≤ k := by rw [← hla]; simpa using h1
  rw [k_ h1, k_ oM, show cd_ ndB [] [] = true from rfl] at hk
  rw [← hk]
  (conv => whnf) <;> rfl
 have h1 : k < a.length := by rw [← hla]; simpa using h1
 have h2 : k < b.length := by omega
 rw [c4_ h1 h2] at hk
 conv => whnf
 refine ⟨oM, _, W_ ndD h1, ?_⟩
 conv => whnf
 refine ⟨oM, _, W_ ndD h2, ?_⟩
 conv => whnf
 refine ⟨_, x_nodeW a[k] b[k] (hk2 _ (q_ h1)) (hk3 _ (q_ h1)), ?_⟩
 conv => whnf
 rintro (_ | _) h3
 ·have h3 : ndB a[k] b[k] = true := by simpa using h3
  rw [h3, n_] at hk
  conv => whnf
  refine ⟨k + 1, ⟨h1, hk⟩, by dsimp only; omega, ?_⟩
  exact eW
 ·have h3 : ndB a[k] b[k] = false := by simpa using h3
  rw [h3, u_] at hk
  rw [← hk]
  (conv => whnf) <;> rfl
theorem py_ (a b : Pg) (ha : mv_ a) : DCalls Tryz.prog 17 [a.V, b.V] (boo (e5_ a b)) := by
 refine sx Tryz.func17 kR ?_
 conv => whnf
 refine ⟨_, x_equalNW a.nodes b.nodes ha.ns.len (fun x hx => (ha.ns.nd x hx).keys) (fun x hx => (ha.ns.nd x hx).kids), ?_⟩
 conv => whnf
 rintro (_ | _) h1
 ·rw [show e5_ a b = false by unfold e5_; rw [show cd_ ndB a.nodes b.nodes = false from h1]; rfl]
  (conv => whnf) <;> rfl
 conv => whnf
 refine ⟨_, p4_ a.funcs b.funcs ha.fs (fun x hx => (ha.fc x hx).ps), ?_⟩
 rw [show e5_ a b = cd_ fcB a.funcs b.funcs by unfold e5_; rw [show cd_ ndB a.nodes b.nodes = true from h1]; rfl]
 (conv => whnf) <;> rfl
theorem neS {s s' : Bs} {b : Bool} (h : (!((mk s).toList == (mk s').toList)) = b) : (s == s') = !b := by
 rw [show ((mk s).toList == (mk s').toList) = (s == s') from a2_ _ _] at h; rw [← h, Bool.not_not]
theorem x_rsame (a b : Pg) (ha : mv_ a) : DCalls Tryz.prog 11 [a.V, b.V] (boo (e5_ a b)) := by
 obtain ⟨ns, fs⟩ := a
 obtain ⟨ns', fs'⟩ := b
 obtain ⟨⟨hn1, hn2⟩, hf1, hf2⟩ := ha
 dsimp only at hn1 hn2 hf1 hf2
 have hln : (ns.map ndD).length = ns.length := d_ _
 have hln' : (ns'.map ndD).length = ns'.length := d_ _
 have hlf : (fs.map fcD).length = fs.length := d_ _
 have hlf' : (fs'.map fcD).length = fs'.length := d_ _
 generalize hS : e5_ ⟨ns, fs⟩ ⟨ns', fs'⟩ = S
 have hS0 : cd_ ndB ns ns' = false → S = false := fun h => by rw [← hS]; unfold e5_; rw [h, u_]
 have hS1 : cd_ fcB fs fs' = false → S = false := fun h => by rw [← hS]; unfold e5_; rw [h, Bool.and_false]
 have hS2 : cd_ ndB ns ns' = true → cd_ fcB fs fs' = true → S = true := fun h h' => by rw [← hS]; unfold e5_; rw [h, h']; rfl
 clear hS
 refine sx Tryz.func11 kR ?_
 conv => whnf
 rintro (_ | _) h1
 rotate_left
 ·have h1 : ns.length ≠ ns'.length := by rw [hln, hln'] at h1; simp at h1; omega
  rw [hS0 (dl_ h1)]
  repeat ((conv => whnf); first | refine kT ?_ | refine kF ?_)
  (conv => whnf) <;> rfl
 have h1 : ns.length = ns'.length := by rw [hln, hln'] at h1; simp at h1; omega
 conv => whnf
 rintro (_ | _) h2
 rotate_left
 ·have h2 : fs.length ≠ fs'.length := by rw [hlf, hlf'] at h2; simp at h2; omega
  rw [hS1 (dl_ h2)]
  repeat ((conv => whnf); first | refine kT ?_ | refine kF ?_)
  (conv => whnf) <;> rfl
 have h2 : fs.length = fs'.length := by rw [hlf, hlf'] at h2; simp at h2; omega
 conv => whnf
 refine ⟨[], Nat, fun k => [(5, int k)], fun _ => [], fun k => k ≤ ns.length ∧ cd_ ndB (ns.drop k) (ns'.drop k) = cd_ ndB ns ns', fun k => ns.length - k, 0, ⟨l_ _, rfl⟩, ?_, ?_⟩
 ·exact eN
 rintro k ⟨hk, hK⟩
 conv => whnf
 rintro (_ | _) h3
 rotate_left
 ·have h3 : k < ns.length := by rw [hln] at h3; simp at h3; omega
  have hwk : IntKind.i64.wrap (((k : Nat) : Int) + 1) = ((k + 1 : Nat) : Int) := R_ oM
  have hg : (ns.map ndD)[((k : Nat) : Int).toNat]? = some (ndD ns[k]) := W_ ndD h3
  have hg' : (ns'.map ndD)[((k : Nat) : Int).toNat]? = some (ndD (ns'[k]'oM)) := W_ ndD oM
  have hno := hn2 ns[k] (q_ h3)
  rw [c4_ h3 oM] at hK
  generalize ns[k] = n at hg hno hK
  generalize ns'[k]'oM = n' at hg' hK
  obtain ⟨kd, s, v, ks, js⟩ := n
  obtain ⟨kd', s', v', ks', js'⟩ := n'
  obtain ⟨_, hk1, _, hk3⟩ := hno
  dsimp only at hk1 hk3
  have hlj : (js.map ae_).length = js.length := d_ _
  have hlj' : (js'.map ae_).length = js'.length := d_ _
  replace hg : (ns.map ndD)[((k : Nat) : Int).toNat]? = some [.cv (.int .i64 kd), .cv (.string (mk s)), .cv (.int .i64 v), .sl 1 (ks.map bl_), .sl 1 (js.map ae_)] := hg
  replace hg' : (ns'.map ndD)[((k : Nat) : Int).toNat]? = some [.cv (.int .i64 kd'), .cv (.string (mk s')), .cv (.int .i64 v'), .sl 1 (ks'.map bl_), .sl 1 (js'.map ae_)] := hg'
  have hbad : ndB ⟨kd, s, v, ks, js⟩ ⟨kd', s', v', ks', js'⟩ = false → S = false := fun h => by rw [h, u_] at hK; exact hS0 hK.symm
  have hnd : ndB ⟨kd, s, v, ks, js⟩ ⟨kd', s', v', ks', js'⟩ = (kd == kd' && s == s' && v == v' && cd_ hf_ ks ks' && cd_ if_ js js') := rfl
  rw [hnd] at hbad hK
  clear hnd hS0 hS1 hS2
  conv => whnf
  refine ⟨g_ k, _, hg, ?_⟩
  conv => whnf
  refine ⟨g_ k, _, hg', ?_⟩
  conv => whnf
  rintro (_ | _) c1
  rotate_left
  ·have c1 : (kd == kd') = false := by simpa using c1
   rw [hbad (by rw [c1]; rfl)]
   repeat ((conv => whnf); first | refine kT ?_ | refine kF ?_)
   (conv => whnf) <;> rfl
  have c1 : (kd == kd') = true := by simpa using c1
  conv => whnf
  rintro (_ | _) c2
  rotate_left
  ·have c2 := neS c2
   rw [hbad (by rw [c1, c2]; rfl)]
   repeat ((conv => whnf); first | refine kT ?_ | refine kF ?_)
   (conv => whnf) <;> rfl
  have c2 := neS c2
  conv => whnf
  rintro (_ | _) c3
  rotate_left
  ·have c3 : (v == v') = false := by simpa using c3
   rw [hbad (by rw [c1, c2, c3]; rfl)]
   repeat ((conv => whnf); first | refine kT ?_ | refine kF ?_)
   (conv => whnf) <;> rfl
  have c3 : (v == v') = true := by simpa using c3
  conv => whnf
  refine ⟨_, mw_ ks ks' hk1, ?_⟩
  conv => whnf
  rintro (_ | _) c4
  rotate_left
  ·have c4 : cd_ hf_ ks ks' = false := by simpa using c4
   rw [hbad (by rw [c1, c2, c3, c4]; rfl)]
   repeat ((conv => whnf); first | refine kT ?_ | refine kF ?_)
   (conv => whnf) <;> rfl
  have c4 : cd_ hf_ ks ks' = true := by simpa using c4
  conv => whnf
  rintro (_ | _) c5
  rotate_left
  ·have c5 : js.length ≠ js'.length := by rw [hlj, hlj'] at c5; simp at c5; omega
   rw [hbad (by rw [dl_ c5, Bool.and_false])]
   repeat ((conv => whnf); first | refine kT ?_ | refine kF ?_)
   (conv => whnf) <;> rfl
  have c5 : js.length = js'.length := by rw [hlj, hlj'] at c5; simp at c5; omega
  conv => whnf
  refine ⟨[], Nat, fun j => [(8, int j)], fun _ => [], fun j => j ≤ js.length ∧ cd_ if_ (js.drop j) (js'.drop j) = cd_ if_ js js', fun j => js.length - j, 0, ⟨l_ _, rfl⟩, ?_, ?_⟩
  ·exact eN
  rintro j ⟨hj, hJ⟩
  conv => whnf
  rintro (_ | _) h4
  rotate_left
  ·have h4 : j < js.length := by rw [hlj] at h4; simp at h4; omega
   have hwj : IntKind.i64.wrap (((j : Nat) : Int) + 1) = ((j + 1 : Nat) : Int) := R_ oM
   have hg2 : (js.map ae_)[((j : Nat) : Int).toNat]? = some (ae_ js[j]) := W_ ae_ h4
   have hg2' : (js'.map ae_)[((j : Nat) : Int).toNat]? = some (ae_ (js'[j]'oM)) := W_ ae_ oM
   rw [c4_ h4 oM] at hJ
   generalize js[j] = x at hg2 hJ
   generalize js'[j]'oM = x' at hg2' hJ
   conv => whnf
   refine ⟨none, kR, ?_⟩
   conv => whnf
   refine ⟨g_ j, _, hg2, ?_⟩
   conv => whnf
   refine ⟨g_ j, _, hg2', ?_⟩
   conv => whnf
   rintro (_ | _) c6
   rotate_left
   ·have c6 : if_ x x' = false := by unfold if_; simpa using c6
    rw [c6, u_] at hJ
    rw [hbad (by rw [← hJ, Bool.and_false])]
    repeat ((conv => whnf); first | refine kT ?_ | refine kF ?_)
    (conv => whnf) <;> rfl
   have c6 : if_ x x' = true := by unfold if_; simpa using c6
   rw [c6, n_] at hJ
   conv => whnf
   refine ⟨j + 1, ⟨h4, hJ⟩, by (try dsimp only); omega, ?_⟩
   exact eA
  have h4 : js.length ≤ j := by rw [hlj] at h4; simp at h4; omega
  rw [k_ h4, k_ oM, show cd_ if_ [] [] = true from rfl] at hJ
  rw [c1, c2, c3, c4, ← hJ] at hK
  conv => whnf
  refine ⟨k + 1, ⟨h3, hK⟩, by (try dsimp only); omega, ?_⟩
  exact eA
 have h3 : ns.length ≤ k := by rw [hln] at h3; simp at h3; omega
 rw [k_ h3, k_ oM, show cd_ ndB [] [] = true from rfl] at hK
 conv => whnf
 refine ⟨[], Nat, fun k => [(9, int k)], fun _ => [], fun k => k ≤ fs.length ∧ cd_ fcB (fs.drop k) (fs'.drop k) = cd_ fcB fs fs', fun k => fs.length - k, 0, ⟨l_ _, rfl⟩, ?_, ?_⟩
 ·exact eN
 rintro m ⟨hm, hM⟩
 conv => whnf
 rintro (_ | _) h5
 ·have h5 : fs.length ≤ m := by rw [hlf] at h5; simp at h5; omega
  rw [k_ h5, k_ oM, show cd_ fcB [] [] = true from rfl] at hM
  rw [hS2 hK.symm hM.symm]
  (conv => whnf) <;> rfl
 have h5 : m < fs.length := by rw [hlf] at h5; simp at h5; omega
 have hwm : IntKind.i64.wrap (((m : Nat) : Int) + 1) = ((m + 1 : Nat) : Int) := R_ oM
 have hg : (fs.map fcD)[((m : Nat) : Int).toNat]? = some (fcD fs[m]) := W_ fcD h5
 have hg' : (fs'.map fcD)[((m : Nat) : Int).toNat]? = some (fcD (fs'[m]'oM)) := W_ fcD oM
 have hfo := hf2 fs[m] (q_ h5)
 rw [c4_ h5 oM] at hM
 generalize fs[m] = f at hg hfo hM
 generalize fs'[m]'oM = f' at hg' hM
 obtain ⟨nm, ps, bd⟩ := f
 obtain ⟨nm', ps', bd'⟩ := f'
 obtain ⟨_, hp1, _⟩ := hfo
 dsimp only at hp1
 replace hg : (fs.map fcD)[((m : Nat) : Int).toNat]? = some [.cv (.string (mk nm)), .sl 1 (ps.map bl_), .cv (.int .i64 bd)] := hg
 replace hg' : (fs'.map fcD)[((m : Nat) : Int).toNat]? = some [.cv (.string (mk nm')), .sl 1 (ps'.map bl_), .cv (.int .i64 bd')] := hg'
 have hbad : fcB ⟨nm, ps, bd⟩ ⟨nm', ps', bd'⟩ = false → S = false := fun h => by rw [h, u_] at hM; exact hS1 hM.symm
 have hnd : fcB ⟨nm, ps, bd⟩ ⟨nm', ps', bd'⟩ = (nm == nm' && bd == bd' && cd_ hf_ ps ps') := rfl
 rw [hnd] at hbad hM
 clear hnd
 conv => whnf
 refine ⟨none, kR, ?_⟩
 conv => whnf
 refine ⟨g_ m, _, hg, ?_⟩
 conv => whnf
 refine ⟨g_ m, _, hg', ?_⟩
 conv => whnf
 rintro (_ | _) c1
 rotate_left
 ·have c1 := neS c1
  rw [hbad (by rw [c1]; rfl)]
  repeat ((conv => whnf); first | refine kT ?_ | refine kF ?_)
  (conv => whnf) <;> rfl
 have c1 := neS c1
 conv => whnf
 refine ⟨g_ m, _, hg, ?_⟩
 conv => whnf
 refine ⟨g_ m, _, hg', ?_⟩
 conv => whnf
 rintro (_ | _) c2
 rotate_left
 ·have c2 : (bd == bd') = false := by simpa using c2
  rw [hbad (by rw [c1, c2]; rfl)]
  repeat ((conv => whnf); first | refine kT ?_ | refine kF ?_)
  (conv => whnf) <;> rfl
 have c2 : (bd == bd') = true := by simpa using c2
 conv => whnf
 refine ⟨g_ m, _, hg, ?_⟩
 conv => whnf
 refine ⟨g_ m, _, hg', ?_⟩
 conv => whnf
 refine ⟨_, mw_ ps ps' hp1, ?_⟩
 conv => whnf
 rintro (_ | _) c3
 rotate_left
 ·have c3 : cd_ hf_ ps ps' = false := by simpa using c3
  rw [hbad (by rw [c1, c2, c3]; rfl)]
  repeat ((conv => whnf); first | refine kT ?_ | refine kF ?_)
  (conv => whnf) <;> rfl
 have c3 : cd_ hf_ ps ps' = true := by simpa using c3
 rw [c1, c2, c3] at hM
 conv => whnf
 refine ⟨m + 1, ⟨h5, hM⟩, by (try dsimp only); omega, ?_⟩
 exact eA
end
section
open Go.RowKit
theorem sameP_refl (p : Pg) : e5_ p p = true := (sameP_eq p p).2 rfl
theorem x_lawLooks (haw : AwakeS) (p q : Pg) (x : Bs) (hp : mv_ p) : DCalls Tryz.prog 5 [p.V, q.V, bc_ x] (boo true) := by
 have h1 := py_ p q hp
 have h2 := x_rsame p q hp
 have h3 := py_ p p hp
 rw [sameP_refl] at h3
 have h4 := x_sdepth p hp
 have h5 := x_rdepth p hp
 have h6 := x_sfind p x hp.fs
 have h7 := x_rfind p x hp.fs
 generalize e5_ p q = b at *
 generalize (if bd_ p = 0 then ((jo_ p : Nat) : Int) else 0) = d at *
 generalize jk_ x p.funcs 0 = f at *
 refine sx Tryz.func5 kR ?_
 repeat ((conv => whnf); first | refine ⟨none, kR, ?_⟩ | refine Q_ true (beq_self_eq_true _) ?_ | refine kT ?_ | refine ⟨_, h1, ?_⟩ | refine ⟨_, h2, ?_⟩ | refine ⟨_, h3, ?_⟩ | refine ⟨_, h4, ?_⟩ | refine ⟨_, h5, ?_⟩ | refine ⟨_, h6, ?_⟩ | refine ⟨_, h7, ?_⟩ | refine ⟨_, haw, ?_⟩)
 (conv => whnf) <;> rfl
end
section
open Go.RowKit
theorem d_prints (ds0 : List D) (h0 : DOk TT 6 25 ds0) : DCalls Tryz.prog 4 [vOf TT 25 ds0] (boo true) := by
 obtain ⟨p, h, hp⟩ := read_pg h0
 rw [h]
 exact x_lawPrints x_awakeS p hp
theorem d_looks (ds0 ds1 ds2 : List D) (h0 : DOk TT 6 25 ds0) (h1 : DOk TT 6 25 ds1) (h2 : DOk TT 6 9 ds2) : DCalls Tryz.prog 5 [vOf TT 25 ds0, vOf TT 25 ds1, vOf TT 9 ds2] (boo true) := by
 obtain ⟨p, h, hp⟩ := read_pg h0
 obtain ⟨q, h', _⟩ := read_pg h1
 obtain ⟨s, h'', _⟩ := read_bsC h2
 rw [h, h', h'']
 exact x_lawLooks x_awakeS p q s hp
end
end Go.Proofs.YtglndfgmlminpaaGreatDoor
