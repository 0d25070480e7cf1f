/- Texts joined by pack.py: XSyWN XSyWO XSyYE -/
import Derived.Test.YtglndfgmlminpaaGreatDoorSq47
import Derived.Test.YtglndfgmlminpaaGreatDoorSq45
set_option maxHeartbeats 200000000
set_option maxRecDepth 100000
namespace Go.Proofs.YtglndfgmlminpaaGreatDoor
section
open Go.RowKit
abbrev nI (l : List Nat) : List Int := l.map (fun n : Nat => (n : Int))
abbrev rowN (l : List Nat) : Bk := .row 0 3 1 true ((nI l).map ae_)
def resM (R : Option (List Nat × List Nat)) (n : Nat) : List Nat × List Nat × Bool := match R with
 | none => ([], [], false)
 | some (sz, ht) => (sz, ht, decide (sz.length = n))
def measV (p : Pg) : List Nat × List Nat × Bool := resM (gb_ p.nodes p.funcs [] []) p.nodes.length
abbrev rmV (x : List Nat × List Nat × Bool) : V := .tu [pc_ (nI x.1), pc_ (nI x.2.1), boo x.2.2]
theorem beqN (a b : Nat) : ((a : Int) == (b : Int)) = decide (a = b) := by
 by_cases h : a = b
 ·subst h; simp
 ·have : (a : Int) ≠ b := by omega
  simp [h, this]
theorem o4_ (l : List Nat) (x : Nat) : (nI (l ++ [x])).map ae_ = (nI l).map ae_ ++ [ae_ (x : Int)] := by simp [nI]
theorem nI_snocv {l : List Nat} {x : Nat} {v : Int} (h : v = (x : Int)) : (nI l).map ae_ ++ [ae_ v] = (nI (l ++ [x])).map ae_ := by rw [h, o4_]
theorem nI_len (l : List Nat) : ((nI l).map ae_).length = l.length := by simp [nI]
theorem nI_get {l : List Nat} {j : Nat} (h : j < l.length) : ((nI l).map ae_)[j]? = some (ae_ ((l.getD j 0 : Nat) : Int)) := by
 simp [nI, List.getD_eq_getElem?_getD, List.getElem?_eq_getElem h]
theorem j1_ {F : Int → Nat} {B : Nat} (hF : ∀ k, F k ≤ B) : ∀ (xs : List Int) (m : Nat), m ≤ B → xs.foldl (fun m k => max m (F k)) m ≤ B
 | [], m, h => h
 | x :: xs, m, h => j1_ hF xs (max m (F x)) (by have := hF x; omega)
theorem o2_ (l : List Nd) : ∀ (f i : Nat), bw_ l f i ≤ f
 | 0, i => f_ _
 | f + 1, i => by
  simp only [bw_]
  split
  ·omega
  ·have := j1_ (F := fun k => bw_ l f k.toNat) (B := f) (fun k => o2_ l f k.toNat) ‹Nd›.kids 0 oM
   omega
theorem kidM_kids {low : Nat} {sz ht : List Nat} : ∀ (xs : List Int) (c top : Nat) {r : Nat × Nat}, kidM low sz ht xs c top = some r → r.1 ≤ c ∧ ∀ k ∈ xs, ∃ j : Nat, k = (j : Int) ∧ j < c
 | [], c, top, r, h => by simp only [kidM, Option.some.injEq] at h; subst h; exact ⟨f_ _, fun k h => by cases h⟩
 | x :: xs, c, top, r, h => by
  simp only [kidM] at h
  split at h
  rotate_left
  ·cases h
  rename_i hx
  obtain ⟨h1, h2⟩ := kidM_kids xs _ _ h
  refine ⟨oM, fun k hk => ?_⟩
  rcases List.mem_cons.1 hk with rfl | hk
  ·exact ⟨c - 1, oM, oM⟩
  ·obtain ⟨j, e, hj⟩ := h2 k hk
   exact ⟨j, e, oM⟩
theorem mx_ (p : Pg) (hp : mv_ p) : DCalls Tryz.prog 35 [p.V] (rmV (measV p)) := by
 obtain ⟨ns, fs⟩ := p
 obtain ⟨hns, hf1, hf2⟩ := hp
 have hn1 := hns.len
 have hn2 := hns.nd
 dsimp only at hns hf1 hf2 hn1 hn2
 have hln : (ns.map ndD).length = ns.length := d_ _
 have hlf : (fs.map fcD).length = fs.length := d_ _
 obtain ⟨R, hR⟩ : ∃ R, R = gb_ ns fs [] [] := ⟨_, rfl⟩
 rw [show measV ⟨ns, fs⟩ = resM R ns.length by rw [hR]; rfl]
 refine sx Tryz.func35 kR ?_
 conv => whnf
 refine ⟨[], Nat × List Nat × List Nat, fun ⟨k, sz, ht⟩ => [(7, int sz.length), (8, int k), (5, .ow 16 0), (6, .ow 17 0), (16, .un), (17, .un)], fun ⟨_, sz, ht⟩ => [(16, some (rowN sz)), (17, some (rowN ht))], fun ⟨k, sz, ht⟩ => k ≤ fs.length ∧ ht.length = sz.length ∧ sz.length ≤ ns.length ∧ (∀ x ∈ ht, x ≤ ns.length + 1) ∧ gb_ ns (fs.drop k) sz ht = R, fun ⟨k, _, _⟩ => fs.length - k, (0, [], []), ⟨l_ _, rfl, l_ _, by simp, hR.symm⟩, ?_, ?_⟩
 ·exact eN
 rintro ⟨k, sz, ht⟩ ⟨hk, hl1, hl2, hb, hM⟩
 conv => whnf
 rintro (_ | _) h1
 ·have h1 : fs.length ≤ k := by simp at h1; omega
  rw [k_ h1] at hM
  rw [← hM]
  conv => whnf
  refine ⟨none, kR, ?_⟩
  conv => whnf
  rw [hln, beqN]
  rfl
 have h1 : k < fs.length := by simp at h1; omega
 have hwk : IntKind.i64.wrap (((k : Nat) : Int) + 1) = ((k + 1 : Nat) : Int) := R_ oM
 have hg : (fs.map fcD)[((k : Nat) : Int).toNat]? = some (fcD fs[k]) := W_ fcD h1
 have hfo := hf2 fs[k] (q_ h1)
 rw [r_ h1] at hM
 generalize fs[k] = f at hg hfo hM
 obtain ⟨nm, ps, bd⟩ := f
 obtain ⟨hp1, hp2, hp3⟩ := hfo
 simp only [gb_] at hM
 dsimp only at hp1 hp2 hp3
 replace hg : (fs.map fcD)[((k : Nat) : Int).toNat]? = some [.cv (.string (mk nm)), .sl 1 (ps.map bl_), .cv (.int .i64 bd)] := hg
 have hlp : (ps.map bl_).length = ps.length := d_ _
 conv => whnf
 refine ⟨g_ k, _, hg, ?_⟩
 conv => whnf
 rintro (_ | _) h2
 rotate_left
 ·have h2 : bd < (sz.length : Int) := by simpa using h2
  rw [if_pos (.inl h2)] at hM
  rw [← hM]
  repeat ((conv => whnf); first | refine kT ?_ | refine kF ?_)
  (conv => whnf) <;> rfl
 have h2 : (sz.length : Int) ≤ bd := by simpa using h2
 obtain ⟨b, rfl⟩ : ∃ b : Nat, bd = b := ⟨bd.toNat, oM⟩
 conv => whnf
 rintro (_ | _) h3
 rotate_left
 ·have h3 : ns.length ≤ b := by rw [hln] at h3; simpa using h3
  rw [if_pos (.inr (.inl oM))] at hM
  rw [← hM]
  repeat ((conv => whnf); first | refine kT ?_ | refine kF ?_)
  (conv => whnf) <;> rfl
 have h3 : b < ns.length := by rw [hln] at h3; simpa using h3
 have hgb : (ns.map ndD)[((b : Nat) : Int).toNat]? = some (ndD ns[b]) := W_ ndD h3
 have hkb : a4_ ns ((b : Nat) : Int) = ns[b].kind := by unfold a4_; rw [i_, h_ h3]; rfl
 rw [hkb] at hM
 conv => whnf
 refine ⟨g_ b, _, hgb, ?_⟩
 conv => whnf
 rintro (_ | _) h4
 rotate_left
 ·have h4 : ns[b].kind ≠ 19 := by simpa using h4
  rw [if_pos (.inr (.inr (.inl h4)))] at hM
  rw [← hM]
  repeat ((conv => whnf); first | refine kT ?_ | refine kF ?_)
  (conv => whnf) <;> rfl
 have h4 : ns[b].kind = 19 := by simpa using h4
 conv => whnf
 refine ⟨g_ k, _, hg, ?_⟩
 conv => whnf
 refine ⟨_, hy_ nm hp1, ?_⟩
 conv => whnf
 rintro (_ | _) h5
 rotate_left
 ·have h5 : a7_ nm = false := by simpa using h5
  rw [if_pos (.inr (.inr (.inr (.inl h5))))] at hM
  rw [← hM]
  (conv => whnf) <;> rfl
 have h5 : a7_ nm = true := by simpa using h5
 conv => whnf
 refine ⟨[], Nat, fun j => [(10, int j)], fun _ => [], fun j => j ≤ ps.length ∧ (ps.drop j).all a7_ = ps.all a7_, fun j => ps.length - j, 0, ⟨l_ _, rfl⟩, ?_, ?_⟩
 ·exact eN
 rintro j ⟨hj, hal⟩
 conv => whnf
 refine ⟨g_ k, _, hg, ?_⟩
 conv => whnf
 rintro (_ | _) h6
 rotate_left
 ·have h6 : j < ps.length := by simp at h6; omega
  have hwj : IntKind.i64.wrap (((j : Nat) : Int) + 1) = ((j + 1 : Nat) : Int) := R_ oM
  have hg2 : (ps.map bl_)[((j : Nat) : Int).toNat]? = some (bl_ ps[j]) := W_ bl_ h6
  rw [r_ h6, List.all_cons] at hal
  conv => whnf
  refine ⟨g_ k, _, hg, ?_⟩
  conv => whnf
  refine ⟨g_ j, _, hg2, ?_⟩
  conv => whnf
  refine ⟨_, hy_ ps[j] (hp3 _ (q_ h6)), ?_⟩
  conv => whnf
  rintro (_ | _) h7
  rotate_left
  ·have h7 : a7_ ps[j] = false := by simpa using h7
   rw [h7, u_] at hal
   rw [if_pos (.inr (.inr (.inr (.inr hal.symm))))] at hM
   rw [← hM]
   (conv => whnf) <;> rfl
  have h7 : a7_ ps[j] = true := by simpa using h7
  rw [h7, n_] at hal
  conv => whnf
  refine ⟨j + 1, ⟨h6, hal⟩, by (try dsimp only); omega, ?_⟩
  refine ⟨rfl, ?_, ?_⟩ <;> repeat' (first | exact trivial | exact rfl | (rw [o4_]; exact rfl) | refine am_ ?_ | refine aw_ hwj ?_ | refine ah_ ?_ ?_)
 have h6 : ps.length ≤ j := by simp at h6; omega
 rw [k_ h6] at hal
 rw [if_neg (by rintro (h | h | h | h | h) <;> first | omega | (rw [h4] at h; exact h rfl) | (rw [h5] at h; cases h) | (rw [← hal] at h; cases h)), i_] at hM
 obtain ⟨R2, hR2⟩ : ∃ R2, runM ns sz.length (b + 1 - sz.length) sz ht = R2 := ⟨_, rfl⟩
 rw [hR2] at hM
 have hfailR : R2 = none → R = none := fun h => by rw [h] at hM; exact hM.symm
 conv => whnf
 refine ⟨[], List Nat × List Nat, fun ⟨a, t⟩ => [(11, int a.length), (5, .ow 16 0), (6, .ow 17 0), (16, .un), (17, .un)], fun ⟨a, t⟩ => [(16, some (rowN a)), (17, some (rowN t))], fun ⟨a, t⟩ => sz.length ≤ a.length ∧ a.length ≤ b + 1 ∧ t.length = a.length ∧ MInv ns sz.length a t ∧ (∀ x ∈ t, x ≤ ns.length + 1) ∧ runM ns sz.length (b + 1 - a.length) a t = R2, fun ⟨a, _⟩ => b + 1 - a.length, (sz, ht), ⟨f_ _, oM, hl1, MInv.start ns hl1, hb, hR2⟩, ?_, ?_⟩
 ·exact eN
 rintro ⟨a, t⟩ ⟨g1, g2, g3, hI, g5, g6⟩
 conv => whnf
 rintro (_ | _) h8
 rotate_left
 ·have h8 : a.length ≤ b := by simp at h8; omega
  have h9 : a.length < ns.length := by omega
  have hgn : (ns.map ndD)[((a.length : Nat) : Int).toNat]? = some (ndD ns[a.length]) := W_ ndD h9
  have hno := hn2 ns[a.length] (q_ h9)
  have hsome : ns[a.length]? = some ns[a.length] := h_ h9
  rw [show b + 1 - a.length = (b - a.length) + 1 by omega] at g6
  simp only [runM] at g6
  rw [hsome] at g6
  generalize ns[a.length] = n at hgn hno hsome g6
  obtain ⟨kd, s, v, ks, js⟩ := n
  dsimp only at g6
  have hjs := hno.kids
  dsimp only at hjs
  replace hgn : (ns.map ndD)[((a.length : Nat) : Int).toNat]? = some [.cv (.int .i64 kd), .cv (.string (mk s)), .cv (.int .i64 v), .sl 1 (ks.map bl_), .sl 1 (js.map ae_)] := hgn
  have hlj : (js.map ae_).length = js.length := d_ _
  have hw1 : IntKind.i64.wrap (((a.length : Nat) : Int) - 1) = ((a.length : Nat) : Int) - 1 := ci_ oM
  have hw2 : IntKind.i64.wrap ((((js.map ae_).length : Nat) : Int) - 1) = ((js.length : Nat) : Int) - 1 := by rw [hlj]; exact ci_ oM
  have hwi : IntKind.i64.wrap (((a.length : Nat) : Int) + 1) = ((a.length + 1 : Nat) : Int) := R_ oM
  obtain ⟨R3, hR3⟩ : ∃ R3, kidM sz.length a t js.reverse a.length 0 = R3 := ⟨_, rfl⟩
  have hfail3 : i8_ ns sz.length a t a.length ⟨kd, s, v, ks, js⟩ = none → R = none := fun h => by
   rw [h] at g6; exact hfailR g6.symm
  conv => whnf
  refine ⟨g_ _, _, hgn, ?_⟩
  conv => whnf
  refine ⟨[], Nat × Nat × Nat, fun ⟨m, c, top⟩ => [(13, int ((c : Int) - 1)), (14, int top), (15, int ((m : Int) - 1))], fun _ => [], fun ⟨m, c, top⟩ => m ≤ js.length ∧ c ≤ a.length ∧ sz.length ≤ c ∧ top ≤ ns.length + 1 ∧ kidM sz.length a t (js.take m).reverse c top = R3, fun ⟨m, _, _⟩ => m, (js.length, a.length, 0), ⟨f_ _, f_ _, g1, l_ _, by rw [List.take_length]; exact hR3⟩, ?_, ?_⟩
  ·exact eA
  rintro ⟨m, c, top⟩ ⟨m1, m2, m3, m4, m5⟩
  conv => whnf
  rintro (_ | _) e1
  rotate_left
  ·have e1 : 1 ≤ m := by simp at e1; omega
   have e2 : m - 1 < js.length := by omega
   have hgx : (js.map ae_)[((m : Int) - 1).toNat]? = some (ae_ js[m - 1]) := by
    rw [show ((m : Int) - 1).toNat = m - 1 by omega]; exact W_ ae_ e2
   have htr : (js.take m).reverse = js[m - 1] :: (js.take (m - 1)).reverse := by
    have := take_rev (l := js) (m := m - 1) e2
    rwa [show m - 1 + 1 = m by omega] at this
   rw [htr] at m5
   simp only [kidM] at m5
   conv => whnf
   refine ⟨oM, _, hgx, ?_⟩
   conv => whnf
   rintro (_ | _) e3
   rotate_left
   ·have e3 : js[m - 1] ≠ (c : Int) - 1 := by simpa using e3
    rw [if_neg (fun h => e3 h.1)] at m5
    have hz := hfail3 (by unfold i8_; rw [hR3, ← m5])
    repeat ((conv => whnf); first | refine kT ?_ | refine kF ?_)
    conv => whnf
    rw [hz]
    first | done | rfl
   have e3 : js[m - 1] = (c : Int) - 1 := by simpa using e3
   conv => whnf
   rintro (_ | _) e4
   rotate_left
   ·have e4 : c ≤ sz.length := by simp at e4; omega
    rw [if_neg (fun h => by omega)] at m5
    have hz := hfail3 (by unfold i8_; rw [hR3, ← m5])
    conv => whnf
    rw [hz]
    first | done | rfl
   have e4 : sz.length < c := by simp at e4; omega
   rw [if_pos ⟨e3, e4⟩] at m5
   have q1 : sz.length ≤ c - 1 := by omega
   have q2 : c - 1 < a.length := by omega
   have q3 := hI.get (c - 1) q1 q2
   obtain ⟨i1, i2, i3⟩ := q3
   have ec : ((c : Int) - 1).toNat = c - 1 := by omega
   have hgt : ((nI t).map ae_)[((c : Int) - 1).toNat]? = some (ae_ ((t.getD (c - 1) 0 : Nat) : Int)) := by rw [ec]; exact nI_get (by rw [g3]; exact q2)
   have hga : ((nI a).map ae_)[((c : Int) - 1).toNat]? = some (ae_ ((a.getD (c - 1) 0 : Nat) : Int)) := by rw [ec]; exact nI_get q2
   have htb : t.getD (c - 1) 0 ≤ ns.length + 1 := by
    rw [hI.hts (c - 1) q1 q2]; exact o2_ _ _ _
   have hj0 : 0 ≤ (c : Int) - 1 := by omega
   have hj1 : ((c : Int) - 1).toNat < ((nI t).map ae_).length := by rw [nI_len, ec]; omega
   have hj2 : ((c : Int) - 1).toNat < ((nI a).map ae_).length := by rw [nI_len, ec]; omega
   have hmx : (if ((t.getD (c - 1) 0 : Nat) : Int) > (top : Int) then ((t.getD (c - 1) 0 : Nat) : Int) else (top : Int)) = ((max top (t.getD (c - 1) 0) : Nat) : Int) := by split <;> omega
   have hws : IntKind.i64.wrap ((c : Int) - 1 - ((a.getD (c - 1) 0 : Nat) : Int)) = ((c - a.getD (c - 1) 0 : Nat) : Int) - 1 := by rw [ci_ oM]; omega
   have hwm : IntKind.i64.wrap ((m : Int) - 1 - 1) = ((m - 1 : Nat) : Int) - 1 := by rw [ci_ oM]; omega
   conv => whnf
   refine ⟨hj0, hj1, ?_⟩
   conv => whnf
   refine ⟨_, hgt, ?_⟩
   conv => whnf
   refine ⟨hj0, hj2, ?_⟩
   conv => whnf
   refine ⟨_, hga, ?_⟩
   conv => whnf
   refine ⟨(m - 1, c - a.getD (c - 1) 0, max top (t.getD (c - 1) 0)), ⟨oM, oM, oM, oM, m5⟩, by (try dsimp only); omega, ?_⟩
   refine ⟨rfl, ?_, ?_⟩ <;> repeat' (first | exact trivial | exact rfl | (rw [o4_]; exact rfl) | refine am_ ?_ | refine aw_ hws ?_ | refine aw_ hmx ?_ | refine aw_ hwm ?_ | refine ah_ ?_ ?_)
  have e1 : m = 0 := by simp at e1; omega
  rw [e1, List.take_zero, List.reverse_nil] at m5
  simp only [kidM] at m5
  have q0 := hR3.trans m5.symm
  have q1 := kidM_kids _ _ _ q0
  obtain ⟨kc, kk⟩ := q1
  have hkid : ∀ x ∈ js, ∃ j : Nat, x = ((j : Nat) : Int) ∧ j < ns.length := fun x hx => by
   obtain ⟨j, h1, h2⟩ := kk x (List.mem_reverse.2 hx)
   exact ⟨j, h1, oM⟩
  conv => whnf
  refine ⟨_, x_rfields ⟨kd, s, v, ks, js⟩ hno, ?_⟩
  conv => whnf
  rintro (_ | _) f1
  rotate_left
  ·have f1 : X_ ⟨kd, s, v, ks⟩ js.length = false := by simpa using f1
   have hz := hfail3 (by unfold i8_; rw [hR3, ← m5]; simp [f1])
   repeat ((conv => whnf); first | refine kT ?_ | refine kF ?_)
   conv => whnf
   rw [hz]
   first | done | rfl
  have f1 : X_ ⟨kd, s, v, ks⟩ js.length = true := by simpa using f1
  conv => whnf
  refine ⟨_, x_rparts ns hns ⟨kd, s, v, ks, js⟩ hno hkid, ?_⟩
  conv => whnf
  rintro (_ | _) f2
  rotate_left
  ·have f2 : a6_ ns ⟨kd, s, v, ks, js⟩ = false := by simpa using f2
   have hz := hfail3 (by unfold i8_; rw [hR3, ← m5]; simp [f2])
   conv => whnf
   rw [hz]
   first | done | rfl
  have f2 : a6_ ns ⟨kd, s, v, ks, js⟩ = true := by simpa using f2
  have hnm : i8_ ns sz.length a t a.length ⟨kd, s, v, ks, js⟩ = some (a.length + 1 - c, top + 1) := by
   unfold i8_; rw [hR3, ← m5]; simp [f1, f2]
  rw [hnm] at g6
  dsimp only at g6
  have q2 := i7_ hI g1 hsome hnm
  obtain ⟨s1, s2, s3, s4⟩ := q2
  have hw5 : IntKind.i64.wrap (((a.length : Nat) : Int) - ((c : Int) - 1)) = ((a.length + 1 - c : Nat) : Int) := by rw [ci_ oM]; omega
  have hw6 : IntKind.i64.wrap (((top : Nat) : Int) + 1) = ((top + 1 : Nat) : Int) := R_ oM
  have hwa : IntKind.i64.wrap (((a.length : Nat) : Int) + 1) = (((a ++ [a.length + 1 - c]).length : Nat) : Int) := by rw [a_, G_]; exact hwi
  conv => whnf
  refine ⟨by rw [nI_len]; show (a.length + 1) * 8 ≤ _; omega, ?_⟩
  conv => whnf
  refine ⟨by rw [nI_len]; show (t.length + 1) * 8 ≤ _; omega, ?_⟩
  conv => whnf
  refine ⟨(a ++ [a.length + 1 - c], t ++ [top + 1]), ⟨by rw [a_]; omega, by rw [a_, G_]; omega, by rw [a_, a_, g3]; rfl, hI.snoc ⟨s1, s2, s3⟩ s4, fun x hx => ?_, by rw [a_, G_, show b + 1 - (a.length + 1) = b - a.length by omega]; exact g6⟩, by (try dsimp only); rw [a_, G_]; omega, ?_⟩
  ·rcases List.mem_append.1 hx with hx | hx
   ·exact g5 x hx
   ·obtain rfl := List.mem_singleton.1 hx
    rw [s4]; exact o2_ _ _ _
  refine ⟨rfl, ?_, ?_⟩ <;> repeat' (first | exact trivial | exact rfl | exact nI_snocv hw5 | exact nI_snocv hw6 | refine am_ ?_ | refine aw_ hwa ?_ | refine ah_ ?_ ?_)
 have h8 : a.length = b + 1 := by simp at h8; omega
 rw [h8, Nat.sub_self] at g6
 simp only [runM] at g6
 rw [← g6] at hM
 dsimp only at hM
 have hga : ((nI a).map ae_)[((b : Nat) : Int).toNat]? = some (ae_ ((a.getD b 0 : Nat) : Int)) := by rw [i_]; exact nI_get oM
 obtain ⟨S, hS⟩ : ∃ S, S = a.getD b 0 := ⟨_, rfl⟩
 rw [← hS] at hga hM
 have hw8 : IntKind.i64.wrap (IntKind.i64.wrap (((b : Nat) : Int) - ((sz.length : Nat) : Int)) + 1) = ((b + 1 - sz.length : Nat) : Int) := by
  have : IntKind.i64.wrap (((b : Nat) : Int) - ((sz.length : Nat) : Int)) = ((b : Nat) : Int) - ((sz.length : Nat) : Int) := ci_ oM
  rw [this, ci_ oM]; omega
 have hw9 : IntKind.i64.wrap (((b : Nat) : Int) + 1) = ((a.length : Nat) : Int) := by rw [h8]; exact R_ oM
 conv => whnf
 refine ⟨g_ b, by rw [nI_len, i_]; omega, ?_⟩
 conv => whnf
 refine ⟨_, hga, ?_⟩
 conv => whnf
 rintro (_ | _) q1
 rotate_left
 ·have q1 : S ≠ b + 1 - sz.length := by rw [hw8] at q1; simp at q1; omega
  rw [if_neg q1] at hM
  conv => whnf
  rw [← hM]
  first | done | rfl
 have q1 : S = b + 1 - sz.length := by rw [hw8] at q1; simp at q1; omega
 rw [if_pos q1] at hM
 conv => whnf
 refine ⟨(k + 1, a, t), ⟨h1, g3, oM, g5, hM⟩, by (try dsimp only); omega, ?_⟩
 refine ⟨rfl, ?_, ?_⟩ <;> repeat' (first | exact trivial | exact rfl | (rw [o4_]; exact rfl) | refine am_ ?_ | refine aw_ hw9 ?_ | refine aw_ hwk ?_ | refine ah_ ?_ ?_)
end
section
open Go.RowKit
theorem fcs_body : ∀ (Fs : List FnT) (b : Nat), ∀ f ∈ fcs b Fs, 0 ≤ f.body
 | [], _, f, h => by cases h
 | F :: Fs, b, f, h => by
  simp only [fcs] at h
  rcases List.mem_cons.1 h with rfl | h
  ·have := F.body.size_pos; dsimp only; omega
  ·exact fcs_body Fs _ f h
theorem ord_body {p : Pg} (h : mq_ p = true) : ∀ f ∈ p.funcs, 0 ≤ f.body := by
 obtain ⟨Fs, _, rfl⟩ := ord_iff.1 h
 exact fcs_body Fs 0
theorem meas_ord (p : Pg) : (measV p).2.2 = mq_ p ∧ (mq_ p = true → ∀ f ∈ p.funcs, f.body.toNat < (measV p).2.1.length ∧ (measV p).2.1.getD f.body.toNat 0 = bw_ p.nodes (p.nodes.length + 1) f.body.toNat) := by
 have h := measM_ord p
 unfold measM at h
 unfold measV resM
 cases hF : gb_ p.nodes p.funcs [] [] with
 | none => rw [hF] at h; dsimp only at h ⊢; exact ⟨h.symm, fun e => by rw [h] at e; cases e⟩
 | some r =>
  obtain ⟨sz, ht⟩ := r
  rw [hF] at h
  dsimp only at h ⊢
  by_cases hn : sz.length = p.nodes.length
  ·rw [if_pos hn] at h
   exact ⟨by rw [h.1]; simpa using hn, fun _ => h.2⟩
  ·rw [if_neg hn] at h
   exact ⟨by rw [h]; simpa using hn, fun e => by rw [h] at e; cases e⟩
def badF (ns : List Nd) (f : Fc) : Bool := decide (8 < f.params.length) || decide (32 < bw_ ns (ns.length + 1) f.body.toNat)
theorem foldl_gt {α : Type} (F : α → Nat) (B : Nat) : ∀ (xs : List α) (m : Nat), B < xs.foldl (fun m f => max m (F f)) m ↔ B < m ∨ ∃ x ∈ xs, B < F x
 | [], m => by simp
 | x :: xs, m => by
  rw [List.foldl_cons, foldl_gt F B xs]
  constructor
  ·rintro (h | ⟨y, hy, h⟩)
   ·rcases s_ B m with h1 | h1
    ·exact .inl h1
    ·exact .inr ⟨x, by simp, oM⟩
   ·exact .inr ⟨y, by simp [hy], h⟩
  ·rintro (h | ⟨y, hy, h⟩)
   ·exact .inl oM
   ·rcases List.mem_cons.1 hy with rfl | hy
    ·exact .inl oM
    ·exact .inr ⟨y, hy, h⟩
theorem bad_any (p : Pg) : (p.funcs.any (fun f => decide (8 < f.params.length)) = true ∨ 32 < jo_ p) ↔ p.funcs.any (badF p.nodes) = true := by
 unfold jo_
 rw [foldl_gt]
 simp only [List.any_eq_true, badF, C_, decide_eq_true_eq]
 constructor
 ·rintro (⟨x, hx, h⟩ | h | ⟨x, hx, h⟩)
  ·exact ⟨x, hx, .inl h⟩
  ·omega
  ·exact ⟨x, hx, .inr h⟩
 ·rintro ⟨x, hx, h | h⟩
  ·exact .inl ⟨x, hx, h⟩
  ·exact .inr (.inr ⟨x, hx, h⟩)
theorem x_rcheck (p : Pg) (hp : mv_ p) : DCalls Tryz.prog 14 [p.V] (int (bd_ p)) := by
 have hms := mx_ p hp
 obtain ⟨ho1, ho2⟩ := meas_ord p
 have hbd := @ord_body p
 have hck : bd_ p = if 600 < p.nodes.length ∨ 16 < p.funcs.length then 3 else if mq_ p = false then 1 else if p.funcs.any (badF p.nodes) = true then 3 else 0 := by
  unfold bd_
  split
  ·rfl
  split
  ·rfl
  ·simp only [bad_any]
 generalize measV p = mv at *
 obtain ⟨sz, ht, is⟩ := mv
 dsimp only at ho1 ho2
 subst ho1
 have hf1 := hp.fs
 have hln : (p.nodes.map ndD).length = p.nodes.length := d_ _
 have hlf : (p.funcs.map fcD).length = p.funcs.length := d_ _
 refine sx Tryz.func14 kR ?_
 conv => whnf
 rintro (_ | _) h1
 rotate_left
 ·have h1 : 600 < p.nodes.length := by rw [hln] at h1; simp at h1; omega
  rw [hck, if_pos (.inl h1)]
  repeat ((conv => whnf); first | refine kT ?_ | refine kF ?_)
  (conv => whnf) <;> rfl
 have h1 : ¬ 600 < p.nodes.length := by rw [hln] at h1; simp at h1; omega
 conv => whnf
 rintro (_ | _) h2
 rotate_left
 ·have h2 : 16 < p.funcs.length := by rw [hlf] at h2; simp at h2; omega
  rw [hck, if_pos (.inr h2)]
  repeat ((conv => whnf); first | refine kT ?_ | refine kF ?_)
  (conv => whnf) <;> rfl
 have h2 : ¬ 16 < p.funcs.length := by rw [hlf] at h2; simp at h2; omega
 rw [hck, if_neg oM]
 conv => whnf
 refine ⟨_, hms, ?_⟩
 conv => whnf
 rintro (_ | _) h3
 rotate_left
 ·have h3 : mq_ p = false := by simpa using h3
  rw [if_pos h3]
  (conv => whnf) <;> rfl
 have h3 : mq_ p = true := by simpa using h3
 rw [if_neg (by simp [h3])]
 have hms2 := ho2 h3
 have hbd2 := hbd h3
 obtain ⟨ns, fs⟩ := p
 dsimp only at hms2 hbd2 hf1 hlf h2 ⊢
 conv => whnf
 refine ⟨[], Nat, fun k => [(6, int k)], fun _ => [], fun k => k ≤ fs.length ∧ (fs.drop k).any (badF ns) = fs.any (badF ns), fun k => fs.length - k, 0, ⟨l_ _, rfl⟩, ?_, ?_⟩
 ·exact eN
 rintro k ⟨hk, hb⟩
 conv => whnf
 rintro (_ | _) h4
 ·have h4 : fs.length ≤ k := by simp at h4; omega
  rw [k_ h4] at hb
  rw [← hb, List.any_nil, if_neg sI]
  (conv => whnf) <;> rfl
 have h4 : k < fs.length := by simp at h4; omega
 have hwk : IntKind.i64.wrap (((k : Nat) : Int) + 1) = ((k + 1 : Nat) : Int) := R_ oM
 have hg : (fs.map fcD)[((k : Nat) : Int).toNat]? = some (fcD fs[k]) := W_ fcD h4
 obtain ⟨m1, m2⟩ := hms2 fs[k] (q_ h4)
 have m3 := hbd2 fs[k] (q_ h4)
 rw [r_ h4, List.any_cons] at hb
 generalize fs[k] = f at hg m1 m2 m3 hb
 obtain ⟨nm, ps, bd⟩ := f
 dsimp only at m1 m2 m3
 obtain ⟨b, rfl⟩ : ∃ b : Nat, bd = b := ⟨bd.toNat, oM⟩
 rw [i_] at m1 m2
 have hlp : (ps.map bl_).length = ps.length := d_ _
 replace hg : (fs.map fcD)[((k : Nat) : Int).toNat]? = some [.cv (.string (mk nm)), .sl 1 (ps.map bl_), .cv (.int .i64 ((b : Nat) : Int))] := hg
 have hgh : ((nI ht).map ae_)[((b : Nat) : Int).toNat]? = some (ae_ ((ht.getD b 0 : Nat) : Int)) := by rw [i_]; exact nI_get m1
 rw [m2] at hgh
 have hbf : badF ns ⟨nm, ps, ((b : Nat) : Int)⟩ = (decide (8 < ps.length) || decide (32 < bw_ ns (ns.length + 1) b)) := by unfold badF; rw [i_]
 rw [hbf] at hb
 generalize bw_ ns (ns.length + 1) b = H at hgh hb
 conv => whnf
 refine ⟨g_ k, _, hg, ?_⟩
 conv => whnf
 rintro (_ | _) h5
 rotate_left
 ·have h5 : 8 < ps.length := by rw [hlp] at h5; simp at h5; omega
  rw [decide_eq_true h5, Bool.true_or, Bool.true_or] at hb
  rw [← hb, if_pos rfl]
  repeat ((conv => whnf); first | refine kT ?_ | refine kF ?_)
  (conv => whnf) <;> rfl
 have h5 : ¬ 8 < ps.length := by rw [hlp] at h5; simp at h5; omega
 conv => whnf
 refine ⟨g_ k, _, hg, ?_⟩
 conv => whnf
 refine ⟨g_ b, _, hgh, ?_⟩
 conv => whnf
 rintro (_ | _) h6
 rotate_left
 ·have h6 : 32 < H := by simp at h6; omega
  rw [decide_eq_true h6, Bool.or_true, Bool.true_or] at hb
  rw [← hb, if_pos rfl]
  (conv => whnf) <;> rfl
 have h6 : ¬ 32 < H := by simp at h6; omega
 rw [decide_eq_false h5, decide_eq_false h6, Bool.false_or, Bool.false_or] at hb
 conv => whnf
 refine ⟨k + 1, ⟨h4, hb⟩, by (try dsimp only); omega, ?_⟩
 exact eA
theorem x_rdepth (p : Pg) (hp : mv_ p) : DCalls Tryz.prog 19 [p.V] (int (if bd_ p = 0 then (jo_ p : Nat) else 0)) := by
 have hck := x_rcheck p hp
 by_cases hc : bd_ p = 0
 rotate_left
 ·rw [if_neg hc]
  refine sx Tryz.func19 kR ?_
  conv => whnf
  refine ⟨_, hck, ?_⟩
  conv => whnf
  refine Q_ true (by simpa using hc) ?_
  (conv => whnf) <;> rfl
 rw [if_pos hc]
 rw [hc] at hck
 have ho := check_ord hc
 have hms := mx_ p hp
 have hms2 := (meas_ord p).2 ho
 have hbd2 := ord_body ho
 have hf1 := hp.fs
 generalize measV p = mv at *
 obtain ⟨sz, ht, is⟩ := mv
 dsimp only at hms2
 obtain ⟨ns, fs⟩ := p
 dsimp only at hms2 hbd2 hf1
 have hlf : (fs.map fcD).length = fs.length := d_ _
 have hdp : jo_ ⟨ns, fs⟩ = fs.foldl (fun m f => max m (bw_ ns (ns.length + 1) f.body.toNat)) 0 := rfl
 rw [hdp]
 refine sx Tryz.func19 kR ?_
 conv => whnf
 refine ⟨_, hck, ?_⟩
 conv => whnf
 refine kF ?_
 conv => whnf
 refine ⟨_, hms, ?_⟩
 conv => whnf
 refine ⟨[], Nat × Nat, fun ⟨k, t⟩ => [(7, int k), (6, int t)], fun _ => [], fun ⟨k, t⟩ => k ≤ fs.length ∧ (fs.drop k).foldl (fun m f => max m (bw_ ns (ns.length + 1) f.body.toNat)) t = fs.foldl (fun m f => max m (bw_ ns (ns.length + 1) f.body.toNat)) 0, fun ⟨k, _⟩ => fs.length - k, (0, 0), ⟨l_ _, rfl⟩, ?_, ?_⟩
 ·exact eN
 rintro ⟨k, t⟩ ⟨hk, hb⟩
 conv => whnf
 rintro (_ | _) h4
 ·have h4 : fs.length ≤ k := by simp at h4; omega
  rw [k_ h4, List.foldl_nil] at hb
  rw [← hb]
  (conv => whnf) <;> rfl
 have h4 : k < fs.length := by simp at h4; omega
 have hwk : IntKind.i64.wrap (((k : Nat) : Int) + 1) = ((k + 1 : Nat) : Int) := R_ oM
 have hg : (fs.map fcD)[((k : Nat) : Int).toNat]? = some (fcD fs[k]) := W_ fcD h4
 obtain ⟨m1, m2⟩ := hms2 fs[k] (q_ h4)
 have m3 := hbd2 fs[k] (q_ h4)
 rw [r_ h4, List.foldl_cons] at hb
 generalize fs[k] = f at hg m1 m2 m3 hb
 obtain ⟨nm, ps, bd⟩ := f
 dsimp only at m1 m2 m3 hb
 obtain ⟨b, rfl⟩ : ∃ b : Nat, bd = b := ⟨bd.toNat, oM⟩
 rw [i_] at m1 m2 hb
 replace hg : (fs.map fcD)[((k : Nat) : Int).toNat]? = some [.cv (.string (mk nm)), .sl 1 (ps.map bl_), .cv (.int .i64 ((b : Nat) : Int))] := hg
 have hgh : ((nI ht).map ae_)[((b : Nat) : Int).toNat]? = some (ae_ ((ht.getD b 0 : Nat) : Int)) := by rw [i_]; exact nI_get m1
 rw [m2] at hgh
 generalize bw_ ns (ns.length + 1) b = H at hgh hb
 have hmx : (if (H : Int) > (t : Int) then (H : Int) else (t : Int)) = ((max t H : Nat) : Int) := by split <;> omega
 conv => whnf
 refine ⟨g_ k, _, hg, ?_⟩
 conv => whnf
 refine ⟨g_ b, _, hgh, ?_⟩
 conv => whnf
 refine ⟨(k + 1, max t H), ⟨h4, hb⟩, by (try dsimp only); omega, ?_⟩
 exact eA
end
section
open Go.RowKit
theorem x_lawPrints (haw : AwakeS) (p : Pg) (hp : mv_ p) : DCalls Tryz.prog 4 [p.V] (boo true) := by
 have hck := ha_ p hp
 have hrc := x_rcheck p hp
 by_cases hc : bd_ p = 0
 ·obtain ⟨Fs, hF, rfl⟩ := check_trees hc
  have hpr := ku_ Fs hF hc hp
  have hrp := x_rprintS Fs hF hc hrc
  rw [hc] at hck hrc
  generalize eo_ Fs = r at *
  obtain ⟨x, e⟩ := r
  refine sx Tryz.func4 kR ?_
  repeat ((conv => whnf); first | refine ⟨none, kR, ?_⟩ | refine Q_ true (seq_refl _) ?_ | refine Q_ true (beq_self_eq_true _) ?_ | refine kT ?_ | refine kF ?_ | refine ⟨_, hck, ?_⟩ | refine ⟨_, hrc, ?_⟩ | refine ⟨_, hpr, ?_⟩ | refine ⟨_, hrp, ?_⟩ | refine ⟨_, haw, ?_⟩)
  (conv => whnf) <;> rfl
 ·have hpr := x_printN p hp hc
  have hrp := x_rprintN p hrc hc
  rcases check_01 p with h | h | h
  ·exact absurd h hc
  all_goals
   rw [h] at hpr hck hrc hrp
   refine sx Tryz.func4 kR ?_
   repeat ((conv => whnf); first | refine ⟨none, kR, ?_⟩ | refine Q_ true (lit0 (b := true) rfl) ?_ | refine kT ?_ | refine kF ?_ | refine ⟨_, hck, ?_⟩ | refine ⟨_, hrc, ?_⟩ | refine ⟨_, hpr, ?_⟩ | refine ⟨_, hrp, ?_⟩ | refine ⟨_, haw, ?_⟩)
   (conv => whnf) <;> rfl
end
end Go.Proofs.YtglndfgmlminpaaGreatDoor
