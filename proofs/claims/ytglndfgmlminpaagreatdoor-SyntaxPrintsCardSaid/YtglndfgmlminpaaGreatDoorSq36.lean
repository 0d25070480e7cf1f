/- Texts joined by pack.py: XSyWG XSyWH XSyG XSyH XSyI -/
import Derived.Test.YtglndfgmlminpaaGreatDoorSq35
set_option maxHeartbeats 8000000
set_option maxRecDepth 100000
namespace Go.Proofs.YtglndfgmlminpaaGreatDoor
section
open Go.RowKit
theorem roots_seg {l : List Nd} : ∀ (ts : List Tr) (a : Nat), (∀ T ∈ ts, T.wf = true) → Tr.flats a ts <+: l.drop a → ∀ k ∈ Tr.roots a ts, ∃ T ∈ ts, ∃ b i : Nat, k = ((i : Nat) : Int) ∧ Seg l T b i
 | [], a, _, _, k, hk => by simp [Tr.roots] at hk
 | T :: ts, a, hw, h, k, hk => by
  simp only [Tr.flats] at h
  rw [a9_, Tr.flat_length] at h
  have hs := gg_ (hw T sI) h.1
  have hpos := T.size_pos
  simp only [Tr.roots, List.mem_cons] at hk
  rcases hk with rfl | hk
  ·exact ⟨T, by simp, a, a + T.size - 1, oM, hs⟩
  ·obtain ⟨X, hX, b, i, h1, h2⟩ := roots_seg ts (a + T.size) (fun X hX => hw X (by simp [hX])) h.2 k hk
   exact ⟨X, by simp [hX], b, i, h1, h2⟩
theorem p2_ (l : List Nd) (hn : NsOk l) : ∀ (f : Nat) (T : Tr) (a i : Nat), f ≤ 8796093022208 → T.ht ≤ f → Seg l T a i → DCalls Tryz.prog 69 [.sl true 5 (l.map ndD), int i] (int (bw_ l f i : Nat))
 | 0, T, a, i, _, h, _ => by cases T; simp [Tr.ht] at h
 | f + 1, T, a, i, hf, h, hs => by
  have hlen := hn.len
  have hll : (l.map ndD).length = l.length := d_ _
  have hi : i < l.length := by
   obtain ⟨n, h1, _⟩ := hs.kind
   rcases s_ i l.length with h' | h'
   ·exact h'
   ·rw [J_ h'] at h1; cases h1
  have hres := fj_ (f + 1) T a i h hs
  obtain ⟨b, ts⟩ := T
  obtain ⟨_, _, hws⟩ := b4_ hs.wf
  have hlen2 := hs.len
  have hseg := hs.seg
  simp only [Tr.size] at hlen2
  simp only [Tr.flat] at hseg
  rw [a9_, Tr.flats_length] at hseg
  have hq : l[i] = ⟨b.kind, b.text, b.val, b.keys, Tr.roots a ts⟩ := by
   have := eg_ hseg.2 (j := 0) sI
   rw [show a + Tr.sizes ts + 0 = i by omega, h_ hi] at this
   exact Option.some.inj this
  have hkid : ∀ k ∈ Tr.roots a ts, ∃ j : Nat, k = ((j : Nat) : Int) ∧ j < l.length ∧ DCalls Tryz.prog 69 [.sl true 5 (l.map ndD), int j] (int (bw_ l f j : Nat)) ∧ bw_ l f j ≤ f := by
   intro k hk
   obtain ⟨X, hX, b', j, h1, h2⟩ := roots_seg ts a (fun X hX => ic_ hX hws) hseg.1 k hk
   have hht : X.ht ≤ f := by have := Tr.ht_mem hX; simp only [Tr.ht] at h; omega
   refine ⟨j, h1, ?_, p2_ l hn f X b' j oM hht h2, by rw [fj_ f X b' j hht h2]; exact hht⟩
   obtain ⟨n, h3, _⟩ := h2.kind
   rcases s_ j l.length with h' | h'
   ·exact h'
   ·rw [J_ h'] at h3; cases h3
  have hgi : (l.map ndD)[((i : Nat) : Int).toNat]? = some (ndD l[i]) := W_ ndD hi
  have hok := hn.nd l[i] (q_ hi)
  have hdef : bw_ l (f + 1) i = l[i].kids.foldl (fun m k => max m (bw_ l f k.toNat)) 0 + 1 := by
   simp only [bw_, h_ hi]
  rw [← show l[i].kids = Tr.roots a ts by rw [hq]] at hkid
  refine sx Tryz.func69 kR ?_
  conv => whnf
  refine ⟨oM, _, hgi, ?_⟩
  generalize l[i] = q at *
  obtain ⟨k0, s, v, ks, js⟩ := q
  dsimp only at *
  have hjs := hok.kids
  have hjl : (js.map ae_).length = js.length := d_ _
  dsimp only at hjs
  conv => whnf
  refine ⟨[], Nat × Nat, fun ⟨m, x⟩ => [(14, int m), (5, int x)], fun _ => [], fun ⟨m, x⟩ => m ≤ js.length ∧ x ≤ f ∧ (js.drop m).foldl (fun m k => max m (bw_ l f k.toNat)) x = js.foldl (fun m k => max m (bw_ l f k.toNat)) 0, fun ⟨m, _⟩ => js.length - m, (0, 0), ⟨l_ _, l_ _, rfl⟩, ?_, ?_⟩
  ·exact eN
  rintro ⟨m, x⟩ ⟨hm, hx, hk⟩
  conv => whnf
  rintro (_ | _) h1
  ·have h1 : js.length ≤ m := by simp at h1; omega
   rw [k_ h1] at hk
   have hk : x = js.foldl (fun m k => max m (bw_ l f k.toNat)) 0 := hk
   rw [hdef, ← hk]
   conv => whnf
   exact bg_ (R_ oM)
  have h1 : m < js.length := by simp at h1; omega
  obtain ⟨j, hj1, hj2, hj3, hj4⟩ := hkid _ (q_ h1)
  have hwm : IntKind.i64.wrap (((m : Nat) : Int) + 1) = ((m + 1 : Nat) : Int) := R_ oM
  rw [r_ h1, List.foldl_cons, hj1, i_] at hk
  have hgj : (js.map ae_)[((m : Nat) : Int).toNat]? = some (ae_ ((j : Nat) : Int)) := by rw [← hj1]; exact W_ ae_ h1
  conv => whnf
  refine ⟨oM, _, hgj, ?_⟩
  conv => whnf
  refine ⟨_, hj3, ?_⟩
  have hmx : (if ((bw_ l f j : Nat) : Int) > ((x : Nat) : Int) then ((bw_ l f j : Nat) : Int) else ((x : Nat) : Int)) = ((max x (bw_ l f j) : Nat) : Int) := by split <;> omega
  conv => whnf
  refine ⟨(m + 1, max x (bw_ l f j)), ⟨h1, oM, hk⟩, by (try dsimp only); omega, ?_⟩
  exact eA
theorem fcs_seg {l : List Nd} : ∀ (Fs : List FnT) (s : Nat), (∀ F ∈ Fs, f8_ F) → Tr.flats s (Fs.map (·.body)) <+: l.drop s → ∀ f ∈ fcs s Fs, ∃ T : Tr, ∃ b i : Nat, f.body = ((i : Nat) : Int) ∧ Seg l T b i ∧ T.ht ≤ l.length
 | [], s, _, _, f, hf => by simp [fcs] at hf
 | F :: Fs, s, hw, h, f, hf => by
  simp only [List.map_cons, Tr.flats] at h
  rw [a9_, Tr.flat_length] at h
  have hwf := (hw F sI).wf
  have hs := gg_ hwf h.1
  have hpos := F.body.size_pos
  simp only [fcs, List.mem_cons] at hf
  rcases hf with rfl | hf
  ·refine ⟨F.body, s, s + F.body.size - 1, by dsimp only; omega, hs, ?_⟩
   have h1 := Tr.ht_size _ F.body (f_ _)
   have h2 := h.1.length_le
   rw [Tr.flat_length, p_] at h2
   omega
  ·exact fcs_seg Fs (s + F.body.size) (fun X hX => hw X (by simp [hX])) h.2 f hf
theorem p5_ (p : Pg) (hp : mv_ p) (ho : mq_ p = true) : DCalls Tryz.prog 34 [p.V] (int (jo_ p : Nat)) := by
 have hln := hp.ns.len
 have hlf := hp.fs
 obtain ⟨Fs, hF, e⟩ := ord_iff.1 ho
 have hbody : ∀ f ∈ p.funcs, ∃ j : Nat, f.body = ((j : Nat) : Int) ∧ DCalls Tryz.prog 69 [.sl true 5 (p.nodes.map ndD), int j] (int (bw_ p.nodes (p.nodes.length + 1) j : Nat)) ∧ bw_ p.nodes (p.nodes.length + 1) j ≤ p.nodes.length := by
  intro f hf
  have hfs : p.funcs = fcs 0 Fs := by rw [e]; rfl
  have hns : p.nodes = Tr.flats 0 (Fs.map (·.body)) := by rw [e]; rfl
  rw [hfs] at hf
  obtain ⟨T, b, i, h1, h2, h3⟩ := fcs_seg (l := p.nodes) Fs 0 hF (by rw [hns]; exact List.prefix_refl _) f hf
  refine ⟨i, h1, p2_ p.nodes hp.ns (p.nodes.length + 1) T b i oM oM h2, ?_⟩
  rw [fj_ _ T b i oM h2]
  exact h3
 have hdp : jo_ p = p.funcs.foldl (fun m f => max m (bw_ p.nodes (p.nodes.length + 1) f.body.toNat)) 0 := rfl
 obtain ⟨ns, fs⟩ := p
 dsimp only at *
 refine sx Tryz.func34 kR ?_
 conv => whnf
 refine ⟨[], Nat × Nat, fun ⟨m, x⟩ => [(9, int m), (3, int x)], fun _ => [], fun ⟨m, x⟩ => m ≤ fs.length ∧ x ≤ ns.length ∧ (fs.drop m).foldl (fun m f => max m (bw_ ns (ns.length + 1) f.body.toNat)) x = fs.foldl (fun m f => max m (bw_ ns (ns.length + 1) f.body.toNat)) 0, fun ⟨m, _⟩ => fs.length - m, (0, 0), ⟨l_ _, l_ _, rfl⟩, ?_, ?_⟩
 ·exact eN
 rintro ⟨m, x⟩ ⟨hm, hx, hk⟩
 conv => whnf
 rintro (_ | _) h1
 ·have h1 : fs.length ≤ m := by simp at h1; omega
  rw [k_ h1] at hk
  have hk : x = fs.foldl (fun m f => max m (bw_ ns (ns.length + 1) f.body.toNat)) 0 := hk
  rw [hdp, ← hk]
  (conv => whnf) <;> rfl
 have h1 : m < fs.length := by simp at h1; omega
 obtain ⟨j, hj1, hj3, hj4⟩ := hbody _ (q_ h1)
 have hwm : IntKind.i64.wrap (((m : Nat) : Int) + 1) = ((m + 1 : Nat) : Int) := R_ oM
 rw [r_ h1, List.foldl_cons, hj1, i_] at hk
 have hgf : (fs.map fcD)[((m : Nat) : Int).toNat]? = some (fcD fs[m]) := W_ fcD h1
 generalize fs[m] = q at *
 obtain ⟨nm, ps, bd⟩ := q
 dsimp only at hj1
 subst hj1
 have hmx : (if ((bw_ ns (ns.length + 1) j : Nat) : Int) > ((x : Nat) : Int) then ((bw_ ns (ns.length + 1) j : Nat) : Int) else ((x : Nat) : Int)) = ((max x (bw_ ns (ns.length + 1) j) : Nat) : Int) := by split <;> omega
 conv => whnf
 refine ⟨oM, _, hgf, ?_⟩
 conv => whnf
 refine ⟨_, hj3, ?_⟩
 conv => whnf
 refine ⟨(m + 1, max x (bw_ ns (ns.length + 1) j)), ⟨h1, oM, hk⟩, by (try dsimp only); omega, ?_⟩
 exact eA
def o5_ (f : Fc) : Bool := decide (8 < f.params.length)
theorem x_many (f : Fc) : DCalls Tryz.prog 33 [f.V] (boo (o5_ f)) := by
 obtain ⟨nm, ps, bd⟩ := f
 refine sx Tryz.func33 kR ?_
 conv => whnf
 refine S_ ?_
 unfold o5_
 dsimp only
 rw [d_, z_]
 simp
 try omega
theorem x_idxM (l : List Fc) (hl : l.length ≤ 8796093022207) : DCalls Tryz.prog 48 [.sl true 3 (l.map fcD), .cv (.func (.func 33) #[] #[])] (int (idxG o5_ l 0)) := by
 refine sx Tryz.func48 kR ?_
 conv => whnf
 refine ⟨[], Nat, fun k => [(8, int k)], fun _ => [], fun k => k ≤ l.length ∧ idxG o5_ (l.drop k) k = idxG o5_ l 0, fun k => l.length - k, 0, ⟨by simp, rfl⟩, ?_, ?_⟩
 ·exact eN
 rintro k ⟨hk, hf⟩
 conv => whnf
 rintro (_ | _) h1
 ·simp at h1
  rw [k_ oM] at hf
  conv => whnf
  exact bg_ hf
 have h1 : k < l.length := by simp at h1; omega
 rw [r_ h1] at hf
 simp only [idxG] at hf
 conv => whnf
 refine ⟨oM, _, W_ fcD h1, ?_⟩
 conv => whnf
 refine ⟨_, x_many l[k], ?_⟩
 conv => whnf
 rintro (_ | _) h2
 ·have h2' : ¬ (o5_ l[k] = true) := by rw [h2]; simp
  rw [if_neg h2'] at hf
  conv => whnf
  refine ⟨k + 1, ⟨h1, hf⟩, by dsimp only; omega, ?_⟩
  exact eW
 ·rw [if_pos h2] at hf
  conv => whnf
  exact bg_ hf
theorem x_anyM (l : List Fc) (hl : l.length ≤ 8796093022207) : DCalls Tryz.prog 32 [.sl true 3 (l.map fcD), .cv (.func (.func 33) #[] #[])] (boo (l.any o5_)) := by
 refine sx Tryz.func32 kR ?_
 conv => whnf
 refine ⟨_, x_idxM l hl, ?_⟩
 conv => whnf
 exact S_ (pe_ _ l 0)
end
section
open Go.RowKit
theorem ha_ (p : Pg) (hp : mv_ p) : DCalls Tryz.prog 13 [p.V] (int (bd_ p)) := by
 have hor := x_ordered p hp
 have hdp := p5_ p hp
 have hmy := x_anyM p.funcs hp.fs
 have hck : bd_ p = if 600 < p.nodes.length ∨ 16 < p.funcs.length then 3 else if mq_ p = false then 1 else if p.funcs.any o5_ = true ∨ 32 < jo_ p then 3 else 0 := rfl
 rw [hck]
 obtain ⟨ns, fs⟩ := p
 dsimp only at *
 have hnl : (ns.map ndD).length = ns.length := d_ _
 have hfl : (fs.map fcD).length = fs.length := d_ _
 refine sx Tryz.func13 kR ?_
 conv => whnf
 rintro (_ | _) h1
 rotate_left
 ·dsimp only at h1
  have h1 : 600 < ns.length := by simp at h1; omega
  rw [if_pos (.inl h1)]
  (conv => whnf) <;> rfl
 dsimp only at h1
 have h1 : ¬ 600 < ns.length := by simp at h1; omega
 conv => whnf
 rintro (_ | _) h2
 rotate_left
 ·dsimp only at h2
  have h2 : 16 < fs.length := by simp at h2; omega
  rw [if_pos (.inr h2)]
  (conv => whnf) <;> rfl
 dsimp only at h2
 have h2 : ¬ 16 < fs.length := by simp at h2; omega
 rw [if_neg sO]
 cases h3 : mq_ ⟨ns, fs⟩ with
 | false =>
  rw [h3] at hor
  conv => whnf
  refine ⟨_, hor, ?_⟩
  conv => whnf
  refine kT ?_
  (conv => whnf) <;> rfl
 | true =>
  rw [h3] at hor
  have hdp := hdp h3
  rw [if_neg sI]
  conv => whnf
  refine ⟨_, hor, ?_⟩
  conv => whnf
  refine kF ?_
  conv => whnf
  refine ⟨_, hmy, ?_⟩
  cases h4 : fs.any o5_ with
  | true =>
   conv => whnf
   refine kT ?_
   (conv => whnf) <;> rfl
  | false =>
   conv => whnf
   refine kF ?_
   conv => whnf
   refine ⟨_, hdp, ?_⟩
   conv => whnf
   rintro (_ | _) h5
   ·have h5 : ¬ 32 < jo_ ⟨ns, fs⟩ := by simp at h5; omega
    rw [if_neg sO]
    (conv => whnf) <;> rfl
   ·have h5 : 32 < jo_ ⟨ns, fs⟩ := by simp at h5; omega
    rw [if_pos (.inr h5)]
    (conv => whnf) <;> rfl
theorem check_ord {p : Pg} (h : bd_ p = 0) : mq_ p = true := by
 unfold bd_ at h
 split at h
 ·cases h
 split at h
 ·cases h
 rename_i h1
 simpa using h1
theorem x_sdepth (p : Pg) (hp : mv_ p) : DCalls Tryz.prog 18 [p.V] (int (if bd_ p = 0 then (jo_ p : Nat) else 0)) := by
 have hc := ha_ p hp
 have hdp := fun h => p5_ p hp (check_ord h)
 by_cases h : bd_ p = 0
 ·have hdp := hdp h
  rw [if_pos h]
  obtain ⟨ns, fs⟩ := p
  refine sx Tryz.func18 kR ?_
  conv => whnf
  refine ⟨_, hc, ?_⟩
  conv => whnf
  refine Q_ false (by simpa using h) ?_
  conv => whnf
  refine ⟨_, hdp, ?_⟩
  (conv => whnf) <;> rfl
 ·rw [if_neg h]
  obtain ⟨ns, fs⟩ := p
  refine sx Tryz.func18 kR ?_
  conv => whnf
  refine ⟨_, hc, ?_⟩
  conv => whnf
  refine Q_ true (by simpa using h) ?_
  (conv => whnf) <;> rfl
end
section
open Go.RowKit
section
variable {l : List Tok} {k : Nat} {e : Int} {ns : List Nd} {fs : List Fc} {f : Nat} {E : b2_} {ks : List Bs} {js : List Int}
theorem x_kitemN2 (hk : k < l.length) (h4 : l[k].kind = 4) (ho : ks = [] ∨ Op.bytesLess (ks.getLastD []) l[k].text = true) (hcl : a8_ sCl (l.drop (k + 1)) = false) (hl : l.length ≤ 1000000) (hks : ks.length ≤ 1000000) :
  g4_ Tryz.prog 269 [.bx 0 0, .bx 3 0] (kM l k e ns fs ks js) (dj_ (fh_ e (l.drop (k + 1)))) := by
 have hb5 : ak_ 5 [sCl] (l.drop (k + 1)) = false := by rw [ay_]; exact hcl
 have hb4 : ak_ 4 [] (l.drop k) = true := by rw [c6_ _ _ hk]; simp [h4]
 have hlk : (ks.map bl_).length = ks.length := d_ _
 refine mpsx Tryz.func269 kR kR ?_
 conv => whnf
 refine ⟨none, kR, ?_⟩
 rcases List.eq_nil_or_concat ks with rfl | ⟨kt, kl, rfl⟩
 repeat ((conv => whnf); first | refine kT ?_ | refine kF ?_)
 rotate_left
 rw [List.concat_eq_append] at *
 have hlk : ((kt ++ [kl]).map bl_).length = kt.length + 1 := by simp
 have hw : IntKind.i64.wrap ((((((kt ++ [kl]).map bl_).length : Nat)) : Int) - 1) = ((kt.length : Nat) : Int) := by rw [hlk, ci_ (by simp at hks; omega)]; omega
 have hget : ((kt ++ [kl]).map bl_)[((kt.length : Nat) : Int).toNat]? = some (bl_ kl) := by simp
 conv => whnf
 refine Q_ true (by rw [hlk]; simp) ?_
 conv => whnf
 refine T_ (T := TM ab_) (φ := []) (gf := false) (hz_ 4 [] (Nat.le_of_lt hk) hl sI) ?_
 rw [hb4]
 conv => whnf
 refine kT ?_
 conv => whnf
 refine ⟨oM, _, W_ mi_ hk, ?_⟩
 conv => whnf
 rw [hw]
 conv => whnf
 refine ⟨oM, by rw [hlk]; simp, ?_⟩
 conv => whnf
 refine ⟨_, hget, ?_⟩
 have ho : Op.bytesLess kl l[k].text = true := by
  rcases ho with ho | ho
  ·simp at ho
  ·simpa using ho
 conv => whnf
 refine Q_ false (by rw [c1_, c1_, n3_, ho]; rfl) ?_
 all_goals
  conv => whnf
  refine ⟨some ld_, kR, ?_⟩
  conv => whnf
  refine ⟨.bx 52 3, fun m2 K2 hK => hK, ?_⟩
  conv => whnf
  refine ⟨?_, ?_, trivial⟩
 all_goals
  conv => whnf
  try refine ⟨?_, trivial⟩
  conv => whnf
  refine .inl ?_
  conv => whnf
  refine T_ (T := TM ab_) (φ := []) (gf := false) (br_ (ts := []) hl sI hb4 hk) ?_
  conv => whnf
  refine ⟨by rw [d_]; show (_ + 1) * 16 ≤ _; simp only [c_, a_, b_] at *; omega, ?_⟩
  conv => whnf
  refine .inr ?_
  exact co_ (T := TM ab_) (ch_ (k := k + 1) (ts := [sCl]) hl sI hb5 hk) rfl
theorem x_kitemN3 {o : Int} (hk : k < l.length) (h4 : l[k].kind = 4) (ho : ks = [] ∨ Op.bytesLess (ks.getLastD []) l[k].text = true) (hcl : a8_ sCl (l.drop (k + 1)) = true) (hk2 : k + 1 < l.length)
  (c : g4_ Tryz.prog 139 [.bx 0 0] (pM l (k + 2) e ns fs) (dj_ o)) (hl : l.length ≤ 1000000) (hks : ks.length ≤ 1000000) (_hjs : js.length ≤ 1000000) :
  g4_ Tryz.prog 269 [.bx 0 0, .bx 3 0] (kM l k e ns fs ks js) (dj_ o) := by
 have hb5 : ak_ 5 [sCl] (l.drop (k + 1)) = true := by rw [ay_]; exact hcl
 have hb4 : ak_ 4 [] (l.drop k) = true := by rw [c6_ _ _ hk]; simp [h4]
 have hlk : (ks.map bl_).length = ks.length := d_ _
 refine mpsx Tryz.func269 kR kR ?_
 conv => whnf
 refine ⟨none, kR, ?_⟩
 rcases List.eq_nil_or_concat ks with rfl | ⟨kt, kl, rfl⟩
 repeat ((conv => whnf); first | refine kT ?_ | refine kF ?_)
 rotate_left
 rw [List.concat_eq_append] at *
 have hlk : ((kt ++ [kl]).map bl_).length = kt.length + 1 := by simp
 have hw : IntKind.i64.wrap ((((((kt ++ [kl]).map bl_).length : Nat)) : Int) - 1) = ((kt.length : Nat) : Int) := by rw [hlk, ci_ (by simp at hks; omega)]; omega
 have hget : ((kt ++ [kl]).map bl_)[((kt.length : Nat) : Int).toNat]? = some (bl_ kl) := by simp
 conv => whnf
 refine Q_ true (by rw [hlk]; simp) ?_
 conv => whnf
 refine T_ (T := TM ab_) (φ := []) (gf := false) (hz_ 4 [] (Nat.le_of_lt hk) hl sI) ?_
 rw [hb4]
 conv => whnf
 refine kT ?_
 conv => whnf
 refine ⟨oM, _, W_ mi_ hk, ?_⟩
 conv => whnf
 rw [hw]
 conv => whnf
 refine ⟨oM, by rw [hlk]; simp, ?_⟩
 conv => whnf
 refine ⟨_, hget, ?_⟩
 have ho : Op.bytesLess kl l[k].text = true := by
  rcases ho with ho | ho
  ·simp at ho
  ·simpa using ho
 conv => whnf
 refine Q_ false (by rw [c1_, c1_, n3_, ho]; rfl) ?_
 all_goals
  conv => whnf
  refine ⟨some ld_, kR, ?_⟩
  conv => whnf
  refine ⟨.bx 52 3, fun m2 K2 hK => hK, ?_⟩
  conv => whnf
  refine ⟨?_, ?_, trivial⟩
 all_goals
  conv => whnf
  try refine ⟨?_, trivial⟩
  conv => whnf
  refine .inl ?_
  conv => whnf
  refine T_ (T := TM ab_) (φ := []) (gf := false) (br_ (ts := []) hl sI hb4 hk) ?_
  conv => whnf
  refine ⟨by rw [d_]; show (_ + 1) * 16 ≤ _; simp only [c_, a_, b_] at *; omega, ?_⟩
  conv => whnf
  refine .inl ?_
  conv => whnf
  refine T_ (T := TM ab_) (φ := []) (gf := false) (br_ (k := k + 1) (ts := [sCl]) hl sI hb5 hk2) ?_
  conv => whnf
  refine ⟨some planK2, kR, ?_⟩
  conv => whnf
  refine ⟨.bx 52 4, fun m2 K2 hK => hK, ?_⟩
  conv => whnf
  refine ⟨?_, ?_, trivial⟩
 all_goals
  conv => whnf
  try refine ⟨?_, trivial⟩
  conv => whnf
  refine .inr ?_
  exact co_ (T := TM ab_) c rfl
theorem p3_ (hk : k ≤ l.length) (hb4 : ak_ 4 [] (l.drop k) = false) (hl : l.length ≤ 1000000) :
  g4_ Tryz.prog 269 [.bx 0 0, .bx 3 0] (kM l k e ns fs ks js) (dj_ (fh_ e (l.drop k))) := by
 have hlk : (ks.map bl_).length = ks.length := d_ _
 refine mpsx Tryz.func269 kR kR ?_
 conv => whnf
 refine ⟨none, kR, ?_⟩
 cases ks with
 | nil =>
  repeat ((conv => whnf); first | refine kT ?_ | refine kF ?_)
  conv => whnf
  refine ⟨some ld_, kR, ?_⟩
  conv => whnf
  refine ⟨.bx 52 3, fun m2 K2 hK => hK, ?_⟩
  conv => whnf
  refine ⟨?_, ?_, trivial⟩
  all_goals
   conv => whnf
   try refine ⟨?_, trivial⟩
   conv => whnf
   refine .inr ?_
   exact co_ (T := TM ab_) (ch_ (ts := []) hl sI hb4 hk) rfl
 | cons kt ks =>
  conv => whnf
  refine Q_ true (by rw [hlk]; simp) ?_
  conv => whnf
  refine T_ (T := TM ab_) (φ := []) (gf := false) (hz_ 4 [] hk hl sI) ?_
  rw [hb4]
  repeat ((conv => whnf); first | refine kT ?_ | refine kF ?_)
  conv => whnf
  refine ⟨some ld_, kR, ?_⟩
  conv => whnf
  refine ⟨.bx 52 3, fun m2 K2 hK => hK, ?_⟩
  conv => whnf
  refine ⟨?_, ?_, trivial⟩
  all_goals
   conv => whnf
   try refine ⟨?_, trivial⟩
   conv => whnf
   refine .inr ?_
   exact co_ (T := TM ab_) (ch_ (ts := []) hl sI hb4 hk) rfl
theorem x_kitemN1 (hk : k < l.length) (h4 : l[k].kind = 4) (h0 : ks ≠ []) (ho : Op.bytesLess (ks.getLastD []) l[k].text = false) (hl : l.length ≤ 1000000) (hks : ks.length ≤ 1000000) :
  g4_ Tryz.prog 269 [.bx 0 0, .bx 3 0] (kM l k e ns fs ks js) (dj_ (fh_ e (l.drop k))) := by
 have hb4 : ak_ 4 [] (l.drop k) = true := by rw [c6_ _ _ hk]; simp [h4]
 refine mpsx Tryz.func269 kR kR ?_
 conv => whnf
 refine ⟨none, kR, ?_⟩
 rcases List.eq_nil_or_concat ks with rfl | ⟨kt, kl, rfl⟩
 ·exact absurd rfl h0
 rw [List.concat_eq_append] at *
 have hlk : ((kt ++ [kl]).map bl_).length = kt.length + 1 := by simp
 have hw : IntKind.i64.wrap ((((((kt ++ [kl]).map bl_).length : Nat)) : Int) - 1) = ((kt.length : Nat) : Int) := by rw [hlk, ci_ (by simp at hks; omega)]; omega
 have hget : ((kt ++ [kl]).map bl_)[((kt.length : Nat) : Int).toNat]? = some (bl_ kl) := by simp
 conv => whnf
 refine Q_ true (by rw [hlk]; simp) ?_
 conv => whnf
 refine T_ (T := TM ab_) (φ := []) (gf := false) (hz_ 4 [] (Nat.le_of_lt hk) hl sI) ?_
 rw [hb4]
 conv => whnf
 refine kT ?_
 conv => whnf
 refine ⟨oM, _, W_ mi_ hk, ?_⟩
 conv => whnf
 rw [hw]
 conv => whnf
 refine ⟨oM, by rw [hlk]; simp, ?_⟩
 conv => whnf
 refine ⟨_, hget, ?_⟩
 have ho : Op.bytesLess kl l[k].text = false := by simpa using ho
 conv => whnf
 refine Q_ true (by rw [c1_, c1_, n3_, ho]; rfl) ?_
 conv => whnf
 refine .inr ?_
 exact co_ (T := TM ab_) (x_fail hl) rfl
end
end
section
open Go.RowKit
section
variable {l : List Tok} {k : Nat} {e : Int} {ns : List Nd} {fs : List Fc} {f : Nat} {E : b2_}
abbrev kB0 : Bk := .box [int 7, bc_ [], int 0, .cv (.slice none 0 0), .cv (.slice none 0 0)]
abbrev hM0 (l : List Tok) (k : Nat) (e : Int) (ns : List Nd) (fs : List Fc) : List Bk := [kg_ l k e 1 2, kh_ ns, km_ fs, kB0, .box [.bx 0 0]]
abbrev hM1 (l : List Tok) (k : Nat) (e : Int) (ns : List Nd) (fs : List Fc) (ks : List Bs) (js : List Int) : List Bk := [kg_ l k e 1 2, kh_ ns, km_ fs, .box [int 7, bc_ [], int 0, .ow 5 0, .ow 6 0], .box [.bx 0 0], sRow true ks, iRow true js]
abbrev itemK : V := .fn 269 0 [.bx 3 0, .bx 4 0]
theorem x_klist0 (hl : l.length ≤ 1000000) (h : a8_ sRC (l.drop k) = true) :
  bm_ Tryz.prog 54 [.bx 0 0, bc_ sRC, itemK] (hM0 l k e ns fs) (.tu []) (hM0 l (k + 1) e ns fs) := by
 have hb : ak_ 5 [sRC] (l.drop k) = true := by rw [ay_]; exact h
 refine mcx Tryz.func54 kR kR ?_
 conv => whnf
 refine T_ (T := TM ab_) (φ := []) (gf := false) (b6_ hl sI hb (ac_ hb)) ?_
 conv => whnf
 refine kT ?_
 conv => whnf
 exact ⟨rfl, rfl, rfl⟩
def keyL (e : Int) (E : b2_) : Nat → List Bs → List Int → List Tok → List Nd → Except Int (List Bs × List Int × List Tok × List Nd)
 | 0, _, _, r, _ => .error (fh_ e r)
 | f + 1, ks, l, r, ns =>
  if pKind r = 4 ∧ r ≠ [] ∧ (ks = [] ∨ Op.bytesLess (ks.getLastD []) (pText r) = true) then
   (match d4_ e 5 sCl r.tail with
   | .error o => .error o
   | .ok r1 => match E r1 ns with
    | .error o => .error o
    | .ok (i, r2, ns2) =>
     if a8_ sRC r2 then .ok (ks ++ [pText r], l ++ [i], r2.tail, ns2)
     else if a8_ sCm r2 then keyL e E f (ks ++ [pText r]) (l ++ [i]) r2.tail ns2
     else .error (fh_ e r2))
  else .error (fh_ e r)
theorem keyF_eq (e : Int) (E : b2_) : ∀ (f : Nat) (ks : List Bs) (l : List Int) (r : List Tok) (ns : List Nd), keyF e E f ks l r ns = match keyL e E f ks l r ns with
  | .error o => .error o
  | .ok (ks, js, r1, ns1) => dx_ ⟨7, [], 0, ks, js⟩ r1 ns1
 | 0, ks, l, r, ns => rfl
 | f + 1, ks, l, r, ns => by
  simp only [keyF, keyL]
  split
  ·cases d4_ e 5 sCl r.tail with
   | error o => rfl
   | ok r1 =>
    dsimp only
    cases E r1 ns with
    | error o => rfl
    | ok x =>
     obtain ⟨i, r2, ns2⟩ := x
     dsimp only
     split
     ·rfl
     ·split
      ·exact keyF_eq e E f _ _ _ _
      ·rfl
  ·rfl
def outH (l : List Tok) (e : Int) (fs : List Fc) : Except Int (List Bs × List Int × List Tok × List Nd) → Except Value (V × List Bk)
 | .ok (ks, js, r1, ns1) => .ok (.tu [], hM1 l (l.length - r1.length) e ns1 fs ks js)
 | .error o => .error (dj_ o)
theorem outH_ok {ks : List Bs} {js : List Int} {k1 : Nat} {ns1 : List Nd} (hk : k1 ≤ l.length) : outH l e fs (.ok (ks, js, l.drop k1, ns1)) = .ok (.tu [], hM1 l k1 e ns1 fs ks js) := by
 simp only [outH, p_]
 rw [show l.length - (l.length - k1) = k1 by omega]
theorem fk_ {K : Int} {s : Bs} : d4_ e K s (l.drop k) = if isTk K s (l.drop k) then .ok (l.drop (k + 1)) else .error (fh_ e (l.drop k)) := by
 unfold d4_
 rw [tail_drop]
theorem x_klist1 (hC : PC 139 E l e fs f) (hE : be_ E) (hG : bp_ E) (_hA : AtP e E) (hl : l.length ≤ 1000000) (hk : k ≤ l.length) (hf : l.length - k < f) (hn : ns.length + (l.length - k) ≤ 1000000)
  (h : a8_ sRC (l.drop k) = false) :
  gq_ Tryz.prog 54 [.bx 0 0, bc_ sRC, itemK] (hM0 l k e ns fs) (outH l e fs (keyL e E (l.length - k) [] [] (l.drop k) ns)) := by
 have hb : ak_ 5 [sRC] (l.drop k) = false := by rw [ay_]; exact h
 generalize hR : keyL e E (l.length - k) [] [] (l.drop k) ns = R
 refine me_ Tryz.func54 kR kR ?_
 conv => whnf
 refine .inl ?_
 conv => whnf
 refine T_ (T := TM ab_) (φ := []) (gf := false) (b7_ hl sI hb hk) ?_
 conv => whnf
 refine kF ?_
 conv => whnf
 refine ⟨[(1030003, 43, 9, 1), (1030004, 44, 3, 1)], Nat × List Nd × List Bs × List Int, fun _ => [], fun ⟨k, ns, ks, js⟩ => [(27, some (kg_ l k e 28 29)), (28, some (kh_ ns)), (29, some (km_ fs)), (43, some (sRow true ks)), (44, some (iRow true js))],
  fun ⟨k2, ns, ks, js⟩ => k ≤ k2 ∧ k2 ≤ l.length ∧ ns.length + (l.length - k2) ≤ 1000000 ∧ ks.length + (l.length - k2) ≤ 1000000 ∧ js.length + (l.length - k2) ≤ 1000000 ∧ ∃ f', l.length - k2 ≤ f' ∧ keyL e E f' ks js (l.drop k2) ns = R, fun x => l.length - x.1, (k, ns, [], []), ⟨f_ _, hk, hn, by simp; omega, by simp; omega, _, f_ _, hR⟩, ?_, ?_⟩
 ·exact eN
 clear hR hn hb h
 rintro ⟨k2, ns, ks, js⟩ ⟨b0, b1, b2, b3, b3', f', b4, b5⟩
 rcases s_ k2 l.length with hlt | hge
 rotate_left
 ·have hd : l.drop k2 = [] := k_ hge
  have hR : R = .error (fh_ e (l.drop k2)) := by
   rw [← b5, hd]
   cases f' with
   | zero => rfl
   | succ f' => unfold keyL; rw [if_neg sI]
  subst hR
  conv => whnf
  refine .inr ?_
  exact co_ (T := TM ab_) (p3_ b1 (lh_ _ _ hge) hl) rfl
 obtain ⟨f', rfl⟩ : ∃ g, f' = g + 1 := ⟨f' - 1, oM⟩
 unfold keyL at b5
 rw [tail_drop, b5_ hlt, fk_] at b5
 by_cases hc : pKind (l.drop k2) = 4 ∧ l.drop k2 ≠ [] ∧ (ks = [] ∨ Op.bytesLess (ks.getLastD []) l[k2].text = true)
 rotate_left
 ·rw [if_neg hc] at b5
  subst b5
  conv => whnf
  refine .inr ?_
  by_cases h4 : l[k2].kind = 4
  ·have hne : l.drop k2 ≠ [] := List.ne_nil_of_length_pos (by rw [p_]; omega)
   have hpk : pKind (l.drop k2) = 4 := by rw [r_ hlt]; exact h4
   have ho : ¬ (ks = [] ∨ Op.bytesLess (ks.getLastD []) l[k2].text = true) := fun h => hc ⟨hpk, hne, h⟩
   rw [not_or] at ho
   exact co_ (T := TM ab_) (x_kitemN1 (ks := ks) (js := js) hlt h4 ho.1 (by simpa using ho.2) hl oM) rfl
  ·exact co_ (T := TM ab_) (p3_ b1 (by rw [c6_ _ _ hlt]; simp [h4]) hl) rfl
 rw [if_pos hc] at b5
 obtain ⟨c1, _, c3⟩ := hc
 have h4 : l[k2].kind = 4 := by rw [r_ hlt] at c1; exact c1
 cases hcl : isTk 5 sCl (l.drop (k2 + 1)) with
 | false =>
  rw [hcl] at b5
  simp only [y_, if_false] at b5
  subst b5
  conv => whnf
  refine .inr ?_
  exact co_ (T := TM ab_) (x_kitemN2 (ks := ks) (js := js) hlt h4 c3 hcl hl oM) rfl
 | true =>
  rw [hcl] at b5
  simp only [if_true] at b5
  have hk2 : k2 + 1 < l.length := by
   rcases s_ (k2 + 1) l.length with h1 | h1
   ·exact h1
   ·rw [kl_ _ _ h1] at hcl; cases hcl
  cases h1 : E (l.drop (k2 + 2)) ns with
  | error o =>
   rw [show k2 + 1 + 1 = k2 + 2 from rfl, h1] at b5
   subst b5
   conv => whnf
   refine .inr ?_
   exact co_ (T := TM ab_) (x_kitemN3 (ks := ks) (js := js) hlt h4 c3 hcl hk2 (hC.err oM oM oM h1) hl oM oM) rfl
  | ok r =>
   obtain ⟨i, r1, ns3⟩ := r
   rw [show k2 + 1 + 1 = k2 + 2 from rfl, h1] at b5
   obtain ⟨k3, rfl, d1, d2, d3, d4⟩ := hC.ok hE hG oM oM oM h1
   conv => whnf
   refine .inl ?_
   conv => whnf
   refine mcallR2 (T := TM ab_) (φ := []) (gf := false) 43 44 (x_kitemY (ks := ks) (js := js) hlt h4 c3 hcl hk2 d4 hl oM oM) (flatS _) (flatI _) ?_
   cases hb : ak_ 5 [sCm, sRC] (l.drop k3) with
   | false =>
    have hR : R = .error (fh_ e (l.drop k3)) := by
     rw [fi_, Bool.or_eq_false_iff] at hb
     rw [← b5]
     dsimp only
     rw [if_neg (by rw [show a8_ sRC (l.drop k3) = false from hb.2]; simp), if_neg (by rw [show a8_ sCm (l.drop k3) = false from hb.1]; simp)]
    subst hR
    conv => whnf
    refine .inr ?_
    exact co_ (T := TM ab_) (ch_ hl sI hb d2) rfl
   | true =>
    have hk3 := ac_ hb
    conv => whnf
    refine .inl ?_
    conv => whnf
    refine T_ (T := TM ab_) (φ := []) (gf := false) (br_ hl sI hb hk3) ?_
    have hkd : l[k3].kind = 5 := by
     rw [c6_ _ _ hk3] at hb
     simp at hb
     exact hb.1
    conv => whnf
    rintro (_ | _) h3
    ·have h3 : (l[k3].text == sRC) = false := (a2_ _ _).symm.trans h3
     have h4 : a8_ sCm (l.drop k3) = true := by
      have h5 : isTk 5 sRC (l.drop k3) = false := by rw [c2_ _ _ hk3, h3, Bool.and_false]
      rw [fi_, h5, Bool.or_false] at hb
      exact hb
     dsimp only at b5
     rw [if_neg (by rw [show a8_ sRC (l.drop k3) = false by rw [a8_, c2_ _ _ hk3, h3, Bool.and_false]]; simp), if_pos h4, tail_drop] at b5
     conv => whnf
     refine ⟨(k3 + 1, ns3, ks ++ [l[k2].text], js ++ [i]), ⟨oM, oM, oM, by rw [a_]; simp; omega, by rw [a_]; simp; omega, f', oM, b5⟩, by dsimp only; omega, ?_⟩
     exact eN
    ·have h3 : (l[k3].text == sRC) = true := (a2_ _ _).symm.trans h3
     dsimp only at b5
     rw [if_pos (show a8_ sRC (l.drop k3) = true by rw [a8_, c2_ _ _ hk3, h3, hkd]; rfl), tail_drop] at b5
     conv => whnf
     exact ⟨_, by rw [← b5, outH_ok oM], rfl, rfl, rfl⟩
theorem keyP_keyL (r : List Tok) (ns : List Nd) (h : a8_ sRC r = false) : keyP e E r ns = match keyL e E r.length [] [] r ns with
  | .error o => .error o
  | .ok (ks, js, r1, ns1) => dx_ ⟨7, [], 0, ks, js⟩ r1 ns1 := by
 unfold keyP
 rw [if_neg (by rw [h]; simp), keyF_eq]
theorem keyL_grow (hE : be_ E) (hG : bp_ E) : ∀ (f : Nat) {ks : List Bs} {js : List Int} {r : List Tok} {ns : List Nd} {ks1 : List Bs} {js1 : List Int} {r1 : List Tok} {ns1 : List Nd}, keyL e E f ks js r ns = .ok (ks1, js1, r1, ns1) → ns1.length + r1.length ≤ ns.length + r.length ∧ r1 <:+ r
 | 0, ks, js, r, ns, ks1, js1, r1, ns1, h => by cases h
 | f + 1, ks, js, r, ns, ks1, js1, r1, ns1, h => by
  simp only [keyL] at h
  split at h
  rotate_left
  ·cases h
  rename_i hc
  split at h
  ·cases h
  rename_i r2 h2
  have e2 := ad_ h2
  split at h
  ·cases h
  rename_i i r3 ns3 h3
  have e3 := hE h3
  have g3 := hG h3
  have l1 : r.tail.length ≤ r.length := by simp
  have l2 := e2.lt
  have s3 : r3 <:+ r := e3.suf.trans (e2.suf.trans (List.tail_suffix r))
  have l3 : r3.tail.length ≤ r3.length := by simp
  split at h
  ·cases h
   exact ⟨oM, (List.tail_suffix _).trans s3⟩
  ·split at h
   ·obtain ⟨h5, h6⟩ := keyL_grow hE hG f h
    exact ⟨oM, h6.trans ((List.tail_suffix _).trans s3)⟩
   ·cases h
theorem x_keyed (hC : PC 139 E l e fs f) (hE : be_ E) (hG : bp_ E) (hA : AtP e E) (hl : l.length ≤ 1000000) (hk : k ≤ l.length) (hf : l.length - k < f) (hn : ns.length + (l.length - k) ≤ 1000000) :
  gq_ Tryz.prog 265 [.bx 0 0] (pM l k e ns fs) (outP l e fs (keyP e E (l.drop k) ns)) := by
 refine me_ Tryz.func265 kR kR ?_
 cases h : a8_ sRC (l.drop k) with
 | true =>
  have hk1 : k < l.length := by
   rcases s_ k l.length with h1 | h1
   ·exact h1
   ·rw [a8_, kl_ _ _ h1] at h; cases h
  have hR : keyP e E (l.drop k) ns = .ok ((ns.length : Int), l.drop (k + 1), ns ++ [⟨7, [], 0, [], []⟩]) := by unfold keyP; rw [if_pos h, tail_drop]; rfl
  conv => whnf
  refine .inl ?_
  conv => whnf
  refine T_ (T := TM ab_) (φ := []) (gf := false) (x_klist0 hl h) ?_
  conv => whnf
  refine .inl ?_
  conv => whnf
  refine T_ (T := TM ab_) (φ := []) (gf := false) (dr_ (ns := ns) ⟨7, [], 0, [], []⟩ (show ns.length ≤ 1000000 by omega)) ?_
  conv => whnf
  exact ⟨_, by rw [hR, b8_ oM], rfl, rfl, rfl⟩
 | false =>
  have c := x_klist1 hC hE hG hA hl hk hf hn h
  have hR := keyP_keyL (e := e) (E := E) (l.drop k) ns h
  rw [p_] at hR
  generalize hL : keyL e E (l.length - k) [] [] (l.drop k) ns = R at c hR
  cases R with
  | error o =>
   rw [hR]
   conv => whnf
   refine .inr ?_
   exact co_ (T := TM ab_) c rfl
  | ok r =>
   obtain ⟨ks, js, r1, ns1⟩ := r
   obtain ⟨g1, g2⟩ := keyL_grow hE hG _ hL
   rw [p_] at g1
   rw [hR]
   conv => whnf
   refine .inl ?_
   conv => whnf
   refine T_ (T := TM ab_) (φ := [27, 28]) (gf := false) c ?_
   conv => whnf
   refine .inl ?_
   conv => whnf
   refine T_ (T := TM ab_) (φ := []) (gf := false) (dr_ (ns := ns1) ⟨7, [], 0, ks, js⟩ (show ns1.length ≤ 1000000 by omega)) ?_
   conv => whnf
   exact ⟨_, rfl, rfl, rfl, rfl⟩
end
end
section
open Go.RowKit
def pVal : List Tok → Int
 | t :: _ => t.val
 | [] => 0
def lstN (e : Int) (fin : Bs) (E : b2_) (K : Int) (s : Bs) (r : List Tok) (ns : List Nd) : hq_ Int := match er_ e fin E r ns with
 | .error o => .error o
 | .ok (l, r2, ns2) => dx_ (ndM K s 0 l) r2 ns2
def primQ (e : Int) (E : b2_) (r : List Tok) (ns : List Nd) : hq_ Int :=
 if ak_ 3 [] r then dx_ (ndM 3 [] (pVal r) []) r.tail ns
 else if ak_ 4 [] r then dx_ (ndM 4 (pText r) 0 []) r.tail ns
 else if ak_ 2 [ec_, eb_, cy_] r then
  (if pText r == ec_ then dx_ (ndM 1 [] 0 []) r.tail ns
  else if pText r == eb_ then dx_ (ndM 2 [] 1 []) r.tail ns
  else dx_ (ndM 2 [] 0 []) r.tail ns)
 else if ak_ 1 [] r then
  (if ak_ 5 [sLP] r.tail then lstN e sRP E 11 (pText r) r.tail.tail ns
  else dx_ (ndM 5 (pText r) 0 []) r.tail ns)
 else if ak_ 6 [] r then
  (if ak_ 5 [sLP] r.tail then lstN e sRP E 12 (pText r) r.tail.tail ns
  else .error (fh_ e r.tail))
 else if ak_ 5 [sLB, sLC, sLP] r then
  (if pText r == sLB then lstN e sRB E 6 [] r.tail ns
  else if pText r == sLC then keyP e E r.tail ns
  else match E r.tail ns with
   | .error o => .error o
   | .ok (i, r2, ns2) => if ak_ 5 [sRP] r2 then .ok (i, r2.tail, ns2) else .error (fh_ e r2))
 else .error (fh_ e r)
theorem primP_eq (e : Int) (E : b2_) (r : List Tok) (ns : List Nd) : hi_ e E r ns = primQ e E r ns := by
 cases r with
 | nil => rfl
 | cons t r1 =>
  have n0 : ∀ K, ak_ K [] (t :: r1) = decide (t.kind = K) := fun K => by simp [ak_]
  have ns_ : ∀ K (ts : List Bs), ts ≠ [] → ak_ K ts (t :: r1) = (decide (t.kind = K) && ts.contains t.text) := fun K ts h => by
   cases ts with
   | nil => exact absurd rfl h
   | cons a ts => rfl
  have w0 : ∀ K s, isTk K s (t :: r1) = (decide (t.kind = K) && (t.text == s)) := fun K s => rfl
  simp only [hi_, primQ, n0, ns_ 2 [ec_, eb_, cy_] sI, ns_ 5 [sLB, sLC, sLP] sI, jg_, a8_, w0, List.tail_cons, pText, pVal, lstN, ay_]
  by_cases h3 : t.kind = 3
  ·simp [h3]
  by_cases h4 : t.kind = 4
  ·simp [h4]
  by_cases h2 : t.kind = 2
  ·by_cases a1 : t.text = ec_
   ·simp [h2, a1]
   by_cases a2 : t.text = eb_
   ·simp [h2, a2, show ¬ (eb_ = ec_) by decide]
   by_cases a3 : t.text = cy_
   ·simp [h2, a3, show ¬ (cy_ = ec_) by decide, show ¬ (cy_ = eb_) by decide]
   ·simp [h2, a1, a2, a3, fh_]
  by_cases h1 : t.kind = 1
  ·simp [h1]
   try rfl
  by_cases h6 : t.kind = 6
  ·by_cases hx : isTk 5 sLP r1 = true
   ·simp [h6, hx, d4_]
    try rfl
   ·simp [h6, hx, d4_]
  by_cases h5 : t.kind = 5
  ·by_cases a1 : t.text = sLB
   ·simp [h5, a1]
    try rfl
   by_cases a2 : t.text = sLC
   ·simp [h5, a2, show ¬ (sLC = sLB) by decide]
   by_cases a3 : t.text = sLP
   ·simp only [h5, a3]
    simp [show ¬ (sLP = sLB) by decide, show ¬ (sLP = sLC) by decide]
    cases E r1 ns with
    | error o => rfl
    | ok x =>
     obtain ⟨i, r2, ns2⟩ := x
     by_cases hx : isTk 5 sRP r2 = true
     ·simp [hx, d4_]
     ·simp [hx, d4_]
   ·simp [h5, a1, a2, a3, fh_]
  ·simp [h1, h2, h3, h4, h5, h6, fh_]
end
end Go.Proofs.YtglndfgmlminpaaGreatDoor
