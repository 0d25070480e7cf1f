/- Texts joined by pack.py: XSyX0 XSxE2 XSy3 XSyC -/
import Derived.Test.YtglndfgmlminpaaGreatDoorSq24
import Derived.Laws.StructEq
set_option maxHeartbeats 4000000
set_option maxRecDepth 100000
namespace Go.Proofs.YtglndfgmlminpaaGreatDoor
section
abbrev tl (p : List Pc) : Nat := (txP p).length
theorem dz_ (a b : List Pc) : tl (a ++ b) = tl a + tl b := by simp [tl, aq_]
theorem kc_ (k : Tok) (l : List Pc) : tl (.t k :: l) = (aa_ k).1.length + tl l := by simp [tl, txP]
theorem tl_b (s : Bs) (l : List Pc) : tl (.b s :: l) = s.length + tl l := by simp [tl, txP]
theorem ce_ : tl [] = 0 := rfl
theorem ttk_len (k : Int) (s : Bs) : (aa_ (tk k s)).1.length ≤ 2 * s.length + 13 := qi_ _
theorem x0_int (v : Int) : (aa_ ⟨3, [], v, 0⟩).1.length ≤ 13 := qi_ ⟨3, [], v, 0⟩
def ix_ (c : Nat) : List (List Pc) → Nat
 | [] => 0
 | p :: ps => tl p + c + ix_ c ps
theorem oj_ (c : Nat) (hc : 2 ≤ c) : ∀ ps, tl (dq_ ps) ≤ ix_ c ps
 | [] => f_ _
 | [p] => by simp only [dq_, ix_]; omega
 | p :: q :: l => by
  have := oj_ c hc (q :: l)
  simp only [dq_, dz_, kc_, tl_b, ix_] at this ⊢
  have h1 : (aa_ (sy sCm)).1.length = 1 := by decide
  rw [h1]
  simp only [G_]
  omega
theorem x0_keys (c : Nat) (hc : 417 ≤ c) : ∀ (ks : List Bs) (ps : List (List Pc)), (∀ k ∈ ks, k.length ≤ 200) → ix_ 2 (hj_ ks ps) ≤ ix_ c ps
 | [], ps, _ => by simp [hj_, ix_]
 | _ :: _, [], _ => by simp [hj_, ix_]
 | k :: ks, p :: ps, h => by
  have := x0_keys c hc ks ps fun x hx => h x (by simp [hx])
  simp only [hj_, ix_, kc_, tl_b]
  have h1 : (aa_ (sy sCl)).1.length = 1 := by decide
  have h2 := ttk_len 4 k
  have h3 := h k sI
  rw [h1]
  simp only [G_]
  omega
theorem x0_lines (c d : Nat) (hc : d + 1 ≤ c) : ∀ ps, tl (ln_ d ps) ≤ ix_ c ps
 | [] => f_ _
 | p :: ps => by
  have := x0_lines c d hc ps
  simp only [ln_, tl_b, dz_, ix_, b_, hs_, List.length_replicate] at this ⊢
  omega
theorem qP_len (lv req : Int) (p : List Pc) : tl (qP lv req p) ≤ tl p + 2 := by
 unfold qP
 split
 ·have h1 : (aa_ (sy sLP)).1.length = 1 := by decide
  have h2 : (aa_ (sy sRP)).1.length = 1 := by decide
  simp only [kc_, dz_, h1, h2, ce_]; omega
 ·omega
theorem x0_asc : ∀ {l : List Bs}, n6_ l = true → ∀ k ∈ l, cl_ k = true
 | [], _, k, h => by cases h
 | [a], h1, k, h => by simp at h; subst h; exact h1
 | a :: b :: l, h1, k, h => by
  simp only [n6_, j_] at h1
  rcases List.mem_cons.1 h with rfl | h
  ·exact h1.1.1
  ·exact x0_asc h1.2 k h
theorem x0_cont {s : Bs} (h : cl_ s = true) : s.length ≤ 200 := by
 unfold cl_ at h; simp at h; exact h.1
theorem ka_ {s : Bs} (h : ba_ s = true) : s.length ≤ 24 := by
 unfold ba_ at h; simp at h; exact h.2
theorem d3_ {s : Bs} (h : a7_ s = true) : s.length ≤ 24 := by
 unfold a7_ at h; simp at h; exact ka_ h.1
theorem x0_binc {s : Bs} (h : 0 < b1_ s) : s = wOr ∨ s = qc_ ∨ opCmp.contains s = true ∨ opAdd.contains s = true ∨ opMul.contains s = true := by
 unfold b1_ at h
 split at h
 ·exact .inl (by assumption)
 split at h
 ·exact .inr (.inl (by assumption))
 split at h
 ·exact .inr (.inr (.inl (by assumption)))
 split at h
 ·exact .inr (.inr (.inr (.inl (by assumption))))
 split at h
 ·exact .inr (.inr (.inr (.inr (by assumption))))
 ·omega
theorem x0_bina {s : Bs} (h : 0 < b1_ s) : s ∈ ([wOr, qc_, [61, 61], [33, 61], [60], [60, 61], [62], [62, 61]] ++ opAdd ++ opMul) := by
 rcases x0_binc h with rfl | rfl | h | h | h
 ·simp
 ·simp
 ·have : s ∈ opCmp := by simpa using h
  have : s ∈ [wOr, qc_] ++ opCmp := List.mem_append_right _ this
  exact List.mem_append_left _ (List.mem_append_left _ this)
 ·have : s ∈ opAdd := by simpa using h
  exact List.mem_append_left _ (List.mem_append_right _ this)
 ·have : s ∈ opMul := by simpa using h
  exact List.mem_append_right _ this
theorem x0_bin {s : Bs} (h : 0 < b1_ s) : s.length ≤ 3 := by
 have := x0_bina h
 have key : ∀ x ∈ ([wOr, qc_, [61, 61], [33, 61], [60], [60, 61], [62], [62, 61]] ++ opAdd ++ opMul), x.length ≤ 3 := by decide
 exact key s this
theorem tt_bin {s : Bs} (h : 0 < b1_ s) : (aa_ (tk (opK s) s)).1 = s := by
 have := x0_bina h
 have key : ∀ x ∈ ([wOr, qc_, [61, 61], [33, 61], [60], [60, 61], [62], [62, 61]] ++ opAdd ++ opMul), (aa_ (tk (opK x) x)).1 = x := by
  intro x hx
  simp only [opAdd, opMul, List.mem_append, List.mem_cons, List.not_mem_nil, or_false] at hx
  rcases hx with ((rfl | rfl | rfl | rfl | rfl | rfl | rfl | rfl) | rfl | rfl) | rfl | rfl | rfl
  ·unfold aa_; simp [tk, opK, show kwL wOr = true from by kernel_rfl]
  ·unfold aa_; simp [tk, opK, show kwL qc_ = true from by kernel_rfl]
  all_goals rfl
 exact key s this
theorem he_ {s : Bs} (h : a7_ s = true) : (aa_ (tk 1 s)).1 = s := by
 unfold a7_ at h
 simp only [j_, Bool.not_eq_true'] at h
 unfold aa_ tk
 simp [h.1, h.2]
theorem tt_whole {s : Bs} (h : ba_ s = true) : (aa_ (tk 6 s)).1 = 64 :: s := by
 unfold aa_ tk
 simp [h]
theorem o8_ {a : Lab} {n : Nat} (h : X_ a n = true) : a.text.length ≤ 200 := by
 unfold X_ at h
 split at h
 ·cases h
 split at h
 ·simp only [j_, decide_eq_true_eq] at h; rw [h.1]; simp
 split at h
 ·simp only [j_, decide_eq_true_eq] at h; rw [h.1.1]; simp
 split at h
 ·exact x0_cont h
 split at h
 ·have := d3_ h; omega
 split at h
 ·have := ka_ h; omega
 split at h
 ·simp only [j_, decide_eq_true_eq] at h; rw [h.1.1]; simp
 split at h
 ·simp only [C_, decide_eq_true_eq] at h; rcases h with h | h <;> rw [h] <;> decide
 split at h
 ·have := x0_bin (by simpa using h); omega
 ·rw [of_decide_eq_true h]; simp
theorem o9_ {a : Lab} {n : Nat} (h : X_ a n = true) : ∀ k ∈ a.keys, k.length ≤ 200 := by
 unfold X_ at h
 intro k hk
 split at h
 ·cases h
 rename_i h0
 have h7 : a.kind = 7 := by
  rcases Classical.em (a.kind = 7) with h7 | h7
  ·exact h7
  ·exact absurd (.inl ⟨h7, fun e => by rw [e] at hk; cases hk⟩) h0
 simp only [h7] at h
 simp only [show ¬ ((7 : Int) = 2) by decide, show ¬ ((7 : Int) = 3) by decide, show ¬ ((7 : Int) = 4) by decide, show ¬ ((7 : Int) = 5 ∨ (7 : Int) = 11 ∨ (7 : Int) = 13 ∨ (7 : Int) = 14) by decide, show ¬ ((7 : Int) = 12) by decide, if_true, if_false] at h
 simp only [j_] at h
 exact x0_cont (x0_asc h.2 k hk)
theorem x0_sy : (aa_ (sy sLP)).1.length = 1 ∧ (aa_ (sy sRP)).1.length = 1 ∧ (aa_ (sy sLB)).1.length = 1 ∧ (aa_ (sy sRB)).1.length = 1 ∧ (aa_ (sy sLC)).1.length = 1 ∧ (aa_ (sy sRC)).1.length = 1 ∧ (aa_ (sy sSc)).1.length = 1 ∧ (aa_ (sy sMi)).1.length = 1 ∧ (aa_ (sy lb_)).1.length = 1 := by decide
theorem pcN_len (d : Nat) {a : Lab} (lv : List Int) (ps : List (List Pc)) {n : Nat} (h : X_ a n = true) : tl (pcN d a lv ps) ≤ 500 + d + ix_ (422 + d) ps := by
 have ht := o8_ h
 have hk := o9_ h
 obtain ⟨s1, s2, s3, s4, s5, s6, s7, s8, s9⟩ := x0_sy
 have w : ∀ k (s : Bs), s.length ≤ 200 → (aa_ (tk k s)).1.length ≤ 413 := fun k s h => by have := ttk_len k s; omega
 have w1 := w 4 a.text ht
 have w2 := w 1 a.text ht
 have w3 := w 6 a.text ht
 have w4 := w (opK a.text) a.text ht
 have w5 := x0_int a.val
 have wk : ∀ s : Bs, s.length ≤ 10 → (aa_ (wd s)).1.length ≤ 33 := fun s h => by
  have : (aa_ (wd s)).1.length ≤ 2 * s.length + 13 := ttk_len 2 s
  omega
 have k1 := wk ec_ dC
 have k2 := wk eb_ dC
 have k3 := wk cy_ dC
 have k4 := wk e9_ dC
 have k5 := wk mb_ dC
 have k6 := wk wIf dC
 have k7 := wk ct_ dC
 have k8 := wk b0_ dC
 have k9 := wk h0_ dC
 have c1 := oj_ (422 + d) oM ps
 have c2 := w_ (oj_ 2 oM (hj_ a.keys ps)) (x0_keys (422 + d) oM a.keys ps hk)
 have c3 := x0_lines (422 + d) (d + 1) oM ps
 obtain ⟨kind, text, val, keys⟩ := a
 dsimp only at *
 by_cases hk19 : 1 ≤ kind ∧ kind ≤ 18
 rotate_left
 ·unfold pcN
  dsimp only
  rw [if_neg oM, if_neg oM, if_neg oM, if_neg oM, if_neg oM, if_neg oM, if_neg oM, if_neg oM, if_neg oM, if_neg oM, if_neg oM, if_neg oM, if_neg oM, if_neg oM, if_neg oM, if_neg oM, if_neg oM, if_neg oM]
  simp only [kc_, tl_b, dz_, ce_, b_, hs_, List.length_replicate]; omega
 have hkk : kind = 1 ∨ kind = 2 ∨ kind = 3 ∨ kind = 4 ∨ kind = 5 ∨ kind = 6 ∨ kind = 7 ∨ kind = 8 ∨ kind = 9 ∨ kind = 10 ∨ kind = 11 ∨ kind = 12 ∨ kind = 13 ∨ kind = 14 ∨ kind = 15 ∨ kind = 16 ∨ kind = 17 ∨ kind = 18 := by omega
 have e1 : pcN d ⟨1, text, val, keys⟩ lv ps = [.t (wd ec_)] := rfl
 have e2 : pcN d ⟨2, text, val, keys⟩ lv ps = [.t (wd (if val = 1 then eb_ else cy_))] := rfl
 have e3 : pcN d ⟨3, text, val, keys⟩ lv ps = [.t ⟨3, [], val, 0⟩] := rfl
 have e4 : pcN d ⟨4, text, val, keys⟩ lv ps = [.t (tk 4 text)] := rfl
 have e5 : pcN d ⟨5, text, val, keys⟩ lv ps = [.t (tk 1 text)] := rfl
 have e6 : pcN d ⟨6, text, val, keys⟩ lv ps = .t (sy sLB) :: (dq_ ps ++ [.t (sy sRB)]) := rfl
 have e7 : pcN d ⟨7, text, val, keys⟩ lv ps = .t (sy sLC) :: (dq_ (hj_ keys ps) ++ [.t (sy sRC)]) := rfl
 have e11 : pcN d ⟨11, text, val, keys⟩ lv ps = .t (tk 1 text) :: .t (sy sLP) :: (dq_ ps ++ [.t (sy sRP)]) := rfl
 have e12 : pcN d ⟨12, text, val, keys⟩ lv ps = .t (tk 6 text) :: .t (sy sLP) :: (dq_ ps ++ [.t (sy sRP)]) := rfl
 have e8 : pcN d ⟨8, text, val, keys⟩ lv ps = (match (generalizing := false) lv, ps with
  | [l], [p] => if text = e9_ then .t (wd e9_) :: sp1 :: qP l 3 p else .t (sy sMi) :: qP l 7 p
  | _, _ => []) := rfl
 have e9 : pcN d ⟨9, text, val, keys⟩ lv ps = (match (generalizing := false) lv, ps with
  | [l1, l2], [p1, p2] => qP l1 (if b1_ text = 4 then 5 else b1_ text) p1 ++ sp1 :: .t (tk (opK text) text) :: sp1 :: qP l2 (b1_ text + 1) p2
  | _, _ => []) := rfl
 have e10 : pcN d ⟨10, text, val, keys⟩ lv ps = (match (generalizing := false) lv, ps with
  | [l1, _], [p1, p2] => qP l1 8 p1 ++ .t (sy sLB) :: (p2 ++ [.t (sy sRB)])
  | _, _ => []) := rfl
 have e13 : pcN d ⟨13, text, val, keys⟩ lv ps = (match (generalizing := false) ps with
  | [p] => .t (wd mb_) :: sp1 :: .t (tk 1 text) :: sp1 :: .t (sy lb_) :: sp1 :: (p ++ [.t (sy sSc)])
  | _ => []) := rfl
 have e14 : pcN d ⟨14, text, val, keys⟩ lv ps = (match (generalizing := false) ps with
  | [p] => .t (tk 1 text) :: sp1 :: .t (sy lb_) :: sp1 :: (p ++ [.t (sy sSc)])
  | _ => []) := rfl
 have e15 : pcN d ⟨15, text, val, keys⟩ lv ps = (match (generalizing := false) ps with
  | [c, b] => .t (wd wIf) :: sp1 :: (c ++ sp1 :: b)
  | [c, b, e] => .t (wd wIf) :: sp1 :: (c ++ sp1 :: (b ++ sp1 :: .t (wd h0_) :: sp1 :: e))
  | _ => []) := rfl
 have e16 : pcN d ⟨16, text, val, keys⟩ lv ps = (match (generalizing := false) ps with
  | [c, b] => .t (wd ct_) :: sp1 :: (c ++ sp1 :: b)
  | _ => []) := rfl
 have e17 : pcN d ⟨17, text, val, keys⟩ lv ps = (match (generalizing := false) ps with
  | [p] => .t (wd b0_) :: sp1 :: (p ++ [.t (sy sSc)])
  | _ => []) := rfl
 have e18 : pcN d ⟨18, text, val, keys⟩ lv ps = (match (generalizing := false) ps with
  | [p] => p ++ [.t (sy sSc)]
  | _ => []) := rfl
 rcases hkk with rfl | rfl | rfl | rfl | rfl | rfl | rfl | rfl | rfl | rfl | rfl | rfl | rfl | rfl | rfl | rfl | rfl | rfl
 ·rw [e1]; simp only [kc_, ce_]; omega
 ·rw [e2]; simp only [kc_, ce_]; split <;> omega
 ·rw [e3]; simp only [kc_, ce_]; omega
 ·rw [e4]; simp only [kc_, ce_]; omega
 ·rw [e5]; simp only [kc_, ce_]; omega
 ·rw [e6]; simp only [kc_, dz_, ce_]; omega
 ·rw [e7]; simp only [kc_, dz_, ce_]; omega
 ·rw [e8]
  split
  ·rename_i l p
   have q1 := qP_len l 3 p
   have q2 := qP_len l 7 p
   split
   ·simp only [kc_, tl_b, G_, ix_]; omega
   ·simp only [kc_, ix_]; omega
  ·simp only [ce_]; omega
 ·rw [e9]
  split
  ·rename_i l1 l2 p1 p2
   have q1 := qP_len l1 (if b1_ text = 4 then 5 else b1_ text) p1
   have q2 := qP_len l2 (b1_ text + 1) p2
   simp only [kc_, tl_b, dz_, G_, ix_]; omega
  ·simp only [ce_]; omega
 ·rw [e10]
  split
  ·rename_i l1 l2 p1 p2
   have q1 := qP_len l1 8 p1
   simp only [kc_, dz_, ce_, ix_]; omega
  ·simp only [ce_]; omega
 ·rw [e11]; simp only [kc_, dz_, ce_]; omega
 ·rw [e12]; simp only [kc_, dz_, ce_]; omega
 ·rw [e13]
  split
  ·simp only [kc_, tl_b, dz_, ce_, G_, ix_]; omega
  ·simp only [ce_]; omega
 ·rw [e14]
  split
  ·simp only [kc_, tl_b, dz_, ce_, G_, ix_]; omega
  ·simp only [ce_]; omega
 ·rw [e15]
  split
  ·simp only [kc_, tl_b, dz_, G_, ix_]; omega
  ·simp only [kc_, tl_b, dz_, G_, ix_]; omega
  ·simp only [ce_]; omega
 ·rw [e16]
  split
  ·simp only [kc_, tl_b, dz_, G_, ix_]; omega
  ·simp only [ce_]; omega
 ·rw [e17]
  split
  ·simp only [kc_, tl_b, dz_, ce_, G_, ix_]; omega
  ·simp only [ce_]; omega
 ·rw [e18]
  split
  ·simp only [kc_, dz_, ce_, ix_]; omega
  ·simp only [ce_]; omega
theorem pcl_sum (d K c : Nat) : ∀ ts : List Tr, (∀ X ∈ ts, tl (X.pc d) + c ≤ X.size * K) → ix_ c (Tr.pcl d ts) ≤ Tr.sizes ts * K
 | [], _ => by simp [Tr.pcl, ix_]
 | X :: ts, h => by
  have h1 := h X sI
  have h2 := pcl_sum d K c ts fun Y hY => h Y (by simp [hY])
  simp only [Tr.pcl, ix_, Tr.sizes, Nat.add_mul]
  omega
theorem pc_len : ∀ (n : Nat) (T : Tr) (d : Nat), T.size ≤ n → T.wf = true → tl (T.pc d) + 422 + d ≤ T.size * (1000 + 2 * (d + T.ht))
 | 0, T, d, hn, _ => by have := T.size_pos; omega
 | n + 1, T, d, hn, hw => by
  obtain ⟨a, ts⟩ := T
  obtain ⟨hf, hc, hws⟩ := b4_ hw
  obtain ⟨K, hK⟩ : ∃ K, K = 1000 + 2 * (d + (Tr.node a ts).ht) := ⟨_, rfl⟩
  rw [← hK]
  have hht : (Tr.node a ts).ht = Tr.hts ts + 1 := rfl
  have e1 : (Tr.node a ts).pc d = pcN d a (ts.map Tr.level) (Tr.pcl (if a.kind = 19 then d + 1 else d) ts) := rfl
  have hs : ix_ (422 + d) (Tr.pcl (if a.kind = 19 then d + 1 else d) ts) ≤ Tr.sizes ts * K := by
   refine pcl_sum _ _ _ _ fun X hX => ?_
   have h1 := pc_len n X (if a.kind = 19 then d + 1 else d) (e0_ hX hn) (ic_ hX hws)
   have h2 := Tr.ht_mem hX
   have h3 : X.size * (1000 + 2 * ((if a.kind = 19 then d + 1 else d) + X.ht)) ≤ X.size * K := by
    refine Nat.mul_le_mul_left _ ?_
    split <;> omega
   have h4 : d ≤ (if a.kind = 19 then d + 1 else d) := by split <;> omega
   omega
  have := pcN_len d (ts.map Tr.level) (Tr.pcl (if a.kind = 19 then d + 1 else d) ts) hf
  rw [e1]
  simp only [Tr.size, Nat.add_mul, Nat.one_mul]
  omega
theorem gu_ {l : List Nd} {b : Lab} {ts : List Tr} {a i : Nat} (hs : Seg l (.node b ts) a i) : l[i]? = some ⟨b.kind, b.text, b.val, b.keys, Tr.roots a ts⟩ := by
 have hlen := hs.len
 have hseg := hs.seg
 simp only [Tr.size] at hlen
 simp only [Tr.flat] at hseg
 rw [a9_, Tr.flats_length] at hseg
 have := eg_ hseg.2 (j := 0) sI
 rw [show i = a + Tr.sizes ts + 0 by omega, this]
 rfl
theorem or_ {l : List Nd} : ∀ {ts : List Tr} {a : Nat}, (∀ X ∈ ts, X.wf = true) → Tr.flats a ts <+: l.drop a → ∀ (j : Nat) (X : Tr), ts[j]? = some X → ∃ b q : Nat, (Tr.roots a ts)[j]? = some (q : Int) ∧ Seg l X b q
 | [], a, _, _, j, X, h => by simp at h
 | T :: ts, a, hw, hp, j, X, h => by
  simp only [Tr.flats] at hp
  rw [a9_, Tr.flat_length] at hp
  cases j with
  | zero =>
   simp at h; subst h
   refine ⟨a, a + T.size - 1, ?_, gg_ (hw T sI) hp.1⟩
   have := T.size_pos
   simp only [Tr.roots, List.getElem?_cons_zero, Option.some.injEq]
   omega
  | succ j =>
   obtain ⟨b, q, h1, h2⟩ := or_ (fun Y hY => hw Y (by simp [hY])) hp.2 j X (by simpa using h)
   exact ⟨b, q, by simpa [Tr.roots] using h1, h2⟩
theorem i0_ {l : List Nd} {b : Lab} {ts : List Tr} {a i : Nat} (hs : Seg l (.node b ts) a i) (j : Nat) (X : Tr) (h : ts[j]? = some X) : ∃ c q : Nat, (Tr.roots a ts)[j]? = some (q : Int) ∧ Seg l X c q := by
 obtain ⟨hf, hc, hws⟩ := b4_ hs.wf
 have hseg := hs.seg
 simp only [Tr.flat] at hseg
 rw [a9_, Tr.flats_length] at hseg
 exact or_ (fun X hX => ic_ hX hws) hseg.1 j X h
end
section
open Go.RowKit
end
section
open Go.RowKit
def ae_ (n : Int) : List D := [.cv (.int .i64 n)]
abbrev pc_ (l : List Int) : V := .sl true 1 (l.map ae_)
def ndD (n : Nd) : List D := [.cv (.int .i64 n.kind), .cv (.string (mk n.text)), .cv (.int .i64 n.val), .sl 1 (n.keys.map bl_), .sl 1 (n.kids.map ae_)]
def fcD (f : Fc) : List D := [.cv (.string (mk f.name)), .sl 1 (f.params.map bl_), .cv (.int .i64 f.body)]
abbrev Nd.V (n : Nd) : V := .ag [int n.kind, bc_ n.text, int n.val, qj_ n.keys, pc_ n.kids]
abbrev Fc.V (f : Fc) : V := .ag [bc_ f.name, qj_ f.params, int f.body]
abbrev Pg.V (p : Pg) : V := .ag [.sl true 5 (p.nodes.map ndD), .sl true 3 (p.funcs.map fcD)]
structure PgBig (p : Pg) : Prop where
 ns : p.nodes.length ≤ 8796093022207
 fs : p.funcs.length ≤ 8796093022207
 keys : ∀ n ∈ p.nodes, n.keys.length ≤ 8796093022207
 kids : ∀ n ∈ p.nodes, n.kids.length ≤ 8796093022207
 ps : ∀ f ∈ p.funcs, f.params.length ≤ 8796093022207
def cd_ {α : Type} (p : α → α → Bool) : List α → List α → Bool
 | [], [] => true
 | a :: l, b :: r => p a b && cd_ p l r
 | _, _ => false
theorem dl_ {α : Type} {p : α → α → Bool} : ∀ {l r : List α}, l.length ≠ r.length → cd_ p l r = false
 | [], [], h => absurd rfl h
 | [], _ :: _, _ => rfl
 | _ :: _, [], _ => rfl
 | a :: l, b :: r, h => by
  unfold cd_
  rw [dl_ (by simpa using h), Bool.and_false]
theorem c4_ {α : Type} {p : α → α → Bool} {l r : List α} {k : Nat} (h1 : k < l.length) (h2 : k < r.length) : cd_ p (l.drop k) (r.drop k) = (p l[k] r[k] && cd_ p (l.drop (k + 1)) (r.drop (k + 1))) := by
 rw [r_ h1, r_ h2]; rfl
theorem ju_ {α : Type} {p : α → α → Bool} (hp : ∀ a b, p a b = true ↔ a = b) : ∀ {l r : List α}, cd_ p l r = true ↔ l = r
 | [], [] => by simp [cd_]
 | [], _ :: _ => by simp [cd_]
 | _ :: _, [] => by simp [cd_]
 | a :: l, b :: r => by
  unfold cd_
  rw [j_, hp, ju_ hp]
  simp
def hf_ (a b : Bs) : Bool := a == b
def if_ (a b : Int) : Bool := a == b
theorem strB_eq (a b : Bs) : hf_ a b = true ↔ a = b := by unfold hf_; simp
theorem intB_eq (a b : Int) : if_ a b = true ↔ a = b := by unfold if_; simp
def ndB (x y : Nd) : Bool := x.kind == y.kind && x.text == y.text && x.val == y.val && cd_ hf_ x.keys y.keys && cd_ if_ x.kids y.kids
def fcB (x y : Fc) : Bool := x.name == y.name && x.body == y.body && cd_ hf_ x.params y.params
def e5_ (a b : Pg) : Bool := cd_ ndB a.nodes b.nodes && cd_ fcB a.funcs b.funcs
theorem ndB_eq (x y : Nd) : ndB x y = true ↔ x = y := by
 obtain ⟨a, b, c, d, e⟩ := x
 obtain ⟨a', b', c', d', e'⟩ := y
 unfold ndB
 simp [Bool.and_eq_true, ju_ strB_eq, ju_ intB_eq, and_assoc]
theorem fcB_eq (x y : Fc) : fcB x y = true ↔ x = y := by
 obtain ⟨a, b, c⟩ := x
 obtain ⟨a', b', c'⟩ := y
 unfold fcB
 simp [Bool.and_eq_true, ju_ strB_eq]
 constructor
 ·rintro ⟨⟨h1, h2⟩, h3⟩; exact ⟨h1, h3, h2⟩
 ·rintro ⟨h1, h2, h3⟩; exact ⟨⟨h1, h3⟩, h2⟩
theorem sameP_eq (a b : Pg) : e5_ a b = true ↔ a = b := by
 obtain ⟨f, i⟩ := a
 obtain ⟨f', i'⟩ := b
 unfold e5_
 rw [j_, ju_ ndB_eq, ju_ fcB_eq]
 simp
theorem og_ (a b : List Bs) (ha : a.length ≤ 8796093022207) : DCalls Tryz.prog 47 [.sl true 1 (a.map bl_), .sl true 1 (b.map bl_)] (boo (cd_ hf_ a b)) := by
 have hla : (a.map bl_).length = a.length := d_ _
 have hlb : (b.map bl_).length = b.length := d_ _
 refine sx Tryz.func47 kR ?_
 conv => whnf
 rintro (_ | _) h0
 rotate_left
 ·have h0 : a.length ≠ b.length := by rw [hla, hlb] at h0; simp at h0; omega
  rw [dl_ h0]
  (conv => whnf) <;> rfl
 have h0 : a.length = b.length := by rw [hla, hlb] at h0; simp at h0; omega
 conv => whnf
 refine ⟨[], Nat, fun k => [(13, int k)], fun _ => [], fun k => k ≤ a.length ∧ cd_ hf_ (a.drop k) (b.drop k) = cd_ hf_ a b, fun k => a.length - k, 0, ⟨l_ _, rfl⟩, ?_, ?_⟩
 ·exact eN
 rintro k ⟨hk1, hk⟩
 conv => whnf
 rintro (_ | _) h1
 ·have h1 : a.length ≤ k := by rw [← hla]; simpa using h1
  rw [k_ h1, k_ oM, show cd_ hf_ [] [] = true from rfl] at hk
  rw [← hk]
  (conv => whnf) <;> rfl
 have h1 : k < a.length := by rw [← hla]; simpa using h1
 have h2 : k < b.length := by omega
 rw [c4_ h1 h2] at hk
 conv => whnf
 refine ⟨none, kR, ?_⟩
 conv => whnf
 refine ⟨oM, _, W_ bl_ h1, ?_⟩
 conv => whnf
 refine ⟨oM, _, W_ bl_ h2, ?_⟩
 conv => whnf
 rw [show ((mk a[k]).toList == (mk b[k]).toList) = hf_ a[k] b[k] from a2_ _ _]
 rintro (_ | _) h3
 ·have h3 : hf_ a[k] b[k] = true := by simpa using h3
  rw [h3, n_] at hk
  conv => whnf
  refine ⟨k + 1, ⟨h1, hk⟩, by dsimp only; omega, ?_⟩
  exact eW
 ·have h3 : hf_ a[k] b[k] = false := by simpa using h3
  rw [h3, u_] at hk
  rw [← hk]
  (conv => whnf) <;> rfl
theorem x_equalI (a b : List Int) (ha : a.length ≤ 8796093022207) : DCalls Tryz.prog 79 [.sl true 1 (a.map ae_), .sl true 1 (b.map ae_)] (boo (cd_ if_ a b)) := by
 have hla : (a.map ae_).length = a.length := d_ _
 have hlb : (b.map ae_).length = b.length := d_ _
 refine sx Tryz.func79 kR ?_
 conv => whnf
 rintro (_ | _) h0
 rotate_left
 ·have h0 : a.length ≠ b.length := by rw [hla, hlb] at h0; simp at h0; omega
  rw [dl_ h0]
  (conv => whnf) <;> rfl
 have h0 : a.length = b.length := by rw [hla, hlb] at h0; simp at h0; omega
 conv => whnf
 refine ⟨[], Nat, fun k => [(13, int k)], fun _ => [], fun k => k ≤ a.length ∧ cd_ if_ (a.drop k) (b.drop k) = cd_ if_ a b, fun k => a.length - k, 0, ⟨l_ _, rfl⟩, ?_, ?_⟩
 ·exact eN
 rintro k ⟨hk1, hk⟩
 conv => whnf
 rintro (_ | _) h1
 ·have h1 : a.length ≤ k := by rw [← hla]; simpa using h1
  rw [k_ h1, k_ oM, show cd_ if_ [] [] = true from rfl] at hk
  rw [← hk]
  (conv => whnf) <;> rfl
 have h1 : k < a.length := by rw [← hla]; simpa using h1
 have h2 : k < b.length := by omega
 rw [c4_ h1 h2] at hk
 conv => whnf
 refine ⟨none, kR, ?_⟩
 conv => whnf
 refine ⟨oM, _, W_ ae_ h1, ?_⟩
 conv => whnf
 refine ⟨oM, _, W_ ae_ h2, ?_⟩
 conv => whnf
 rintro (_ | _) h3
 ·have h3 : if_ a[k] b[k] = true := by unfold if_; simpa using h3
  rw [h3, n_] at hk
  conv => whnf
  refine ⟨k + 1, ⟨h1, hk⟩, by dsimp only; omega, ?_⟩
  exact eW
 ·have h3 : if_ a[k] b[k] = false := by unfold if_; simpa using h3
  rw [h3, u_] at hk
  rw [← hk]
  (conv => whnf) <;> rfl
theorem x_node (x y : Nd) (hx : x.keys.length ≤ 8796093022207) (hy : x.kids.length ≤ 8796093022207) : DCalls Tryz.prog 44 [x.V, y.V] (boo (ndB x y)) := by
 obtain ⟨op, s, a, ks, l⟩ := x
 obtain ⟨op', s', a', ks', l'⟩ := y
 refine sx Tryz.func44 kR ?_
 conv => whnf
 rintro (_ | _) h1
 ·rw [show ndB ⟨op, s, a, ks, l⟩ ⟨op', s', a', ks', l'⟩ = false by unfold ndB; rw [show (op == op') = false from h1]; simp]
  (conv => whnf) <;> rfl
 conv => whnf
 rintro (_ | _) h3
 ·have h3 : (s == s') = false := (a2_ s s').symm.trans h3
  rw [show ndB ⟨op, s, a, ks, l⟩ ⟨op', s', a', ks', l'⟩ = false by unfold ndB; rw [h3]; simp]
  (conv => whnf) <;> rfl
 have h3 : (s == s') = true := (a2_ s s').symm.trans h3
 conv => whnf
 rintro (_ | _) h2
 ·rw [show ndB ⟨op, s, a, ks, l⟩ ⟨op', s', a', ks', l'⟩ = false by unfold ndB; rw [show (a == a') = false from h2]; simp]
  (conv => whnf) <;> rfl
 conv => whnf
 refine ⟨_, og_ ks ks' hx, ?_⟩
 have hq : ndB ⟨op, s, a, ks, l⟩ ⟨op', s', a', ks', l'⟩ = (cd_ hf_ ks ks' && cd_ if_ l l') := by unfold ndB; rw [show (op == op') = true from h1, show (a == a') = true from h2, h3]; rfl
 rw [hq]
 conv => whnf
 rintro (_ | _) h4
 ·rw [show cd_ hf_ ks ks' = false from h4]
  (conv => whnf) <;> rfl
 rw [show cd_ hf_ ks ks' = true from h4, n_]
 conv => whnf
 refine ⟨_, x_equalI l l' hy, ?_⟩
 (conv => whnf) <;> rfl
theorem x_same1 (x y : Fc) (hx : x.params.length ≤ 8796093022207) : DCalls Tryz.prog 46 [x.V, y.V] (boo (fcB x y)) := by
 obtain ⟨s, ks, a⟩ := x
 obtain ⟨s', ks', a'⟩ := y
 refine sx Tryz.func46 kR ?_
 conv => whnf
 rintro (_ | _) h3
 ·have h3 : (s == s') = false := (a2_ s s').symm.trans h3
  rw [show fcB ⟨s, ks, a⟩ ⟨s', ks', a'⟩ = false by unfold fcB; rw [h3]; simp]
  (conv => whnf) <;> rfl
 have h3 : (s == s') = true := (a2_ s s').symm.trans h3
 conv => whnf
 rintro (_ | _) h2
 ·rw [show fcB ⟨s, ks, a⟩ ⟨s', ks', a'⟩ = false by unfold fcB; rw [show (a == a') = false from h2]; simp]
  (conv => whnf) <;> rfl
 rw [show fcB ⟨s, ks, a⟩ ⟨s', ks', a'⟩ = cd_ hf_ ks ks' by unfold fcB; rw [show (a == a') = true from h2, h3]; rfl]
 conv => whnf
 refine ⟨_, og_ ks ks' hx, ?_⟩
 (conv => whnf) <;> rfl
theorem x_equalN (a b : List Nd) (ha : a.length ≤ 8796093022207) (hk2 : ∀ x ∈ a, x.keys.length ≤ 8796093022207) (hk3 : ∀ x ∈ a, x.kids.length ≤ 8796093022207) : DCalls Tryz.prog 43 [.sl true 5 (a.map ndD), .sl true 5 (b.map ndD), .cv (.func (.func 44) #[] #[])] (boo (cd_ ndB a b)) := by
 have hla : (a.map ndD).length = a.length := d_ _
 have hlb : (b.map ndD).length = b.length := d_ _
 refine sx Tryz.func43 kR ?_
 conv => whnf
 rintro (_ | _) h0
 rotate_left
 ·have h0 : a.length ≠ b.length := by rw [hla, hlb] at h0; simp at h0; omega
  rw [dl_ h0]
  (conv => whnf) <;> rfl
 have h0 : a.length = b.length := by rw [hla, hlb] at h0; simp at h0; omega
 conv => whnf
 refine ⟨[], Nat, fun k => [(17, int k)], fun _ => [], fun k => k ≤ a.length ∧ cd_ ndB (a.drop k) (b.drop k) = cd_ ndB a b, fun k => a.length - k, 0, ⟨l_ _, rfl⟩, ?_, ?_⟩
 ·exact eN
 rintro k ⟨hk1, hk⟩
 conv => whnf
 rintro (_ | _) h1
 ·have h1 : a.length ≤ k := by rw [← hla]; simpa using h1
  rw [k_ h1, k_ oM, show cd_ ndB [] [] = true from rfl] at hk
  rw [← hk]
  (conv => whnf) <;> rfl
 have h1 : k < a.length := by rw [← hla]; simpa using h1
 have h2 : k < b.length := by omega
 rw [c4_ h1 h2] at hk
 conv => whnf
 refine ⟨oM, _, W_ ndD h1, ?_⟩
 conv => whnf
 refine ⟨oM, _, W_ ndD h2, ?_⟩
 conv => whnf
 refine ⟨_, x_node a[k] b[k] (hk2 _ (q_ h1)) (hk3 _ (q_ h1)), ?_⟩
 conv => whnf
 rintro (_ | _) h3
 ·have h3 : ndB a[k] b[k] = true := by simpa using h3
  rw [h3, n_] at hk
  conv => whnf
  refine ⟨k + 1, ⟨h1, hk⟩, by dsimp only; omega, ?_⟩
  exact eW
 ·have h3 : ndB a[k] b[k] = false := by simpa using h3
  rw [h3, u_] at hk
  rw [← hk]
  (conv => whnf) <;> rfl
theorem p4_ (a b : List Fc) (ha : a.length ≤ 8796093022207) (hk2 : ∀ x ∈ a, x.params.length ≤ 8796093022207) : DCalls Tryz.prog 45 [.sl true 3 (a.map fcD), .sl true 3 (b.map fcD), .cv (.func (.func 46) #[] #[])] (boo (cd_ fcB a b)) := by
 have hla : (a.map fcD).length = a.length := d_ _
 have hlb : (b.map fcD).length = b.length := d_ _
 refine sx Tryz.func45 kR ?_
 conv => whnf
 rintro (_ | _) h0
 rotate_left
 ·have h0 : a.length ≠ b.length := by rw [hla, hlb] at h0; simp at h0; omega
  rw [dl_ h0]
  (conv => whnf) <;> rfl
 have h0 : a.length = b.length := by rw [hla, hlb] at h0; simp at h0; omega
 conv => whnf
 refine ⟨[], Nat, fun k => [(17, int k)], fun _ => [], fun k => k ≤ a.length ∧ cd_ fcB (a.drop k) (b.drop k) = cd_ fcB a b, fun k => a.length - k, 0, ⟨l_ _, rfl⟩, ?_, ?_⟩
 ·exact eN
 rintro k ⟨hk1, hk⟩
 conv => whnf
 rintro (_ | _) h1
 ·have h1 : a.length ≤ k := by rw [← hla]; simpa using h1
  rw [k_ h1, k_ oM, show cd_ fcB [] [] = true from rfl] at hk
  rw [← hk]
  (conv => whnf) <;> rfl
 have h1 : k < a.length := by rw [← hla]; simpa using h1
 have h2 : k < b.length := by omega
 rw [c4_ h1 h2] at hk
 conv => whnf
 refine ⟨oM, _, W_ fcD h1, ?_⟩
 conv => whnf
 refine ⟨oM, _, W_ fcD h2, ?_⟩
 conv => whnf
 refine ⟨_, x_same1 a[k] b[k] (hk2 _ (q_ h1)), ?_⟩
 conv => whnf
 rintro (_ | _) h3
 ·have h3 : fcB a[k] b[k] = true := by simpa using h3
  rw [h3, n_] at hk
  conv => whnf
  refine ⟨k + 1, ⟨h1, hk⟩, by dsimp only; omega, ?_⟩
  exact eW
 ·have h3 : fcB a[k] b[k] = false := by simpa using h3
  rw [h3, u_] at hk
  rw [← hk]
  (conv => whnf) <;> rfl
theorem x_samePg (a b : Pg) (ha : PgBig a) : DCalls Tryz.prog 17 [a.V, b.V] (boo (e5_ a b)) := by
 refine sx Tryz.func17 kR ?_
 conv => whnf
 refine ⟨_, x_equalN a.nodes b.nodes ha.ns ha.keys ha.kids, ?_⟩
 conv => whnf
 rintro (_ | _) h1
 ·rw [show e5_ a b = false by unfold e5_; rw [show cd_ ndB a.nodes b.nodes = false from h1]; rfl]
  (conv => whnf) <;> rfl
 conv => whnf
 refine ⟨_, p4_ a.funcs b.funcs ha.fs ha.ps, ?_⟩
 rw [show e5_ a b = cd_ fcB a.funcs b.funcs by unfold e5_; rw [show cd_ ndB a.nodes b.nodes = true from h1]; rfl]
 (conv => whnf) <;> rfl
theorem mw_ (a b : List Bs) (ha : a.length ≤ 8796093022207) : DCalls Tryz.prog 30 [.sl true 1 (a.map bl_), .sl true 1 (b.map bl_)] (boo (cd_ hf_ a b)) := by
 have hla : (a.map bl_).length = a.length := d_ _
 have hlb : (b.map bl_).length = b.length := d_ _
 refine sx Tryz.func30 kR ?_
 conv => whnf
 rintro (_ | _) h0
 rotate_left
 ·have h0 : a.length ≠ b.length := by rw [hla, hlb] at h0; simp at h0; omega
  rw [dl_ h0]
  (conv => whnf) <;> rfl
 have h0 : a.length = b.length := by rw [hla, hlb] at h0; simp at h0; omega
 conv => whnf
 refine ⟨[], Nat, fun k => [(5, int k)], fun _ => [], fun k => k ≤ a.length ∧ cd_ hf_ (a.drop k) (b.drop k) = cd_ hf_ a b, fun k => a.length - k, 0, ⟨l_ _, rfl⟩, ?_, ?_⟩
 ·exact eN
 rintro k ⟨hk1, hk⟩
 conv => whnf
 rintro (_ | _) h1
 ·have h1 : a.length ≤ k := by rw [← hla]; simpa using h1
  rw [k_ h1, k_ oM, show cd_ hf_ [] [] = true from rfl] at hk
  rw [← hk]
  (conv => whnf) <;> rfl
 have h1 : k < a.length := by rw [← hla]; simpa using h1
 have h2 : k < b.length := by omega
 rw [c4_ h1 h2] at hk
 conv => whnf
 refine ⟨none, kR, ?_⟩
 conv => whnf
 refine ⟨oM, _, W_ bl_ h1, ?_⟩
 conv => whnf
 refine ⟨oM, _, W_ bl_ h2, ?_⟩
 conv => whnf
 rw [show ((mk a[k]).toList == (mk b[k]).toList) = hf_ a[k] b[k] from a2_ _ _]
 rintro (_ | _) h3
 ·have h3 : hf_ a[k] b[k] = true := by simpa using h3
  rw [h3, n_] at hk
  conv => whnf
  refine ⟨k + 1, ⟨h1, hk⟩, by dsimp only; omega, ?_⟩
  exact eW
 ·have h3 : hf_ a[k] b[k] = false := by simpa using h3
  rw [h3, u_] at hk
  rw [← hk]
  (conv => whnf) <;> rfl
end
section
open Go.RowKit
def idxS (s : Bs) : List Bs → Nat → Int
 | [], _ => -1
 | k :: r, i => if s == k then i else idxS s r (i + 1)
theorem idxS_cons (s k : Bs) (r : List Bs) (i : Nat) : idxS s (k :: r) i = if s == k then (i : Int) else idxS s r (i + 1) := rfl
theorem idxS_has (s : Bs) : ∀ (l : List Bs) (i : Nat), decide (idxS s l i ≥ 0) = l.contains s
 | [], i => rfl
 | k :: r, i => by
  rw [idxS_cons, List.contains_cons]
  by_cases h : (s == k) = true
  ·rw [if_pos h, h]; simp
  ·rw [if_neg h, idxS_has s r (i + 1)]; simp at h; simp [h]
theorem x_indexS (l : List Bs) (s : Bs) (hn : l.length ≤ 8796093022207) : DCalls Tryz.prog 200 [qj_ l, bc_ s] (int (idxS s l 0)) := by
 refine sx Tryz.func200 kR ?_
 conv => whnf
 refine ⟨[], Nat, fun k => [(8, int k)], fun _ => [], fun k => k ≤ l.length ∧ idxS s (l.drop k) k = idxS s l 0, fun k => l.length - k, 0, ⟨l_ _, rfl⟩, ?_, ?_⟩
 ·exact eN
 rintro k ⟨hk1, hk⟩
 conv => whnf
 rintro (_ | _) h2
 ·have h2 : l.length ≤ k := by simp at h2; omega
  rw [k_ h2] at hk
  rw [← hk]
  (conv => whnf) <;> rfl
 have h2 : k < l.length := by simp at h2; omega
 have hw : IntKind.i64.wrap (((k : Nat) : Int) + 1) = ((k + 1 : Nat) : Int) := R_ oM
 rw [r_ h2, idxS_cons] at hk
 conv => whnf
 refine ⟨oM, _, W_ bl_ h2, ?_⟩
 conv => whnf
 rintro (_ | _) h3
 ·have h3 : (s == l[k]) = false := by rw [← a2_]; exact h3
  rw [h3, if_neg sI] at hk
  conv => whnf
  refine ⟨k + 1, ⟨h2, hk⟩, by dsimp only; omega, ?_⟩
  exact eA
 ·have h3 : (s == l[k]) = true := by rw [← a2_]; exact h3
  rw [h3, if_pos rfl] at hk
  rw [← hk]
  (conv => whnf) <;> rfl
theorem x_containsS (l : List Bs) (s : Bs) (hn : l.length ≤ 8796093022207) : DCalls Tryz.prog 172 [qj_ l, bc_ s] (boo (l.contains s)) := by
 rw [← idxS_has s l 0]
 refine sx Tryz.func172 kR ?_
 conv => whnf
 refine ⟨_, x_indexS l s hn, ?_⟩
 (conv => whnf) <;> rfl
end
end Go.Proofs.YtglndfgmlminpaaGreatDoor
