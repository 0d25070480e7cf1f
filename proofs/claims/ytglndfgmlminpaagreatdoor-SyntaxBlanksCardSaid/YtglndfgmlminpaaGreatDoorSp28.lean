/- Texts joined by pack.py: XSyX0 XSxE2 XSy3 XSyC XSyWB -/
import Derived.Test.YtglndfgmlminpaaGreatDoorSp27
import Derived.Test.YtglndfgmlminpaaGreatDoorSp20
import Derived.Test.YtglndfgmlminpaaGreatDoorSp14
import Derived.Laws.StructEq
set_option maxHeartbeats 4000000
set_option maxRecDepth 100000
namespace Go.Proofs.YtglndfgmlminpaaGreatDoor
abbrev tl (p : List Pc) : Nat := (txP p).length
theorem tl_app (a b : List Pc) : tl (a ++ b) = tl a + tl b := by simp [tl, txP_append]
theorem tl_t (k : Tok) (l : List Pc) : tl (.t k :: l) = (textT k).1.length + tl l := by simp [tl, txP]
theorem tl_b (s : Bs) (l : List Pc) : tl (.b s :: l) = s.length + tl l := by simp [tl, txP]
theorem tl_nil : tl [] = 0 := rfl
theorem ttk_len (k : Int) (s : Bs) : (textT (tk k s)).1.length ≤ 2 * s.length + 13 := textT_len _
theorem x0_int (v : Int) : (textT ⟨3, [], v, 0⟩).1.length ≤ 13 := textT_len ⟨3, [], v, 0⟩
def sumL (c : Nat) : List (List Pc) → Nat
 | [] => 0
 | p :: ps => tl p + c + sumL c ps
theorem x0_comma (c : Nat) (hc : 2 ≤ c) : ∀ ps, tl (commaP ps) ≤ sumL c ps
 | [] => Nat.le_refl _
 | [p] => by simp only [commaP, sumL]; omega
 | p :: q :: l => by
  have := x0_comma c hc (q :: l)
  simp only [commaP, tl_app, tl_t, tl_b, sumL] at this ⊢
  have h1 : (textT (sy sCm)).1.length = 1 := by decide
  rw [h1]
  simp only [List.length_singleton]
  omega
theorem x0_keys (c : Nat) (hc : 417 ≤ c) : ∀ (ks : List Bs) (ps : List (List Pc)), (∀ k ∈ ks, k.length ≤ 200) → sumL 2 (keysP ks ps) ≤ sumL c ps
 | [], ps, _ => by simp [keysP, sumL]
 | _ :: _, [], _ => by simp [keysP, sumL]
 | k :: ks, p :: ps, h => by
  have := x0_keys c hc ks ps fun x hx => h x (by simp [hx])
  simp only [keysP, sumL, tl_t, tl_b]
  have h1 : (textT (sy sCl)).1.length = 1 := by decide
  have h2 := ttk_len 4 k
  have h3 := h k (by simp)
  rw [h1]
  simp only [List.length_singleton]
  omega
theorem x0_lines (c d : Nat) (hc : d + 1 ≤ c) : ∀ ps, tl (linesP d ps) ≤ sumL c ps
 | [] => Nat.le_refl _
 | p :: ps => by
  have := x0_lines c d hc ps
  simp only [linesP, tl_b, tl_app, sumL, List.length_cons, tabs, List.length_replicate] at this ⊢
  omega
theorem qP_len (lv req : Int) (p : List Pc) : tl (qP lv req p) ≤ tl p + 2 := by
 unfold qP
 split
 ·have h1 : (textT (sy sLP)).1.length = 1 := by decide
  have h2 : (textT (sy sRP)).1.length = 1 := by decide
  simp only [tl_t, tl_app, h1, h2, tl_nil]; omega
 ·omega
theorem x0_asc : ∀ {l : List Bs}, ascB l = true → ∀ k ∈ l, contB k = true
 | [], _, k, h => by cases h
 | [a], h1, k, h => by simp at h; subst h; exact h1
 | a :: b :: l, h1, k, h => by
  simp only [ascB, Bool.and_eq_true] at h1
  rcases List.mem_cons.1 h with rfl | h
  ·exact h1.1.1
  ·exact x0_asc h1.2 k h
theorem x0_cont {s : Bs} (h : contB s = true) : s.length ≤ 200 := by
 unfold contB at h; simp at h; exact h.1
theorem x0_whole {s : Bs} (h : wholeB s = true) : s.length ≤ 24 := by
 unfold wholeB at h; simp at h; exact h.2
theorem x0_name {s : Bs} (h : nameB s = true) : s.length ≤ 24 := by
 unfold nameB at h; simp at h; exact x0_whole h.1
theorem x0_binc {s : Bs} (h : 0 < binL s) : s = wOr ∨ s = wAnd ∨ opCmp.contains s = true ∨ opAdd.contains s = true ∨ opMul.contains s = true := by
 unfold binL at h
 split at h
 ·exact .inl (by assumption)
 split at h
 ·exact .inr (.inl (by assumption))
 split at h
 ·exact .inr (.inr (.inl (by assumption)))
 split at h
 ·exact .inr (.inr (.inr (.inl (by assumption))))
 split at h
 ·exact .inr (.inr (.inr (.inr (by assumption))))
 ·omega
theorem x0_bina {s : Bs} (h : 0 < binL s) : s ∈ ([wOr, wAnd, [61, 61], [33, 61], [60], [60, 61], [62], [62, 61]] ++ opAdd ++ opMul) := by
 rcases x0_binc h with rfl | rfl | h | h | h
 ·simp
 ·simp
 ·have : s ∈ opCmp := by simpa using h
  have : s ∈ [wOr, wAnd] ++ opCmp := List.mem_append_right _ this
  exact List.mem_append_left _ (List.mem_append_left _ this)
 ·have : s ∈ opAdd := by simpa using h
  exact List.mem_append_left _ (List.mem_append_right _ this)
 ·have : s ∈ opMul := by simpa using h
  exact List.mem_append_right _ this
theorem x0_bin {s : Bs} (h : 0 < binL s) : s.length ≤ 3 := by
 have := x0_bina h
 have key : ∀ x ∈ ([wOr, wAnd, [61, 61], [33, 61], [60], [60, 61], [62], [62, 61]] ++ opAdd ++ opMul), x.length ≤ 3 := by decide
 exact key s this
theorem tt_bin {s : Bs} (h : 0 < binL s) : (textT (tk (opK s) s)).1 = s := by
 have := x0_bina h
 have key : ∀ x ∈ ([wOr, wAnd, [61, 61], [33, 61], [60], [60, 61], [62], [62, 61]] ++ opAdd ++ opMul), (textT (tk (opK x) x)).1 = x := by
  intro x hx
  simp only [opAdd, opMul, List.mem_append, List.mem_cons, List.not_mem_nil, or_false] at hx
  rcases hx with ((rfl | rfl | rfl | rfl | rfl | rfl | rfl | rfl) | rfl | rfl) | rfl | rfl | rfl
  ·unfold textT; simp [tk, opK, show kwL wOr = true from by kernel_rfl]
  ·unfold textT; simp [tk, opK, show kwL wAnd = true from by kernel_rfl]
  all_goals rfl
 exact key s this
theorem tt_name {s : Bs} (h : nameB s = true) : (textT (tk 1 s)).1 = s := by
 unfold nameB at h
 simp only [Bool.and_eq_true, Bool.not_eq_true'] at h
 unfold textT tk
 simp [h.1, h.2]
theorem tt_whole {s : Bs} (h : wholeB s = true) : (textT (tk 6 s)).1 = 64 :: s := by
 unfold textT tk
 simp [h]
theorem lab_text {a : Lab} {n : Nat} (h : fieldsB a n = true) : a.text.length ≤ 200 := by
 unfold fieldsB at h
 split at h
 ·cases h
 split at h
 ·simp only [Bool.and_eq_true, decide_eq_true_eq] at h; rw [h.1]; simp
 split at h
 ·simp only [Bool.and_eq_true, decide_eq_true_eq] at h; rw [h.1.1]; simp
 split at h
 ·exact x0_cont h
 split at h
 ·have := x0_name h; omega
 split at h
 ·have := x0_whole h; omega
 split at h
 ·simp only [Bool.and_eq_true, decide_eq_true_eq] at h; rw [h.1.1]; simp
 split at h
 ·simp only [Bool.or_eq_true, decide_eq_true_eq] at h; rcases h with h | h <;> rw [h] <;> decide
 split at h
 ·have := x0_bin (by simpa using h); omega
 ·rw [of_decide_eq_true h]; simp
theorem lab_keys {a : Lab} {n : Nat} (h : fieldsB a n = true) : ∀ k ∈ a.keys, k.length ≤ 200 := by
 unfold fieldsB at h
 intro k hk
 split at h
 ·cases h
 rename_i h0
 have h7 : a.kind = 7 := by
  rcases Classical.em (a.kind = 7) with h7 | h7
  ·exact h7
  ·exact absurd (.inl ⟨h7, fun e => by rw [e] at hk; cases hk⟩) h0
 simp only [h7] at h
 simp only [show ¬ ((7 : Int) = 2) by decide, show ¬ ((7 : Int) = 3) by decide, show ¬ ((7 : Int) = 4) by decide, show ¬ ((7 : Int) = 5 ∨ (7 : Int) = 11 ∨ (7 : Int) = 13 ∨ (7 : Int) = 14) by decide, show ¬ ((7 : Int) = 12) by decide, if_true, if_false] at h
 simp only [Bool.and_eq_true] at h
 exact x0_cont (x0_asc h.2 k hk)
theorem x0_sy : (textT (sy sLP)).1.length = 1 ∧ (textT (sy sRP)).1.length = 1 ∧ (textT (sy sLB)).1.length = 1 ∧ (textT (sy sRB)).1.length = 1 ∧ (textT (sy sLC)).1.length = 1 ∧ (textT (sy sRC)).1.length = 1 ∧ (textT (sy sSc)).1.length = 1 ∧ (textT (sy sMi)).1.length = 1 ∧ (textT (sy sEq1)).1.length = 1 := by decide
theorem pcN_len (d : Nat) {a : Lab} (lv : List Int) (ps : List (List Pc)) {n : Nat} (h : fieldsB a n = true) : tl (pcN d a lv ps) ≤ 500 + d + sumL (422 + d) ps := by
 have ht := lab_text h
 have hk := lab_keys h
 obtain ⟨s1, s2, s3, s4, s5, s6, s7, s8, s9⟩ := x0_sy
 have w : ∀ k (s : Bs), s.length ≤ 200 → (textT (tk k s)).1.length ≤ 413 := fun k s h => by have := ttk_len k s; omega
 have w1 := w 4 a.text ht
 have w2 := w 1 a.text ht
 have w3 := w 6 a.text ht
 have w4 := w (opK a.text) a.text ht
 have w5 := x0_int a.val
 have wk : ∀ s : Bs, s.length ≤ 10 → (textT (wd s)).1.length ≤ 33 := fun s h => by
  have : (textT (wd s)).1.length ≤ 2 * s.length + 13 := ttk_len 2 s
  omega
 have k1 := wk wNull (by decide)
 have k2 := wk wTrue (by decide)
 have k3 := wk wFalse (by decide)
 have k4 := wk wNot (by decide)
 have k5 := wk wLet (by decide)
 have k6 := wk wIf (by decide)
 have k7 := wk wWhile (by decide)
 have k8 := wk wReturn (by decide)
 have k9 := wk wElse (by decide)
 have c1 := x0_comma (422 + d) (by omega) ps
 have c2 := Nat.le_trans (x0_comma 2 (by omega) (keysP a.keys ps)) (x0_keys (422 + d) (by omega) a.keys ps hk)
 have c3 := x0_lines (422 + d) (d + 1) (by omega) ps
 obtain ⟨kind, text, val, keys⟩ := a
 dsimp only at *
 by_cases hk19 : 1 ≤ kind ∧ kind ≤ 18
 rotate_left
 ·unfold pcN
  dsimp only
  rw [if_neg (by omega), if_neg (by omega), if_neg (by omega), if_neg (by omega), if_neg (by omega), if_neg (by omega), if_neg (by omega), if_neg (by omega), if_neg (by omega), if_neg (by omega), if_neg (by omega), if_neg (by omega), if_neg (by omega), if_neg (by omega), if_neg (by omega), if_neg (by omega), if_neg (by omega), if_neg (by omega)]
  simp only [tl_t, tl_b, tl_app, tl_nil, List.length_cons, tabs, List.length_replicate]; omega
 have hkk : kind = 1 ∨ kind = 2 ∨ kind = 3 ∨ kind = 4 ∨ kind = 5 ∨ kind = 6 ∨ kind = 7 ∨ kind = 8 ∨ kind = 9 ∨ kind = 10 ∨ kind = 11 ∨ kind = 12 ∨ kind = 13 ∨ kind = 14 ∨ kind = 15 ∨ kind = 16 ∨ kind = 17 ∨ kind = 18 := by omega
 have e1 : pcN d ⟨1, text, val, keys⟩ lv ps = [.t (wd wNull)] := rfl
 have e2 : pcN d ⟨2, text, val, keys⟩ lv ps = [.t (wd (if val = 1 then wTrue else wFalse))] := rfl
 have e3 : pcN d ⟨3, text, val, keys⟩ lv ps = [.t ⟨3, [], val, 0⟩] := rfl
 have e4 : pcN d ⟨4, text, val, keys⟩ lv ps = [.t (tk 4 text)] := rfl
 have e5 : pcN d ⟨5, text, val, keys⟩ lv ps = [.t (tk 1 text)] := rfl
 have e6 : pcN d ⟨6, text, val, keys⟩ lv ps = .t (sy sLB) :: (commaP ps ++ [.t (sy sRB)]) := rfl
 have e7 : pcN d ⟨7, text, val, keys⟩ lv ps = .t (sy sLC) :: (commaP (keysP keys ps) ++ [.t (sy sRC)]) := rfl
 have e11 : pcN d ⟨11, text, val, keys⟩ lv ps = .t (tk 1 text) :: .t (sy sLP) :: (commaP ps ++ [.t (sy sRP)]) := rfl
 have e12 : pcN d ⟨12, text, val, keys⟩ lv ps = .t (tk 6 text) :: .t (sy sLP) :: (commaP ps ++ [.t (sy sRP)]) := rfl
 have e8 : pcN d ⟨8, text, val, keys⟩ lv ps = (match (generalizing := false) lv, ps with
  | [l], [p] => if text = wNot then .t (wd wNot) :: sp1 :: qP l 3 p else .t (sy sMi) :: qP l 7 p
  | _, _ => []) := rfl
 have e9 : pcN d ⟨9, text, val, keys⟩ lv ps = (match (generalizing := false) lv, ps with
  | [l1, l2], [p1, p2] => qP l1 (if binL text = 4 then 5 else binL text) p1 ++ sp1 :: .t (tk (opK text) text) :: sp1 :: qP l2 (binL text + 1) p2
  | _, _ => []) := rfl
 have e10 : pcN d ⟨10, text, val, keys⟩ lv ps = (match (generalizing := false) lv, ps with
  | [l1, _], [p1, p2] => qP l1 8 p1 ++ .t (sy sLB) :: (p2 ++ [.t (sy sRB)])
  | _, _ => []) := rfl
 have e13 : pcN d ⟨13, text, val, keys⟩ lv ps = (match (generalizing := false) ps with
  | [p] => .t (wd wLet) :: sp1 :: .t (tk 1 text) :: sp1 :: .t (sy sEq1) :: sp1 :: (p ++ [.t (sy sSc)])
  | _ => []) := rfl
 have e14 : pcN d ⟨14, text, val, keys⟩ lv ps = (match (generalizing := false) ps with
  | [p] => .t (tk 1 text) :: sp1 :: .t (sy sEq1) :: sp1 :: (p ++ [.t (sy sSc)])
  | _ => []) := rfl
 have e15 : pcN d ⟨15, text, val, keys⟩ lv ps = (match (generalizing := false) ps with
  | [c, b] => .t (wd wIf) :: sp1 :: (c ++ sp1 :: b)
  | [c, b, e] => .t (wd wIf) :: sp1 :: (c ++ sp1 :: (b ++ sp1 :: .t (wd wElse) :: sp1 :: e))
  | _ => []) := rfl
 have e16 : pcN d ⟨16, text, val, keys⟩ lv ps = (match (generalizing := false) ps with
  | [c, b] => .t (wd wWhile) :: sp1 :: (c ++ sp1 :: b)
  | _ => []) := rfl
 have e17 : pcN d ⟨17, text, val, keys⟩ lv ps = (match (generalizing := false) ps with
  | [p] => .t (wd wReturn) :: sp1 :: (p ++ [.t (sy sSc)])
  | _ => []) := rfl
 have e18 : pcN d ⟨18, text, val, keys⟩ lv ps = (match (generalizing := false) ps with
  | [p] => p ++ [.t (sy sSc)]
  | _ => []) := rfl
 rcases hkk with rfl | rfl | rfl | rfl | rfl | rfl | rfl | rfl | rfl | rfl | rfl | rfl | rfl | rfl | rfl | rfl | rfl | rfl
 ·rw [e1]; simp only [tl_t, tl_nil]; omega
 ·rw [e2]; simp only [tl_t, tl_nil]; split <;> omega
 ·rw [e3]; simp only [tl_t, tl_nil]; omega
 ·rw [e4]; simp only [tl_t, tl_nil]; omega
 ·rw [e5]; simp only [tl_t, tl_nil]; omega
 ·rw [e6]; simp only [tl_t, tl_app, tl_nil]; omega
 ·rw [e7]; simp only [tl_t, tl_app, tl_nil]; omega
 ·rw [e8]
  split
  ·rename_i l p
   have q1 := qP_len l 3 p
   have q2 := qP_len l 7 p
   split
   ·simp only [tl_t, tl_b, List.length_singleton, sumL]; omega
   ·simp only [tl_t, sumL]; omega
  ·simp only [tl_nil]; omega
 ·rw [e9]
  split
  ·rename_i l1 l2 p1 p2
   have q1 := qP_len l1 (if binL text = 4 then 5 else binL text) p1
   have q2 := qP_len l2 (binL text + 1) p2
   simp only [tl_t, tl_b, tl_app, List.length_singleton, sumL]; omega
  ·simp only [tl_nil]; omega
 ·rw [e10]
  split
  ·rename_i l1 l2 p1 p2
   have q1 := qP_len l1 8 p1
   simp only [tl_t, tl_app, tl_nil, sumL]; omega
  ·simp only [tl_nil]; omega
 ·rw [e11]; simp only [tl_t, tl_app, tl_nil]; omega
 ·rw [e12]; simp only [tl_t, tl_app, tl_nil]; omega
 ·rw [e13]
  split
  ·simp only [tl_t, tl_b, tl_app, tl_nil, List.length_singleton, sumL]; omega
  ·simp only [tl_nil]; omega
 ·rw [e14]
  split
  ·simp only [tl_t, tl_b, tl_app, tl_nil, List.length_singleton, sumL]; omega
  ·simp only [tl_nil]; omega
 ·rw [e15]
  split
  ·simp only [tl_t, tl_b, tl_app, List.length_singleton, sumL]; omega
  ·simp only [tl_t, tl_b, tl_app, List.length_singleton, sumL]; omega
  ·simp only [tl_nil]; omega
 ·rw [e16]
  split
  ·simp only [tl_t, tl_b, tl_app, List.length_singleton, sumL]; omega
  ·simp only [tl_nil]; omega
 ·rw [e17]
  split
  ·simp only [tl_t, tl_b, tl_app, tl_nil, List.length_singleton, sumL]; omega
  ·simp only [tl_nil]; omega
 ·rw [e18]
  split
  ·simp only [tl_t, tl_app, tl_nil, sumL]; omega
  ·simp only [tl_nil]; omega
theorem pcl_sum (d K c : Nat) : ∀ ts : List Tr, (∀ X ∈ ts, tl (X.pc d) + c ≤ X.size * K) → sumL c (Tr.pcl d ts) ≤ Tr.sizes ts * K
 | [], _ => by simp [Tr.pcl, sumL]
 | X :: ts, h => by
  have h1 := h X (by simp)
  have h2 := pcl_sum d K c ts fun Y hY => h Y (by simp [hY])
  simp only [Tr.pcl, sumL, Tr.sizes, Nat.add_mul]
  omega
theorem pc_len : ∀ (n : Nat) (T : Tr) (d : Nat), T.size ≤ n → T.wf = true → tl (T.pc d) + 422 + d ≤ T.size * (1000 + 2 * (d + T.ht))
 | 0, T, d, hn, _ => by have := T.size_pos; omega
 | n + 1, T, d, hn, hw => by
  obtain ⟨a, ts⟩ := T
  obtain ⟨hf, hc, hws⟩ := wf_parts hw
  obtain ⟨K, hK⟩ : ∃ K, K = 1000 + 2 * (d + (Tr.node a ts).ht) := ⟨_, rfl⟩
  rw [← hK]
  have hht : (Tr.node a ts).ht = Tr.hts ts + 1 := rfl
  have e1 : (Tr.node a ts).pc d = pcN d a (ts.map Tr.level) (Tr.pcl (if a.kind = 19 then d + 1 else d) ts) := rfl
  have hs : sumL (422 + d) (Tr.pcl (if a.kind = 19 then d + 1 else d) ts) ≤ Tr.sizes ts * K := by
   refine pcl_sum _ _ _ _ fun X hX => ?_
   have h1 := pc_len n X (if a.kind = 19 then d + 1 else d) (kid_size hX hn) (kid_wf hX hws)
   have h2 := Tr.ht_mem hX
   have h3 : X.size * (1000 + 2 * ((if a.kind = 19 then d + 1 else d) + X.ht)) ≤ X.size * K := by
    refine Nat.mul_le_mul_left _ ?_
    split <;> omega
   have h4 : d ≤ (if a.kind = 19 then d + 1 else d) := by split <;> omega
   omega
  have := pcN_len d (ts.map Tr.level) (Tr.pcl (if a.kind = 19 then d + 1 else d) ts) hf
  rw [e1]
  simp only [Tr.size, Nat.add_mul, Nat.one_mul]
  omega
theorem seg_node {l : List Nd} {b : Lab} {ts : List Tr} {a i : Nat} (hs : Seg l (.node b ts) a i) : l[i]? = some ⟨b.kind, b.text, b.val, b.keys, Tr.roots a ts⟩ := by
 have hlen := hs.len
 have hseg := hs.seg
 simp only [Tr.size] at hlen
 simp only [Tr.flat] at hseg
 rw [prefix_app, Tr.flats_length] at hseg
 have := prefix_get hseg.2 (j := 0) (by simp)
 rw [show i = a + Tr.sizes ts + 0 by omega, this]
 rfl
theorem segs_kid {l : List Nd} : ∀ {ts : List Tr} {a : Nat}, (∀ X ∈ ts, X.wf = true) → Tr.flats a ts <+: l.drop a → ∀ (j : Nat) (X : Tr), ts[j]? = some X → ∃ b q : Nat, (Tr.roots a ts)[j]? = some (q : Int) ∧ Seg l X b q
 | [], a, _, _, j, X, h => by simp at h
 | T :: ts, a, hw, hp, j, X, h => by
  simp only [Tr.flats] at hp
  rw [prefix_app, Tr.flat_length] at hp
  cases j with
  | zero =>
   simp at h; subst h
   refine ⟨a, a + T.size - 1, ?_, seg_first (hw T (by simp)) hp.1⟩
   have := T.size_pos
   simp only [Tr.roots, List.getElem?_cons_zero, Option.some.injEq]
   omega
  | succ j =>
   obtain ⟨b, q, h1, h2⟩ := segs_kid (fun Y hY => hw Y (by simp [hY])) hp.2 j X (by simpa using h)
   exact ⟨b, q, by simpa [Tr.roots] using h1, h2⟩
theorem seg_kid {l : List Nd} {b : Lab} {ts : List Tr} {a i : Nat} (hs : Seg l (.node b ts) a i) (j : Nat) (X : Tr) (h : ts[j]? = some X) : ∃ c q : Nat, (Tr.roots a ts)[j]? = some (q : Int) ∧ Seg l X c q := by
 obtain ⟨hf, hc, hws⟩ := wf_parts hs.wf
 have hseg := hs.seg
 simp only [Tr.flat] at hseg
 rw [prefix_app, Tr.flats_length] at hseg
 exact segs_kid (fun X hX => kid_wf hX hws) hseg.1 j X h
end Go.Proofs.YtglndfgmlminpaaGreatDoor
namespace Go.Proofs.YtglndfgmlminpaaGreatDoor
open Go.RowKit
end Go.Proofs.YtglndfgmlminpaaGreatDoor
namespace Go.Proofs.YtglndfgmlminpaaGreatDoor
open Go.RowKit
def intD (n : Int) : List D := [.cv (.int .i64 n)]
abbrev intsV (l : List Int) : V := .sl true 1 (l.map intD)
def ndD (n : Nd) : List D := [.cv (.int .i64 n.kind), .cv (.string (mk n.text)), .cv (.int .i64 n.val), .sl 1 (n.keys.map strD), .sl 1 (n.kids.map intD)]
def fcD (f : Fc) : List D := [.cv (.string (mk f.name)), .sl 1 (f.params.map strD), .cv (.int .i64 f.body)]
abbrev Nd.V (n : Nd) : V := .ag [int n.kind, bstr n.text, int n.val, strsV n.keys, intsV n.kids]
abbrev Fc.V (f : Fc) : V := .ag [bstr f.name, strsV f.params, int f.body]
abbrev Pg.V (p : Pg) : V := .ag [.sl true 5 (p.nodes.map ndD), .sl true 3 (p.funcs.map fcD)]
structure PgBig (p : Pg) : Prop where
 ns : p.nodes.length ≤ 8796093022207
 fs : p.funcs.length ≤ 8796093022207
 keys : ∀ n ∈ p.nodes, n.keys.length ≤ 8796093022207
 kids : ∀ n ∈ p.nodes, n.kids.length ≤ 8796093022207
 ps : ∀ f ∈ p.funcs, f.params.length ≤ 8796093022207
def all2 {α : Type} (p : α → α → Bool) : List α → List α → Bool
 | [], [] => true
 | a :: l, b :: r => p a b && all2 p l r
 | _, _ => false
theorem all2_len {α : Type} {p : α → α → Bool} : ∀ {l r : List α}, l.length ≠ r.length → all2 p l r = false
 | [], [], h => absurd rfl h
 | [], _ :: _, _ => rfl
 | _ :: _, [], _ => rfl
 | a :: l, b :: r, h => by
  unfold all2
  rw [all2_len (by simpa using h), Bool.and_false]
theorem all2_drop {α : Type} {p : α → α → Bool} {l r : List α} {k : Nat} (h1 : k < l.length) (h2 : k < r.length) : all2 p (l.drop k) (r.drop k) = (p l[k] r[k] && all2 p (l.drop (k + 1)) (r.drop (k + 1))) := by
 rw [List.drop_eq_getElem_cons h1, List.drop_eq_getElem_cons h2]; rfl
def strB (a b : Bs) : Bool := a == b
def intB (a b : Int) : Bool := a == b
def ndB (x y : Nd) : Bool := x.kind == y.kind && x.text == y.text && x.val == y.val && all2 strB x.keys y.keys && all2 intB x.kids y.kids
def fcB (x y : Fc) : Bool := x.name == y.name && x.body == y.body && all2 strB x.params y.params
def sameP (a b : Pg) : Bool := all2 ndB a.nodes b.nodes && all2 fcB a.funcs b.funcs
theorem x_equalS (a b : List Bs) (ha : a.length ≤ 8796093022207) : DCalls Tryz.prog 47 [.sl true 1 (a.map strD), .sl true 1 (b.map strD)] (boo (all2 strB a b)) := by
 have hla : (a.map strD).length = a.length := List.length_map _
 have hlb : (b.map strD).length = b.length := List.length_map _
 refine sx Tryz.func47 (by kernel_rfl) ?_
 conv => whnf
 rintro (_ | _) h0
 rotate_left
 ·have h0 : a.length ≠ b.length := by rw [hla, hlb] at h0; simp at h0; omega
  rw [all2_len h0]
  (conv => whnf) <;> rfl
 have h0 : a.length = b.length := by rw [hla, hlb] at h0; simp at h0; omega
 conv => whnf
 refine ⟨[], Nat, fun k => [(13, int k)], fun _ => [], fun k => k ≤ a.length ∧ all2 strB (a.drop k) (b.drop k) = all2 strB a b, fun k => a.length - k, 0, ⟨Nat.zero_le _, rfl⟩, ?_, ?_⟩
 ·refine ⟨rfl, ?_, ?_⟩ <;> repeat' (first | exact trivial | exact rfl | refine and_rfl ?_ | refine and_two ?_ ?_)
 rintro k ⟨hk1, hk⟩
 conv => whnf
 rintro (_ | _) h1
 ·have h1 : a.length ≤ k := by rw [← hla]; simpa using h1
  rw [List.drop_eq_nil_of_le h1, List.drop_eq_nil_of_le (by omega), show all2 strB [] [] = true from rfl] at hk
  rw [← hk]
  (conv => whnf) <;> rfl
 have h1 : k < a.length := by rw [← hla]; simpa using h1
 have h2 : k < b.length := by omega
 rw [all2_drop h1 h2] at hk
 conv => whnf
 refine ⟨none, by kernel_rfl, ?_⟩
 conv => whnf
 refine ⟨by omega, _, get_map strD h1, ?_⟩
 conv => whnf
 refine ⟨by omega, _, get_map strD h2, ?_⟩
 conv => whnf
 rw [show ((mk a[k]).toList == (mk b[k]).toList) = strB a[k] b[k] from sEq_mk _ _]
 rintro (_ | _) h3
 ·have h3 : strB a[k] b[k] = true := by simpa using h3
  rw [h3, Bool.true_and] at hk
  conv => whnf
  refine ⟨k + 1, ⟨h1, hk⟩, by dsimp only; omega, ?_⟩
  refine ⟨rfl, ?_, ?_⟩ <;> repeat' (first | exact trivial | exact rfl | refine and_rfl ?_ | refine and_val (wrap_succ (by omega)) ?_ | refine and_two ?_ ?_)
 ·have h3 : strB a[k] b[k] = false := by simpa using h3
  rw [h3, Bool.false_and] at hk
  rw [← hk]
  (conv => whnf) <;> rfl
theorem x_equalI (a b : List Int) (ha : a.length ≤ 8796093022207) : DCalls Tryz.prog 79 [.sl true 1 (a.map intD), .sl true 1 (b.map intD)] (boo (all2 intB a b)) := by
 have hla : (a.map intD).length = a.length := List.length_map _
 have hlb : (b.map intD).length = b.length := List.length_map _
 refine sx Tryz.func79 (by kernel_rfl) ?_
 conv => whnf
 rintro (_ | _) h0
 rotate_left
 ·have h0 : a.length ≠ b.length := by rw [hla, hlb] at h0; simp at h0; omega
  rw [all2_len h0]
  (conv => whnf) <;> rfl
 have h0 : a.length = b.length := by rw [hla, hlb] at h0; simp at h0; omega
 conv => whnf
 refine ⟨[], Nat, fun k => [(13, int k)], fun _ => [], fun k => k ≤ a.length ∧ all2 intB (a.drop k) (b.drop k) = all2 intB a b, fun k => a.length - k, 0, ⟨Nat.zero_le _, rfl⟩, ?_, ?_⟩
 ·refine ⟨rfl, ?_, ?_⟩ <;> repeat' (first | exact trivial | exact rfl | refine and_rfl ?_ | refine and_two ?_ ?_)
 rintro k ⟨hk1, hk⟩
 conv => whnf
 rintro (_ | _) h1
 ·have h1 : a.length ≤ k := by rw [← hla]; simpa using h1
  rw [List.drop_eq_nil_of_le h1, List.drop_eq_nil_of_le (by omega), show all2 intB [] [] = true from rfl] at hk
  rw [← hk]
  (conv => whnf) <;> rfl
 have h1 : k < a.length := by rw [← hla]; simpa using h1
 have h2 : k < b.length := by omega
 rw [all2_drop h1 h2] at hk
 conv => whnf
 refine ⟨none, by kernel_rfl, ?_⟩
 conv => whnf
 refine ⟨by omega, _, get_map intD h1, ?_⟩
 conv => whnf
 refine ⟨by omega, _, get_map intD h2, ?_⟩
 conv => whnf
 rintro (_ | _) h3
 ·have h3 : intB a[k] b[k] = true := by unfold intB; simpa using h3
  rw [h3, Bool.true_and] at hk
  conv => whnf
  refine ⟨k + 1, ⟨h1, hk⟩, by dsimp only; omega, ?_⟩
  refine ⟨rfl, ?_, ?_⟩ <;> repeat' (first | exact trivial | exact rfl | refine and_rfl ?_ | refine and_val (wrap_succ (by omega)) ?_ | refine and_two ?_ ?_)
 ·have h3 : intB a[k] b[k] = false := by unfold intB; simpa using h3
  rw [h3, Bool.false_and] at hk
  rw [← hk]
  (conv => whnf) <;> rfl
theorem x_node (x y : Nd) (hx : x.keys.length ≤ 8796093022207) (hy : x.kids.length ≤ 8796093022207) : DCalls Tryz.prog 44 [x.V, y.V] (boo (ndB x y)) := by
 obtain ⟨op, s, a, ks, l⟩ := x
 obtain ⟨op', s', a', ks', l'⟩ := y
 refine sx Tryz.func44 (by kernel_rfl) ?_
 conv => whnf
 rintro (_ | _) h1
 ·rw [show ndB ⟨op, s, a, ks, l⟩ ⟨op', s', a', ks', l'⟩ = false by unfold ndB; rw [show (op == op') = false from h1]; simp]
  (conv => whnf) <;> rfl
 conv => whnf
 rintro (_ | _) h3
 ·have h3 : (s == s') = false := (sEq_mk s s').symm.trans h3
  rw [show ndB ⟨op, s, a, ks, l⟩ ⟨op', s', a', ks', l'⟩ = false by unfold ndB; rw [h3]; simp]
  (conv => whnf) <;> rfl
 have h3 : (s == s') = true := (sEq_mk s s').symm.trans h3
 conv => whnf
 rintro (_ | _) h2
 ·rw [show ndB ⟨op, s, a, ks, l⟩ ⟨op', s', a', ks', l'⟩ = false by unfold ndB; rw [show (a == a') = false from h2]; simp]
  (conv => whnf) <;> rfl
 conv => whnf
 refine ⟨_, x_equalS ks ks' hx, ?_⟩
 have hq : ndB ⟨op, s, a, ks, l⟩ ⟨op', s', a', ks', l'⟩ = (all2 strB ks ks' && all2 intB l l') := by unfold ndB; rw [show (op == op') = true from h1, show (a == a') = true from h2, h3]; rfl
 rw [hq]
 conv => whnf
 rintro (_ | _) h4
 ·rw [show all2 strB ks ks' = false from h4]
  (conv => whnf) <;> rfl
 rw [show all2 strB ks ks' = true from h4, Bool.true_and]
 conv => whnf
 refine ⟨_, x_equalI l l' hy, ?_⟩
 (conv => whnf) <;> rfl
theorem x_same1 (x y : Fc) (hx : x.params.length ≤ 8796093022207) : DCalls Tryz.prog 46 [x.V, y.V] (boo (fcB x y)) := by
 obtain ⟨s, ks, a⟩ := x
 obtain ⟨s', ks', a'⟩ := y
 refine sx Tryz.func46 (by kernel_rfl) ?_
 conv => whnf
 rintro (_ | _) h3
 ·have h3 : (s == s') = false := (sEq_mk s s').symm.trans h3
  rw [show fcB ⟨s, ks, a⟩ ⟨s', ks', a'⟩ = false by unfold fcB; rw [h3]; simp]
  (conv => whnf) <;> rfl
 have h3 : (s == s') = true := (sEq_mk s s').symm.trans h3
 conv => whnf
 rintro (_ | _) h2
 ·rw [show fcB ⟨s, ks, a⟩ ⟨s', ks', a'⟩ = false by unfold fcB; rw [show (a == a') = false from h2]; simp]
  (conv => whnf) <;> rfl
 rw [show fcB ⟨s, ks, a⟩ ⟨s', ks', a'⟩ = all2 strB ks ks' by unfold fcB; rw [show (a == a') = true from h2, h3]; rfl]
 conv => whnf
 refine ⟨_, x_equalS ks ks' hx, ?_⟩
 (conv => whnf) <;> rfl
theorem x_equalN (a b : List Nd) (ha : a.length ≤ 8796093022207) (hk2 : ∀ x ∈ a, x.keys.length ≤ 8796093022207) (hk3 : ∀ x ∈ a, x.kids.length ≤ 8796093022207) : DCalls Tryz.prog 43 [.sl true 5 (a.map ndD), .sl true 5 (b.map ndD), .cv (.func (.func 44) #[] #[])] (boo (all2 ndB a b)) := by
 have hla : (a.map ndD).length = a.length := List.length_map _
 have hlb : (b.map ndD).length = b.length := List.length_map _
 refine sx Tryz.func43 (by kernel_rfl) ?_
 conv => whnf
 rintro (_ | _) h0
 rotate_left
 ·have h0 : a.length ≠ b.length := by rw [hla, hlb] at h0; simp at h0; omega
  rw [all2_len h0]
  (conv => whnf) <;> rfl
 have h0 : a.length = b.length := by rw [hla, hlb] at h0; simp at h0; omega
 conv => whnf
 refine ⟨[], Nat, fun k => [(17, int k)], fun _ => [], fun k => k ≤ a.length ∧ all2 ndB (a.drop k) (b.drop k) = all2 ndB a b, fun k => a.length - k, 0, ⟨Nat.zero_le _, rfl⟩, ?_, ?_⟩
 ·refine ⟨rfl, ?_, ?_⟩ <;> repeat' (first | exact trivial | exact rfl | refine and_rfl ?_ | refine and_two ?_ ?_)
 rintro k ⟨hk1, hk⟩
 conv => whnf
 rintro (_ | _) h1
 ·have h1 : a.length ≤ k := by rw [← hla]; simpa using h1
  rw [List.drop_eq_nil_of_le h1, List.drop_eq_nil_of_le (by omega), show all2 ndB [] [] = true from rfl] at hk
  rw [← hk]
  (conv => whnf) <;> rfl
 have h1 : k < a.length := by rw [← hla]; simpa using h1
 have h2 : k < b.length := by omega
 rw [all2_drop h1 h2] at hk
 conv => whnf
 refine ⟨by omega, _, get_map ndD h1, ?_⟩
 conv => whnf
 refine ⟨by omega, _, get_map ndD h2, ?_⟩
 conv => whnf
 refine ⟨_, x_node a[k] b[k] (hk2 _ (List.getElem_mem h1)) (hk3 _ (List.getElem_mem h1)), ?_⟩
 conv => whnf
 rintro (_ | _) h3
 ·have h3 : ndB a[k] b[k] = true := by simpa using h3
  rw [h3, Bool.true_and] at hk
  conv => whnf
  refine ⟨k + 1, ⟨h1, hk⟩, by dsimp only; omega, ?_⟩
  refine ⟨rfl, ?_, ?_⟩ <;> repeat' (first | exact trivial | exact rfl | refine and_rfl ?_ | refine and_val (wrap_succ (by omega)) ?_ | refine and_two ?_ ?_)
 ·have h3 : ndB a[k] b[k] = false := by simpa using h3
  rw [h3, Bool.false_and] at hk
  rw [← hk]
  (conv => whnf) <;> rfl
theorem x_equalFn (a b : List Fc) (ha : a.length ≤ 8796093022207) (hk2 : ∀ x ∈ a, x.params.length ≤ 8796093022207) : DCalls Tryz.prog 45 [.sl true 3 (a.map fcD), .sl true 3 (b.map fcD), .cv (.func (.func 46) #[] #[])] (boo (all2 fcB a b)) := by
 have hla : (a.map fcD).length = a.length := List.length_map _
 have hlb : (b.map fcD).length = b.length := List.length_map _
 refine sx Tryz.func45 (by kernel_rfl) ?_
 conv => whnf
 rintro (_ | _) h0
 rotate_left
 ·have h0 : a.length ≠ b.length := by rw [hla, hlb] at h0; simp at h0; omega
  rw [all2_len h0]
  (conv => whnf) <;> rfl
 have h0 : a.length = b.length := by rw [hla, hlb] at h0; simp at h0; omega
 conv => whnf
 refine ⟨[], Nat, fun k => [(17, int k)], fun _ => [], fun k => k ≤ a.length ∧ all2 fcB (a.drop k) (b.drop k) = all2 fcB a b, fun k => a.length - k, 0, ⟨Nat.zero_le _, rfl⟩, ?_, ?_⟩
 ·refine ⟨rfl, ?_, ?_⟩ <;> repeat' (first | exact trivial | exact rfl | refine and_rfl ?_ | refine and_two ?_ ?_)
 rintro k ⟨hk1, hk⟩
 conv => whnf
 rintro (_ | _) h1
 ·have h1 : a.length ≤ k := by rw [← hla]; simpa using h1
  rw [List.drop_eq_nil_of_le h1, List.drop_eq_nil_of_le (by omega), show all2 fcB [] [] = true from rfl] at hk
  rw [← hk]
  (conv => whnf) <;> rfl
 have h1 : k < a.length := by rw [← hla]; simpa using h1
 have h2 : k < b.length := by omega
 rw [all2_drop h1 h2] at hk
 conv => whnf
 refine ⟨by omega, _, get_map fcD h1, ?_⟩
 conv => whnf
 refine ⟨by omega, _, get_map fcD h2, ?_⟩
 conv => whnf
 refine ⟨_, x_same1 a[k] b[k] (hk2 _ (List.getElem_mem h1)), ?_⟩
 conv => whnf
 rintro (_ | _) h3
 ·have h3 : fcB a[k] b[k] = true := by simpa using h3
  rw [h3, Bool.true_and] at hk
  conv => whnf
  refine ⟨k + 1, ⟨h1, hk⟩, by dsimp only; omega, ?_⟩
  refine ⟨rfl, ?_, ?_⟩ <;> repeat' (first | exact trivial | exact rfl | refine and_rfl ?_ | refine and_val (wrap_succ (by omega)) ?_ | refine and_two ?_ ?_)
 ·have h3 : fcB a[k] b[k] = false := by simpa using h3
  rw [h3, Bool.false_and] at hk
  rw [← hk]
  (conv => whnf) <;> rfl
theorem x_samePg (a b : Pg) (ha : PgBig a) : DCalls Tryz.prog 17 [a.V, b.V] (boo (sameP a b)) := by
 refine sx Tryz.func17 (by kernel_rfl) ?_
 conv => whnf
 refine ⟨_, x_equalN a.nodes b.nodes ha.ns ha.keys ha.kids, ?_⟩
 conv => whnf
 rintro (_ | _) h1
 ·rw [show sameP a b = false by unfold sameP; rw [show all2 ndB a.nodes b.nodes = false from h1]; rfl]
  (conv => whnf) <;> rfl
 conv => whnf
 refine ⟨_, x_equalFn a.funcs b.funcs ha.fs ha.ps, ?_⟩
 rw [show sameP a b = all2 fcB a.funcs b.funcs by unfold sameP; rw [show all2 ndB a.nodes b.nodes = true from h1]; rfl]
 (conv => whnf) <;> rfl
end Go.Proofs.YtglndfgmlminpaaGreatDoor
namespace Go.Proofs.YtglndfgmlminpaaGreatDoor
open Go.RowKit
def idxS (s : Bs) : List Bs → Nat → Int
 | [], _ => -1
 | k :: r, i => if s == k then i else idxS s r (i + 1)
theorem idxS_cons (s k : Bs) (r : List Bs) (i : Nat) : idxS s (k :: r) i = if s == k then (i : Int) else idxS s r (i + 1) := rfl
theorem idxS_has (s : Bs) : ∀ (l : List Bs) (i : Nat), decide (idxS s l i ≥ 0) = l.contains s
 | [], i => rfl
 | k :: r, i => by
  rw [idxS_cons, List.contains_cons]
  by_cases h : (s == k) = true
  ·rw [if_pos h, h]; simp
  ·rw [if_neg h, idxS_has s r (i + 1)]; simp at h; simp [h]
theorem x_indexS (l : List Bs) (s : Bs) (hn : l.length ≤ 8796093022207) : DCalls Tryz.prog 200 [strsV l, bstr s] (int (idxS s l 0)) := by
 refine sx Tryz.func200 (by kernel_rfl) ?_
 conv => whnf
 refine ⟨[], Nat, fun k => [(8, int k)], fun _ => [], fun k => k ≤ l.length ∧ idxS s (l.drop k) k = idxS s l 0, fun k => l.length - k, 0, ⟨Nat.zero_le _, rfl⟩, ?_, ?_⟩
 ·refine ⟨rfl, ?_, ?_⟩ <;> repeat' (first | exact trivial | exact rfl | refine and_rfl ?_ | refine and_two ?_ ?_)
 rintro k ⟨hk1, hk⟩
 conv => whnf
 rintro (_ | _) h2
 ·have h2 : l.length ≤ k := by simp at h2; omega
  rw [List.drop_eq_nil_of_le h2] at hk
  rw [← hk]
  (conv => whnf) <;> rfl
 have h2 : k < l.length := by simp at h2; omega
 have hw : IntKind.i64.wrap (((k : Nat) : Int) + 1) = ((k + 1 : Nat) : Int) := wrap_succ (by omega)
 rw [List.drop_eq_getElem_cons h2, idxS_cons] at hk
 conv => whnf
 refine ⟨by omega, _, get_map strD h2, ?_⟩
 conv => whnf
 rintro (_ | _) h3
 ·have h3 : (s == l[k]) = false := by rw [← sEq_mk]; exact h3
  rw [h3, if_neg (by simp)] at hk
  conv => whnf
  refine ⟨k + 1, ⟨h2, hk⟩, by dsimp only; omega, ?_⟩
  refine ⟨rfl, ?_, ?_⟩ <;> repeat' (first | exact trivial | exact rfl | refine and_rfl ?_ | refine and_val hw ?_ | refine and_two ?_ ?_)
 ·have h3 : (s == l[k]) = true := by rw [← sEq_mk]; exact h3
  rw [h3, if_pos rfl] at hk
  rw [← hk]
  (conv => whnf) <;> rfl
theorem x_containsS (l : List Bs) (s : Bs) (hn : l.length ≤ 8796093022207) : DCalls Tryz.prog 172 [strsV l, bstr s] (boo (l.contains s)) := by
 rw [← idxS_has s l 0]
 refine sx Tryz.func172 (by kernel_rfl) ?_
 conv => whnf
 refine ⟨_, x_indexS l s hn, ?_⟩
 (conv => whnf) <;> rfl
end Go.Proofs.YtglndfgmlminpaaGreatDoor
namespace Go.Proofs.YtglndfgmlminpaaGreatDoor
open Go.RowKit
theorem whole_len {l : Bs} (h : l.length < 1 ∨ 24 < l.length) : wholeB l = false := by
 unfold wholeB
 rcases h with h | h
 ·have : l = [] := List.eq_nil_of_length_eq_zero (by omega)
  subst this; rfl
 ·rw [show decide (l.length ≤ 24) = false by simp; omega]; simp
theorem whole_run {l : Bs} (h : 1 ≤ l.length) (h2 : l.length ≤ 24) : wholeB l = decide (runL l = l.length) := by
 unfold wholeB
 cases l with
 | nil => simp at h
 | cons c r => simp only [List.isEmpty_cons, Bool.not_false, Bool.true_and]; rw [decide_eq_true h2, Bool.and_true]
theorem x_srun (l : Bs) (hl : l.length ≤ 281474976710656) : DCalls Tryz.prog 108 [bstr l] (boo (wholeB l)) := by
 refine sx Tryz.func108 (by kernel_rfl) ?_
 conv => whnf
 rintro (_ | _) h1
 rotate_left
 ·have h1 : l.length < 1 := by simp [mk_size] at h1; omega
  rw [whole_len (.inl h1)]
  (conv => whnf) <;> rfl
 have h1 : 1 ≤ l.length := by simp [mk_size] at h1; omega
 conv => whnf
 rintro (_ | _) h2
 rotate_left
 ·have h2 : 24 < l.length := by simp [mk_size] at h2; omega
  rw [whole_len (.inr h2)]
  (conv => whnf) <;> rfl
 have h2 : l.length ≤ 24 := by simp [mk_size] at h2; omega
 rw [whole_run h1 h2]
 conv => whnf
 refine ⟨[], Nat, fun k => [(15, int k)], fun _ => [], fun k => k ≤ l.length ∧ k + (if k = 0 then runL l else runT (l.drop k)) = runL l, fun k => l.length - k, 0, ⟨Nat.zero_le _, by simp⟩, ?_, ?_⟩
 ·refine ⟨rfl, ?_, ?_⟩ <;> repeat' (first | exact trivial | exact rfl | refine and_rfl ?_ | refine and_two ?_ ?_)
 rintro k ⟨hk1, hk⟩
 conv => whnf
 rintro (_ | _) h3
 ·have h3 : l.length ≤ k := by simp [mk_size] at h3; omega
  rw [if_neg (by omega), List.drop_eq_nil_of_le h3] at hk
  rw [show decide (runL l = l.length) = true by simp [runT] at hk ⊢; omega]
  (conv => whnf) <;> rfl
 have h3 : k < l.length := by simp [mk_size] at h3; omega
 have hw : IntKind.i64.wrap (((k : Nat) : Int) + 1) = ((k + 1 : Nat) : Int) := wrap_succ (by omega)
 have next : (if k = 0 then runL l else runT (l.drop k)) = runT (l.drop (k + 1)) + 1 → (k + 1) + (if k + 1 = 0 then runL l else runT (l.drop (k + 1))) = runL l := by
  intro h; rw [if_neg (by omega)]; omega
 have hd0 : k = 0 → runL l = if isHd l[k] then runT (l.drop (k + 1)) + 1 else 0 := by
  intro e; subst e
  cases l with
  | nil => simp at h3
  | cons c l => rfl
 have hdk : runT (l.drop k) = if isHd l[k] || isDg l[k] then runT (l.drop (k + 1)) + 1 else 0 := by rw [drop_cons h3]; rfl
 rw [isHd_int] at hd0 hdk
 rw [isDg_int] at hdk
 conv => whnf
 refine ⟨by omega, _, mk_at h3, ?_⟩
 have go : ((((97 : Int) ≤ (l[k].toNat : Int) ∧ (l[k].toNat : Int) ≤ 122) ∨ (l[k].toNat : Int) = 95) ∨ (0 < k ∧ (48 : Int) ≤ (l[k].toNat : Int) ∧ (l[k].toNat : Int) ≤ 57)) → k + 1 ≤ l.length ∧ k + 1 + (if k + 1 = 0 then runL l else runT (l.drop (k + 1))) = runL l := by
  intro h
  refine ⟨h3, next ?_⟩
  split
  ·rw [hd0 (by assumption), if_pos (by simp; omega)]
  ·rw [hdk, if_pos (by simp; omega)]
 have no : ¬ ((((97 : Int) ≤ (l[k].toNat : Int) ∧ (l[k].toNat : Int) ≤ 122) ∨ (l[k].toNat : Int) = 95) ∨ (0 < k ∧ (48 : Int) ≤ (l[k].toNat : Int) ∧ (l[k].toNat : Int) ≤ 57)) → false = decide (runL l = l.length) := by
  intro h
  symm
  rw [decide_eq_false_iff_not]
  split at hk
  ·have := hd0 (by assumption); rw [if_neg (by simp; omega)] at this; omega
  ·rw [hdk, if_neg (by simp; omega)] at hk; omega
 clear hk hd0 hdk next
 repeat' ((conv => whnf); rintro (_ | _) _)
 all_goals simp only [decide_eq_true_eq, decide_eq_false_iff_not, bne_iff_ne, bne_eq_false_iff_eq, beq_iff_eq, beq_eq_false_iff_ne, ne_eq] at *
 all_goals first
  | ((conv => whnf); exact fin_boo (no (by omega)))
  | ((conv => whnf); refine ⟨k + 1, go (by omega), by (try dsimp only); omega, ?_⟩
     refine ⟨rfl, ?_, ?_⟩ <;> repeat' (first | exact trivial | exact rfl | refine and_rfl ?_ | refine and_val hw ?_ | refine and_two ?_ ?_))
theorem x_sname (l : Bs) (hl : l.length ≤ 281474976710656) : DCalls Tryz.prog 65 [bstr l] (boo (nameB l)) := by
 refine sx Tryz.func65 (by kernel_rfl) ?_
 conv => whnf
 refine ⟨_, x_srun l hl, ?_⟩
 unfold nameB
 cases h : wholeB l with
 | false =>
  conv => whnf
  refine known false rfl ?_
  (conv => whnf) <;> rfl
 | true =>
  conv => whnf
  refine known true rfl ?_
  conv => whnf
  refine ⟨_, x_keywordL l, ?_⟩
  (conv => whnf) <;> rfl
theorem litE (a : Bs) (d : Array UInt8) : ((mk a).toList == (⟨d⟩ : ByteArray).toList) = (a == d.toList) := sEq_mk a d.toList
theorem snE {a b : Bs} (h : a ≠ b) : ((mk a).toList == (mk b).toList) = false := by rw [show ((mk a).toList == (mk b).toList) = (a == b) from sEq_mk a b]; simpa using h
theorem x_sbinary (l : Bs) : DCalls Tryz.prog 178 [bstr l] (int (binL l)) := by
 by_cases h0 : l = [111, 114]
 ·subst h0
  refine sx Tryz.func178 (by kernel_rfl) ?_
  repeat ((conv => whnf); first | refine known true ((litE _ _).trans rfl) ?_ | refine known false ((litE _ _).trans rfl) ?_)
  try ((conv => whnf) <;> rfl)
 by_cases h1 : l = [97, 110, 100]
 ·subst h1
  refine sx Tryz.func178 (by kernel_rfl) ?_
  repeat ((conv => whnf); first | refine known true ((litE _ _).trans rfl) ?_ | refine known false ((litE _ _).trans rfl) ?_)
  try ((conv => whnf) <;> rfl)
 by_cases h2 : l = [61, 61]
 ·subst h2
  refine sx Tryz.func178 (by kernel_rfl) ?_
  repeat ((conv => whnf); first | refine known true ((litE _ _).trans rfl) ?_ | refine known false ((litE _ _).trans rfl) ?_)
  try ((conv => whnf) <;> rfl)
 by_cases h3 : l = [33, 61]
 ·subst h3
  refine sx Tryz.func178 (by kernel_rfl) ?_
  repeat ((conv => whnf); first | refine known true ((litE _ _).trans rfl) ?_ | refine known false ((litE _ _).trans rfl) ?_)
  try ((conv => whnf) <;> rfl)
 by_cases h4 : l = [60]
 ·subst h4
  refine sx Tryz.func178 (by kernel_rfl) ?_
  repeat ((conv => whnf); first | refine known true ((litE _ _).trans rfl) ?_ | refine known false ((litE _ _).trans rfl) ?_)
  try ((conv => whnf) <;> rfl)
 by_cases h5 : l = [60, 61]
 ·subst h5
  refine sx Tryz.func178 (by kernel_rfl) ?_
  repeat ((conv => whnf); first | refine known true ((litE _ _).trans rfl) ?_ | refine known false ((litE _ _).trans rfl) ?_)
  try ((conv => whnf) <;> rfl)
 by_cases h6 : l = [62]
 ·subst h6
  refine sx Tryz.func178 (by kernel_rfl) ?_
  repeat ((conv => whnf); first | refine known true ((litE _ _).trans rfl) ?_ | refine known false ((litE _ _).trans rfl) ?_)
  try ((conv => whnf) <;> rfl)
 by_cases h7 : l = [62, 61]
 ·subst h7
  refine sx Tryz.func178 (by kernel_rfl) ?_
  repeat ((conv => whnf); first | refine known true ((litE _ _).trans rfl) ?_ | refine known false ((litE _ _).trans rfl) ?_)
  try ((conv => whnf) <;> rfl)
 by_cases h8 : l = [43]
 ·subst h8
  refine sx Tryz.func178 (by kernel_rfl) ?_
  repeat ((conv => whnf); first | refine known true ((litE _ _).trans rfl) ?_ | refine known false ((litE _ _).trans rfl) ?_)
  try ((conv => whnf) <;> rfl)
 by_cases h9 : l = [45]
 ·subst h9
  refine sx Tryz.func178 (by kernel_rfl) ?_
  repeat ((conv => whnf); first | refine known true ((litE _ _).trans rfl) ?_ | refine known false ((litE _ _).trans rfl) ?_)
  try ((conv => whnf) <;> rfl)
 by_cases h10 : l = [42]
 ·subst h10
  refine sx Tryz.func178 (by kernel_rfl) ?_
  repeat ((conv => whnf); first | refine known true ((litE _ _).trans rfl) ?_ | refine known false ((litE _ _).trans rfl) ?_)
  try ((conv => whnf) <;> rfl)
 by_cases h11 : l = [47]
 ·subst h11
  refine sx Tryz.func178 (by kernel_rfl) ?_
  repeat ((conv => whnf); first | refine known true ((litE _ _).trans rfl) ?_ | refine known false ((litE _ _).trans rfl) ?_)
  try ((conv => whnf) <;> rfl)
 by_cases h12 : l = [37]
 ·subst h12
  refine sx Tryz.func178 (by kernel_rfl) ?_
  repeat ((conv => whnf); first | refine known true ((litE _ _).trans rfl) ?_ | refine known false ((litE _ _).trans rfl) ?_)
  try ((conv => whnf) <;> rfl)
 rw [show binL l = 0 by simp [binL, wOr, wAnd, opCmp, opAdd, opMul, h0, h1, h2, h3, h4, h5, h6, h7, h8, h9, h10, h11, h12]]
 refine sx Tryz.func178 (by kernel_rfl) ?_
 repeat ((conv => whnf); first | refine known false (snE h0) ?_ | refine known false (snE h1) ?_ | refine known false (snE h2) ?_ | refine known false (snE h3) ?_ | refine known false (snE h4) ?_ | refine known false (snE h5) ?_ | refine known false (snE h6) ?_ | refine known false (snE h7) ?_ | refine known false (snE h8) ?_ | refine known false (snE h9) ?_ | refine known false (snE h10) ?_ | refine known false (snE h11) ?_ | refine known false (snE h12) ?_)
 try ((conv => whnf) <;> rfl)
theorem x_soperator (l : Bs) : DCalls Tryz.prog 150 [bstr l] (boo (decide (0 < binL l))) := by
 refine sx Tryz.func150 (by kernel_rfl) ?_
 conv => whnf
 refine ⟨_, x_sbinary l, ?_⟩
 (conv => whnf) <;> rfl
theorem x_sstatement (n : Int) : DCalls Tryz.prog 151 [int n] (boo (stmtK n)) := by
 refine sx Tryz.func151 (by kernel_rfl) ?_
 unfold stmtK
 conv => whnf
 rintro (_ | _) h
 ·(conv => whnf); exact fin_boo (by simp at *; omega)
 ·(conv => whnf); exact fin_boo (by simp at *; omega)
theorem x_sexpression (n : Int) : DCalls Tryz.prog 152 [int n] (boo (exprK n)) := by
 refine sx Tryz.func152 (by kernel_rfl) ?_
 unfold exprK
 conv => whnf
 rintro (_ | _) h
 ·(conv => whnf); exact fin_boo (by simp at *; omega)
 ·(conv => whnf); exact fin_boo (by simp at *; omega)
end Go.Proofs.YtglndfgmlminpaaGreatDoor
