/- Texts joined by pack.py: XSyP7 XSyP8 -/
import Derived.Test.YtglndfgmlminpaaGreatDoorSp23
namespace Go.Proofs.YtglndfgmlminpaaGreatDoor
theorem fields_facts {a : Lab} {n : Nat} (h : fieldsB a n = true) : (a.kind ≠ 7 → a.keys = []) ∧ (a.kind ≠ 2 → a.kind ≠ 3 → a.val = 0) := by
 unfold fieldsB at h
 split at h
 ·cases h
 ·rename_i h1
  simp only [not_or, not_and, Classical.not_not] at h1
  exact ⟨h1.1, h1.2⟩
theorem wf_parts {a : Lab} {ts : List Tr} (h : (Tr.node a ts).wf = true) : fieldsB a ts.length = true ∧ countB a.kind ts.length = true ∧ Tr.wfs a.kind 0 ts = true := by
 simp only [Tr.wf, Bool.and_eq_true] at h
 exact ⟨h.1.1, h.1.2, h.2⟩
theorem wfs_mem {k : Int} : ∀ {ts : List Tr} {j : Nat}, Tr.wfs k j ts = true → ∀ (i : Nat) (T : Tr), ts[i]? = some T → T.wf = true ∧ fitsB k (j + i) T.kind = true
 | [], j, _, i, T, h => by simp at h
 | t :: ts, j, h, i, T, hi => by
  simp only [Tr.wfs, Bool.and_eq_true] at h
  cases i with
  | zero => simp at hi; subst hi; exact ⟨h.1.2, h.1.1⟩
  | succ i =>
   have := wfs_mem h.2 i T (by simpa using hi)
   rw [show j + 1 + i = j + (i + 1) by omega] at this
   exact this
theorem wfs_expr {k : Int} (hk : k ≠ 19 ∧ k ≠ 15 ∧ k ≠ 16) {ts : List Tr} (h : Tr.wfs k 0 ts = true) : ∀ T ∈ ts, T.wf = true ∧ exprK T.kind = true := by
 intro T hT
 obtain ⟨i, hi⟩ := List.getElem?_of_mem hT
 obtain ⟨h1, h2⟩ := wfs_mem h i T hi
 simp only [fitsB, if_neg hk.1] at h2
 rw [if_neg (by rintro ⟨h | h, _⟩; exact hk.2.1 h; exact hk.2.2 h)] at h2
 exact ⟨h1, h2⟩
theorem exprK_cases {k : Int} (h : exprK k = true) : k = 1 ∨ k = 2 ∨ k = 3 ∨ k = 4 ∨ k = 5 ∨ k = 6 ∨ k = 7 ∨ k = 8 ∨ k = 9 ∨ k = 10 ∨ k = 11 ∨ k = 12 := by
 simp only [exprK, Bool.and_eq_true, decide_eq_true_eq] at h
 omega
theorem len0 {ts : List Tr} (h : ts.length = 0) : ts = [] := List.length_eq_zero_iff.1 h
theorem len1 {ts : List Tr} (h : ts.length = 1) : ∃ a, ts = [a] := List.length_eq_one_iff.1 h
theorem len2 {ts : List Tr} (h : ts.length = 2) : ∃ a b, ts = [a, b] := by
 match ts, h with
 | [a, b], _ => exact ⟨a, b, rfl⟩
section
variable {e : Int} {E : Pars}
theorem one_tree {a : Lab} {r : List Tok} {ns : List Nd} : addN ⟨a.kind, a.text, a.val, a.keys, []⟩ r ns = .ok (((ns.length + (Tr.node a []).size : Nat) : Int) - 1, r, ns ++ (Tr.node a []).flat ns.length) := by
 have := addN_tree (a := a) (ns := ns) (Ts := []) (r := r) (l := []) rfl
 simpa [Tr.flats] using this
theorem prim_good {a : Lab} {ts : List Tr} (hw : (Tr.node a ts).wf = true) (hk : exprK a.kind = true) (h8 : a.kind ≠ 8) (h9 : a.kind ≠ 9) (h10 : a.kind ≠ 10) (hT : ∀ X ∈ ts, Well E X) : (∀ r, Stop 9 r → Rd1 (primP e E) (.node a ts) (Tr.node a ts).tk r) ∧ Begins 9 (Tr.node a ts).tk := by
 obtain ⟨hf, hc, _⟩ := wf_parts hw
 obtain ⟨hkeys, hval⟩ := fields_facts hf
 obtain ⟨kind, text, val, keys⟩ := a
 simp only at hk h8 h9 h10 hf hc hkeys hval
 have noLP : ∀ r, Stop 9 r → isSym sLP r = false := fun r hr => by
  cases r with
  | nil => rfl
  | cons t r => exact (hr t rfl).2.1
 have hl := Tr.tkl_eq ts
 rcases exprK_cases hk with rfl | rfl | rfl | rfl | rfl | rfl | rfl | rfl | rfl | rfl | rfl | rfl
 ·obtain rfl := hkeys (by decide); obtain rfl := hval (by decide) (by decide)
  obtain rfl : ts = [] := len0 (by simpa [countB] using hc)
  obtain rfl : text = [] := by simpa [fieldsB] using hf
  exact ⟨fun r hr ns => one_tree (a := ⟨1, [], 0, []⟩), ⟨_, _, rfl, .inr (.inr (.inr (.inr (.inl ⟨rfl, .inl rfl⟩))))⟩⟩
 ·obtain rfl := hkeys (by decide)
  obtain rfl : ts = [] := len0 (by simpa [countB] using hc)
  obtain ⟨rfl, hv⟩ : text = [] ∧ (val = 0 ∨ val = 1) := by simpa [fieldsB] using hf
  rcases hv with rfl | rfl
  ·exact ⟨fun r hr ns => one_tree (a := ⟨2, [], 0, []⟩), ⟨_, _, rfl, .inr (.inr (.inr (.inr (.inl ⟨rfl, .inr (.inr rfl)⟩))))⟩⟩
  ·exact ⟨fun r hr ns => one_tree (a := ⟨2, [], 1, []⟩), ⟨_, _, rfl, .inr (.inr (.inr (.inr (.inl ⟨rfl, .inr (.inl rfl)⟩))))⟩⟩
 ·obtain rfl := hkeys (by decide)
  obtain rfl : ts = [] := len0 (by simpa [countB] using hc)
  obtain ⟨⟨rfl, _⟩, _⟩ : (text = [] ∧ 0 ≤ val) ∧ val ≤ 1000000000000 := by simpa [fieldsB] using hf
  exact ⟨fun r hr ns => one_tree (a := ⟨3, [], val, []⟩), ⟨_, _, rfl, .inr (.inl rfl)⟩⟩
 ·obtain rfl := hkeys (by decide); obtain rfl := hval (by decide) (by decide)
  obtain rfl : ts = [] := len0 (by simpa [countB] using hc)
  exact ⟨fun r hr ns => one_tree (a := ⟨4, text, 0, []⟩), ⟨_, _, rfl, .inr (.inr (.inl rfl))⟩⟩
 ·obtain rfl := hkeys (by decide); obtain rfl := hval (by decide) (by decide)
  obtain rfl : ts = [] := len0 (by simpa [countB] using hc)
  refine ⟨fun r hr ns => ?_, ⟨_, _, rfl, .inl rfl⟩⟩
  have e1 : primP e E ((Tr.node ⟨5, text, 0, []⟩ []).tk ++ r) ns = (if isSym sLP r then (match listP e sRP E r.tail ns with
    | .error o => .error o
    | .ok (l, r2, ns2) => addN (ndM 11 text 0 l) r2 ns2) else addN (ndM 5 text 0 []) r ns) := rfl
  rw [e1, noLP r hr]
  exact one_tree (a := ⟨5, text, 0, []⟩)
 ·obtain rfl := hkeys (by decide); obtain rfl := hval (by decide) (by decide)
  obtain rfl : text = [] := by simpa [fieldsB] using hf
  refine ⟨fun r hr ns => ?_, ⟨_, _, rfl, .inr (.inr (.inr (.inr (.inr (.inl ⟨rfl, .inr (.inl rfl)⟩)))))⟩⟩
  have e1 : primP e E ((Tr.node ⟨6, [], 0, []⟩ ts).tk ++ r) ns = (match listP e sRB E (commaT (Tr.tkl ts) ++ [sy sRB] ++ r) ns with
    | .error o => .error o
    | .ok (l, r2, ns2) => addN (ndM 6 [] 0 l) r2 ns2) := rfl
  rw [e1, hl, List.append_assoc, List.singleton_append, listP_good (.inr rfl) hT]
  exact addN_tree (a := ⟨6, [], 0, []⟩) rfl
 ·obtain rfl := hval (by decide) (by decide)
  obtain ⟨⟨rfl, h2⟩, h3⟩ : (text = [] ∧ keys.length = ts.length) ∧ ascB keys = true := by simpa [fieldsB] using hf
  refine ⟨fun r hr ns => ?_, ⟨_, _, rfl, .inr (.inr (.inr (.inr (.inr (.inl ⟨rfl, .inr (.inr rfl)⟩)))))⟩⟩
  have e1 : primP e E ((Tr.node ⟨7, [], 0, keys⟩ ts).tk ++ r) ns = keyP e E (commaT (keysT keys (Tr.tkl ts)) ++ [sy sRC] ++ r) ns := rfl
  rw [e1, hl, List.append_assoc, List.singleton_append]
  exact keyP_good (a := ⟨7, [], 0, keys⟩) ⟨rfl, rfl, rfl⟩ hT h2 h3 ns
 ·exact absurd rfl h8
 ·exact absurd rfl h9
 ·exact absurd rfl h10
 ·obtain rfl := hkeys (by decide); obtain rfl := hval (by decide) (by decide)
  refine ⟨fun r hr ns => ?_, ⟨_, _, rfl, .inl rfl⟩⟩
  have e1 : primP e E ((Tr.node ⟨11, text, 0, []⟩ ts).tk ++ r) ns = (match listP e sRP E (commaT (Tr.tkl ts) ++ [sy sRP] ++ r) ns with
    | .error o => .error o
    | .ok (l, r2, ns2) => addN (ndM 11 text 0 l) r2 ns2) := rfl
  rw [e1, hl, List.append_assoc, List.singleton_append, listP_good (.inl rfl) hT]
  exact addN_tree (a := ⟨11, text, 0, []⟩) rfl
 ·obtain rfl := hkeys (by decide); obtain rfl := hval (by decide) (by decide)
  refine ⟨fun r hr ns => ?_, ⟨_, _, rfl, .inr (.inr (.inr (.inl rfl)))⟩⟩
  have e1 : primP e E ((Tr.node ⟨12, text, 0, []⟩ ts).tk ++ r) ns = (match listP e sRP E (commaT (Tr.tkl ts) ++ [sy sRP] ++ r) ns with
    | .error o => .error o
    | .ok (l, r2, ns2) => addN (ndM 12 text 0 l) r2 ns2) := rfl
  rw [e1, hl, List.append_assoc, List.singleton_append, listP_good (.inl rfl) hT]
  exact addN_tree (a := ⟨12, text, 0, []⟩) rfl
def IsCh (M : Nat) (kk : Int) (ops : List Bs) : Prop := (M = 1 ∧ kk = 2 ∧ ops = [wOr]) ∨ (M = 2 ∧ kk = 2 ∧ ops = [wAnd]) ∨ (M = 5 ∧ kk = 5 ∧ ops = opAdd) ∨ (M = 6 ∧ kk = 5 ∧ ops = opMul)
theorem IsCh.eq {M : Nat} {kk : Int} {ops : List Bs} (h : IsCh M kk ops) : PL e E M = chainP kk ops (PL e E (M + 1)) := by
 rcases h with ⟨rfl, rfl, rfl⟩ | ⟨rfl, rfl, rfl⟩ | ⟨rfl, rfl, rfl⟩ | ⟨rfl, rfl, rfl⟩ <;> rfl
theorem IsCh.stop {M : Nat} {kk : Int} {ops : List Bs} (h : IsCh M kk ops) {r : List Tok} (hs : Stop (M : Int) r) : ¬ (pKind r = kk ∧ ops.contains (pText r) = true ∧ r ≠ []) := by
 rcases h with ⟨rfl, rfl, rfl⟩ | ⟨rfl, rfl, rfl⟩ | ⟨rfl, rfl, rfl⟩ | ⟨rfl, rfl, rfl⟩
 ·exact stop_no hs (.inr rfl) fun s h => by rw [binL_or.1 h]; decide
 ·exact stop_no hs (.inr rfl) fun s h => by rw [binL_and.1 h]; decide
 ·exact stop_no hs (.inl rfl) fun s h => by rw [binL_add.1 h]; decide
 ·exact stop_no hs (.inl rfl) fun s h => by rw [binL_mul.1 h]; decide
structure Good (e : Int) (E : Pars) (T : Tr) : Prop where
 ex : ∃ M : Nat, T.level = (M : Int) ∧ 1 ≤ M ∧ M ≤ 9 ∧ Begins (M : Int) T.tk ∧ (∀ r, Stop (M : Int) r → Rd1 (PL e E M) T T.tk r) ∧
  (∀ kk ops, IsCh M kk ops → ∀ r ns, Stop ((M + 1 : Nat) : Int) r → chainP kk ops (PL e E (M + 1)) (T.tk ++ r) ns = chainF kk ops (PL e E (M + 1)) r.length (((ns.length + T.size : Nat) : Int) - 1) r (ns ++ T.flat ns.length)) ∧
  (M = 8 → ∀ r ns, Stop 9 r → postP e E (T.tk ++ r) ns = postF e E r.length (((ns.length + T.size : Nat) : Int) - 1) r (ns ++ T.flat ns.length))
theorem q_good (hC : EatsP E) {A : Tr} (hA : Good e E A) (hw : Well E A) (L : Nat) (h1 : 1 ≤ L) (h9 : L ≤ 9) : (∀ r, Stop (L : Int) r → Rd1 (PL e E L) A (qT A.level L A.tk) r) ∧ Begins (L : Int) (qT A.level L A.tk) := by
 obtain ⟨M, hM, hM1, hM9, hb, hr, _⟩ := hA.ex
 unfold qT
 rw [hM]
 by_cases hlt : (M : Int) < (L : Int)
 ·rw [if_pos hlt]
  exact ⟨fun r hs => lifts' hC h1 h9 (Nat.le_refl 9) hs (paren_rd hw r) (paren_begins _ _), paren_begins _ _⟩
 ·rw [if_neg hlt]
  exact ⟨fun r hs => lifts' hC h1 (by omega) hM9 hs (hr r (hs.mono (by omega))) hb, hb.mono (by omega)⟩
theorem q_chain (hC : EatsP E) {A : Tr} (hA : Good e E A) (hw : Well E A) {L : Nat} {kk : Int} {ops : List Bs} (hI : IsCh L kk ops) (r : List Tok) (ns : List Nd) (hs : Stop ((L + 1 : Nat) : Int) r) :
  chainP kk ops (PL e E (L + 1)) (qT A.level L A.tk ++ r) ns = chainF kk ops (PL e E (L + 1)) r.length (((ns.length + A.size : Nat) : Int) - 1) r (ns ++ A.flat ns.length) := by
 have hL : 1 ≤ L + 1 ∧ L + 1 ≤ 9 := by
  rcases hI with ⟨rfl, _⟩ | ⟨rfl, _⟩ | ⟨rfl, _⟩ | ⟨rfl, _⟩ <;> omega
 obtain ⟨M, hM, hM1, hM9, hb, hr, hch, _⟩ := hA.ex
 unfold qT
 rw [hM]
 by_cases hlt : (M : Int) < (L : Int)
 ·rw [if_pos hlt]
  exact chain_from (PL_eats hC _) (lifts' hC hL.1 hL.2 (Nat.le_refl 9) hs (paren_rd hw r) (paren_begins _ _)) ns
 ·rw [if_neg hlt]
  rcases Nat.lt_or_ge L M with h | h
  ·exact chain_from (PL_eats hC _) (lifts' hC hL.1 (by omega) hM9 hs (hr r (hs.mono (by omega))) hb) ns
  ·obtain rfl : L = M := by omega
   exact hch kk ops hI r ns hs
theorem q_post {A : Tr} (hA : Good e E A) (hw : Well E A) (r : List Tok) (ns : List Nd) (hs : Stop 9 r) :
  postP e E (qT A.level 8 A.tk ++ r) ns = postF e E r.length (((ns.length + A.size : Nat) : Int) - 1) r (ns ++ A.flat ns.length) := by
 obtain ⟨M, hM, hM1, hM9, hb, hr, _, hp⟩ := hA.ex
 have fin : ∀ w, Rd1 (primP e E) A w r → postP e E (w ++ r) ns = postF e E r.length (((ns.length + A.size : Nat) : Int) - 1) r (ns ++ A.flat ns.length) := fun w h => by
  unfold postP
  rw [h ns]
 unfold qT
 rw [hM]
 by_cases hlt : (M : Int) < 8
 ·rw [if_pos hlt]
  exact fin _ (paren_rd hw r)
 ·rw [if_neg hlt]
  rcases Nat.lt_or_ge 8 M with h | h
  ·obtain rfl : M = 9 := by omega
   exact fin _ (hr r hs)
  ·obtain rfl : M = 8 := by omega
   exact hp rfl r ns hs
end
theorem qT_begins {L : Nat} {lv : Int} {p : List Tok} {M : Nat} (hlv : lv = (M : Int)) (hp : Begins (M : Int) p) : Begins (L : Int) (qT lv L p) := by
 unfold qT
 split
 ·exact paren_begins _ _
 ·rename_i h; exact hp.mono (by omega)
theorem stop_op {L : Int} {op : Bs} {k : Int} (hk : k = opK op) (h0 : 0 < binL op) (h : binL op < L) (r : List Tok) : Stop L (tk k op :: r) := by
 intro t ht
 simp only [List.head?_cons, Option.mem_some_iff] at ht
 subst ht
 have h1 : op ≠ sLP := by rintro rfl; revert h0; decide
 have h2 : op ≠ sLB := by rintro rfl; revert h0; decide
 refine ⟨?_, ?_, fun _ => ?_⟩
 ·unfold opLv
  rw [if_pos (by subst hk; unfold opK; split <;> simp [tk])]
  exact h
 ·simp [isTk, tk, h1]
 ·simp [isTk, tk, h2]
theorem main_good {e : Int} {E : Pars} (hC : EatsP E) {h : Nat} (hE : ∀ T : Tr, T.wf = true → exprK T.kind = true → T.ht ≤ h → Well E T) : ∀ (n : Nat) (T : Tr), T.size ≤ n → T.wf = true → exprK T.kind = true → T.ht ≤ h + 1 → Good e E T := by
 intro n
 induction n with
 | zero => intro T hn; have := T.size_pos; omega
 | succ n ih =>
  intro T hn hw hk hh
  obtain ⟨a, ts⟩ := T
  obtain ⟨hf, hc, hws⟩ := wf_parts hw
  have hk' : exprK a.kind = true := hk
  have hkk : a.kind ≠ 19 ∧ a.kind ≠ 15 ∧ a.kind ≠ 16 := by
   simp only [exprK, Bool.and_eq_true, decide_eq_true_eq] at hk'
   omega
  have hkids := wfs_expr hkk hws
  have hth : Tr.hts ts ≤ h := by simp only [Tr.ht] at hh; omega
  have hwell : ∀ X ∈ ts, Well E X := fun X hX => hE X (hkids X hX).1 (hkids X hX).2 (by have := Tr.ht_mem hX; omega)
  have hsz : ∀ X ∈ ts, X.size ≤ n := fun X hX => by
   have : ∀ (l : List Tr), X ∈ l → X.size ≤ Tr.sizes l := by
    intro l
    induction l with
    | nil => intro h; cases h
    | cons y l ih =>
     intro h
     simp only [Tr.sizes]
     rcases List.mem_cons.1 h with rfl | h
     ·omega
     ·have := ih h; omega
   have := this ts hX
   simp only [Tr.size] at hn
   omega
  have hgood : ∀ X ∈ ts, Good e E X := fun X hX => ih X (hsz X hX) (hkids X hX).1 (hkids X hX).2 (by have := Tr.ht_mem hX; omega)
  obtain ⟨hkeys, hval⟩ := fields_facts hf
  by_cases h9 : a.kind = 9
  ·-- operators
   obtain ⟨kind, text, val, keys⟩ := a
   simp only at h9
   subst h9
   obtain rfl := hkeys (by simp)
   obtain rfl := hval (by simp) (by simp)
   obtain ⟨A, B, rfl⟩ := len2 (ts := ts) (by simpa [countB] using hc)
   have hb0 : 0 < binL text := by simpa [fieldsB] using hf
   have gA := hgood A (by simp)
   have gB := hgood B (by simp)
   have wA := hwell A (by simp)
   have wB := hwell B (by simp)
   have hlev : (Tr.node ⟨9, text, 0, []⟩ [A, B]).level = binL text := rfl
   have htk : (Tr.node ⟨9, text, 0, []⟩ [A, B]).tk = qT A.level (if binL text = 4 then 5 else binL text) A.tk ++ tk (opK text) text :: qT B.level (binL text + 1) B.tk := rfl
   have chain : ∀ (L : Nat) (kk : Int) (ops : List Bs), IsCh L kk ops → binL text = (L : Int) → opK text = kk → ops.contains text = true → Good e E (Tr.node ⟨9, text, 0, []⟩ [A, B]) := by
    intro L kk ops hI hL hkk hops
    have hL6 : 1 ≤ L ∧ L ≤ 6 ∧ L ≠ 4 := by
     rcases hI with ⟨rfl, _⟩ | ⟨rfl, _⟩ | ⟨rfl, _⟩ | ⟨rfl, _⟩ <;> omega
    have htk' : (Tr.node ⟨9, text, 0, []⟩ [A, B]).tk = qT A.level L A.tk ++ tk kk text :: qT B.level ((L + 1 : Nat) : Int) B.tk := by
     rw [htk, hL, hkk, if_neg (by omega)]; rfl
    have hch : ∀ r ns, Stop ((L + 1 : Nat) : Int) r → chainP kk ops (PL e E (L + 1)) ((Tr.node ⟨9, text, 0, []⟩ [A, B]).tk ++ r) ns = chainF kk ops (PL e E (L + 1)) r.length (((ns.length + (Tr.node ⟨9, text, 0, []⟩ [A, B]).size : Nat) : Int) - 1) r (ns ++ (Tr.node ⟨9, text, 0, []⟩ [A, B]).flat ns.length) := by
     intro r ns hs
     rw [htk', List.append_assoc, List.cons_append]
     refine chain_step (PL_eats hC _) hops (fun r' => ?_) ((q_good hC gB wB (L + 1) (by omega) (by omega)).1 r hs)
     exact q_chain hC gA wA hI _ ns (stop_op hkk.symm hb0 (by omega) r')
    refine ⟨L, by rw [hlev, hL], hL6.1, by omega, ?_, fun r hs => ?_, fun kk' ops' hI' r ns hs => ?_, fun h8 => by omega⟩
    ·rw [htk']
     exact (q_good hC gA wA L hL6.1 (by omega)).2.app
    ·intro ns
     rw [hI.eq, hch r ns (hs.mono (by omega)), chainF_stop (hI.stop hs)]
    ·have : kk' = kk ∧ ops' = ops := by
      rcases hI with ⟨rfl, rfl, rfl⟩ | ⟨rfl, rfl, rfl⟩ | ⟨rfl, rfl, rfl⟩ | ⟨rfl, rfl, rfl⟩ <;> rcases hI' with ⟨h, rfl, rfl⟩ | ⟨h, rfl, rfl⟩ | ⟨h, rfl, rfl⟩ | ⟨h, rfl, rfl⟩ <;> first | exact ⟨rfl, rfl⟩ | omega
     obtain ⟨rfl, rfl⟩ := this
     exact hch r ns hs
   rcases binL_cases text with h0 | h1 | h2 | h4 | h5 | h6
   ·omega
   ·exact chain 1 2 [wOr] (.inl ⟨rfl, rfl, rfl⟩) h1 (by rw [opK_lv, if_pos (.inl h1)]) (binL_or.2 h1)
   ·exact chain 2 2 [wAnd] (.inr (.inl ⟨rfl, rfl, rfl⟩)) h2 (by rw [opK_lv, if_pos (.inr h2)]) (binL_and.2 h2)
   ·-- comparisons
    have hop : opK text = 5 := by rw [opK_lv, if_neg (by omega)]
    have htk' : (Tr.node ⟨9, text, 0, []⟩ [A, B]).tk = qT A.level ((5 : Nat) : Int) A.tk ++ tk 5 text :: qT B.level ((5 : Nat) : Int) B.tk := by
     rw [htk, h4, hop]; rfl
    obtain ⟨rA, bA⟩ := q_good hC gA wA 5 (by omega) (by omega)
    obtain ⟨rB, bB⟩ := q_good hC gB wB 5 (by omega) (by omega)
    refine ⟨4, by rw [hlev, h4]; rfl, by omega, by omega, ?_, fun r hs ns => ?_, fun kk ops hI => ?_, fun h => by omega⟩
    ·rw [htk']; exact (bA.mono (by decide)).app
    ·rw [htk', List.append_assoc, List.cons_append]
     have e1 := rA (tk 5 text :: (qT B.level ((5 : Nat) : Int) B.tk ++ r)) (stop_op hop.symm hb0 (by omega) _) ns
     have e2 := rB r (hs.mono (by decide)) (ns ++ A.flat ns.length)
     show cmpP e E _ ns = _
     unfold cmpP
     rw [show sumP e E (qT A.level ((5 : Nat) : Int) A.tk ++ tk 5 text :: (qT B.level ((5 : Nat) : Int) B.tk ++ r)) ns = _ from e1]
     have hcond : pKind (tk 5 text :: (qT B.level ((5 : Nat) : Int) B.tk ++ r)) = 5 ∧ opCmp.contains (pText (tk 5 text :: (qT B.level ((5 : Nat) : Int) B.tk ++ r))) = true ∧ (tk 5 text :: (qT B.level ((5 : Nat) : Int) B.tk ++ r)) ≠ [] := ⟨rfl, binL_cmp.2 h4, by simp⟩
     simp only [if_pos hcond, List.tail_cons]
     rw [show sumP e E (qT B.level ((5 : Nat) : Int) B.tk ++ r) (ns ++ A.flat ns.length) = _ from e2]
     have := addN_tree (a := ⟨9, text, 0, []⟩) (ns := ns) (Ts := [A, B]) (r := r) (l := [((ns.length + A.size : Nat) : Int) - 1, (((ns ++ A.flat ns.length).length + B.size : Nat) : Int) - 1]) (by simp [Tr.roots, Tr.flat_length])
     rw [← this]
     simp only [Tr.flats, List.append_nil, List.append_assoc, List.length_append, Tr.flat_length, ndM, pText, tk]
    ·rcases hI with ⟨h, _⟩ | ⟨h, _⟩ | ⟨h, _⟩ | ⟨h, _⟩ <;> omega
   ·exact chain 5 5 opAdd (.inr (.inr (.inl ⟨rfl, rfl, rfl⟩))) h5 (by rw [opK_lv, if_neg (by omega)]) (binL_add.2 h5)
   ·exact chain 6 5 opMul (.inr (.inr (.inr ⟨rfl, rfl, rfl⟩))) h6 (by rw [opK_lv, if_neg (by omega)]) (binL_mul.2 h6)
  by_cases h8 : a.kind = 8
  ·obtain ⟨kind, text, val, keys⟩ := a
   simp only at h8
   subst h8
   obtain rfl := hkeys (by simp)
   obtain rfl := hval (by simp) (by simp)
   obtain ⟨A, rfl⟩ := len1 (ts := ts) (by simpa [countB] using hc)
   have gA := hgood A (by simp)
   have wA := hwell A (by simp)
   rcases (show text = sMi ∨ text = wNot by simpa [fieldsB] using hf) with rfl | rfl
   ·obtain ⟨rA, bA⟩ := q_good hC gA wA 7 (by omega) (by omega)
    refine ⟨7, rfl, by omega, by omega, ⟨_, _, rfl, .inr (.inr (.inr (.inr (.inr (.inr (.inl ⟨rfl, rfl, by decide⟩))))))⟩, fun r hs ns => ?_, fun kk ops hI => ?_, fun h => by omega⟩
    ·have e2 := rA r hs ns
     have e1 : PL e E 7 ((Tr.node ⟨8, sMi, 0, []⟩ [A]).tk ++ r) ns = (match unaryP e E (qT A.level ((7 : Nat) : Int) A.tk ++ r) ns with
       | .error o => .error o
       | .ok (i, r2, ns2) => addN (ndM 8 sMi 0 [i]) r2 ns2) := rfl
     rw [e1, show unaryP e E (qT A.level ((7 : Nat) : Int) A.tk ++ r) ns = _ from e2]
     have := addN_tree (a := ⟨8, sMi, 0, []⟩) (ns := ns) (Ts := [A]) (r := r) (l := [((ns.length + A.size : Nat) : Int) - 1]) (by simp [Tr.roots])
     rw [← this]
     simp only [Tr.flats, List.append_nil, ndM]
    ·rcases hI with ⟨h, _⟩ | ⟨h, _⟩ | ⟨h, _⟩ | ⟨h, _⟩ <;> omega
   ·obtain ⟨rA, bA⟩ := q_good hC gA wA 3 (by omega) (by omega)
    refine ⟨3, rfl, by omega, by omega, ⟨_, _, rfl, .inr (.inr (.inr (.inr (.inr (.inr (.inr ⟨rfl, rfl, by decide⟩))))))⟩, fun r hs ns => ?_, fun kk ops hI => ?_, fun h => by omega⟩
    ·have e2 := rA r hs ns
     have e1 : PL e E 3 ((Tr.node ⟨8, wNot, 0, []⟩ [A]).tk ++ r) ns = (match notP e E (qT A.level ((3 : Nat) : Int) A.tk ++ r) ns with
       | .error o => .error o
       | .ok (i, r2, ns2) => addN (ndM 8 wNot 0 [i]) r2 ns2) := rfl
     rw [e1, show notP e E (qT A.level ((3 : Nat) : Int) A.tk ++ r) ns = _ from e2]
     have := addN_tree (a := ⟨8, wNot, 0, []⟩) (ns := ns) (Ts := [A]) (r := r) (l := [((ns.length + A.size : Nat) : Int) - 1]) (by simp [Tr.roots])
     rw [← this]
     simp only [Tr.flats, List.append_nil, ndM]
    ·rcases hI with ⟨h, _⟩ | ⟨h, _⟩ | ⟨h, _⟩ | ⟨h, _⟩ <;> omega
  by_cases h10 : a.kind = 10
  ·obtain ⟨kind, text, val, keys⟩ := a
   simp only at h10
   subst h10
   obtain rfl := hkeys (by simp)
   obtain rfl := hval (by simp) (by simp)
   obtain rfl : text = [] := by simpa [fieldsB] using hf
   obtain ⟨A, B, rfl⟩ := len2 (ts := ts) (by simpa [countB] using hc)
   have gA := hgood A (by simp)
   have wA := hwell A (by simp)
   have wB := hwell B (by simp)
   have htk : (Tr.node ⟨10, [], 0, []⟩ [A, B]).tk = qT A.level ((8 : Nat) : Int) A.tk ++ sy sLB :: (B.tk ++ [sy sRB]) := rfl
   obtain ⟨M, hM, _, _, hbA, _⟩ := gA.ex
   have hp : ∀ r ns, Stop 9 r → postP e E ((Tr.node ⟨10, [], 0, []⟩ [A, B]).tk ++ r) ns = postF e E r.length (((ns.length + (Tr.node ⟨10, [], 0, []⟩ [A, B]).size : Nat) : Int) - 1) r (ns ++ (Tr.node ⟨10, [], 0, []⟩ [A, B]).flat ns.length) := by
    intro r ns hs
    rw [htk, List.append_assoc, List.cons_append, List.append_assoc, List.singleton_append]
    have hsB : Stop 9 (sy sLB :: (B.tk ++ sy sRB :: r)) := by
     intro t ht
     simp only [List.head?_cons, Option.mem_some_iff] at ht
     subst ht
     exact ⟨by decide, rfl, fun h => by omega⟩
    rw [show qT A.level ((8 : Nat) : Int) A.tk = qT A.level 8 A.tk from rfl, q_post gA wA _ ns hsB]
    have e2 := wB.rd (sy sRB :: r) (stop_sy (by decide) (by decide) (by decide)) (ns ++ A.flat ns.length)
    have e1 : postF e E (sy sLB :: (B.tk ++ sy sRB :: r)).length (((ns.length + A.size : Nat) : Int) - 1) (sy sLB :: (B.tk ++ sy sRB :: r)) (ns ++ A.flat ns.length) = (match E (B.tk ++ sy sRB :: r) (ns ++ A.flat ns.length) with
      | .error o => .error o
      | .ok (k, r1, ns1) => match mustT e 5 sRB r1 with
       | .error o => .error o
       | .ok r2 => postF e E (B.tk ++ sy sRB :: r).length (ns1.length : Int) r2 (ns1 ++ [ndM 10 [] 0 [((ns.length + A.size : Nat) : Int) - 1, k]])) := rfl
    rw [e1, e2]
    simp only [mustT, isTk_hd, if_true, List.tail_cons]
    rw [postF_fuel hC _ r.length _ _ _ (by simp only [List.length_append, List.length_cons]; omega) (Nat.le_refl _)]
    congr 1
    ·simp only [List.length_append, Tr.flat_length, Tr.size, Tr.sizes]
     omega
    ·simp only [Tr.flat, Tr.flats, Tr.roots, List.length_append, Tr.flat_length, List.append_nil, List.append_assoc, ndM]
   refine ⟨8, rfl, by omega, by omega, ?_, fun r hs ns => ?_, fun kk ops hI => ?_, fun _ => hp⟩
   ·rw [htk]; exact (qT_begins hM hbA).app
   ·show postP e E _ ns = _
    rw [hp r ns (hs.mono (by decide)), postF_stop]
    cases r with
    | nil => rfl
    | cons t r => exact (hs t rfl).2.2 (by decide)
   ·rcases hI with ⟨h, _⟩ | ⟨h, _⟩ | ⟨h, _⟩ | ⟨h, _⟩ <;> omega
  ·obtain ⟨h1, h2⟩ := prim_good (e := e) hw hk' h8 h9 h10 hwell
   refine ⟨9, ?_, by omega, by omega, h2, h1, fun kk ops hI => ?_, fun h => by omega⟩
   ·have : (Tr.node a ts).level = if a.kind = 9 then binL a.text else if a.kind = 8 then (if a.text = wNot then 3 else 7) else if a.kind = 10 then 8 else 9 := rfl
    rw [this, if_neg h9, if_neg h8, if_neg h10]; rfl
   ·rcases hI with ⟨h, _⟩ | ⟨h, _⟩ | ⟨h, _⟩ | ⟨h, _⟩ <;> omega
theorem expr_good {e : Int} : ∀ (f : Nat) (T : Tr), T.wf = true → exprK T.kind = true → T.ht ≤ f → Well (exprP e f) T
 | 0, T, _, _, h => by cases T; simp [Tr.ht] at h
 | f + 1, T, hw, hk, h => by
  obtain ⟨M, hM, h1, h9, hb, hr, _⟩ := (main_good (e := e) (exprP_eats f) (expr_good f) T.size T (Nat.le_refl _) hw hk h).ex
  exact ⟨fun r hs => lifts' (exprP_eats f) (Nat.le_refl 1) h1 h9 hs (hr r (hs.mono (by omega))) hb, hb.mono (by omega)⟩
end Go.Proofs.YtglndfgmlminpaaGreatDoor
namespace Go.Proofs.YtglndfgmlminpaaGreatDoor
theorem Begins.noWrd {w : List Tok} (h : Begins 1 w) {s : Bs} (hs : s = wLet ∨ s = wIf ∨ s = wWhile ∨ s = wReturn ∨ s = wElse ∨ s = wFunc) : isWrd s w = false := by
 obtain ⟨t, l, rfl, h⟩ := h
 unfold First at h
 simp only [isTk, Bool.and_eq_false_iff, decide_eq_false_iff_not, beq_eq_false_iff_ne]
 rcases h with h | h | h | h | ⟨h, h2⟩ | ⟨h, _⟩ | ⟨h, _⟩ | ⟨h, h2, _⟩
 ·left; omega
 ·left; omega
 ·left; omega
 ·left; omega
 ·right; rcases h2 with h2 | h2 | h2 <;> rw [h2] <;> rcases hs with rfl | rfl | rfl | rfl | rfl | rfl <;> decide
 ·left; omega
 ·left; omega
 ·right; rw [h2]; rcases hs with rfl | rfl | rfl | rfl | rfl | rfl <;> decide
theorem qT_assigns {lv req : Int} {p r : List Tok} (h : assigns (p ++ r) = false) : assigns (qT lv req p ++ r) = false := by
 unfold qT
 split
 ·rfl
 ·exact h
theorem noEq_op {op : Bs} {k : Int} (h0 : 0 < binL op) (r : List Tok) : isSym sEq1 (tk k op :: r) = false := by
 have h1 : op ≠ sEq1 := by rintro rfl; revert h0; decide
 simp [isTk, tk, h1]
theorem no_assigns : ∀ (n : Nat) (T : Tr), T.size ≤ n → T.wf = true → exprK T.kind = true → ∀ r, isSym sEq1 r = false → assigns (T.tk ++ r) = false := by
 intro n
 induction n with
 | zero => intro T hn; have := T.size_pos; omega
 | succ n ih =>
  intro T hn hw hk r hr
  obtain ⟨a, ts⟩ := T
  obtain ⟨hf, hc, hws⟩ := wf_parts hw
  have hk' : exprK a.kind = true := hk
  obtain ⟨kind, text, val, keys⟩ := a
  simp only at hk' hc hf hws
  rcases exprK_cases hk' with rfl | rfl | rfl | rfl | rfl | rfl | rfl | rfl | rfl | rfl | rfl | rfl
  ·rfl
  ·rfl
  ·rfl
  ·rfl
  ·exact hr
  ·rfl
  ·rfl
  ·obtain ⟨A, rfl⟩ := len1 (ts := ts) (by simpa [countB] using hc)
   rcases (show text = sMi ∨ text = wNot by
    have h1 := fields_facts hf
    obtain rfl := h1.1 (by simp)
    obtain rfl := h1.2 (by simp) (by simp)
    simpa [fieldsB] using hf) with rfl | rfl <;> rfl
  ·obtain ⟨A, B, rfl⟩ := len2 (ts := ts) (by simpa [countB] using hc)
   have h1 := fields_facts hf
   obtain rfl := h1.1 (by simp)
   obtain rfl := h1.2 (by simp) (by simp)
   have hb0 : 0 < binL text := by simpa [fieldsB] using hf
   have hA := wfs_expr (by decide) hws A (by simp)
   have htk : (Tr.node ⟨9, text, 0, []⟩ [A, B]).tk ++ r = qT A.level (if binL text = 4 then 5 else binL text) A.tk ++ (tk (opK text) text :: (qT B.level (binL text + 1) B.tk ++ r)) := by
    show (qT A.level _ A.tk ++ tk (opK text) text :: qT B.level _ B.tk) ++ r = _
    rw [List.append_assoc]; rfl
   rw [htk]
   exact qT_assigns (ih A (by simp only [Tr.size, Tr.sizes] at hn; omega) hA.1 hA.2 _ (noEq_op hb0 _))
  ·obtain ⟨A, B, rfl⟩ := len2 (ts := ts) (by simpa [countB] using hc)
   have hA := wfs_expr (by decide) hws A (by simp)
   have htk : (Tr.node ⟨10, text, val, keys⟩ [A, B]).tk ++ r = qT A.level 8 A.tk ++ (sy sLB :: (B.tk ++ [sy sRB] ++ r)) := by
    show (qT A.level 8 A.tk ++ sy sLB :: (B.tk ++ [sy sRB])) ++ r = _
    rw [List.append_assoc]; rfl
   rw [htk]
   exact qT_assigns (ih A (by simp only [Tr.size, Tr.sizes] at hn; omega) hA.1 hA.2 _ rfl)
  ·rfl
  ·rfl
structure WellS (S : Pars) (T : Tr) : Prop where
 rd : ∀ r, isWrd wElse r = false → Rd1 S T T.tk r
 noRC : ∀ r, isSym sRC (T.tk ++ r) = false
 noElse : ∀ r, isWrd wElse (T.tk ++ r) = false
 ne : T.tk ≠ []
section
variable {e : Int}
theorem value_good {f : Nat} {A : Tr} (hA : Well (exprP e f) A) {a : Lab} (ha : a.val = 0 ∧ a.keys = []) (r : List Tok) (ns : List Nd) :
  valueP e f a.kind a.text (A.tk ++ [sy sSc] ++ r) ns = .ok (((ns.length + (Tr.node a [A]).size : Nat) : Int) - 1, r, ns ++ (Tr.node a [A]).flat ns.length) := by
 have h1 := hA.rd (sy sSc :: r) (stop_sy (by decide) (by decide) (by decide)) ns
 have := addN_tree (a := a) (ns := ns) (Ts := [A]) (r := r) (l := [((ns.length + A.size : Nat) : Int) - 1]) (by simp [Tr.roots])
 rw [ha.1, ha.2] at this
 rw [List.append_assoc, List.singleton_append]
 unfold valueP
 rw [h1]
 simp only [mustT, isTk_hd, if_true, List.tail_cons]
 rw [← this]
 simp only [Tr.flats, List.append_nil, ndM]
theorem stop_block {r : List Tok} : Stop 1 (sy sLC :: r) := stop_sy (by decide) (by decide) (by decide)
theorem stmts_good {S : Pars} : ∀ (Ts : List Tr), (∀ X ∈ Ts, WellS S X) → ∀ (g : Nat) (Ts0 : List Tr) (ns0 : List Nd) (r : List Tok), Ts.length + 1 ≤ g →
  stmtsF e S g (Tr.roots ns0.length Ts0) ((Ts.map Tr.tk).flatten ++ sy sRC :: r) (ns0 ++ Tr.flats ns0.length Ts0) =
   .ok (((ns0.length + (Tr.node ⟨19, [], 0, []⟩ (Ts0 ++ Ts)).size : Nat) : Int) - 1, r, ns0 ++ (Tr.node ⟨19, [], 0, []⟩ (Ts0 ++ Ts)).flat ns0.length)
 | [], _, g, Ts0, ns0, r, hg => by
  obtain ⟨g, rfl⟩ : ∃ k, g = k + 1 := ⟨g - 1, by omega⟩
  simp only [List.map_nil, List.flatten_nil, List.nil_append, stmtsF, isTk_hd, if_true, List.tail_cons, List.append_nil]
  exact addN_tree (a := ⟨19, [], 0, []⟩) rfl
 | T :: Ts, hT, g, Ts0, ns0, r, hg => by
  obtain ⟨g, rfl⟩ : ∃ k, g = k + 1 := ⟨g - 1, by simp at hg; omega⟩
  have hTT := hT T (by simp)
  have hel : isWrd wElse ((Ts.map Tr.tk).flatten ++ sy sRC :: r) = false := by
   cases Ts with
   | nil => rfl
   | cons T2 Ts =>
    simp only [List.map_cons, List.flatten_cons, List.append_assoc]
    exact (hT T2 (by simp)).noElse _
  have h1 := hTT.rd _ hel (ns0 ++ Tr.flats ns0.length Ts0)
  have h2 := stmts_good Ts (fun X hX => hT X (by simp [hX])) g (Ts0 ++ [T]) ns0 r (by simp at hg ⊢; omega)
  simp only [List.map_cons, List.flatten_cons, List.append_assoc] at h1 h2 ⊢
  simp only [stmtsF, hTT.noRC, Bool.false_eq_true, if_false, h1]
  simp only [List.cons_append, List.nil_append] at h2
  rw [← h2]
  simp only [Tr.roots_append, Tr.roots, Tr.flats_append, Tr.flats, List.append_nil, List.length_append, Tr.flats_length]
theorem len23 {ts : List Tr} (h : ts.length = 2 ∨ ts.length = 3) : (∃ a b, ts = [a, b]) ∨ (∃ a b c, ts = [a, b, c]) := by
 rcases h with h | h
 ·exact .inl (len2 h)
 ·right
  match ts, h with
  | [a, b, c], _ => exact ⟨a, b, c, rfl⟩
theorem blk_tk {B : Tr} (hk : B.kind = 19) : ∃ l, B.tk = sy sLC :: l := by
 obtain ⟨⟨kind, text, val, keys⟩, ts⟩ := B
 have : kind = 19 := hk
 subst this
 exact ⟨_, rfl⟩
theorem stmt_good {f g : Nat} {Bl : Pars} (hE : ∀ T : Tr, T.wf = true → exprK T.kind = true → T.ht ≤ g → Well (exprP e f) T) (hB : ∀ T : Tr, T.wf = true → T.kind = 19 → T.ht ≤ g → ∀ r, Rd1 Bl T T.tk r) {T : Tr} (hw : T.wf = true) (hk : stmtK T.kind = true) (hh : T.ht ≤ g + 1) : WellS (stmtP e f Bl) T := by
 obtain ⟨a, ts⟩ := T
 obtain ⟨hf, hc, hws⟩ := wf_parts hw
 have hk' : stmtK a.kind = true := hk
 have hth : Tr.hts ts ≤ g := by simp only [Tr.ht] at hh; omega
 have hh1 : ∀ X ∈ ts, X.ht ≤ g := fun X hX => by have := Tr.ht_mem hX; omega
 obtain ⟨kind, text, val, keys⟩ := a
 simp only at hk' hc hf hws
 have h1 := fields_facts hf
 have hkind : kind = 13 ∨ kind = 14 ∨ kind = 15 ∨ kind = 16 ∨ kind = 17 ∨ kind = 18 := by
  simp only [stmtK, Bool.and_eq_true, decide_eq_true_eq] at hk'
  omega
 rcases hkind with rfl | rfl | rfl | rfl | rfl | rfl
 ·obtain rfl := h1.1 (by simp); obtain rfl := h1.2 (by simp) (by simp)
  obtain ⟨A, rfl⟩ := len1 (ts := ts) (by simpa [countB] using hc)
  have hA := wfs_expr (by decide) hws A (by simp)
  have wA := hE A hA.1 hA.2 (hh1 A (by simp))
  exact ⟨fun r hr ns => value_good (a := ⟨13, text, 0, []⟩) wA ⟨rfl, rfl⟩ r ns, fun r => rfl, fun r => rfl, by simp [Tr.tk, tkN, Tr.tkl]⟩
 ·obtain rfl := h1.1 (by simp); obtain rfl := h1.2 (by simp) (by simp)
  obtain ⟨A, rfl⟩ := len1 (ts := ts) (by simpa [countB] using hc)
  have hA := wfs_expr (by decide) hws A (by simp)
  have wA := hE A hA.1 hA.2 (hh1 A (by simp))
  exact ⟨fun r hr ns => value_good (a := ⟨14, text, 0, []⟩) wA ⟨rfl, rfl⟩ r ns, fun r => rfl, fun r => rfl, by simp [Tr.tk, tkN, Tr.tkl]⟩
 ·obtain rfl := h1.1 (by simp); obtain rfl := h1.2 (by simp) (by simp)
  obtain rfl : text = [] := by simpa [fieldsB] using hf
  have hfit : ∀ (i : Nat) (X : Tr), ts[i]? = some X → X.wf = true ∧ (if 0 < i then X.kind = 19 else exprK X.kind = true) := fun i X hX => by
   obtain ⟨g1, g2⟩ := wfs_mem hws i X hX
   refine ⟨g1, ?_⟩
   simp only [Nat.zero_add, fitsB] at g2
   split
   ·rename_i hi; simpa [hi] using g2
   ·rename_i hi; simpa [hi] using g2
  rcases len23 (ts := ts) (by simpa [countB] using hc) with ⟨A, B, rfl⟩ | ⟨A, B, C, rfl⟩
  ·have hA := hfit 0 A rfl
   have hB' := hfit 1 B rfl
   have wA := hE A hA.1 (by simpa using hA.2) (hh1 A (by simp))
   have hBk : B.kind = 19 := by simpa using hB'.2
   obtain ⟨lB, hlB⟩ := blk_tk hBk
   refine ⟨fun r hr ns => ?_, fun r => rfl, fun r => rfl, by simp [Tr.tk, tkN, Tr.tkl]⟩
   have e0 : stmtP e f Bl ((Tr.node ⟨15, [], 0, []⟩ [A, B]).tk ++ r) ns = (match exprP e f (A.tk ++ B.tk ++ r) ns with
     | .error o => .error o
     | .ok (c, r1, ns1) => match Bl r1 ns1 with
      | .error o => .error o
      | .ok (b, r2, ns2) =>
       if isWrd wElse r2 then
        (match Bl r2.tail ns2 with
        | .error o => .error o
        | .ok (b2, r3, ns3) => addN (ndM 15 [] 0 [c, b, b2]) r3 ns3)
       else addN (ndM 15 [] 0 [c, b]) r2 ns2) := rfl
   have e1 := wA.rd (B.tk ++ r) (by rw [hlB]; exact stop_block) ns
   have e2 := hB B hB'.1 hBk (hh1 B (by simp)) r (ns ++ A.flat ns.length)
   rw [e0, List.append_assoc, e1]
   simp only [e2, hr, Bool.false_eq_true, if_false]
   have := addN_tree (a := ⟨15, [], 0, []⟩) (ns := ns) (Ts := [A, B]) (r := r) (l := [((ns.length + A.size : Nat) : Int) - 1, (((ns ++ A.flat ns.length).length + B.size : Nat) : Int) - 1]) (by simp [Tr.roots, Tr.flat_length])
   rw [← this]
   simp only [Tr.flats, List.append_nil, List.append_assoc, List.length_append, Tr.flat_length, ndM]
  ·have hA := hfit 0 A rfl
   have hB' := hfit 1 B rfl
   have hC' := hfit 2 C rfl
   have wA := hE A hA.1 (by simpa using hA.2) (hh1 A (by simp))
   have hBk : B.kind = 19 := by simpa using hB'.2
   have hCk : C.kind = 19 := by simpa using hC'.2
   obtain ⟨lB, hlB⟩ := blk_tk hBk
   refine ⟨fun r hr ns => ?_, fun r => rfl, fun r => rfl, by simp [Tr.tk, tkN, Tr.tkl]⟩
   have e0 : stmtP e f Bl ((Tr.node ⟨15, [], 0, []⟩ [A, B, C]).tk ++ r) ns = (match exprP e f (A.tk ++ B.tk ++ wd wElse :: C.tk ++ r) ns with
     | .error o => .error o
     | .ok (c, r1, ns1) => match Bl r1 ns1 with
      | .error o => .error o
      | .ok (b, r2, ns2) =>
       if isWrd wElse r2 then
        (match Bl r2.tail ns2 with
        | .error o => .error o
        | .ok (b2, r3, ns3) => addN (ndM 15 [] 0 [c, b, b2]) r3 ns3)
       else addN (ndM 15 [] 0 [c, b]) r2 ns2) := rfl
   have e1 := wA.rd (B.tk ++ (wd wElse :: (C.tk ++ r))) (by rw [hlB]; exact stop_block) ns
   have e2 := hB B hB'.1 hBk (hh1 B (by simp)) (wd wElse :: (C.tk ++ r)) (ns ++ A.flat ns.length)
   have e3 := hB C hC'.1 hCk (hh1 C (by simp)) r (ns ++ A.flat ns.length ++ B.flat (ns ++ A.flat ns.length).length)
   have e4 : A.tk ++ B.tk ++ wd wElse :: C.tk ++ r = A.tk ++ (B.tk ++ (wd wElse :: (C.tk ++ r))) := by simp
   rw [e0, e4, e1]
   simp only [e2, isTk_hd, if_true, List.tail_cons, e3]
   have := addN_tree (a := ⟨15, [], 0, []⟩) (ns := ns) (Ts := [A, B, C]) (r := r) (l := [((ns.length + A.size : Nat) : Int) - 1, (((ns ++ A.flat ns.length).length + B.size : Nat) : Int) - 1, (((ns ++ A.flat ns.length ++ B.flat (ns ++ A.flat ns.length).length).length + C.size : Nat) : Int) - 1]) (by simp only [Tr.roots, List.length_append, Tr.flat_length, Nat.add_assoc])
   rw [← this]
   simp only [Tr.flats, List.append_nil, List.append_assoc, List.length_append, Tr.flat_length, ndM, Nat.add_assoc]
 ·obtain rfl := h1.1 (by simp); obtain rfl := h1.2 (by simp) (by simp)
  obtain rfl : text = [] := by simpa [fieldsB] using hf
  obtain ⟨A, B, rfl⟩ := len2 (ts := ts) (by simpa [countB] using hc)
  have hA := wfs_mem hws 0 A rfl
  have hB' := wfs_mem hws 1 B rfl
  have hAk : exprK A.kind = true := by simpa [fitsB] using hA.2
  have hBk : B.kind = 19 := by simpa [fitsB] using hB'.2
  have wA := hE A hA.1 hAk (hh1 A (by simp))
  obtain ⟨lB, hlB⟩ := blk_tk hBk
  refine ⟨fun r hr ns => ?_, fun r => rfl, fun r => rfl, by simp [Tr.tk, tkN, Tr.tkl]⟩
  have e0 : stmtP e f Bl ((Tr.node ⟨16, [], 0, []⟩ [A, B]).tk ++ r) ns = (match exprP e f (A.tk ++ B.tk ++ r) ns with
    | .error o => .error o
    | .ok (c, r1, ns1) => match Bl r1 ns1 with
     | .error o => .error o
     | .ok (b, r2, ns2) => addN (ndM 16 [] 0 [c, b]) r2 ns2) := rfl
  have e1 := wA.rd (B.tk ++ r) (by rw [hlB]; exact stop_block) ns
  have e2 := hB B hB'.1 hBk (hh1 B (by simp)) r (ns ++ A.flat ns.length)
  rw [e0, List.append_assoc, e1]
  simp only [e2]
  have := addN_tree (a := ⟨16, [], 0, []⟩) (ns := ns) (Ts := [A, B]) (r := r) (l := [((ns.length + A.size : Nat) : Int) - 1, (((ns ++ A.flat ns.length).length + B.size : Nat) : Int) - 1]) (by simp [Tr.roots, Tr.flat_length])
  rw [← this]
  simp only [Tr.flats, List.append_nil, List.append_assoc, List.length_append, Tr.flat_length, ndM]
 ·obtain rfl := h1.1 (by simp); obtain rfl := h1.2 (by simp) (by simp)
  obtain rfl : text = [] := by simpa [fieldsB] using hf
  obtain ⟨A, rfl⟩ := len1 (ts := ts) (by simpa [countB] using hc)
  have hA := wfs_expr (by decide) hws A (by simp)
  have wA := hE A hA.1 hA.2 (hh1 A (by simp))
  exact ⟨fun r hr ns => value_good (a := ⟨17, [], 0, []⟩) wA ⟨rfl, rfl⟩ r ns, fun r => rfl, fun r => rfl, by simp [Tr.tk, tkN, Tr.tkl]⟩
 ·obtain rfl := h1.1 (by simp); obtain rfl := h1.2 (by simp) (by simp)
  obtain rfl : text = [] := by simpa [fieldsB] using hf
  obtain ⟨A, rfl⟩ := len1 (ts := ts) (by simpa [countB] using hc)
  have hA := wfs_expr (by decide) hws A (by simp)
  have wA := hE A hA.1 hA.2 (hh1 A (by simp))
  have htk : (Tr.node ⟨18, [], 0, []⟩ [A]).tk = A.tk ++ [sy sSc] := rfl
  have hb : ∀ r, Begins 1 (A.tk ++ [sy sSc] ++ r) := fun r => by rw [List.append_assoc]; exact wA.begins.app
  refine ⟨fun r hr ns => ?_, fun r => ?_, fun r => ?_, ?_⟩
  ·rw [htk]
   have hna : assigns (A.tk ++ [sy sSc] ++ r) = false := by
    rw [List.append_assoc]
    exact no_assigns _ A (Nat.le_refl _) hA.1 hA.2 _ rfl
   unfold stmtP
   rw [(hb r).noWrd (by simp), (hb r).noWrd (by simp), (hb r).noWrd (by simp), (hb r).noWrd (by simp), hna]
   simp only [Bool.false_eq_true, if_false]
   exact value_good (a := ⟨18, [], 0, []⟩) wA ⟨rfl, rfl⟩ r ns
  ·rw [htk]; exact (hb r).noClose (by simp)
  ·rw [htk]; exact (hb r).noWrd (by simp)
  ·rw [htk]; simp
theorem block_good : ∀ (f : Nat) (T : Tr), T.wf = true → T.kind = 19 → T.ht ≤ f → ∀ r, Rd1 (blockP e f) T T.tk r
 | 0, T, _, _, h, r => by cases T; simp [Tr.ht] at h
 | f + 1, T, hw, hk, hh, r => by
  obtain ⟨a, ts⟩ := T
  obtain ⟨hf, hc, hws⟩ := wf_parts hw
  have hth : Tr.hts ts ≤ f := by simp only [Tr.ht] at hh; omega
  obtain ⟨kind, text, val, keys⟩ := a
  have : kind = 19 := hk
  subst this
  simp only at hf hws
  have h1 := fields_facts hf
  obtain rfl := h1.1 (by simp); obtain rfl := h1.2 (by simp) (by simp)
  obtain rfl : text = [] := by simpa [fieldsB] using hf
  have hS : ∀ X ∈ ts, WellS (stmtP e (f + 1) (blockP e f)) X := fun X hX => by
   obtain ⟨i, hi⟩ := List.getElem?_of_mem hX
   obtain ⟨g1, g2⟩ := wfs_mem hws i X hi
   have hX' : X.ht ≤ f := by have := Tr.ht_mem hX; omega
   have hk2 : stmtK X.kind = true := by simpa [fitsB] using g2
   exact stmt_good (g := f - 1) (fun T h1 h2 h3 => expr_good (f + 1) T h1 h2 (by omega)) (fun T h1 h2 h3 => block_good f T h1 h2 (by omega)) g1 hk2 (by omega)
  intro ns
  have htk : (Tr.node ⟨19, [], 0, []⟩ ts).tk = sy sLC :: ((Tr.tkl ts).flatten ++ [sy sRC]) := rfl
  have e1 := stmts_good (e := e) ts hS (((Tr.tkl ts).flatten ++ sy sRC :: r).length + 1) [] ns r (by
   have : ts.length ≤ (Tr.tkl ts).flatten.length := by
    rw [Tr.tkl_eq]
    have : ∀ l : List Tr, (∀ X ∈ l, X.tk ≠ []) → l.length ≤ (l.map Tr.tk).flatten.length := by
     intro l
     induction l with
     | nil => intro _; simp
     | cons x l ih =>
      intro h
      have h1 := List.length_pos_iff.2 (h x (by simp))
      have h2 := ih fun X hX => h X (by simp [hX])
      simp only [List.map_cons, List.flatten_cons, List.length_append, List.length_cons]
      omega
    exact this ts fun X hX => (hS X hX).ne
   simp only [List.length_append, List.length_cons]
   omega)
  rw [htk, List.cons_append, List.append_assoc, List.singleton_append]
  simp only [blockP, mustT, isTk_hd, if_true, List.tail_cons]
  rw [← Tr.tkl_eq] at e1
  simpa [Tr.roots, Tr.flats] using e1
end
end Go.Proofs.YtglndfgmlminpaaGreatDoor
