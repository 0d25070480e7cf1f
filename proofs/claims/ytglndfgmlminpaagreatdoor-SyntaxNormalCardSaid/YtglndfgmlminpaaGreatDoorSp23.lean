/- Texts joined by pack.py: XSyP5 XSyP6 -/
import Derived.Test.YtglndfgmlminpaaGreatDoorSp22
namespace Go.Proofs.YtglndfgmlminpaaGreatDoor
def PL (e : Int) (E : Pars) : Nat → Pars
 | 1 => orP e E
 | 2 => andP e E
 | 3 => notP e E
 | 4 => cmpP e E
 | 5 => sumP e E
 | 6 => termP e E
 | 7 => unaryP e E
 | 8 => postP e E
 | _ => primP e E
theorem PL_eats {e : Int} {E : Pars} (hE : EatsP E) (L : Nat) : EatsP (PL e E L) := by
 unfold PL
 split
 ·exact orP_eats hE
 ·exact andP_eats hE
 ·exact notP_eats hE
 ·exact cmpP_eats hE
 ·exact sumP_eats hE
 ·exact termP_eats hE
 ·exact unaryP_eats hE
 ·exact postP_eats hE
 ·exact primP_eats hE
def First (L : Int) (t : Tok) : Prop :=
 t.kind = 1 ∨ t.kind = 3 ∨ t.kind = 4 ∨ t.kind = 6 ∨ (t.kind = 2 ∧ (t.text = wNull ∨ t.text = wTrue ∨ t.text = wFalse)) ∨ (t.kind = 5 ∧ (t.text = sLP ∨ t.text = sLB ∨ t.text = sLC)) ∨
 (t.kind = 5 ∧ t.text = sMi ∧ L ≤ 7) ∨ (t.kind = 2 ∧ t.text = wNot ∧ L ≤ 3)
theorem First.mono {L L' : Int} {t : Tok} (h : First L t) (hl : L' ≤ L) : First L' t := by
 unfold First at *
 rcases h with h | h | h | h | h | h | ⟨h1, h2, h3⟩ | ⟨h1, h2, h3⟩
 ·exact .inl h
 ·exact .inr (.inl h)
 ·exact .inr (.inr (.inl h))
 ·exact .inr (.inr (.inr (.inl h)))
 ·exact .inr (.inr (.inr (.inr (.inl h))))
 ·exact .inr (.inr (.inr (.inr (.inr (.inl h)))))
 ·exact .inr (.inr (.inr (.inr (.inr (.inr (.inl ⟨h1, h2, by omega⟩))))))
 ·exact .inr (.inr (.inr (.inr (.inr (.inr (.inr ⟨h1, h2, by omega⟩))))))
def Begins (L : Int) (w : List Tok) : Prop := ∃ t l, w = t :: l ∧ First L t
theorem First.noMi {t : Tok} {l : List Tok} (h : First 8 t) : isSym sMi (t :: l) = false := by
 unfold First at h
 simp only [isTk, Bool.and_eq_false_iff, decide_eq_false_iff_not, beq_eq_false_iff_ne]
 rcases h with h | h | h | h | ⟨h, _⟩ | ⟨h, h2⟩ | ⟨_, _, h⟩ | ⟨_, _, h⟩
 ·left; omega
 ·left; omega
 ·left; omega
 ·left; omega
 ·left; omega
 ·right; rcases h2 with h2 | h2 | h2 <;> rw [h2] <;> decide
 ·omega
 ·omega
theorem First.noNot {t : Tok} {l : List Tok} (h : First 4 t) : isWrd wNot (t :: l) = false := by
 unfold First at h
 simp only [isTk, Bool.and_eq_false_iff, decide_eq_false_iff_not, beq_eq_false_iff_ne]
 rcases h with h | h | h | h | ⟨h, h2⟩ | ⟨h, _⟩ | ⟨h, _⟩ | ⟨_, _, h⟩
 ·left; omega
 ·left; omega
 ·left; omega
 ·left; omega
 ·right; rcases h2 with h2 | h2 | h2 <;> rw [h2] <;> decide
 ·left; omega
 ·left; omega
 ·omega
theorem First.noClose {L : Int} {t : Tok} {l : List Tok} (h : First L t) {s : Bs} (hs : s = sRP ∨ s = sRB ∨ s = sRC ∨ s = sSc ∨ s = sEq1) : isSym s (t :: l) = false := by
 unfold First at h
 simp only [isTk, Bool.and_eq_false_iff, decide_eq_false_iff_not, beq_eq_false_iff_ne]
 rcases h with h | h | h | h | ⟨h, _⟩ | ⟨h, h2⟩ | ⟨h, h2, _⟩ | ⟨h, _⟩
 ·left; omega
 ·left; omega
 ·left; omega
 ·left; omega
 ·left; omega
 ·right; rcases h2 with h2 | h2 | h2 <;> rw [h2] <;> rcases hs with rfl | rfl | rfl | rfl | rfl <;> decide
 ·right; rw [h2]; rcases hs with rfl | rfl | rfl | rfl | rfl <;> decide
 ·left; omega
theorem binL_mul {s : Bs} : opMul.contains s = true ↔ binL s = 6 := by
 constructor
 ·intro h
  simp only [opMul, List.contains_cons, List.contains_nil, Bool.or_false, Bool.or_eq_true, beq_iff_eq] at h
  rcases h with rfl | rfl | rfl <;> decide
 ·intro h
  unfold binL at h
  split at h
  ·omega
  split at h
  ·omega
  split at h
  ·omega
  split at h
  ·omega
  split at h
  ·assumption
  ·omega
theorem binL_add {s : Bs} : opAdd.contains s = true ↔ binL s = 5 := by
 constructor
 ·intro h
  simp only [opAdd, List.contains_cons, List.contains_nil, Bool.or_false, Bool.or_eq_true, beq_iff_eq] at h
  rcases h with rfl | rfl <;> decide
 ·intro h
  unfold binL at h
  split at h
  ·omega
  split at h
  ·omega
  split at h
  ·omega
  split at h
  ·assumption
  split at h <;> omega
theorem binL_cmp {s : Bs} : opCmp.contains s = true ↔ binL s = 4 := by
 constructor
 ·intro h
  simp only [opCmp, List.contains_cons, List.contains_nil, Bool.or_false, Bool.or_eq_true, beq_iff_eq] at h
  rcases h with rfl | rfl | rfl | rfl | rfl | rfl <;> decide
 ·intro h
  unfold binL at h
  split at h
  ·omega
  split at h
  ·omega
  split at h
  ·assumption
  split at h
  ·omega
  split at h <;> omega
theorem binL_and {s : Bs} : [wAnd].contains s = true ↔ binL s = 2 := by
 constructor
 ·intro h
  simp only [List.contains_cons, List.contains_nil, Bool.or_false, beq_iff_eq] at h
  subst h; decide
 ·intro h
  unfold binL at h
  split at h
  ·omega
  split at h
  ·have hh : s = wAnd := by assumption
   subst hh; rfl
  split at h
  ·omega
  split at h
  ·omega
  split at h <;> omega
theorem binL_or {s : Bs} : [wOr].contains s = true ↔ binL s = 1 := by
 constructor
 ·intro h
  simp only [List.contains_cons, List.contains_nil, Bool.or_false, beq_iff_eq] at h
  subst h; decide
 ·intro h
  unfold binL at h
  split at h
  ·have hh : s = wOr := by assumption
   subst hh; rfl
  split at h
  ·omega
  split at h
  ·omega
  split at h
  ·omega
  split at h <;> omega
theorem binL_cases (s : Bs) : binL s = 0 ∨ binL s = 1 ∨ binL s = 2 ∨ binL s = 4 ∨ binL s = 5 ∨ binL s = 6 := by
 unfold binL
 split
 ·simp
 split
 ·simp
 split
 ·simp
 split
 ·simp
 split <;> simp
theorem opK_lv {s : Bs} : opK s = if binL s = 1 ∨ binL s = 2 then 2 else 5 := by
 have h1 : s = wOr ↔ binL s = 1 := by rw [← binL_or]; simp
 have h2 : s = wAnd ↔ binL s = 2 := by rw [← binL_and]; simp
 unfold opK
 simp only [h1, h2]
theorem stop_no {L : Int} {r : List Tok} (h : Stop L r) {k : Int} (hk : k = 5 ∨ k = 2) {ops : List Bs} (hops : ∀ s, ops.contains s = true → L ≤ binL s) : ¬ (pKind r = k ∧ ops.contains (pText r) = true ∧ r ≠ []) := by
 rintro ⟨h1, h2, h3⟩
 cases r with
 | nil => exact h3 rfl
 | cons t r =>
  have h4 := (h t rfl).1
  have h5 := hops _ h2
  simp only [pKind] at h1
  simp only [pText] at h5
  unfold opLv at h4
  rw [if_pos (by rcases hk with rfl | rfl <;> simp [h1])] at h4
  omega
section
variable {e : Int} {E : Pars}
theorem lift (hC : EatsP E) {T : Tr} {w r : List Tok} : ∀ (L : Nat), 1 ≤ L → L ≤ 8 → Rd1 (PL e E (L + 1)) T w r → Begins ((L + 1 : Nat) : Int) w → Stop (L : Int) r → Rd1 (PL e E L) T w r := by
 intro L h1 h8 h hb hs ns
 obtain ⟨t, l, rfl, hf⟩ := hb
 have h := h
 match L, h1, h8 with
 | 1, _, _ => rw [show PL e E 1 = chainP 2 [wOr] (PL e E 2) from rfl, chain_from (PL_eats hC 2) h ns, chainF_stop (stop_no hs (.inr rfl) fun s h => by rw [binL_or.1 h]; decide)]
 | 2, _, _ => rw [show PL e E 2 = chainP 2 [wAnd] (PL e E 3) from rfl, chain_from (PL_eats hC 3) h ns, chainF_stop (stop_no hs (.inr rfl) fun s h => by rw [binL_and.1 h]; decide)]
 | 3, _, _ =>
  have := h ns
  show notP e E (t :: (l ++ r)) ns = _
  simp only [notP, hf.noNot, Bool.false_eq_true, if_false]
  exact this
 | 4, _, _ =>
  have := h ns
  show cmpP e E (t :: l ++ r) ns = _
  unfold cmpP
  rw [show sumP e E (t :: l ++ r) ns = _ from this]
  simp only [if_neg (stop_no hs (.inl rfl) (ops := opCmp) fun s h => by rw [binL_cmp.1 h]; decide)]
 | 5, _, _ => rw [show PL e E 5 = chainP 5 opAdd (PL e E 6) from rfl, chain_from (PL_eats hC 6) h ns, chainF_stop (stop_no hs (.inl rfl) fun s h => by rw [binL_add.1 h]; decide)]
 | 6, _, _ => rw [show PL e E 6 = chainP 5 opMul (PL e E 7) from rfl, chain_from (PL_eats hC 7) h ns, chainF_stop (stop_no hs (.inl rfl) fun s h => by rw [binL_mul.1 h]; decide)]
 | 7, _, _ =>
  have := h ns
  show unaryP e E (t :: (l ++ r)) ns = _
  simp only [unaryP, hf.noMi, Bool.false_eq_true, if_false]
  exact this
 | 8, _, _ =>
  have := h ns
  show postP e E (t :: l ++ r) ns = _
  unfold postP
  rw [show primP e E (t :: l ++ r) ns = _ from this]
  have hb : isSym sLB r = false := by
   cases r with
   | nil => rfl
   | cons x r => exact (hs x rfl).2.2 (by decide)
  simp only [postF_stop hb]
theorem lifts (hC : EatsP E) {T : Tr} {w r : List Tok} {L : Nat} (h1 : 1 ≤ L) (hs : Stop (L : Int) r) : ∀ (d : Nat), L + d ≤ 9 → Rd1 (PL e E (L + d)) T w r → Begins ((L + d : Nat) : Int) w → Rd1 (PL e E L) T w r
 | 0, _, h, _ => h
 | d + 1, h9, h, hb => by
  refine lifts hC h1 hs d (by omega) ?_ ?_
  ·exact lift hC (L + d) (by omega) (by omega) h hb (hs.mono (by omega))
  ·obtain ⟨t, l, hw, hf⟩ := hb
   exact ⟨t, l, hw, hf.mono (by omega)⟩
theorem lifts' (hC : EatsP E) {T : Tr} {w r : List Tok} {L M : Nat} (h1 : 1 ≤ L) (hLM : L ≤ M) (h9 : M ≤ 9) (hs : Stop (L : Int) r) (h : Rd1 (PL e E M) T w r) (hb : Begins (M : Int) w) : Rd1 (PL e E L) T w r := by
 obtain ⟨d, rfl⟩ := Nat.exists_eq_add_of_le hLM
 exact lifts hC h1 hs d h9 h hb
end
end Go.Proofs.YtglndfgmlminpaaGreatDoor
namespace Go.Proofs.YtglndfgmlminpaaGreatDoor
theorem stop_sy {L : Int} {s : Bs} {r : List Tok} (h : binL s < L) (h1 : s ≠ sLP) (h2 : s ≠ sLB) : Stop L (sy s :: r) := by
 intro t ht
 simp only [List.head?_cons, Option.mem_some_iff] at ht
 subst ht
 refine ⟨by simpa [opLv, tk] using h, ?_, fun _ => ?_⟩
 ·simp [isTk, tk, h1]
 ·simp [isTk, tk, h2]
theorem Begins.ne {L : Int} {w : List Tok} (h : Begins L w) : w ≠ [] := by obtain ⟨t, l, rfl, _⟩ := h; simp
theorem Begins.mono {L L' : Int} {w : List Tok} (h : Begins L w) (hl : L' ≤ L) : Begins L' w := by
 obtain ⟨t, l, hw, hf⟩ := h; exact ⟨t, l, hw, hf.mono hl⟩
theorem Begins.app {L : Int} {w r : List Tok} (h : Begins L w) : Begins L (w ++ r) := by
 obtain ⟨t, l, rfl, hf⟩ := h; exact ⟨t, l ++ r, rfl, hf⟩
theorem Begins.noClose {L : Int} {w : List Tok} (h : Begins L w) {s : Bs} (hs : s = sRP ∨ s = sRB ∨ s = sRC ∨ s = sSc ∨ s = sEq1) : isSym s w = false := by
 obtain ⟨t, l, rfl, hf⟩ := h; exact hf.noClose hs
theorem commaT_len : ∀ {ps : List (List Tok)}, (∀ p ∈ ps, p ≠ []) → ps.length ≤ (commaT ps).length
 | [], _ => by simp [commaT]
 | [p], h => by
  have := List.length_pos_iff.2 (h p (by simp))
  simp [commaT]; omega
 | p :: q :: l, h => by
  have h1 := List.length_pos_iff.2 (h p (by simp))
  have h2 := commaT_len (ps := q :: l) fun x hx => h x (by simp [hx])
  simp only [commaT, List.length_append, List.length_cons] at h2 ⊢
  omega
structure Well (E : Pars) (T : Tr) : Prop where
 rd : ∀ r, Stop 1 r → Rd1 E T T.tk r
 begins : Begins 1 T.tk
section
variable {e : Int} {E : Pars}
theorem paren_rd {T : Tr} (hT : Well E T) (r : List Tok) : Rd1 (primP e E) T (sy sLP :: (T.tk ++ [sy sRP])) r := by
 intro ns
 have h1 := hT.rd (sy sRP :: r) (stop_sy (by decide) (by decide) (by decide)) ns
 have e0 : primP e E (sy sLP :: (T.tk ++ [sy sRP]) ++ r) ns = (match E (T.tk ++ sy sRP :: r) ns with
   | .error o => .error o
   | .ok (i, r2, ns2) => match mustT e 5 sRP r2 with
    | .error o => .error o
    | .ok r3 => .ok (i, r3, ns2)) := by
  rw [List.cons_append, List.append_assoc]; rfl
 rw [e0, h1]
 rfl
theorem paren_begins (L : Int) (w : List Tok) : Begins L (sy sLP :: w) := ⟨_, _, rfl, .inr (.inr (.inr (.inr (.inr (.inl ⟨rfl, .inl rfl⟩)))))⟩
theorem listF_good {fin : Bs} (hfin : fin = sRP ∨ fin = sRB) {r : List Tok} : ∀ (Ts : List Tr) (T : Tr), (∀ X ∈ T :: Ts, Well E X) → ∀ (f : Nat) (l : List Int) (ns : List Nd), Ts.length + 1 ≤ f →
  listF e fin E f l (commaT ((T :: Ts).map Tr.tk) ++ sy fin :: r) ns = .ok (l ++ Tr.roots ns.length (T :: Ts), r, ns ++ Tr.flats ns.length (T :: Ts))
 | [], T, hT, f, l, ns, hf => by
  obtain ⟨f, rfl⟩ : ∃ g, f = g + 1 := ⟨f - 1, by simp at hf; omega⟩
  have h1 := (hT T (by simp)).rd (sy fin :: r) (by rcases hfin with rfl | rfl <;> exact stop_sy (by decide) (by decide) (by decide)) ns
  simp only [List.map_cons, List.map_nil, commaT, listF, h1, isTk_hd, if_true, List.tail_cons, Tr.roots, Tr.flats, List.append_nil]
 | T2 :: Ts, T, hT, f, l, ns, hf => by
  obtain ⟨f, rfl⟩ : ∃ g, f = g + 1 := ⟨f - 1, by simp at hf; omega⟩
  have h1 := (hT T (by simp)).rd (sy sCm :: (commaT ((T2 :: Ts).map Tr.tk) ++ sy fin :: r)) (stop_sy (by decide) (by decide) (by decide)) ns
  have h2 := listF_good hfin (r := r) Ts T2 (fun X hX => hT X (by simp [List.mem_cons.1 hX])) f (l ++ [((ns.length + T.size : Nat) : Int) - 1]) (ns ++ T.flat ns.length) (by simp at hf ⊢; omega)
  have hne : isSym fin (sy sCm :: (commaT ((T2 :: Ts).map Tr.tk) ++ sy fin :: r)) = false := by rcases hfin with rfl | rfl <;> rfl
  simp only [List.map_cons, commaT, List.append_assoc, List.cons_append] at h1 h2 hne ⊢
  simp only [listF, h1, hne, Bool.false_eq_true, if_false, isTk_hd, if_true, List.tail_cons]
  rw [h2]
  simp only [Tr.roots, Tr.flats, List.length_append, Tr.flat_length, List.nil_append]
theorem listP_good {fin : Bs} (hfin : fin = sRP ∨ fin = sRB) {Ts : List Tr} (hT : ∀ X ∈ Ts, Well E X) (r : List Tok) (ns : List Nd) :
  listP e fin E (commaT (Ts.map Tr.tk) ++ sy fin :: r) ns = .ok (Tr.roots ns.length Ts, r, ns ++ Tr.flats ns.length Ts) := by
 cases Ts with
 | nil => simp [commaT, listP, isTk_hd, Tr.roots, Tr.flats]
 | cons T Ts =>
  have hb : Begins 1 (commaT ((T :: Ts).map Tr.tk) ++ sy fin :: r) := by
   have := (hT T (by simp)).begins
   cases Ts with
   | nil => exact this.app
   | cons T2 Ts => simp only [List.map_cons, commaT, List.append_assoc]; exact this.app
  unfold listP
  rw [hb.noClose (by rcases hfin with rfl | rfl <;> simp)]
  have hlen := commaT_len (ps := (T :: Ts).map Tr.tk) fun p hp => by
   obtain ⟨X, hX, rfl⟩ := List.mem_map.1 hp
   exact (hT X hX).begins.ne
  simp only [Bool.false_eq_true, if_false]
  rw [listF_good hfin Ts T hT _ _ _ (by simp only [List.length_append, List.length_map, List.length_cons] at hlen ⊢; omega)]
  rfl
theorem keyF_good {r : List Tok} {a : Lab} (ha : a.kind = 7 ∧ a.text = [] ∧ a.val = 0) : ∀ (Ts : List Tr) (T : Tr) (ks : List Bs) (k : Bs), (∀ X ∈ T :: Ts, Well E X) → ks.length = Ts.length → ∀ (f : Nat) (ks0 : List Bs) (Ts0 : List Tr) (ns0 : List Nd), Ts.length + 1 ≤ f →
  a.keys = ks0 ++ k :: ks → ascB (ks0 ++ k :: ks) = true →
  keyF e E f ks0 (Tr.roots ns0.length Ts0) (commaT (keysT (k :: ks) ((T :: Ts).map Tr.tk)) ++ sy sRC :: r) (ns0 ++ Tr.flats ns0.length Ts0) = .ok (((ns0.length + (Tr.node a (Ts0 ++ T :: Ts)).size : Nat) : Int) - 1, r, ns0 ++ (Tr.node a (Ts0 ++ T :: Ts)).flat ns0.length) := by
 have asc : ∀ (ks0 : List Bs) (k : Bs) (ks : List Bs), ascB (ks0 ++ k :: ks) = true → ks0 = [] ∨ Op.bytesLess (ks0.getLastD []) k = true := by
  intro ks0
  induction ks0 with
  | nil => intro k ks _; exact .inl rfl
  | cons x ks0 ih =>
   intro k ks h
   right
   cases ks0 with
   | nil =>
    simp only [List.cons_append, List.nil_append, ascB, Bool.and_eq_true] at h
    exact h.1.2
   | cons y ks0 =>
    simp only [List.cons_append, ascB, Bool.and_eq_true] at h
    rcases ih k ks (by simpa using h.2) with h' | h'
    ·cases h'
    ·simpa using h'
 obtain ⟨ha1, ha2, ha3⟩ := ha
 intro Ts
 induction Ts with
 | nil =>
  intro T ks k hT hl f ks0 Ts0 ns0 hf hk hasc
  obtain ⟨f, rfl⟩ : ∃ g, f = g + 1 := ⟨f - 1, by simp at hf; omega⟩
  have hks : ks = [] := List.length_eq_zero_iff.1 (by simpa using hl)
  subst hks
  have h1 := (hT T (by simp)).rd (sy sRC :: r) (stop_sy (by decide) (by decide) (by decide)) (ns0 ++ Tr.flats ns0.length Ts0)
  have hc : pKind (tk 4 k :: sy sCl :: (T.tk ++ sy sRC :: r)) = 4 ∧ (tk 4 k :: sy sCl :: (T.tk ++ sy sRC :: r)) ≠ [] ∧ (ks0 = [] ∨ Op.bytesLess (ks0.getLastD []) (pText (tk 4 k :: sy sCl :: (T.tk ++ sy sRC :: r))) = true) := ⟨rfl, by simp, asc ks0 k [] hasc⟩
  simp only [List.map_cons, List.map_nil, keysT, commaT, List.cons_append]
  simp only [keyF, if_pos hc]
  simp only [List.tail_cons, mustT, isTk_hd, if_true, h1, pText]
  have := addN_tree (a := a) (ns := ns0) (Ts := Ts0 ++ [T]) (r := r) (l := Tr.roots ns0.length Ts0 ++ [(((ns0 ++ Tr.flats ns0.length Ts0).length + T.size : Nat) : Int) - 1]) (by simp [Tr.roots_append, Tr.roots, Tr.flats_length])
  rw [ha1, ha2, ha3, hk] at this
  rw [← this]
  simp only [Tr.flats_append, Tr.flats, List.append_nil, List.length_append, Tr.flats_length, List.append_assoc, tk]
 | cons T2 Ts ih =>
  intro T ks k hT hl f ks0 Ts0 ns0 hf hk hasc
  obtain ⟨f, rfl⟩ : ∃ g, f = g + 1 := ⟨f - 1, by simp at hf; omega⟩
  obtain ⟨k2, ks, rfl⟩ : ∃ k2 ks', ks = k2 :: ks' := by
   cases ks with
   | nil => simp at hl
   | cons k2 ks => exact ⟨k2, ks, rfl⟩
  have h1 := (hT T (by simp)).rd (sy sCm :: (commaT (keysT (k2 :: ks) ((T2 :: Ts).map Tr.tk)) ++ sy sRC :: r)) (stop_sy (by decide) (by decide) (by decide)) (ns0 ++ Tr.flats ns0.length Ts0)
  have h2 := ih T2 ks k2 (fun X hX => hT X (by simp [List.mem_cons.1 hX])) (by simpa using hl) f (ks0 ++ [k]) (Ts0 ++ [T]) ns0 (by simp at hf ⊢; omega) (by simpa using hk) (by simpa using hasc)
  have hc : ∀ q, pKind (tk 4 k :: q) = 4 ∧ (tk 4 k :: q) ≠ [] ∧ (ks0 = [] ∨ Op.bytesLess (ks0.getLastD []) (pText (tk 4 k :: q)) = true) := fun q => ⟨rfl, by simp, asc ks0 k _ hasc⟩
  have hne : ∀ q, isSym sRC (sy sCm :: q) = false := fun _ => rfl
  simp only [List.map_cons, keysT, commaT, List.append_assoc, List.cons_append, List.nil_append] at h1 h2 ⊢
  simp only [keyF, if_pos (hc _)]
  simp only [List.tail_cons, mustT, isTk_hd, if_true, h1, pText, hne, Bool.false_eq_true, if_false]
  rw [← h2]
  simp only [Tr.roots_append, Tr.roots, Tr.flats_append, Tr.flats, List.append_nil, List.length_append, Tr.flats_length, tk]
theorem keyP_good {r : List Tok} {a : Lab} (ha : a.kind = 7 ∧ a.text = [] ∧ a.val = 0) {Ts : List Tr} (hT : ∀ X ∈ Ts, Well E X) (hl : a.keys.length = Ts.length) (hasc : ascB a.keys = true) (ns : List Nd) :
  keyP e E (commaT (keysT a.keys (Ts.map Tr.tk)) ++ sy sRC :: r) ns = .ok (((ns.length + (Tr.node a Ts).size : Nat) : Int) - 1, r, ns ++ (Tr.node a Ts).flat ns.length) := by
 cases Ts with
 | nil =>
  have hk : a.keys = [] := List.length_eq_zero_iff.1 (by simpa using hl)
  have := addN_tree (a := a) (ns := ns) (Ts := []) (r := r) (l := []) rfl
  obtain ⟨ha1, ha2, ha3⟩ := ha
  rw [ha1, ha2, ha3, hk] at this
  simp only [Tr.flats, List.append_nil] at this
  simp only [hk, keysT, List.map_nil, commaT, List.nil_append, keyP, isTk_hd, if_true, List.tail_cons]
  exact this
 | cons T Ts =>
  obtain ⟨k, ks, hk⟩ : ∃ k ks, a.keys = k :: ks := by
   cases hk : a.keys with
   | nil => rw [hk] at hl; simp at hl
   | cons k ks => exact ⟨k, ks, rfl⟩
  have hb : isSym sRC (commaT (keysT (k :: ks) ((T :: Ts).map Tr.tk)) ++ sy sRC :: r) = false := by
   simp only [List.map_cons, keysT]
   cases hq : keysT ks (Ts.map Tr.tk) <;> rfl
  unfold keyP
  rw [hk, hb]
  simp only [Bool.false_eq_true, if_false]
  have hlen : Ts.length + 1 ≤ (commaT (keysT (k :: ks) ((T :: Ts).map Tr.tk)) ++ sy sRC :: r).length := by
   have h1 : ∀ (ks : List Bs) (ps : List (List Tok)), ks.length = ps.length → (keysT ks ps).length = ps.length ∧ ∀ p ∈ keysT ks ps, p ≠ [] := by
    intro ks
    induction ks with
    | nil => intro ps h; cases ps with
     | nil => exact ⟨rfl, fun p h => by cases h⟩
     | cons => simp at h
    | cons k ks ih =>
     intro ps h
     cases ps with
     | nil => simp at h
     | cons p ps =>
      obtain ⟨h2, h3⟩ := ih ps (by simpa using h)
      refine ⟨by simp [keysT, h2], fun q hq => ?_⟩
      simp only [keysT, List.mem_cons] at hq
      rcases hq with rfl | hq
      ·simp
      ·exact h3 q hq
   obtain ⟨h2, h3⟩ := h1 (k :: ks) ((T :: Ts).map Tr.tk) (by rw [← hk, hl]; simp)
   have := commaT_len h3
   rw [h2] at this
   simp only [List.length_append, List.length_map, List.length_cons] at this ⊢
   omega
  have := keyF_good (e := e) (E := E) (r := r) ha Ts T ks k hT (by rw [hk] at hl; simpa using hl) _ [] [] ns hlen (by simpa using hk) (by rw [hk] at hasc; simpa using hasc)
  simpa [Tr.roots, Tr.flats] using this
end
end Go.Proofs.YtglndfgmlminpaaGreatDoor
