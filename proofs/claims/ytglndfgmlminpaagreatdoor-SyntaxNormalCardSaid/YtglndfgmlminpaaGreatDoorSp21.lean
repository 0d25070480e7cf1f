/- Texts joined by pack.py: XLxP2 XSy0 XSyP0 -/
import Derived.Test.YtglndfgmlminpaaGreatDoorSp20
import Derived.Test.YtglndfgmlminpaaGreatDoorSp14
namespace Go.Proofs.YtglndfgmlminpaaGreatDoor
open Go.RowKit
theorem skip_rest : ∀ (b : Bool) (l : Bs), skip (l.drop (skp b l)) = 0
 | _, [] => by simp [skip, skp]
 | false, c :: l => by
  cases h1 : isBl c with
  | true => simp only [skp, h1, if_true, List.drop_succ_cons]; exact skip_rest false l
  | false =>
   cases h2 : c == 47 && l.head? == some 47 with
   | true => simp only [skp, h1, h2, if_true, Bool.false_eq_true, if_false, List.drop_succ_cons]; exact skip_rest true l
   | false => simp only [skp, h1, h2, Bool.false_eq_true, if_false, List.drop_zero]
 | true, c :: l => by
  cases h1 : c == 10 with
  | true => simp only [skp, h1, if_true, List.drop_succ_cons]; exact skip_rest false l
  | false => simp only [skp, h1, Bool.false_eq_true, if_false, List.drop_succ_cons]; exact skip_rest true l
def LxR : Bs → Nat → List Tok → Prop
 | L, _, [] => L = []
 | L, k, t :: ts => ∃ n, L ≠ [] ∧ skip L = 0 ∧ 1 ≤ n ∧ n ≤ L.length ∧ tok1 L = ({ t with at_ := 0 }, n, 0) ∧ t.at_ = k ∧ LxR (L.drop (n + skip (L.drop n))) (k + n + skip (L.drop n)) ts
theorem toksF_Rd : ∀ (f : Nat) (L : Bs) (k : Nat) (out : List Tok), L.length ≤ f → skip L = 0 → (toksF f L k out).2.2 = 0 → ∃ ts, toksF f L k out = (out ++ ts, 0, 0) ∧ LxR L k ts
 | 0, L, k, out, hf, _, _ => by
  have : L = [] := List.length_eq_zero_iff.1 (by omega)
  subst this
  exact ⟨[], by simp [toksF], rfl⟩
 | f + 1, [], k, out, _, _, _ => ⟨[], by simp [toksF], rfl⟩
 | f + 1, c :: r, k, out, hf, hs, h => by
  rw [toksF_succ] at h ⊢
  split at h
  ·simp at h
  rename_i h1
  rw [if_neg h1]
  split at h
  ·rename_i h2
   rw [if_pos h2]
   obtain ⟨l1, l2⟩ := tok1_len c r h2
   obtain ⟨t1, t2⟩ := tok1_text c r k h2
   generalize ht : tok1 (c :: r) = T at h h2 l1 l2 t1 t2 ⊢
   obtain ⟨t0, n, e⟩ := T
   simp only at h h2 l1 l2 t1 t2 ⊢
   subst h2
   have hlen : ((c :: r).drop (n + skip ((c :: r).drop n))).length ≤ f := by simp only [List.length_drop, List.length_cons] at *; omega
   have hsk : skip ((c :: r).drop (n + skip ((c :: r).drop n))) = 0 := by rw [← List.drop_drop]; exact skip_rest false _
   obtain ⟨ts, e1, e2⟩ := toksF_Rd f _ _ _ hlen hsk h
   refine ⟨{ t0 with at_ := k } :: ts, by rw [e1]; simp, n, by simp, hs, l1, l2, ?_, rfl, e2⟩
   rw [ht]
   obtain ⟨a, b, d, g⟩ := t0
   simp only at t2
   subst t2
   rfl
  ·rename_i h2; exact absurd h h2
theorem Rd_toksF : ∀ (ts : List Tok) (f : Nat) (L : Bs) (k : Nat) (out : List Tok), L.length ≤ f → LxR L k ts → out.length + ts.length ≤ 1000 → toksF f L k out = (out ++ ts, 0, 0)
 | [], f, L, k, out, _, h, _ => by
  have : L = [] := h
  subst this
  cases f <;> simp [toksF]
 | t :: ts, f, L, k, out, hf, h, ho => by
  obtain ⟨n, h1, h2, h3, h4, h5, h6, h7⟩ := h
  cases L with
  | nil => exact absurd rfl h1
  | cons c r =>
   cases f with
   | zero => simp at hf
   | succ f =>
    simp only [List.length_cons] at ho
    have hlen : ((c :: r).drop (n + skip ((c :: r).drop n))).length ≤ f := by simp only [List.length_drop, List.length_cons] at *; omega
    rw [toksF_succ, if_neg (by omega), h5, if_pos rfl]
    simp only
    rw [Rd_toksF ts f _ _ _ hlen h7 (by simp; omega)]
    simp only [List.append_assoc, List.singleton_append, Prod.mk.injEq, and_true]
    rw [← h6]
theorem tokens_Rd {s : Bs} (h : (tokens s).2.2 = 0) : ∃ ts, tokens s = (ts, 0, 0) ∧ s.length ≤ 4000 ∧ LxR (s.drop (skip s)) (skip s) ts := by
 unfold tokens at h ⊢
 split at h
 ·simp at h
 ·rename_i h1
  rw [if_neg h1]
  obtain ⟨ts, e1, e2⟩ := toksF_Rd s.length (s.drop (skip s)) (skip s) [] (by simp) (skip_rest false s) h
  exact ⟨ts, by rw [e1]; simp, by omega, e2⟩
theorem Rd_tokens {s : Bs} {ts : List Tok} (h1 : s.length ≤ 4000) (h2 : LxR (s.drop (skip s)) (skip s) ts) (h3 : ts.length ≤ 1000) : tokens s = (ts, 0, 0) := by
 unfold tokens
 rw [if_neg (by omega), Rd_toksF ts s.length _ _ [] (by simp) h2 (by simpa using h3)]
 simp
def own (s : Bs) : Nat → List Tok → Prop
 | _, [] => True
 | e, t :: ts => ∃ k : Nat, t.at_ = k ∧ (textT t).2 = 0 ∧ e ≤ k ∧ k + (textT t).1.length ≤ s.length ∧ (s.drop k).take (textT t).1.length = (textT t).1 ∧ own s (k + (textT t).1.length) ts
theorem own_le {s : Bs} {e e' : Nat} (he : e' ≤ e) : ∀ {ts : List Tok}, own s e ts → own s e' ts
 | [], _ => trivial
 | t :: ts, ⟨k, h1, h2, h3, h4⟩ => ⟨k, h1, h2, by omega, h4⟩
theorem Rd_own {s : Bs} : ∀ (ts : List Tok) (k : Nat), k ≤ s.length → LxR (s.drop k) k ts → own s k ts
 | [], k, _, _ => trivial
 | t :: ts, k, hk, ⟨n, h1, h2, h3, h4, h5, h6, h7⟩ => by
  have ht : textT t = ((s.drop k).take n, 0) := by
   cases hd : s.drop k with
   | nil => exact absurd hd h1
   | cons c r =>
    rw [hd] at h5
    have := (tok1_text c r 0 (by rw [h5])).1
    rw [h5] at this
    exact this
  rw [List.length_drop] at h4
  have hl : ((s.drop k).take n).length = n := by rw [List.length_take, List.length_drop]; omega
  rw [List.drop_drop] at h7
  have hz := skp_le false ((s.drop k).drop n)
  rw [List.length_drop, List.length_drop] at hz
  refine ⟨k, h6, by rw [ht], Nat.le_refl _, by rw [ht]; simp only [hl]; omega, by rw [ht]; simp only [hl], ?_⟩
  rw [ht]; simp only [hl]
  have h8 := Rd_own (s := s) ts (k + n + skip ((s.drop k).drop n)) (by unfold skip at *; omega) (by rw [show k + n + skip ((s.drop k).drop n) = k + (n + skip ((s.drop k).drop n)) by omega] at h7 ⊢; exact h7)
  exact own_le (by omega) h8
theorem toksF_err : ∀ (f : Nat) (L : Bs) (k : Nat) (out : List Tok), (toksF f L k out).2.2 ≠ 0 → (toksF f L k out).1 = [] ∧ (toksF f L k out).2.1 ≤ k + L.length
 | 0, L, k, out, h => by simp [toksF] at h
 | f + 1, [], k, out, h => by simp [toksF] at h
 | f + 1, c :: r, k, out, h => by
  rw [toksF_succ] at h ⊢
  split at h
  ·rename_i h1; rw [if_pos h1]; exact ⟨rfl, by simp⟩
  rename_i h1
  rw [if_neg h1]
  split at h
  ·rename_i h2
   rw [if_pos h2]
   obtain ⟨l1, l2⟩ := tok1_len c r h2
   obtain ⟨e1, e2⟩ := toksF_err f _ _ _ h
   refine ⟨e1, Nat.le_trans e2 ?_⟩
   have hz := skp_le false ((c :: r).drop (tok1 (c :: r)).2.1)
   rw [List.length_drop] at hz
   rw [List.length_drop]
   unfold skip
   omega
  ·rename_i h2
   rw [if_neg h2]
   exact ⟨rfl, Nat.add_le_add_left (tok1_le' c r) k⟩
theorem tokens_err {s : Bs} (h : (tokens s).2.2 ≠ 0) : (tokens s).1 = [] ∧ (tokens s).2.1 ≤ s.length := by
 unfold tokens at h ⊢
 split at h
 ·rename_i h1; rw [if_pos h1]; exact ⟨rfl, Nat.zero_le _⟩
 ·rename_i h1
  rw [if_neg h1]
  obtain ⟨e1, e2⟩ := toksF_err _ _ _ _ h
  have := skp_le false s
  rw [List.length_drop] at e2
  simp only [skip] at *
  exact ⟨e1, by omega⟩
theorem tokens_own {s : Bs} (h : (tokens s).2.2 = 0) : own s 0 (tokens s).1 := by
 obtain ⟨ts, e1, e2, e3⟩ := tokens_Rd h
 rw [e1]
 exact own_le (Nat.zero_le _) (Rd_own ts (skip s) (skp_le false s) e3)
def placed : Nat → List Tok → List Tok
 | _, [] => []
 | k, t :: ts => { t with at_ := k } :: placed (k + (textT t).1.length + 1) ts
theorem placed_len : ∀ (k : Nat) (l : List Tok), (placed k l).length = l.length
 | _, [] => rfl
 | k, t :: ts => by simp only [placed, List.length_cons, placed_len _ ts]
theorem texts_ok {t : Tok} {l : List Tok} (h : (texts (t :: l)).2 = 0) : (textT t).2 = 0 ∧ (texts l).2 = 0 ∧ (texts (t :: l)).1 = (textT t).1 :: (texts l).1 := by
 rw [texts_cons] at h ⊢
 split at h
 ·rename_i h1
  rw [if_pos h1]
  split at h
  ·rename_i h2; rw [if_pos h2]; exact ⟨h1, h2, rfl⟩
  ·rename_i h2; exact absurd h h2
 ·rename_i h1; exact absurd h h1
theorem join_Rd : ∀ (l : List Tok) (k : Nat), (texts l).2 = 0 → LxR (joinSp (texts l).1) k (placed k l) ∧ skip (joinSp (texts l).1) = 0
 | [], k, _ => ⟨rfl, rfl⟩
 | [t], k, h => by
  obtain ⟨h1, h2, h3⟩ := texts_ok h
  rw [h3]
  obtain ⟨x1, x2, x3⟩ := text_tok1 t (textT t).1 (by rw [← h1]) [] sep_nil
  rw [List.append_nil] at x2 x3
  show LxR (textT t).1 k (placed k [t]) ∧ skip (textT t).1 = 0
  have hl : (textT t).1.length ≠ 0 := by simpa using x1
  exact ⟨⟨(textT t).1.length, x1, x3, by omega, Nat.le_refl _, x2, rfl, by
   rw [List.drop_eq_nil_of_le (by omega)]; rfl⟩, x3⟩
 | t :: u :: ts, k, h => by
  obtain ⟨h1, h2, h3⟩ := texts_ok h
  obtain ⟨g1, g2, g3⟩ := texts_ok h2
  obtain ⟨r1, r2⟩ := join_Rd (u :: ts) (k + (textT t).1.length + 1) h2
  have hj : joinSp (texts (t :: u :: ts)).1 = (textT t).1 ++ 32 :: joinSp (texts (u :: ts)).1 := by rw [h3, g3]; rfl
  rw [hj]
  generalize hJ : joinSp (texts (u :: ts)).1 = J at *
  obtain ⟨x1, x2, x3⟩ := text_tok1 t (textT t).1 (by rw [← h1]) (32 :: J) (fun c hc => by simp at hc; subst hc; rfl)
  have hl : (textT t).1.length ≠ 0 := by simpa using x1
  have hs : skip (32 :: J) = 1 := by
   show skp false (32 :: J) = 1
   simp only [skp, show isBl 32 = true from rfl, if_true]
   show skip J + 1 = 1
   rw [r2]
  refine ⟨⟨(textT t).1.length, by simp, x3, by omega, by simp, x2, rfl, ?_⟩, x3⟩
  rw [List.drop_left' rfl, hs, ← List.drop_drop, List.drop_left' rfl]
  exact r1
theorem join_back {l : List Tok} {s : Bs} (h : joinT l = (s, 0)) : tokens s = (placed 0 l, 0, 0) ∧ (texts l).2 = 0 ∧ l.length ≤ 1000 := by
 unfold joinT at h
 split at h
 ·cases h
 rename_i h1
 split at h
 ·rename_i h2; exact absurd (congrArg Prod.snd h) h2
 rename_i h2
 have h2 : (texts l).2 = 0 := by simpa using h2
 split at h
 ·cases h
 rename_i h3
 have hs : joinSp (texts l).1 = s := congrArg Prod.fst h
 obtain ⟨r1, r2⟩ := join_Rd l 0 h2
 rw [hs] at r1 r2 h3
 refine ⟨Rd_tokens (by omega) ?_ (by rw [placed_len]; omega), h2, by omega⟩
 rw [r2]
 exact r1
end Go.Proofs.YtglndfgmlminpaaGreatDoor
namespace Go.Proofs.YtglndfgmlminpaaGreatDoor
structure Nd where
 kind : Int
 text : Bs
 val : Int
 keys : List Bs
 kids : List Int
structure Fc where
 name : Bs
 params : List Bs
 body : Int
structure Pg where
 nodes : List Nd
 funcs : List Fc
abbrev PRes (α : Type) := Except Int (α × List Tok × List Nd)
def offT (e : Int) : List Tok → Int
 | t :: _ => t.at_
 | [] => e
def isTk (k : Int) (s : Bs) : List Tok → Bool
 | t :: _ => decide (t.kind = k) && (t.text == s)
 | [] => false
abbrev isSym (s : Bs) (r : List Tok) : Bool := isTk 5 s r
abbrev isWrd (s : Bs) (r : List Tok) : Bool := isTk 2 s r
def sLP : Bs := [40]
def sRP : Bs := [41]
def sLB : Bs := [91]
def sRB : Bs := [93]
def sLC : Bs := [123]
def sRC : Bs := [125]
def sCm : Bs := [44]
def sCl : Bs := [58]
def sSc : Bs := [59]
def sEq1 : Bs := [61]
def sMi : Bs := [45]
def wFunc : Bs := [102, 117, 110, 99]
def wLet : Bs := [108, 101, 116]
def wIf : Bs := [105, 102]
def wElse : Bs := [101, 108, 115, 101]
def wWhile : Bs := [119, 104, 105, 108, 101]
def wReturn : Bs := [114, 101, 116, 117, 114, 110]
def wAnd : Bs := [97, 110, 100]
def wOr : Bs := [111, 114]
def wNot : Bs := [110, 111, 116]
def wNull : Bs := [110, 117, 108, 108]
def wTrue : Bs := [116, 114, 117, 101]
def wFalse : Bs := [102, 97, 108, 115, 101]
def opMul : List Bs := [[42], [47], [37]]
def opAdd : List Bs := [[43], [45]]
def opCmp : List Bs := [[61, 61], [33, 61], [60], [60, 61], [62], [62, 61]]
def ndM (kind : Int) (text : Bs) (val : Int) (kids : List Int) : Nd := ⟨kind, text, val, [], kids⟩
def addN (n : Nd) (r : List Tok) (ns : List Nd) : PRes Int := .ok ((ns.length : Int), r, ns ++ [n])
def mustT (e : Int) (k : Int) (s : Bs) (r : List Tok) : Except Int (List Tok) := if isTk k s r then .ok r.tail else .error (offT e r)
def pKind : List Tok → Int
 | t :: _ => t.kind
 | [] => 0
def pText : List Tok → Bs
 | t :: _ => t.text
 | [] => []
def mustK (e : Int) (k : Int) (r : List Tok) : Except Int (Bs × List Tok) := if pKind r = k ∧ r ≠ [] then .ok (pText r, r.tail) else .error (offT e r)
abbrev Pars := List Tok → List Nd → PRes Int
def listF (e : Int) (fin : Bs) (E : Pars) : Nat → List Int → List Tok → List Nd → PRes (List Int)
 | 0, _, r, _ => .error (offT e r)
 | f + 1, l, r, ns => match E r ns with
  | .error o => .error o
  | .ok (i, r1, ns1) =>
   if isSym fin r1 then .ok (l ++ [i], r1.tail, ns1)
   else if isSym sCm r1 then listF e fin E f (l ++ [i]) r1.tail ns1
   else .error (offT e r1)
def listP (e : Int) (fin : Bs) (E : Pars) (r : List Tok) (ns : List Nd) : PRes (List Int) :=
 if isSym fin r then .ok ([], r.tail, ns) else listF e fin E r.length [] r ns
def keyF (e : Int) (E : Pars) : Nat → List Bs → List Int → List Tok → List Nd → PRes Int
 | 0, _, _, r, _ => .error (offT e r)
 | f + 1, ks, l, r, ns =>
  if pKind r = 4 ∧ r ≠ [] ∧ (ks = [] ∨ Op.bytesLess (ks.getLastD []) (pText r) = true) then
   (match mustT e 5 sCl r.tail with
   | .error o => .error o
   | .ok r1 => match E r1 ns with
    | .error o => .error o
    | .ok (i, r2, ns2) =>
     if isSym sRC r2 then addN ⟨7, [], 0, ks ++ [pText r], l ++ [i]⟩ r2.tail ns2
     else if isSym sCm r2 then keyF e E f (ks ++ [pText r]) (l ++ [i]) r2.tail ns2
     else .error (offT e r2))
  else .error (offT e r)
def keyP (e : Int) (E : Pars) (r : List Tok) (ns : List Nd) : PRes Int :=
 if isSym sRC r then addN ⟨7, [], 0, [], []⟩ r.tail ns else keyF e E r.length [] [] r ns
def primP (e : Int) (E : Pars) (r : List Tok) (ns : List Nd) : PRes Int :=
 match r with
 | [] => .error e
 | t :: r1 =>
  if t.kind = 3 then addN (ndM 3 [] t.val []) r1 ns
  else if t.kind = 4 then addN (ndM 4 t.text 0 []) r1 ns
  else if isWrd wNull r then addN (ndM 1 [] 0 []) r1 ns
  else if isWrd wTrue r then addN (ndM 2 [] 1 []) r1 ns
  else if isWrd wFalse r then addN (ndM 2 [] 0 []) r1 ns
  else if t.kind = 1 then
   (if isSym sLP r1 then (match listP e sRP E r1.tail ns with
    | .error o => .error o
    | .ok (l, r2, ns2) => addN (ndM 11 t.text 0 l) r2 ns2)
   else addN (ndM 5 t.text 0 []) r1 ns)
  else if t.kind = 6 then
   (match mustT e 5 sLP r1 with
   | .error o => .error o
   | .ok r2 => match listP e sRP E r2 ns with
    | .error o => .error o
    | .ok (l, r3, ns3) => addN (ndM 12 t.text 0 l) r3 ns3)
  else if isSym sLB r then
   (match listP e sRB E r1 ns with
   | .error o => .error o
   | .ok (l, r2, ns2) => addN (ndM 6 [] 0 l) r2 ns2)
  else if isSym sLC r then keyP e E r1 ns
  else if isSym sLP r then
   (match E r1 ns with
   | .error o => .error o
   | .ok (i, r2, ns2) => match mustT e 5 sRP r2 with
    | .error o => .error o
    | .ok r3 => .ok (i, r3, ns2))
  else .error t.at_
def postF (e : Int) (E : Pars) : Nat → Int → List Tok → List Nd → PRes Int
 | 0, i, r, ns => .ok (i, r, ns)
 | f + 1, i, r, ns =>
  if isSym sLB r then
   (match E r.tail ns with
   | .error o => .error o
   | .ok (k, r1, ns1) => match mustT e 5 sRB r1 with
    | .error o => .error o
    | .ok r2 => postF e E f (ns1.length : Int) r2 (ns1 ++ [ndM 10 [] 0 [i, k]]))
  else .ok (i, r, ns)
def postP (e : Int) (E : Pars) (r : List Tok) (ns : List Nd) : PRes Int :=
 match primP e E r ns with
 | .error o => .error o
 | .ok (i, r1, ns1) => postF e E r1.length i r1 ns1
def unaryP (e : Int) (E : Pars) : List Tok → List Nd → PRes Int
 | [], ns => postP e E [] ns
 | t :: r1, ns =>
  if isSym sMi (t :: r1) then
   (match unaryP e E r1 ns with
   | .error o => .error o
   | .ok (i, r2, ns2) => addN (ndM 8 sMi 0 [i]) r2 ns2)
  else postP e E (t :: r1) ns
def chainF (k : Int) (ops : List Bs) (O : Pars) : Nat → Int → List Tok → List Nd → PRes Int
 | 0, i, r, ns => .ok (i, r, ns)
 | f + 1, i, r, ns =>
  if pKind r = k ∧ ops.contains (pText r) = true ∧ r ≠ [] then
   (match O r.tail ns with
   | .error o => .error o
   | .ok (j, r1, ns1) => chainF k ops O f (ns1.length : Int) r1 (ns1 ++ [ndM 9 (pText r) 0 [i, j]]))
  else .ok (i, r, ns)
def chainP (k : Int) (ops : List Bs) (O : Pars) (r : List Tok) (ns : List Nd) : PRes Int :=
 match O r ns with
 | .error o => .error o
 | .ok (i, r1, ns1) => chainF k ops O r1.length i r1 ns1
def termP (e : Int) (E : Pars) : Pars := chainP 5 opMul (unaryP e E)
def sumP (e : Int) (E : Pars) : Pars := chainP 5 opAdd (termP e E)
def cmpP (e : Int) (E : Pars) (r : List Tok) (ns : List Nd) : PRes Int :=
 match sumP e E r ns with
 | .error o => .error o
 | .ok (i, r1, ns1) =>
  if pKind r1 = 5 ∧ opCmp.contains (pText r1) = true ∧ r1 ≠ [] then
   (match sumP e E r1.tail ns1 with
   | .error o => .error o
   | .ok (j, r2, ns2) => addN (ndM 9 (pText r1) 0 [i, j]) r2 ns2)
  else .ok (i, r1, ns1)
def notP (e : Int) (E : Pars) : List Tok → List Nd → PRes Int
 | [], ns => cmpP e E [] ns
 | t :: r1, ns =>
  if isWrd wNot (t :: r1) then
   (match notP e E r1 ns with
   | .error o => .error o
   | .ok (i, r2, ns2) => addN (ndM 8 wNot 0 [i]) r2 ns2)
  else cmpP e E (t :: r1) ns
def andP (e : Int) (E : Pars) : Pars := chainP 2 [wAnd] (notP e E)
def orP (e : Int) (E : Pars) : Pars := chainP 2 [wOr] (andP e E)
def exprP (e : Int) : Nat → Pars
 | 0 => fun r _ => .error (offT e r)
 | f + 1 => orP e (exprP e f)
def valueP (e : Int) (f : Nat) (kind : Int) (text : Bs) (r : List Tok) (ns : List Nd) : PRes Int :=
 match exprP e f r ns with
 | .error o => .error o
 | .ok (i, r1, ns1) => match mustT e 5 sSc r1 with
  | .error o => .error o
  | .ok r2 => addN (ndM kind text 0 [i]) r2 ns1
def assigns : List Tok → Bool
 | t :: r => decide (t.kind = 1) && isSym sEq1 r
 | [] => false
def stmtP (e : Int) (f : Nat) (Bl : Pars) (r : List Tok) (ns : List Nd) : PRes Int :=
 if isWrd wLet r then
  (match mustK e 1 r.tail with
  | .error o => .error o
  | .ok (s, r1) => match mustT e 5 sEq1 r1 with
   | .error o => .error o
   | .ok r2 => valueP e f 13 s r2 ns)
 else if isWrd wIf r then
  (match exprP e f r.tail ns with
  | .error o => .error o
  | .ok (c, r1, ns1) => match Bl r1 ns1 with
   | .error o => .error o
   | .ok (b, r2, ns2) =>
    if isWrd wElse r2 then
     (match Bl r2.tail ns2 with
     | .error o => .error o
     | .ok (b2, r3, ns3) => addN (ndM 15 [] 0 [c, b, b2]) r3 ns3)
    else addN (ndM 15 [] 0 [c, b]) r2 ns2)
 else if isWrd wWhile r then
  (match exprP e f r.tail ns with
  | .error o => .error o
  | .ok (c, r1, ns1) => match Bl r1 ns1 with
   | .error o => .error o
   | .ok (b, r2, ns2) => addN (ndM 16 [] 0 [c, b]) r2 ns2)
 else if isWrd wReturn r then valueP e f 17 [] r.tail ns
 else if assigns r then valueP e f 14 (pText r) r.tail.tail ns
 else valueP e f 18 [] r ns
def stmtsF (e : Int) (S : Pars) : Nat → List Int → List Tok → List Nd → PRes Int
 | 0, _, r, _ => .error (offT e r)
 | g + 1, l, r, ns =>
  if isSym sRC r then addN (ndM 19 [] 0 l) r.tail ns
  else match S r ns with
   | .error o => .error o
   | .ok (i, r1, ns1) => stmtsF e S g (l ++ [i]) r1 ns1
def blockP (e : Int) : Nat → Pars
 | 0 => fun r _ => .error (offT e r)
 | f + 1 => fun r ns => match mustT e 5 sLC r with
  | .error o => .error o
  | .ok r1 => stmtsF e (stmtP e (f + 1) (blockP e f)) (r1.length + 1) [] r1 ns
def parF (e : Int) : Nat → List Bs → List Tok → Except Int (List Bs × List Tok)
 | 0, _, r => .error (offT e r)
 | f + 1, l, r => match mustK e 1 r with
  | .error o => .error o
  | .ok (s, r1) =>
   if isSym sRP r1 then .ok (l ++ [s], r1.tail)
   else if isSym sCm r1 then parF e f (l ++ [s]) r1.tail
   else .error (offT e r1)
def parP (e : Int) (r : List Tok) : Except Int (List Bs × List Tok) := if isSym sRP r then .ok ([], r.tail) else parF e r.length [] r
def funcP (e : Int) (f : Nat) (r : List Tok) (ns : List Nd) : Except Int (Fc × List Tok × List Nd) :=
 match mustT e 2 wFunc r with
 | .error o => .error o
 | .ok r1 => match mustK e 1 r1 with
  | .error o => .error o
  | .ok (s, r2) => match mustT e 5 sLP r2 with
   | .error o => .error o
   | .ok r3 => match parP e r3 with
    | .error o => .error o
    | .ok (ps, r4) => match blockP e f r4 ns with
     | .error o => .error o
     | .ok (b, r5, ns5) => .ok (⟨s, ps, b⟩, r5, ns5)
def progF (e : Int) (f : Nat) : Nat → List Fc → List Tok → List Nd → Except Int Pg
 | 0, fs, _, ns => .ok ⟨ns, fs⟩
 | g + 1, fs, r, ns =>
  if r = [] then .ok ⟨ns, fs⟩
  else match funcP e f r ns with
   | .error o => .error o
   | .ok (x, r1, ns1) => progF e f g (fs ++ [x]) r1 ns1
def progP (e : Int) (r : List Tok) : Except Int Pg := progF e (r.length + 1) r.length [] r []
end Go.Proofs.YtglndfgmlminpaaGreatDoor
namespace Go.Proofs.YtglndfgmlminpaaGreatDoor
structure Eats (r r1 : List Tok) : Prop where
 lt : r1.length < r.length
 suf : r1 <:+ r
theorem Eats.trans {a b c : List Tok} (h : Eats a b) (k : Eats b c) : Eats a c := ⟨Nat.lt_trans k.lt h.lt, k.suf.trans h.suf⟩
theorem Eats.tail {a b : List Tok} (h : Eats a b) : Eats a b.tail := ⟨by have := h.lt; simp; omega, (List.tail_suffix b).trans h.suf⟩
theorem Eats.of_tail {r : List Tok} (h : r ≠ []) : Eats r r.tail := by
 cases r with
 | nil => exact absurd rfl h
 | cons t r => exact ⟨by simp, List.tail_suffix _⟩
theorem isTk_ne {k : Int} {s : Bs} {r : List Tok} (h : isTk k s r = true) : r ≠ [] := by rintro rfl; cases h
theorem Eats.of_tk {k : Int} {s : Bs} {r : List Tok} (h : isTk k s r = true) : Eats r r.tail := .of_tail (isTk_ne h)
def EatsP (p : Pars) : Prop := ∀ {r ns i r1 ns1}, p r ns = .ok (i, r1, ns1) → Eats r r1
theorem mustT_eats {e k : Int} {s : Bs} {r r1 : List Tok} (h : mustT e k s r = .ok r1) : Eats r r1 := by
 unfold mustT at h
 split at h
 ·rename_i hk; cases h; exact .of_tk hk
 ·cases h
theorem mustK_eats {e k : Int} {r r1 : List Tok} {s : Bs} (h : mustK e k r = .ok (s, r1)) : Eats r r1 := by
 unfold mustK at h
 split at h
 ·rename_i hk; cases h; exact .of_tail hk.2
 ·cases h
theorem addN_ok {n : Nd} {r r1 : List Tok} {ns ns1 : List Nd} {i : Int} (h : addN n r ns = .ok (i, r1, ns1)) : r1 = r ∧ ns1 = ns ++ [n] ∧ i = (ns.length : Int) := by
 unfold addN at h; cases h; exact ⟨rfl, rfl, rfl⟩
section
variable {e : Int} {E : Pars} (hE : EatsP E)
include hE
theorem listF_eats {fin : Bs} : ∀ (f : Nat) {l : List Int} {r : List Tok} {ns : List Nd} {l1 : List Int} {r1 : List Tok} {ns1 : List Nd}, listF e fin E f l r ns = .ok (l1, r1, ns1) → Eats r r1
 | 0, l, r, ns, l1, r1, ns1, h => by cases h
 | f + 1, l, r, ns, l1, r1, ns1, h => by
  simp only [listF] at h
  split at h
  ·cases h
  ·rename_i i r2 ns2 h2
   have h3 := hE h2
   split at h
   ·cases h; exact h3.tail
   ·split at h
    ·rename_i hc
     exact (h3.trans (.of_tk hc)).trans (listF_eats f h)
    ·cases h
theorem listP_eats {fin : Bs} {r r1 : List Tok} {ns ns1 : List Nd} {l : List Int} (h : listP e fin E r ns = .ok (l, r1, ns1)) : Eats r r1 := by
 unfold listP at h
 split at h
 ·rename_i hk; cases h; exact .of_tk hk
 ·exact listF_eats hE _ h
theorem keyF_eats : ∀ (f : Nat) {ks : List Bs} {l : List Int} {r : List Tok} {ns : List Nd} {i : Int} {r1 : List Tok} {ns1 : List Nd}, keyF e E f ks l r ns = .ok (i, r1, ns1) → Eats r r1
 | 0, ks, l, r, ns, i, r1, ns1, h => by cases h
 | f + 1, ks, l, r, ns, i, r1, ns1, h => by
  simp only [keyF] at h
  split at h
  rotate_left
  ·cases h
  rename_i hk
  split at h
  ·cases h
  rename_i r2 h2
  split at h
  ·cases h
  rename_i j r3 ns3 h3
  have h4 := ((Eats.of_tail hk.2.1).trans (mustT_eats h2)).trans (hE h3)
  split at h
  ·obtain ⟨rfl, _⟩ := addN_ok h
   exact h4.tail
  ·split at h
   ·rename_i hc
    exact (h4.trans (.of_tk hc)).trans (keyF_eats f h)
   ·cases h
theorem keyP_eats {r r1 : List Tok} {ns ns1 : List Nd} {i : Int} (h : keyP e E r ns = .ok (i, r1, ns1)) : Eats r r1 := by
 unfold keyP at h
 split at h
 ·rename_i hk
  obtain ⟨rfl, _⟩ := addN_ok h
  exact .of_tk hk
 ·exact keyF_eats hE _ h
theorem primP_eats : EatsP (primP e E) := by
 intro r ns i r1 ns1 h
 unfold primP at h
 cases r with
 | nil => cases h
 | cons t r =>
  have h0 : Eats (t :: r) r := .of_tail (by simp)
  have add : ∀ {n : Nd} {r' : List Tok} {ns' : List Nd}, Eats (t :: r) r' → addN n r' ns' = .ok (i, r1, ns1) → Eats (t :: r) r1 := fun h1 h2 => by
   obtain ⟨rfl, _⟩ := addN_ok h2; exact h1
  dsimp only at h
  split at h
  ·exact add h0 h
  split at h
  ·exact add h0 h
  split at h
  ·exact add h0 h
  split at h
  ·exact add h0 h
  split at h
  ·exact add h0 h
  split at h
  ·split at h
   ·rename_i hk
    split at h
    ·cases h
    ·rename_i h2
     exact add ((h0.trans (.of_tk hk)).trans (listP_eats hE h2)) h
   ·exact add h0 h
  split at h
  ·split at h
   ·cases h
   ·rename_i h2
    split at h
    ·cases h
    ·rename_i h3
     exact add ((h0.trans (mustT_eats h2)).trans (listP_eats hE h3)) h
  split at h
  ·split at h
   ·cases h
   ·rename_i h2
    exact add (h0.trans (listP_eats hE h2)) h
  split at h
  ·exact h0.trans (keyP_eats hE h)
  split at h
  ·split at h
   ·cases h
   ·rename_i h2
    split at h
    ·cases h
    ·rename_i h3
     cases h
     exact (h0.trans (hE h2)).trans (mustT_eats h3)
  ·cases h
theorem postF_eats : ∀ (f : Nat) {i : Int} {r : List Tok} {ns : List Nd} {j : Int} {r1 : List Tok} {ns1 : List Nd}, postF e E f i r ns = .ok (j, r1, ns1) → r1 = r ∨ Eats r r1
 | 0, i, r, ns, j, r1, ns1, h => by cases h; exact .inl rfl
 | f + 1, i, r, ns, j, r1, ns1, h => by
  simp only [postF] at h
  split at h
  ·rename_i hk
   split at h
   ·cases h
   rename_i h2
   split at h
   ·cases h
   rename_i h3
   have h4 := ((Eats.of_tk hk).trans (hE h2)).trans (mustT_eats h3)
   rcases postF_eats f h with rfl | h5
   ·exact .inr h4
   ·exact .inr (h4.trans h5)
  ·cases h; exact .inl rfl
theorem postP_eats : EatsP (postP e E) := by
 intro r ns i r1 ns1 h
 unfold postP at h
 split at h
 ·cases h
 ·rename_i h2
  rcases postF_eats hE _ h with rfl | h3
  ·exact primP_eats hE h2
  ·exact (primP_eats hE h2).trans h3
theorem unaryP_eats : EatsP (unaryP e E) := by
 intro r
 induction r with
 | nil => intro ns i r1 ns1 h; exact postP_eats hE h
 | cons t r ih =>
  intro ns i r1 ns1 h
  simp only [unaryP] at h
  split at h
  ·split at h
   ·cases h
   ·rename_i h2
    obtain ⟨rfl, _⟩ := addN_ok h
    exact (Eats.of_tail (r := t :: r) (by simp)).trans (ih h2)
  ·exact postP_eats hE h
end
theorem chainF_eats {k : Int} {ops : List Bs} {O : Pars} (hO : EatsP O) : ∀ (f : Nat) {i : Int} {r : List Tok} {ns : List Nd} {j : Int} {r1 : List Tok} {ns1 : List Nd}, chainF k ops O f i r ns = .ok (j, r1, ns1) → r1 = r ∨ Eats r r1
 | 0, i, r, ns, j, r1, ns1, h => by cases h; exact .inl rfl
 | f + 1, i, r, ns, j, r1, ns1, h => by
  simp only [chainF] at h
  split at h
  ·rename_i hk
   split at h
   ·cases h
   rename_i h2
   have h4 := (Eats.of_tail hk.2.2).trans (hO h2)
   rcases chainF_eats hO f h with rfl | h5
   ·exact .inr h4
   ·exact .inr (h4.trans h5)
  ·cases h; exact .inl rfl
theorem chainP_eats {k : Int} {ops : List Bs} {O : Pars} (hO : EatsP O) : EatsP (chainP k ops O) := by
 intro r ns i r1 ns1 h
 unfold chainP at h
 split at h
 ·cases h
 ·rename_i h2
  rcases chainF_eats hO _ h with rfl | h3
  ·exact hO h2
  ·exact (hO h2).trans h3
section
variable {e : Int} {E : Pars} (hE : EatsP E)
include hE
theorem termP_eats : EatsP (termP e E) := chainP_eats (unaryP_eats hE)
theorem sumP_eats : EatsP (sumP e E) := chainP_eats (termP_eats hE)
theorem cmpP_eats : EatsP (cmpP e E) := by
 intro r ns i r1 ns1 h
 unfold cmpP at h
 split at h
 ·cases h
 ·rename_i h2
  have h3 := sumP_eats hE h2
  split at h
  ·rename_i hk
   split at h
   ·cases h
   ·rename_i h4
    obtain ⟨rfl, _⟩ := addN_ok h
    exact (h3.trans (.of_tail hk.2.2)).trans (sumP_eats hE h4)
  ·cases h; exact h3
theorem notP_eats : EatsP (notP e E) := by
 intro r
 induction r with
 | nil => intro ns i r1 ns1 h; exact cmpP_eats hE h
 | cons t r ih =>
  intro ns i r1 ns1 h
  simp only [notP] at h
  split at h
  ·split at h
   ·cases h
   ·rename_i h2
    obtain ⟨rfl, _⟩ := addN_ok h
    exact (Eats.of_tail (r := t :: r) (by simp)).trans (ih h2)
  ·exact cmpP_eats hE h
theorem andP_eats : EatsP (andP e E) := chainP_eats (notP_eats hE)
theorem orP_eats : EatsP (orP e E) := chainP_eats (andP_eats hE)
end
theorem exprP_eats {e : Int} : ∀ f, EatsP (exprP e f)
 | 0 => fun h => by cases h
 | f + 1 => orP_eats (exprP_eats f)
theorem valueP_eats {e : Int} {f : Nat} {kind : Int} {text : Bs} : EatsP (valueP e f kind text) := by
 intro r ns i r1 ns1 h
 unfold valueP at h
 split at h
 ·cases h
 ·rename_i h2
  split at h
  ·cases h
  ·rename_i h3
   obtain ⟨rfl, _⟩ := addN_ok h
   exact (exprP_eats f h2).trans (mustT_eats h3)
theorem stmtP_eats {e : Int} {f : Nat} {Bl : Pars} (hB : EatsP Bl) : EatsP (stmtP e f Bl) := by
 intro r ns i r1 ns1 h
 unfold stmtP at h
 split at h
 ·rename_i hk
  split at h
  ·cases h
  rename_i h2
  split at h
  ·cases h
  rename_i h3
  exact (((Eats.of_tk hk).trans (mustK_eats h2)).trans (mustT_eats h3)).trans (valueP_eats h)
 split at h
 ·rename_i hk
  split at h
  ·cases h
  rename_i h2
  split at h
  ·cases h
  rename_i h3
  have h4 := ((Eats.of_tk hk).trans (exprP_eats f h2)).trans (hB h3)
  split at h
  ·rename_i hk2
   split at h
   ·cases h
   rename_i h5
   obtain ⟨rfl, _⟩ := addN_ok h
   exact (h4.trans (.of_tk hk2)).trans (hB h5)
  ·obtain ⟨rfl, _⟩ := addN_ok h
   exact h4
 split at h
 ·rename_i hk
  split at h
  ·cases h
  rename_i h2
  split at h
  ·cases h
  rename_i h3
  obtain ⟨rfl, _⟩ := addN_ok h
  exact ((Eats.of_tk hk).trans (exprP_eats f h2)).trans (hB h3)
 split at h
 ·rename_i hk
  exact (Eats.of_tk hk).trans (valueP_eats h)
 split at h
 ·rename_i hk
  cases r with
  | nil => cases hk
  | cons t r =>
   simp only [assigns, Bool.and_eq_true] at hk
   exact ((Eats.of_tail (r := t :: r) (by simp)).trans (.of_tk hk.2)).trans (valueP_eats h)
 ·exact valueP_eats h
theorem stmtsF_eats {e : Int} {S : Pars} (hS : EatsP S) : ∀ (g : Nat) {l : List Int} {r : List Tok} {ns : List Nd} {i : Int} {r1 : List Tok} {ns1 : List Nd}, stmtsF e S g l r ns = .ok (i, r1, ns1) → Eats r r1
 | 0, l, r, ns, i, r1, ns1, h => by cases h
 | g + 1, l, r, ns, i, r1, ns1, h => by
  simp only [stmtsF] at h
  split at h
  ·rename_i hk
   obtain ⟨rfl, _⟩ := addN_ok h
   exact .of_tk hk
  ·split at h
   ·cases h
   ·rename_i h2
    exact (hS h2).trans (stmtsF_eats hS g h)
theorem blockP_eats {e : Int} : ∀ f, EatsP (blockP e f)
 | 0 => fun h => by cases h
 | f + 1 => fun h => by
  simp only [blockP] at h
  split at h
  ·cases h
  ·rename_i h2
   exact (mustT_eats h2).trans (stmtsF_eats (stmtP_eats (blockP_eats f)) _ h)
theorem parF_eats {e : Int} : ∀ (f : Nat) {l : List Bs} {r : List Tok} {l1 : List Bs} {r1 : List Tok}, parF e f l r = .ok (l1, r1) → Eats r r1
 | 0, l, r, l1, r1, h => by cases h
 | f + 1, l, r, l1, r1, h => by
  simp only [parF] at h
  split at h
  ·cases h
  ·rename_i h2
   split at h
   ·rename_i hk
    cases h
    exact (mustK_eats h2).trans (.of_tk hk)
   ·split at h
    ·rename_i hk
     exact ((mustK_eats h2).trans (.of_tk hk)).trans (parF_eats f h)
    ·cases h
theorem parP_eats {e : Int} {r : List Tok} {l1 : List Bs} {r1 : List Tok} (h : parP e r = .ok (l1, r1)) : Eats r r1 := by
 unfold parP at h
 split at h
 ·rename_i hk; cases h; exact .of_tk hk
 ·exact parF_eats _ h
theorem funcP_eats {e : Int} {f : Nat} {r : List Tok} {ns : List Nd} {x : Fc} {r1 : List Tok} {ns1 : List Nd} (h : funcP e f r ns = .ok (x, r1, ns1)) : Eats r r1 := by
 unfold funcP at h
 split at h
 ·cases h
 rename_i h1
 split at h
 ·cases h
 rename_i h2
 split at h
 ·cases h
 rename_i h3
 split at h
 ·cases h
 rename_i h4
 split at h
 ·cases h
 rename_i h5
 cases h
 exact ((((mustT_eats h1).trans (mustK_eats h2)).trans (mustT_eats h3)).trans (parP_eats h4)).trans (blockP_eats f h5)
end Go.Proofs.YtglndfgmlminpaaGreatDoor
