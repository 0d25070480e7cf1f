/- Texts joined by pack.py: XSy0 XSyP0 XSyP1 -/
import Derived.Test.YtglndfgmlminpaaGreatDoorSq14
set_option maxHeartbeats 4000000
namespace Go.Proofs.YtglndfgmlminpaaGreatDoor
section
structure Nd where
 kind : Int
 text : Bs
 val : Int
 keys : List Bs
 kids : List Int
structure Fc where
 name : Bs
 params : List Bs
 body : Int
structure Pg where
 nodes : List Nd
 funcs : List Fc
abbrev hq_ (α : Type) := Except Int (α × List Tok × List Nd)
def fh_ (e : Int) : List Tok → Int
 | t :: _ => t.at_
 | [] => e
def isTk (k : Int) (s : Bs) : List Tok → Bool
 | t :: _ => decide (t.kind = k) && (t.text == s)
 | [] => false
abbrev a8_ (s : Bs) (r : List Tok) : Bool := isTk 5 s r
abbrev jg_ (s : Bs) (r : List Tok) : Bool := isTk 2 s r
def sLP : Bs := [40]
def sRP : Bs := [41]
def sLB : Bs := [91]
def sRB : Bs := [93]
def sLC : Bs := [123]
def sRC : Bs := [125]
def sCm : Bs := [44]
def sCl : Bs := [58]
def sSc : Bs := [59]
def lb_ : Bs := [61]
def sMi : Bs := [45]
def kw_ : Bs := [102, 117, 110, 99]
def mb_ : Bs := [108, 101, 116]
def wIf : Bs := [105, 102]
def h0_ : Bs := [101, 108, 115, 101]
def ct_ : Bs := [119, 104, 105, 108, 101]
def b0_ : Bs := [114, 101, 116, 117, 114, 110]
def qc_ : Bs := [97, 110, 100]
def wOr : Bs := [111, 114]
def e9_ : Bs := [110, 111, 116]
def ec_ : Bs := [110, 117, 108, 108]
def eb_ : Bs := [116, 114, 117, 101]
def cy_ : Bs := [102, 97, 108, 115, 101]
def opMul : List Bs := [[42], [47], [37]]
def opAdd : List Bs := [[43], [45]]
def opCmp : List Bs := [[61, 61], [33, 61], [60], [60, 61], [62], [62, 61]]
def ndM (kind : Int) (text : Bs) (val : Int) (kids : List Int) : Nd := ⟨kind, text, val, [], kids⟩
def dx_ (n : Nd) (r : List Tok) (ns : List Nd) : hq_ Int := .ok ((ns.length : Int), r, ns ++ [n])
def d4_ (e : Int) (k : Int) (s : Bs) (r : List Tok) : Except Int (List Tok) := if isTk k s r then .ok r.tail else .error (fh_ e r)
def pKind : List Tok → Int
 | t :: _ => t.kind
 | [] => 0
def pText : List Tok → Bs
 | t :: _ => t.text
 | [] => []
def lk_ (e : Int) (k : Int) (r : List Tok) : Except Int (Bs × List Tok) := if pKind r = k ∧ r ≠ [] then .ok (pText r, r.tail) else .error (fh_ e r)
abbrev b2_ := List Tok → List Nd → hq_ Int
def je_ (e : Int) (fin : Bs) (E : b2_) : Nat → List Int → List Tok → List Nd → hq_ (List Int)
 | 0, _, r, _ => .error (fh_ e r)
 | f + 1, l, r, ns => match E r ns with
  | .error o => .error o
  | .ok (i, r1, ns1) =>
   if a8_ fin r1 then .ok (l ++ [i], r1.tail, ns1)
   else if a8_ sCm r1 then je_ e fin E f (l ++ [i]) r1.tail ns1
   else .error (fh_ e r1)
def er_ (e : Int) (fin : Bs) (E : b2_) (r : List Tok) (ns : List Nd) : hq_ (List Int) :=
 if a8_ fin r then .ok ([], r.tail, ns) else je_ e fin E r.length [] r ns
def keyF (e : Int) (E : b2_) : Nat → List Bs → List Int → List Tok → List Nd → hq_ Int
 | 0, _, _, r, _ => .error (fh_ e r)
 | f + 1, ks, l, r, ns =>
  if pKind r = 4 ∧ r ≠ [] ∧ (ks = [] ∨ Op.bytesLess (ks.getLastD []) (pText r) = true) then
   (match d4_ e 5 sCl r.tail with
   | .error o => .error o
   | .ok r1 => match E r1 ns with
    | .error o => .error o
    | .ok (i, r2, ns2) =>
     if a8_ sRC r2 then dx_ ⟨7, [], 0, ks ++ [pText r], l ++ [i]⟩ r2.tail ns2
     else if a8_ sCm r2 then keyF e E f (ks ++ [pText r]) (l ++ [i]) r2.tail ns2
     else .error (fh_ e r2))
  else .error (fh_ e r)
def keyP (e : Int) (E : b2_) (r : List Tok) (ns : List Nd) : hq_ Int :=
 if a8_ sRC r then dx_ ⟨7, [], 0, [], []⟩ r.tail ns else keyF e E r.length [] [] r ns
def hi_ (e : Int) (E : b2_) (r : List Tok) (ns : List Nd) : hq_ Int :=
 match r with
 | [] => .error e
 | t :: r1 =>
  if t.kind = 3 then dx_ (ndM 3 [] t.val []) r1 ns
  else if t.kind = 4 then dx_ (ndM 4 t.text 0 []) r1 ns
  else if jg_ ec_ r then dx_ (ndM 1 [] 0 []) r1 ns
  else if jg_ eb_ r then dx_ (ndM 2 [] 1 []) r1 ns
  else if jg_ cy_ r then dx_ (ndM 2 [] 0 []) r1 ns
  else if t.kind = 1 then
   (if a8_ sLP r1 then (match er_ e sRP E r1.tail ns with
    | .error o => .error o
    | .ok (l, r2, ns2) => dx_ (ndM 11 t.text 0 l) r2 ns2)
   else dx_ (ndM 5 t.text 0 []) r1 ns)
  else if t.kind = 6 then
   (match d4_ e 5 sLP r1 with
   | .error o => .error o
   | .ok r2 => match er_ e sRP E r2 ns with
    | .error o => .error o
    | .ok (l, r3, ns3) => dx_ (ndM 12 t.text 0 l) r3 ns3)
  else if a8_ sLB r then
   (match er_ e sRB E r1 ns with
   | .error o => .error o
   | .ok (l, r2, ns2) => dx_ (ndM 6 [] 0 l) r2 ns2)
  else if a8_ sLC r then keyP e E r1 ns
  else if a8_ sLP r then
   (match E r1 ns with
   | .error o => .error o
   | .ok (i, r2, ns2) => match d4_ e 5 sRP r2 with
    | .error o => .error o
    | .ok r3 => .ok (i, r3, ns2))
  else .error t.at_
def h6_ (e : Int) (E : b2_) : Nat → Int → List Tok → List Nd → hq_ Int
 | 0, i, r, ns => .ok (i, r, ns)
 | f + 1, i, r, ns =>
  if a8_ sLB r then
   (match E r.tail ns with
   | .error o => .error o
   | .ok (k, r1, ns1) => match d4_ e 5 sRB r1 with
    | .error o => .error o
    | .ok r2 => h6_ e E f (ns1.length : Int) r2 (ns1 ++ [ndM 10 [] 0 [i, k]]))
  else .ok (i, r, ns)
def gd_ (e : Int) (E : b2_) (r : List Tok) (ns : List Nd) : hq_ Int :=
 match hi_ e E r ns with
 | .error o => .error o
 | .ok (i, r1, ns1) => h6_ e E r1.length i r1 ns1
def do_ (e : Int) (E : b2_) : List Tok → List Nd → hq_ Int
 | [], ns => gd_ e E [] ns
 | t :: r1, ns =>
  if a8_ sMi (t :: r1) then
   (match do_ e E r1 ns with
   | .error o => .error o
   | .ok (i, r2, ns2) => dx_ (ndM 8 sMi 0 [i]) r2 ns2)
  else gd_ e E (t :: r1) ns
def cq_ (k : Int) (ops : List Bs) (O : b2_) : Nat → Int → List Tok → List Nd → hq_ Int
 | 0, i, r, ns => .ok (i, r, ns)
 | f + 1, i, r, ns =>
  if pKind r = k ∧ ops.contains (pText r) = true ∧ r ≠ [] then
   (match O r.tail ns with
   | .error o => .error o
   | .ok (j, r1, ns1) => cq_ k ops O f (ns1.length : Int) r1 (ns1 ++ [ndM 9 (pText r) 0 [i, j]]))
  else .ok (i, r, ns)
def by_ (k : Int) (ops : List Bs) (O : b2_) (r : List Tok) (ns : List Nd) : hq_ Int :=
 match O r ns with
 | .error o => .error o
 | .ok (i, r1, ns1) => cq_ k ops O r1.length i r1 ns1
def mj_ (e : Int) (E : b2_) : b2_ := by_ 5 opMul (do_ e E)
def sumP (e : Int) (E : b2_) : b2_ := by_ 5 opAdd (mj_ e E)
def cmpP (e : Int) (E : b2_) (r : List Tok) (ns : List Nd) : hq_ Int :=
 match sumP e E r ns with
 | .error o => .error o
 | .ok (i, r1, ns1) =>
  if pKind r1 = 5 ∧ opCmp.contains (pText r1) = true ∧ r1 ≠ [] then
   (match sumP e E r1.tail ns1 with
   | .error o => .error o
   | .ok (j, r2, ns2) => dx_ (ndM 9 (pText r1) 0 [i, j]) r2 ns2)
  else .ok (i, r1, ns1)
def pv_ (e : Int) (E : b2_) : List Tok → List Nd → hq_ Int
 | [], ns => cmpP e E [] ns
 | t :: r1, ns =>
  if jg_ e9_ (t :: r1) then
   (match pv_ e E r1 ns with
   | .error o => .error o
   | .ok (i, r2, ns2) => dx_ (ndM 8 e9_ 0 [i]) r2 ns2)
  else cmpP e E (t :: r1) ns
def andP (e : Int) (E : b2_) : b2_ := by_ 2 [qc_] (pv_ e E)
def orP (e : Int) (E : b2_) : b2_ := by_ 2 [wOr] (andP e E)
def dn_ (e : Int) : Nat → b2_
 | 0 => fun r _ => .error (fh_ e r)
 | f + 1 => orP e (dn_ e f)
def dy_ (e : Int) (f : Nat) (kind : Int) (text : Bs) (r : List Tok) (ns : List Nd) : hq_ Int :=
 match dn_ e f r ns with
 | .error o => .error o
 | .ok (i, r1, ns1) => match d4_ e 5 sSc r1 with
  | .error o => .error o
  | .ok r2 => dx_ (ndM kind text 0 [i]) r2 ns1
def assigns : List Tok → Bool
 | t :: r => decide (t.kind = 1) && a8_ lb_ r
 | [] => false
def mn_ (e : Int) (f : Nat) (Bl : b2_) (r : List Tok) (ns : List Nd) : hq_ Int :=
 if jg_ mb_ r then
  (match lk_ e 1 r.tail with
  | .error o => .error o
  | .ok (s, r1) => match d4_ e 5 lb_ r1 with
   | .error o => .error o
   | .ok r2 => dy_ e f 13 s r2 ns)
 else if jg_ wIf r then
  (match dn_ e f r.tail ns with
  | .error o => .error o
  | .ok (c, r1, ns1) => match Bl r1 ns1 with
   | .error o => .error o
   | .ok (b, r2, ns2) =>
    if jg_ h0_ r2 then
     (match Bl r2.tail ns2 with
     | .error o => .error o
     | .ok (b2, r3, ns3) => dx_ (ndM 15 [] 0 [c, b, b2]) r3 ns3)
    else dx_ (ndM 15 [] 0 [c, b]) r2 ns2)
 else if jg_ ct_ r then
  (match dn_ e f r.tail ns with
  | .error o => .error o
  | .ok (c, r1, ns1) => match Bl r1 ns1 with
   | .error o => .error o
   | .ok (b, r2, ns2) => dx_ (ndM 16 [] 0 [c, b]) r2 ns2)
 else if jg_ b0_ r then dy_ e f 17 [] r.tail ns
 else if assigns r then dy_ e f 14 (pText r) r.tail.tail ns
 else dy_ e f 18 [] r ns
def f9_ (e : Int) (S : b2_) : Nat → List Int → List Tok → List Nd → hq_ Int
 | 0, _, r, _ => .error (fh_ e r)
 | g + 1, l, r, ns =>
  if a8_ sRC r then dx_ (ndM 19 [] 0 l) r.tail ns
  else match S r ns with
   | .error o => .error o
   | .ok (i, r1, ns1) => f9_ e S g (l ++ [i]) r1 ns1
def d9_ (e : Int) : Nat → b2_
 | 0 => fun r _ => .error (fh_ e r)
 | f + 1 => fun r ns => match d4_ e 5 sLC r with
  | .error o => .error o
  | .ok r1 => f9_ e (mn_ e (f + 1) (d9_ e f)) (r1.length + 1) [] r1 ns
def parF (e : Int) : Nat → List Bs → List Tok → Except Int (List Bs × List Tok)
 | 0, _, r => .error (fh_ e r)
 | f + 1, l, r => match lk_ e 1 r with
  | .error o => .error o
  | .ok (s, r1) =>
   if a8_ sRP r1 then .ok (l ++ [s], r1.tail)
   else if a8_ sCm r1 then parF e f (l ++ [s]) r1.tail
   else .error (fh_ e r1)
def parP (e : Int) (r : List Tok) : Except Int (List Bs × List Tok) := if a8_ sRP r then .ok ([], r.tail) else parF e r.length [] r
def mt_ (e : Int) (f : Nat) (r : List Tok) (ns : List Nd) : Except Int (Fc × List Tok × List Nd) :=
 match d4_ e 2 kw_ r with
 | .error o => .error o
 | .ok r1 => match lk_ e 1 r1 with
  | .error o => .error o
  | .ok (s, r2) => match d4_ e 5 sLP r2 with
   | .error o => .error o
   | .ok r3 => match parP e r3 with
    | .error o => .error o
    | .ok (ps, r4) => match d9_ e f r4 ns with
     | .error o => .error o
     | .ok (b, r5, ns5) => .ok (⟨s, ps, b⟩, r5, ns5)
def i3_ (e : Int) (f : Nat) : Nat → List Fc → List Tok → List Nd → Except Int Pg
 | 0, fs, _, ns => .ok ⟨ns, fs⟩
 | g + 1, fs, r, ns =>
  if r = [] then .ok ⟨ns, fs⟩
  else match mt_ e f r ns with
   | .error o => .error o
   | .ok (x, r1, ns1) => i3_ e f g (fs ++ [x]) r1 ns1
def mp_ (e : Int) (r : List Tok) : Except Int Pg := i3_ e (r.length + 1) r.length [] r []
end
section
structure Eats (r r1 : List Tok) : Prop where
 lt : r1.length < r.length
 suf : r1 <:+ r
theorem Eats.trans {a b c : List Tok} (h : Eats a b) (k : Eats b c) : Eats a c := ⟨Nat.lt_trans k.lt h.lt, k.suf.trans h.suf⟩
theorem Eats.tail {a b : List Tok} (h : Eats a b) : Eats a b.tail := ⟨by have := h.lt; simp; omega, (List.tail_suffix b).trans h.suf⟩
theorem Eats.of_tail {r : List Tok} (h : r ≠ []) : Eats r r.tail := by
 cases r with
 | nil => exact absurd rfl h
 | cons t r => exact ⟨by simp, List.tail_suffix _⟩
theorem isTk_ne {k : Int} {s : Bs} {r : List Tok} (h : isTk k s r = true) : r ≠ [] := by rintro rfl; cases h
theorem Eats.of_tk {k : Int} {s : Bs} {r : List Tok} (h : isTk k s r = true) : Eats r r.tail := .of_tail (isTk_ne h)
def be_ (p : b2_) : Prop := ∀ {r ns i r1 ns1}, p r ns = .ok (i, r1, ns1) → Eats r r1
theorem ad_ {e k : Int} {s : Bs} {r r1 : List Tok} (h : d4_ e k s r = .ok r1) : Eats r r1 := by
 unfold d4_ at h
 split at h
 ·rename_i hk; cases h; exact .of_tk hk
 ·cases h
theorem b9_ {e k : Int} {r r1 : List Tok} {s : Bs} (h : lk_ e k r = .ok (s, r1)) : Eats r r1 := by
 unfold lk_ at h
 split at h
 ·rename_i hk; cases h; exact .of_tail hk.2
 ·cases h
theorem dm_ {n : Nd} {r r1 : List Tok} {ns ns1 : List Nd} {i : Int} (h : dx_ n r ns = .ok (i, r1, ns1)) : r1 = r ∧ ns1 = ns ++ [n] ∧ i = (ns.length : Int) := by
 unfold dx_ at h; cases h; exact ⟨rfl, rfl, rfl⟩
section
variable {e : Int} {E : b2_} (hE : be_ E)
include hE
theorem nk_ {fin : Bs} : ∀ (f : Nat) {l : List Int} {r : List Tok} {ns : List Nd} {l1 : List Int} {r1 : List Tok} {ns1 : List Nd}, je_ e fin E f l r ns = .ok (l1, r1, ns1) → Eats r r1
 | 0, l, r, ns, l1, r1, ns1, h => by cases h
 | f + 1, l, r, ns, l1, r1, ns1, h => by
  simp only [je_] at h
  split at h
  ·cases h
  ·rename_i i r2 ns2 h2
   have h3 := hE h2
   split at h
   ·cases h; exact h3.tail
   ·split at h
    ·rename_i hc
     exact (h3.trans (.of_tk hc)).trans (nk_ f h)
    ·cases h
theorem jd_ {fin : Bs} {r r1 : List Tok} {ns ns1 : List Nd} {l : List Int} (h : er_ e fin E r ns = .ok (l, r1, ns1)) : Eats r r1 := by
 unfold er_ at h
 split at h
 ·rename_i hk; cases h; exact .of_tk hk
 ·exact nk_ hE _ h
theorem keyF_eats : ∀ (f : Nat) {ks : List Bs} {l : List Int} {r : List Tok} {ns : List Nd} {i : Int} {r1 : List Tok} {ns1 : List Nd}, keyF e E f ks l r ns = .ok (i, r1, ns1) → Eats r r1
 | 0, ks, l, r, ns, i, r1, ns1, h => by cases h
 | f + 1, ks, l, r, ns, i, r1, ns1, h => by
  simp only [keyF] at h
  split at h
  rotate_left
  ·cases h
  rename_i hk
  split at h
  ·cases h
  rename_i r2 h2
  split at h
  ·cases h
  rename_i j r3 ns3 h3
  have h4 := ((Eats.of_tail hk.2.1).trans (ad_ h2)).trans (hE h3)
  split at h
  ·obtain ⟨rfl, _⟩ := dm_ h
   exact h4.tail
  ·split at h
   ·rename_i hc
    exact (h4.trans (.of_tk hc)).trans (keyF_eats f h)
   ·cases h
theorem keyP_eats {r r1 : List Tok} {ns ns1 : List Nd} {i : Int} (h : keyP e E r ns = .ok (i, r1, ns1)) : Eats r r1 := by
 unfold keyP at h
 split at h
 ·rename_i hk
  obtain ⟨rfl, _⟩ := dm_ h
  exact .of_tk hk
 ·exact keyF_eats hE _ h
theorem fg_ : be_ (hi_ e E) := by
 intro r ns i r1 ns1 h
 unfold hi_ at h
 cases r with
 | nil => cases h
 | cons t r =>
  have h0 : Eats (t :: r) r := .of_tail sI
  have add : ∀ {n : Nd} {r' : List Tok} {ns' : List Nd}, Eats (t :: r) r' → dx_ n r' ns' = .ok (i, r1, ns1) → Eats (t :: r) r1 := fun h1 h2 => by
   obtain ⟨rfl, _⟩ := dm_ h2; exact h1
  dsimp only at h
  split at h
  ·exact add h0 h
  split at h
  ·exact add h0 h
  split at h
  ·exact add h0 h
  split at h
  ·exact add h0 h
  split at h
  ·exact add h0 h
  split at h
  ·split at h
   ·rename_i hk
    split at h
    ·cases h
    ·rename_i h2
     exact add ((h0.trans (.of_tk hk)).trans (jd_ hE h2)) h
   ·exact add h0 h
  split at h
  ·split at h
   ·cases h
   ·rename_i h2
    split at h
    ·cases h
    ·rename_i h3
     exact add ((h0.trans (ad_ h2)).trans (jd_ hE h3)) h
  split at h
  ·split at h
   ·cases h
   ·rename_i h2
    exact add (h0.trans (jd_ hE h2)) h
  split at h
  ·exact h0.trans (keyP_eats hE h)
  split at h
  ·split at h
   ·cases h
   ·rename_i h2
    split at h
    ·cases h
    ·rename_i h3
     cases h
     exact (h0.trans (hE h2)).trans (ad_ h3)
  ·cases h
theorem nb_ : ∀ (f : Nat) {i : Int} {r : List Tok} {ns : List Nd} {j : Int} {r1 : List Tok} {ns1 : List Nd}, h6_ e E f i r ns = .ok (j, r1, ns1) → r1 = r ∨ Eats r r1
 | 0, i, r, ns, j, r1, ns1, h => by cases h; exact .inl rfl
 | f + 1, i, r, ns, j, r1, ns1, h => by
  simp only [h6_] at h
  split at h
  ·rename_i hk
   split at h
   ·cases h
   rename_i h2
   split at h
   ·cases h
   rename_i h3
   have h4 := ((Eats.of_tk hk).trans (hE h2)).trans (ad_ h3)
   rcases nb_ f h with rfl | h5
   ·exact .inr h4
   ·exact .inr (h4.trans h5)
  ·cases h; exact .inl rfl
theorem i5_ : be_ (gd_ e E) := by
 intro r ns i r1 ns1 h
 unfold gd_ at h
 split at h
 ·cases h
 ·rename_i h2
  rcases nb_ hE _ h with rfl | h3
  ·exact fg_ hE h2
  ·exact (fg_ hE h2).trans h3
theorem fu_ : be_ (do_ e E) := by
 intro r
 induction r with
 | nil => intro ns i r1 ns1 h; exact i5_ hE h
 | cons t r ih =>
  intro ns i r1 ns1 h
  simp only [do_] at h
  split at h
  ·split at h
   ·cases h
   ·rename_i h2
    obtain ⟨rfl, _⟩ := dm_ h
    exact (Eats.of_tail (r := t :: r) sI).trans (ih h2)
  ·exact i5_ hE h
end
theorem l4_ {k : Int} {ops : List Bs} {O : b2_} (hO : be_ O) : ∀ (f : Nat) {i : Int} {r : List Tok} {ns : List Nd} {j : Int} {r1 : List Tok} {ns1 : List Nd}, cq_ k ops O f i r ns = .ok (j, r1, ns1) → r1 = r ∨ Eats r r1
 | 0, i, r, ns, j, r1, ns1, h => by cases h; exact .inl rfl
 | f + 1, i, r, ns, j, r1, ns1, h => by
  simp only [cq_] at h
  split at h
  ·rename_i hk
   split at h
   ·cases h
   rename_i h2
   have h4 := (Eats.of_tail hk.2.2).trans (hO h2)
   rcases l4_ hO f h with rfl | h5
   ·exact .inr h4
   ·exact .inr (h4.trans h5)
  ·cases h; exact .inl rfl
theorem f3_ {k : Int} {ops : List Bs} {O : b2_} (hO : be_ O) : be_ (by_ k ops O) := by
 intro r ns i r1 ns1 h
 unfold by_ at h
 split at h
 ·cases h
 ·rename_i h2
  rcases l4_ hO _ h with rfl | h3
  ·exact hO h2
  ·exact (hO h2).trans h3
section
variable {e : Int} {E : b2_} (hE : be_ E)
include hE
theorem gt_ : be_ (mj_ e E) := f3_ (fu_ hE)
theorem fc_ : be_ (sumP e E) := f3_ (gt_ hE)
theorem cmpP_eats : be_ (cmpP e E) := by
 intro r ns i r1 ns1 h
 unfold cmpP at h
 split at h
 ·cases h
 ·rename_i h2
  have h3 := fc_ hE h2
  split at h
  ·rename_i hk
   split at h
   ·cases h
   ·rename_i h4
    obtain ⟨rfl, _⟩ := dm_ h
    exact (h3.trans (.of_tail hk.2.2)).trans (fc_ hE h4)
  ·cases h; exact h3
theorem h9_ : be_ (pv_ e E) := by
 intro r
 induction r with
 | nil => intro ns i r1 ns1 h; exact cmpP_eats hE h
 | cons t r ih =>
  intro ns i r1 ns1 h
  simp only [pv_] at h
  split at h
  ·split at h
   ·cases h
   ·rename_i h2
    obtain ⟨rfl, _⟩ := dm_ h
    exact (Eats.of_tail (r := t :: r) sI).trans (ih h2)
  ·exact cmpP_eats hE h
theorem ip_ : be_ (andP e E) := f3_ (h9_ hE)
theorem orP_eats : be_ (orP e E) := f3_ (ip_ hE)
end
theorem ca_ {e : Int} : ∀ f, be_ (dn_ e f)
 | 0 => fun h => by cases h
 | f + 1 => orP_eats (ca_ f)
theorem ft_ {e : Int} {f : Nat} {kind : Int} {text : Bs} : be_ (dy_ e f kind text) := by
 intro r ns i r1 ns1 h
 unfold dy_ at h
 split at h
 ·cases h
 ·rename_i h2
  split at h
  ·cases h
  ·rename_i h3
   obtain ⟨rfl, _⟩ := dm_ h
   exact (ca_ f h2).trans (ad_ h3)
theorem iy_ {e : Int} {f : Nat} {Bl : b2_} (hB : be_ Bl) : be_ (mn_ e f Bl) := by
 intro r ns i r1 ns1 h
 unfold mn_ at h
 split at h
 ·rename_i hk
  split at h
  ·cases h
  rename_i h2
  split at h
  ·cases h
  rename_i h3
  exact (((Eats.of_tk hk).trans (b9_ h2)).trans (ad_ h3)).trans (ft_ h)
 split at h
 ·rename_i hk
  split at h
  ·cases h
  rename_i h2
  split at h
  ·cases h
  rename_i h3
  have h4 := ((Eats.of_tk hk).trans (ca_ f h2)).trans (hB h3)
  split at h
  ·rename_i hk2
   split at h
   ·cases h
   rename_i h5
   obtain ⟨rfl, _⟩ := dm_ h
   exact (h4.trans (.of_tk hk2)).trans (hB h5)
  ·obtain ⟨rfl, _⟩ := dm_ h
   exact h4
 split at h
 ·rename_i hk
  split at h
  ·cases h
  rename_i h2
  split at h
  ·cases h
  rename_i h3
  obtain ⟨rfl, _⟩ := dm_ h
  exact ((Eats.of_tk hk).trans (ca_ f h2)).trans (hB h3)
 split at h
 ·rename_i hk
  exact (Eats.of_tk hk).trans (ft_ h)
 split at h
 ·rename_i hk
  cases r with
  | nil => cases hk
  | cons t r =>
   simp only [assigns, j_] at hk
   exact ((Eats.of_tail (r := t :: r) sI).trans (.of_tk hk.2)).trans (ft_ h)
 ·exact ft_ h
theorem k9_ {e : Int} {S : b2_} (hS : be_ S) : ∀ (g : Nat) {l : List Int} {r : List Tok} {ns : List Nd} {i : Int} {r1 : List Tok} {ns1 : List Nd}, f9_ e S g l r ns = .ok (i, r1, ns1) → Eats r r1
 | 0, l, r, ns, i, r1, ns1, h => by cases h
 | g + 1, l, r, ns, i, r1, ns1, h => by
  simp only [f9_] at h
  split at h
  ·rename_i hk
   obtain ⟨rfl, _⟩ := dm_ h
   exact .of_tk hk
  ·split at h
   ·cases h
   ·rename_i h2
    exact (hS h2).trans (k9_ hS g h)
theorem db_ {e : Int} : ∀ f, be_ (d9_ e f)
 | 0 => fun h => by cases h
 | f + 1 => fun h => by
  simp only [d9_] at h
  split at h
  ·cases h
  ·rename_i h2
   exact (ad_ h2).trans (k9_ (iy_ (db_ f)) _ h)
theorem parF_eats {e : Int} : ∀ (f : Nat) {l : List Bs} {r : List Tok} {l1 : List Bs} {r1 : List Tok}, parF e f l r = .ok (l1, r1) → Eats r r1
 | 0, l, r, l1, r1, h => by cases h
 | f + 1, l, r, l1, r1, h => by
  simp only [parF] at h
  split at h
  ·cases h
  ·rename_i h2
   split at h
   ·rename_i hk
    cases h
    exact (b9_ h2).trans (.of_tk hk)
   ·split at h
    ·rename_i hk
     exact ((b9_ h2).trans (.of_tk hk)).trans (parF_eats f h)
    ·cases h
theorem gi_ {e : Int} {r : List Tok} {l1 : List Bs} {r1 : List Tok} (h : parP e r = .ok (l1, r1)) : Eats r r1 := by
 unfold parP at h
 split at h
 ·rename_i hk; cases h; exact .of_tk hk
 ·exact parF_eats _ h
theorem funcP_eats {e : Int} {f : Nat} {r : List Tok} {ns : List Nd} {x : Fc} {r1 : List Tok} {ns1 : List Nd} (h : mt_ e f r ns = .ok (x, r1, ns1)) : Eats r r1 := by
 unfold mt_ at h
 split at h
 ·cases h
 rename_i h1
 split at h
 ·cases h
 rename_i h2
 split at h
 ·cases h
 rename_i h3
 split at h
 ·cases h
 rename_i h4
 split at h
 ·cases h
 rename_i h5
 cases h
 exact ((((ad_ h1).trans (b9_ h2)).trans (ad_ h3)).trans (gi_ h4)).trans (db_ f h5)
end
section
structure Lab where
 kind : Int
 text : Bs
 val : Int
 keys : List Bs
inductive Tr where
 | node (a : Lab) (ts : List Tr)
def Tr.lab : Tr → Lab
 | .node a _ => a
abbrev Tr.kind (t : Tr) : Int := t.lab.kind
mutual
def Tr.size : Tr → Nat
 | .node _ ts => Tr.sizes ts + 1
def Tr.sizes : List Tr → Nat
 | [] => 0
 | t :: ts => t.size + Tr.sizes ts
end
def Tr.roots (b : Nat) : List Tr → List Int
 | [] => []
 | t :: ts => (((b + t.size : Nat) : Int) - 1) :: Tr.roots (b + t.size) ts
mutual
def Tr.flat (b : Nat) : Tr → List Nd
 | .node a ts => Tr.flats b ts ++ [⟨a.kind, a.text, a.val, a.keys, Tr.roots b ts⟩]
def Tr.flats (b : Nat) : List Tr → List Nd
 | [] => []
 | t :: ts => t.flat b ++ Tr.flats (b + t.size) ts
end
mutual
theorem Tr.flat_length : ∀ (t : Tr) (b : Nat), (t.flat b).length = t.size
 | .node a ts, b => by simp only [Tr.flat, Tr.size, a_, Tr.flats_length ts b, G_]
theorem Tr.flats_length : ∀ (ts : List Tr) (b : Nat), (Tr.flats b ts).length = Tr.sizes ts
 | [], b => rfl
 | t :: ts, b => by simp only [Tr.flats, Tr.sizes, a_, Tr.flat_length t b, Tr.flats_length ts _]
end
theorem Tr.size_pos (t : Tr) : 0 < t.size := by cases t; simp [Tr.size]
theorem Tr.roots_length : ∀ (ts : List Tr) (b : Nat), (Tr.roots b ts).length = ts.length
 | [], b => rfl
 | t :: ts, b => by simp [Tr.roots, Tr.roots_length ts]
theorem Tr.sizes_append : ∀ (a c : List Tr), Tr.sizes (a ++ c) = Tr.sizes a + Tr.sizes c
 | [], c => by simp [Tr.sizes]
 | t :: a, c => by simp only [List.cons_append, Tr.sizes, Tr.sizes_append a c]; omega
theorem Tr.flats_append : ∀ (a c : List Tr) (b : Nat), Tr.flats b (a ++ c) = Tr.flats b a ++ Tr.flats (b + Tr.sizes a) c
 | [], c, b => by simp [Tr.flats, Tr.sizes]
 | t :: a, c, b => by simp only [List.cons_append, Tr.flats, Tr.flats_append a c, Tr.sizes, List.append_assoc, Nat.add_assoc]
theorem Tr.roots_append : ∀ (a c : List Tr) (b : Nat), Tr.roots b (a ++ c) = Tr.roots b a ++ Tr.roots (b + Tr.sizes a) c
 | [], c, b => by simp [Tr.roots, Tr.sizes]
 | t :: a, c, b => by simp only [List.cons_append, Tr.roots, Tr.roots_append a c, Tr.sizes, Nat.add_assoc]
def a7_ (s : Bs) : Bool := ba_ s && !(kwL s)
def b1_ (s : Bs) : Int :=
 if s = wOr then 1 else if s = qc_ then 2 else if opCmp.contains s then 4 else if opAdd.contains s then 5 else if opMul.contains s then 6 else 0
def n6_ : List Bs → Bool
 | [] => true
 | [a] => cl_ a
 | a :: b :: l => cl_ a && Op.bytesLess a b && n6_ (b :: l)
def X_ (a : Lab) (nk : Nat) : Bool :=
 if (a.kind ≠ 7 ∧ a.keys ≠ []) ∨ (a.kind ≠ 2 ∧ a.kind ≠ 3 ∧ a.val ≠ 0) then false
 else if a.kind = 2 then decide (a.text = []) && (decide (a.val = 0) || decide (a.val = 1))
 else if a.kind = 3 then decide (a.text = []) && decide (0 ≤ a.val) && decide (a.val ≤ 1000000000000)
 else if a.kind = 4 then cl_ a.text
 else if a.kind = 5 ∨ a.kind = 11 ∨ a.kind = 13 ∨ a.kind = 14 then a7_ a.text
 else if a.kind = 12 then ba_ a.text
 else if a.kind = 7 then decide (a.text = []) && decide (a.keys.length = nk) && n6_ a.keys
 else if a.kind = 8 then decide (a.text = sMi) || decide (a.text = e9_)
 else if a.kind = 9 then decide (0 < b1_ a.text)
 else decide (a.text = [])
def Y_ (k : Int) (n : Nat) : Bool :=
 if 1 ≤ k ∧ k ≤ 5 then decide (n = 0)
 else if k = 8 ∨ k = 13 ∨ k = 14 ∨ k = 17 ∨ k = 18 then decide (n = 1)
 else if k = 9 ∨ k = 10 ∨ k = 16 then decide (n = 2)
 else if k = 15 then decide (n = 2) || decide (n = 3)
 else decide (k = 6 ∨ k = 7 ∨ k = 11 ∨ k = 12 ∨ k = 19)
def hg_ (k : Int) : Bool := decide (13 ≤ k) && decide (k ≤ 18)
def an_ (k : Int) : Bool := decide (1 ≤ k) && decide (k ≤ 12)
def ap_ (k : Int) (j : Nat) (part : Int) : Bool :=
 if k = 19 then hg_ part else if (k = 15 ∨ k = 16) ∧ 0 < j then decide (part = 19) else an_ part
mutual
def Tr.wf : Tr → Bool
 | .node a ts => X_ a ts.length && Y_ a.kind ts.length && Tr.wfs a.kind 0 ts
def Tr.wfs (k : Int) (j : Nat) : List Tr → Bool
 | [] => true
 | t :: ts => ap_ k j t.kind && t.wf && Tr.wfs k (j + 1) ts
end
def tokB (t : Tok) : Bool :=
 (!(decide (t.kind = 1)) || a7_ t.text) && (!(decide (t.kind = 3)) || (decide (0 ≤ t.val) && decide (t.val ≤ 1000000000000))) && (!(decide (t.kind = 4)) || cl_ t.text) && (!(decide (t.kind = 6)) || ba_ t.text)
def TokB (r : List Tok) : Prop := ∀ t ∈ r, tokB t = true
theorem TokB.suf {r r1 : List Tok} (h : TokB r) (hs : r1 <:+ r) : TokB r1 := fun t ht => h t (hs.subset ht)
theorem TokB.eats {r r1 : List Tok} (h : TokB r) (hs : Eats r r1) : TokB r1 := h.suf hs.suf
theorem TokB.tail {r : List Tok} (h : TokB r) : TokB r.tail := h.suf (List.tail_suffix r)
structure PutR (K : Int → Bool) (i : Int) (ns ns1 : List Nd) (T : Tr) : Prop where
 wf : T.wf = true
 kind : K T.kind = true
 nodes : ns1 = ns ++ T.flat ns.length
 at_ : i = ((ns.length + T.size : Nat) : Int) - 1
structure Puts (l : List Int) (ns ns1 : List Nd) (Ts : List Tr) : Prop where
 wf : ∀ T ∈ Ts, T.wf = true ∧ an_ T.kind = true
 nodes : ns1 = ns ++ Tr.flats ns.length Ts
 at_ : l = Tr.roots ns.length Ts
def MkP (K : Int → Bool) (p : b2_) : Prop := ∀ {r ns i r1 ns1}, TokB r → p r ns = .ok (i, r1, ns1) → ∃ T, PutR K i ns ns1 T
theorem Puts.nil (ns : List Nd) : Puts [] ns ns [] := ⟨fun _ h => (by cases h), by simp [Tr.flats], rfl⟩
theorem Puts.snoc {l : List Int} {ns ns1 ns2 : List Nd} {Ts : List Tr} {i : Int} {T : Tr} (h : Puts l ns ns1 Ts) (k : PutR an_ i ns1 ns2 T) : Puts (l ++ [i]) ns ns2 (Ts ++ [T]) := by
 have hl : ns1.length = ns.length + Tr.sizes Ts := by rw [h.nodes, a_, Tr.flats_length]
 refine ⟨fun T' hT => ?_, ?_, ?_⟩
 ·rcases List.mem_append.1 hT with h' | h'
  ·exact h.wf T' h'
  ·rw [List.mem_singleton.1 h']; exact ⟨k.wf, k.kind⟩
 ·rw [Tr.flats_append, k.nodes, h.nodes, List.append_assoc]
  congr 1
  rw [← hl, ← h.nodes]
  simp [Tr.flats]
 ·rw [Tr.roots_append, h.at_, k.at_, hl]
  simp [Tr.roots]
theorem Puts.one {i : Int} {ns ns1 : List Nd} {T : Tr} (k : PutR an_ i ns ns1 T) : Puts [i] ns ns1 [T] := (Puts.nil ns).snoc k
theorem Puts.add {l : List Int} {ns ns1 : List Nd} {Ts : List Tr} (h : Puts l ns ns1 Ts) {K : Int → Bool} {a : Lab} {r r1 : List Tok} {i : Int} {ns2 : List Nd} (hn : dx_ ⟨a.kind, a.text, a.val, a.keys, l⟩ r ns1 = .ok (i, r1, ns2))
  (hk : K a.kind = true) (hf : X_ a Ts.length = true) (hc : Y_ a.kind Ts.length = true) (hfit : ∀ j k, an_ k = true → ap_ a.kind j k = true) : PutR K i ns ns2 (.node a Ts) := by
 obtain ⟨rfl, rfl, rfl⟩ := dm_ hn
 have hl : ns1.length = ns.length + Tr.sizes Ts := by rw [h.nodes, a_, Tr.flats_length]
 have hw : ∀ (Ts : List Tr) (j : Nat), (∀ T ∈ Ts, T.wf = true ∧ an_ T.kind = true) → Tr.wfs a.kind j Ts = true := by
  intro Ts
  induction Ts with
  | nil => intro j _; rfl
  | cons T Ts ih =>
   intro j hT
   simp only [Tr.wfs, j_]
   exact ⟨⟨hfit j _ (hT T sI).2, (hT T sI).1⟩, ih (j + 1) fun T' h' => hT T' (by simp [h'])⟩
 refine ⟨?_, hk, ?_, ?_⟩
 ·simp only [Tr.wf, j_]
  exact ⟨⟨hf, hc⟩, hw Ts 0 h.wf⟩
 ·simp only [Tr.flat]
  rw [h.nodes, h.at_, List.append_assoc]
 ·simp only [Tr.size]; omega
section
variable {e : Int} {E : b2_} (hE : MkP an_ E) (hC : be_ E)
include hE hC
theorem listF_put {fin : Bs} : ∀ (f : Nat) {l : List Int} {r : List Tok} {ns0 ns : List Nd} {Ts : List Tr} {l1 : List Int} {r1 : List Tok} {ns1 : List Nd}, TokB r → Puts l ns0 ns Ts → je_ e fin E f l r ns = .ok (l1, r1, ns1) → ∃ Ts1, Puts l1 ns0 ns1 Ts1
 | 0, l, r, ns0, ns, Ts, l1, r1, ns1, _, _, h => by cases h
 | f + 1, l, r, ns0, ns, Ts, l1, r1, ns1, hr, hp, h => by
  simp only [je_] at h
  split at h
  ·cases h
  ·rename_i i r2 ns2 h2
   obtain ⟨T, hT⟩ := hE hr h2
   have hp2 := hp.snoc hT
   split at h
   ·cases h; exact ⟨_, hp2⟩
   ·split at h
    ·exact listF_put f (hr.eats (hC h2)).tail hp2 h
    ·cases h
theorem lm_ {fin : Bs} {r r1 : List Tok} {ns ns1 : List Nd} {l : List Int} (hr : TokB r) (h : er_ e fin E r ns = .ok (l, r1, ns1)) : ∃ Ts, Puts l ns ns1 Ts := by
 unfold er_ at h
 split at h
 ·cases h; exact ⟨_, .nil ns⟩
 ·exact listF_put hE hC _ hr (.nil ns) h
omit hE hC in
theorem ascB_snoc : ∀ {ks : List Bs} {k : Bs}, n6_ ks = true → cl_ k = true → (ks = [] ∨ Op.bytesLess (ks.getLastD []) k = true) → n6_ (ks ++ [k]) = true
 | [], k, _, hk, _ => hk
 | [a], k, ha, hk, h => by
  simp only [List.cons_append, List.nil_append, n6_, j_]
  rcases h with h | h
  ·cases h
  ·exact ⟨⟨ha, h⟩, hk⟩
 | a :: b :: l, k, ha, hk, h => by
  simp only [n6_, j_] at ha
  simp only [List.cons_append, n6_, j_]
  refine ⟨ha.1, ?_⟩
  have := ascB_snoc (ks := b :: l) (k := k) ha.2 hk (.inr (by
   rcases h with h | h
   ·cases h
   ·simpa using h))
  simpa using this
theorem keyF_put : ∀ (f : Nat) {ks : List Bs} {l : List Int} {r : List Tok} {ns0 ns : List Nd} {Ts : List Tr} {i : Int} {r1 : List Tok} {ns1 : List Nd}, TokB r → Puts l ns0 ns Ts → ks.length = Ts.length → n6_ ks = true → keyF e E f ks l r ns = .ok (i, r1, ns1) → ∃ T, PutR an_ i ns0 ns1 T
 | 0, ks, l, r, ns0, ns, Ts, i, r1, ns1, _, _, _, _, h => by cases h
 | f + 1, ks, l, r, ns0, ns, Ts, i, r1, ns1, hr, hp, hl, ha, h => by
  simp only [keyF] at h
  split at h
  rotate_left
  ·cases h
  rename_i hk
  obtain ⟨hk1, hk2, hk3⟩ := hk
  split at h
  ·cases h
  rename_i r2 h2
  split at h
  ·cases h
  rename_i j r3 ns3 h3
  have hr2 := (hr.eats (.of_tail hk2)).eats (ad_ h2)
  obtain ⟨T, hT⟩ := hE hr2 h3
  have hp2 := hp.snoc hT
  have hcont : cl_ (pText r) = true := by
   cases r with
   | nil => exact absurd rfl hk2
   | cons t r =>
    have h1 : t.kind = 4 := hk1
    have := hr t sI
    simp only [tokB, h1, j_] at this
    simpa [pText] using this.1.2
  have ha2 := ascB_snoc ha hcont hk3
  have hl2 : (ks ++ [pText r]).length = (Ts ++ [T]).length := by simp [hl]
  split at h
  ·refine ⟨_, Puts.add hp2 (a := ⟨7, [], 0, ks ++ [pText r]⟩) h rfl ?_ rfl fun j k hk => ?_⟩
   ·simp only [X_]; simp [ha2, hl]
   ·simpa [ap_] using hk
  ·split at h
   ·exact keyF_put f (hr2.eats (hC h3)).tail hp2 hl2 ha2 h
   ·cases h
theorem keyP_put {r r1 : List Tok} {ns ns1 : List Nd} {i : Int} (hr : TokB r) (h : keyP e E r ns = .ok (i, r1, ns1)) : ∃ T, PutR an_ i ns ns1 T := by
 unfold keyP at h
 split at h
 ·refine ⟨_, Puts.add (.nil ns) (a := ⟨7, [], 0, []⟩) h rfl rfl rfl fun j k hk => ?_⟩
  simpa [ap_] using hk
 ·exact keyF_put hE hC _ hr (.nil ns) rfl rfl h
theorem primP_put : MkP an_ (hi_ e E) := by
 intro r ns i r1 ns1 hr h
 unfold hi_ at h
 cases r with
 | nil => cases h
 | cons t r =>
  have ht := hr t sI
  simp only [tokB, j_, C_, Bool.not_eq_true', decide_eq_false_iff_not, decide_eq_true_eq] at ht
  obtain ⟨⟨⟨ht1, ht3⟩, ht4⟩, ht6⟩ := ht
  have hr0 : TokB r := hr.tail
  have fit : ∀ k, k ≠ 19 → k ≠ 15 → k ≠ 16 → ∀ (j : Nat) q, an_ q = true → ap_ k j q = true := fun k h1 h2 h3 j q hq => by simp [ap_, h1, h2, h3, hq]
  dsimp only at h
  split at h
  ·rename_i hk
   exact ⟨_, Puts.add (.nil ns) (a := ⟨3, [], t.val, []⟩) h rfl (by simpa [X_] using ht3.resolve_left (by simp [hk])) rfl (fit 3 dC dC dC)⟩
  split at h
  ·rename_i hk
   exact ⟨_, Puts.add (.nil ns) (a := ⟨4, t.text, 0, []⟩) h rfl (by simpa [X_] using ht4.resolve_left (by simp [hk])) rfl (fit 4 dC dC dC)⟩
  split at h
  ·exact ⟨_, Puts.add (.nil ns) (a := ⟨1, [], 0, []⟩) h rfl rfl rfl (fit 1 dC dC dC)⟩
  split at h
  ·exact ⟨_, Puts.add (.nil ns) (a := ⟨2, [], 1, []⟩) h rfl rfl rfl (fit 2 dC dC dC)⟩
  split at h
  ·exact ⟨_, Puts.add (.nil ns) (a := ⟨2, [], 0, []⟩) h rfl rfl rfl (fit 2 dC dC dC)⟩
  split at h
  ·rename_i hk
   have hn : a7_ t.text = true := ht1.resolve_left (by simp [hk])
   split at h
   ·rename_i hk2
    split at h
    ·cases h
    ·rename_i h2
     obtain ⟨Ts, hTs⟩ := lm_ hE hC hr0.tail h2
     exact ⟨_, hTs.add (a := ⟨11, t.text, 0, []⟩) h rfl (by simpa [X_] using hn) rfl (fit 11 dC dC dC)⟩
   ·exact ⟨_, Puts.add (.nil ns) (a := ⟨5, t.text, 0, []⟩) h rfl (by simpa [X_] using hn) rfl (fit 5 dC dC dC)⟩
  split at h
  ·rename_i hk
   have hn : ba_ t.text = true := ht6.resolve_left (by simp [hk])
   split at h
   ·cases h
   ·rename_i h2
    split at h
    ·cases h
    ·rename_i h3
     obtain ⟨Ts, hTs⟩ := lm_ hE hC (hr0.eats (ad_ h2)) h3
     exact ⟨_, hTs.add (a := ⟨12, t.text, 0, []⟩) h rfl (by simpa [X_] using hn) rfl (fit 12 dC dC dC)⟩
  split at h
  ·split at h
   ·cases h
   ·rename_i h2
    obtain ⟨Ts, hTs⟩ := lm_ hE hC hr0 h2
    exact ⟨_, hTs.add (a := ⟨6, [], 0, []⟩) h rfl rfl rfl (fit 6 dC dC dC)⟩
  split at h
  ·exact keyP_put hE hC hr0 h
  split at h
  ·split at h
   ·cases h
   ·rename_i h2
    split at h
    ·cases h
    ·cases h
     exact hE hr0 h2
  ·cases h
theorem postF_put : ∀ (f : Nat) {i : Int} {r : List Tok} {ns0 ns : List Nd} {T : Tr} {j : Int} {r1 : List Tok} {ns1 : List Nd}, TokB r → PutR an_ i ns0 ns T → h6_ e E f i r ns = .ok (j, r1, ns1) → ∃ T, PutR an_ j ns0 ns1 T
 | 0, i, r, ns0, ns, T, j, r1, ns1, _, hT, h => by cases h; exact ⟨T, hT⟩
 | f + 1, i, r, ns0, ns, T, j, r1, ns1, hr, hT, h => by
  simp only [h6_] at h
  split at h
  ·split at h
   ·cases h
   rename_i h2
   split at h
   ·cases h
   rename_i h3
   obtain ⟨T2, hT2⟩ := hE hr.tail h2
   have hp := (Puts.one hT).snoc hT2
   refine postF_put f ((hr.tail.eats (hC h2)).eats (ad_ h3)) (hp.add (K := an_) (a := ⟨10, [], 0, []⟩) (r := []) rfl rfl rfl rfl fun j k hk => ?_) h
   simpa [ap_] using hk
  ·cases h; exact ⟨T, hT⟩
theorem postP_put : MkP an_ (gd_ e E) := by
 intro r ns i r1 ns1 hr h
 unfold gd_ at h
 split at h
 ·cases h
 ·rename_i h2
  obtain ⟨T, hT⟩ := primP_put hE hC hr h2
  exact postF_put hE hC _ (hr.eats (fg_ hC h2)) hT h
theorem unaryP_put : MkP an_ (do_ e E) := by
 intro r
 induction r with
 | nil => intro ns i r1 ns1 hr h; exact postP_put hE hC hr h
 | cons t r ih =>
  intro ns i r1 ns1 hr h
  simp only [do_] at h
  split at h
  ·split at h
   ·cases h
   ·rename_i h2
    obtain ⟨T, hT⟩ := ih hr.tail h2
    exact ⟨_, (Puts.one hT).add (a := ⟨8, sMi, 0, []⟩) h rfl rfl rfl fun j k hk => by simpa [ap_] using hk⟩
  ·exact postP_put hE hC hr h
end
theorem n0_ {k : Int} {ops : List Bs} (hops : ∀ s, ops.contains s = true → 0 < b1_ s) {O : b2_} (hO : MkP an_ O) (hC : be_ O) : ∀ (f : Nat) {i : Int} {r : List Tok} {ns0 ns : List Nd} {T : Tr} {j : Int} {r1 : List Tok} {ns1 : List Nd}, TokB r → PutR an_ i ns0 ns T → cq_ k ops O f i r ns = .ok (j, r1, ns1) → ∃ T, PutR an_ j ns0 ns1 T
 | 0, i, r, ns0, ns, T, j, r1, ns1, _, hT, h => by cases h; exact ⟨T, hT⟩
 | f + 1, i, r, ns0, ns, T, j, r1, ns1, hr, hT, h => by
  simp only [cq_] at h
  split at h
  ·rename_i hk
   split at h
   ·cases h
   rename_i h2
   obtain ⟨T2, hT2⟩ := hO hr.tail h2
   have hp := (Puts.one hT).snoc hT2
   refine n0_ hops hO hC f (hr.tail.eats (hC h2)) (hp.add (K := an_) (a := ⟨9, pText r, 0, []⟩) (r := []) rfl rfl (by simpa [X_] using hops _ hk.2.1) rfl fun j k hk => ?_) h
   simpa [ap_] using hk
  ·cases h; exact ⟨T, hT⟩
theorem g0_ {k : Int} {ops : List Bs} (hops : ∀ s, ops.contains s = true → 0 < b1_ s) {O : b2_} (hO : MkP an_ O) (hC : be_ O) : MkP an_ (by_ k ops O) := by
 intro r ns i r1 ns1 hr h
 unfold by_ at h
 split at h
 ·cases h
 ·rename_i h2
  obtain ⟨T, hT⟩ := hO hr h2
  exact n0_ hops hO hC _ (hr.eats (hC h2)) hT h
theorem opMul_bin (s : Bs) (h : opMul.contains s = true) : 0 < b1_ s := by
 simp only [opMul, List.contains_cons, List.contains_nil, Bool.or_false, C_, beq_iff_eq] at h
 rcases h with rfl | rfl | rfl <;> decide
theorem opAdd_bin (s : Bs) (h : opAdd.contains s = true) : 0 < b1_ s := by
 simp only [opAdd, List.contains_cons, List.contains_nil, Bool.or_false, C_, beq_iff_eq] at h
 rcases h with rfl | rfl <;> decide
theorem opCmp_bin (s : Bs) (h : opCmp.contains s = true) : 0 < b1_ s := by
 simp only [opCmp, List.contains_cons, List.contains_nil, Bool.or_false, C_, beq_iff_eq] at h
 rcases h with rfl | rfl | rfl | rfl | rfl | rfl <;> decide
theorem opAnd_bin (s : Bs) (h : [qc_].contains s = true) : 0 < b1_ s := by
 simp only [List.contains_cons, List.contains_nil, Bool.or_false, beq_iff_eq] at h
 subst h; decide
theorem opOr_bin (s : Bs) (h : [wOr].contains s = true) : 0 < b1_ s := by
 simp only [List.contains_cons, List.contains_nil, Bool.or_false, beq_iff_eq] at h
 subst h; decide
section
variable {e : Int} {E : b2_} (hE : MkP an_ E) (hC : be_ E)
include hE hC
theorem termP_put : MkP an_ (mj_ e E) := g0_ opMul_bin (unaryP_put hE hC) (fu_ hC)
theorem sumP_put : MkP an_ (sumP e E) := g0_ opAdd_bin (termP_put hE hC) (gt_ hC)
theorem cmpP_put : MkP an_ (cmpP e E) := by
 intro r ns i r1 ns1 hr h
 unfold cmpP at h
 split at h
 ·cases h
 ·rename_i i1 r2 ns2 h2
  obtain ⟨T, hT⟩ := sumP_put hE hC hr h2
  split at h
  ·rename_i hk
   split at h
   ·cases h
   ·rename_i h3
    obtain ⟨T2, hT2⟩ := sumP_put hE hC (hr.eats (fc_ hC h2)).tail h3
    exact ⟨_, ((Puts.one hT).snoc hT2).add (a := ⟨9, pText r2, 0, []⟩) h rfl (by have := opCmp_bin _ hk.2.1; simp only [X_]; simp [this]) rfl fun j k hk => by simpa [ap_] using hk⟩
  ·cases h; exact ⟨T, hT⟩
theorem notP_put : MkP an_ (pv_ e E) := by
 intro r
 induction r with
 | nil => intro ns i r1 ns1 hr h; exact cmpP_put hE hC hr h
 | cons t r ih =>
  intro ns i r1 ns1 hr h
  simp only [pv_] at h
  split at h
  ·split at h
   ·cases h
   ·rename_i h2
    obtain ⟨T, hT⟩ := ih hr.tail h2
    exact ⟨_, (Puts.one hT).add (a := ⟨8, e9_, 0, []⟩) h rfl rfl rfl fun j k hk => by simpa [ap_] using hk⟩
  ·exact cmpP_put hE hC hr h
theorem andP_put : MkP an_ (andP e E) := g0_ opAnd_bin (notP_put hE hC) (h9_ hC)
theorem orP_put : MkP an_ (orP e E) := g0_ opOr_bin (andP_put hE hC) (ip_ hC)
end
theorem ij_ {e : Int} : ∀ f, MkP an_ (dn_ e f)
 | 0 => fun _ h => by cases h
 | f + 1 => orP_put (ij_ f) (ca_ f)
end
end Go.Proofs.YtglndfgmlminpaaGreatDoor
