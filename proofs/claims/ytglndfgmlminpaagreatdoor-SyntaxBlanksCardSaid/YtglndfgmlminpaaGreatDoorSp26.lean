/- Texts joined by pack.py: XSyPB XSy2 XSyPC -/
import Derived.Test.YtglndfgmlminpaaGreatDoorSp25
namespace Go.Proofs.YtglndfgmlminpaaGreatDoor
def nodeOk (n : Nd) : Bool := fieldsB ⟨n.kind, n.text, n.val, n.keys⟩ n.kids.length && countB n.kind n.kids.length
def backF (l : List Nd) (F : Nat → Option Nat) (kind : Int) : List Int → Nat → Option Nat
 | [], at_ => some at_
 | x :: xs, at_ =>
  if at_ < 1 ∨ x ≠ (at_ : Int) - 1 ∨ fitsB kind xs.length ((l[at_ - 1]?.map (·.kind)).getD 0) = false then none
  else match F (at_ - 1) with
   | some a => backF l F kind xs a
   | none => none
def firstF (l : List Nd) : Nat → Nat → Option Nat
 | 0, _ => none
 | f + 1, i => match l[i]? with
  | none => none
  | some n => if nodeOk n then backF l (firstF l f) n.kind n.kids.reverse i else none
theorem prefix_get {α : Type} {w l : List α} {a : Nat} (h : w <+: l.drop a) {j : Nat} (hj : j < w.length) : l[a + j]? = some w[j] := by
 obtain ⟨r, hr⟩ := h
 have h1 : (l.drop a)[j]? = some w[j] := by rw [← hr, List.getElem?_append_left hj]; exact List.getElem?_eq_getElem hj
 rw [List.getElem?_drop] at h1
 exact h1
theorem prefix_app {α : Type} {w v l : List α} {a : Nat} : w ++ v <+: l.drop a ↔ w <+: l.drop a ∧ v <+: l.drop (a + w.length) := by
 constructor
 ·rintro ⟨r, hr⟩
  refine ⟨⟨v ++ r, by rw [← hr, List.append_assoc]⟩, ⟨r, ?_⟩⟩
  rw [← List.drop_drop, ← hr, List.append_assoc, List.drop_left]
 ·rintro ⟨⟨r, hr⟩, ⟨q, hq⟩⟩
  refine ⟨q, ?_⟩
  rw [← List.drop_drop, ← hr, List.drop_left] at hq
  rw [← hr, ← hq, List.append_assoc]
theorem Tr.flat_root (T : Tr) (b : Nat) : ∃ n w, T.flat b = w ++ [n] ∧ n.kind = T.kind ∧ w.length + 1 = T.size := by
 obtain ⟨a, ts⟩ := T
 exact ⟨_, _, rfl, rfl, by simp [Tr.flats_length, Tr.size]⟩
structure Seg (l : List Nd) (T : Tr) (a i : Nat) : Prop where
 wf : T.wf = true
 len : a + T.size = i + 1
 seg : T.flat a <+: l.drop a
theorem Seg.kind {l : List Nd} {T : Tr} {a i : Nat} (h : Seg l T a i) : ∃ n, l[i]? = some n ∧ n.kind = T.kind := by
 obtain ⟨n, w, h1, h2, h3⟩ := T.flat_root a
 have := h.len
 have h4 := h.seg
 rw [h1] at h4
 have := prefix_get h4 (j := w.length) (by simp)
 refine ⟨n, ?_, h2⟩
 rw [show i = a + w.length by omega, this]
 simp
theorem wfs_snoc {k : Int} {ts : List Tr} {T : Tr} (h : Tr.wfs k 0 ts = true) (hT : T.wf = true) (hf : fitsB k ts.length T.kind = true) : Tr.wfs k 0 (ts ++ [T]) = true := by
 rw [Tr.wfs_append, h, Nat.zero_add]
 simp [Tr.wfs, hf, hT]
theorem backF_spec {l : List Nd} {F : Nat → Option Nat} (hF : ∀ i a, F i = some a → ∃ T, Seg l T a i) {kind : Int} : ∀ (xs : List Int) (at_ a : Nat), backF l F kind xs at_ = some a →
  ∃ Ts, Tr.wfs kind 0 Ts = true ∧ a + Tr.sizes Ts = at_ ∧ Tr.flats a Ts <+: l.drop a ∧ xs.reverse = Tr.roots a Ts
 | [], at_, a, h => by
  cases h
  exact ⟨[], rfl, rfl, by simp [Tr.flats], rfl⟩
 | x :: xs, at_, a, h => by
  simp only [backF] at h
  split at h
  ·cases h
  rename_i hc
  simp only [not_or, Nat.not_lt, ne_eq, Classical.not_not, Bool.not_eq_false] at hc
  obtain ⟨c1, c2, c3⟩ := hc
  split at h
  rotate_left
  ·cases h
  rename_i a1 h1
  obtain ⟨T, hT⟩ := hF _ _ h1
  obtain ⟨Ts, g1, g2, g3, g4⟩ := backF_spec hF xs a1 a h
  obtain ⟨n, hn1, hn2⟩ := hT.kind
  rw [hn1] at c3
  have hlen := hT.len
  have hl : Ts.length = xs.length := by
   have := congrArg List.length g4
   rw [Tr.roots_length, List.length_reverse] at this
   exact this.symm
  refine ⟨Ts ++ [T], wfs_snoc g1 hT.wf (by rw [hl, ← hn2]; simpa using c3), ?_, ?_, ?_⟩
  ·rw [Tr.sizes_append]; simp only [Tr.sizes]; omega
  ·rw [Tr.flats_append, prefix_app, Tr.flats_length, g2]
   refine ⟨g3, ?_⟩
   simpa [Tr.flats] using hT.seg
  ·rw [List.reverse_cons, g4, Tr.roots_append, g2]
   simp only [Tr.roots]
   congr 2
   omega
theorem firstF_spec {l : List Nd} : ∀ (f i a : Nat), firstF l f i = some a → ∃ T, Seg l T a i
 | 0, i, a, h => by cases h
 | f + 1, i, a, h => by
  simp only [firstF] at h
  split at h
  ·cases h
  rename_i n hn
  split at h
  rotate_left
  ·cases h
  rename_i hok
  obtain ⟨Ts, g1, g2, g3, g4⟩ := backF_spec (firstF_spec f) _ _ _ h
  rw [List.reverse_reverse] at g4
  have hl : Ts.length = n.kids.length := by rw [g4, Tr.roots_length]
  simp only [nodeOk, Bool.and_eq_true] at hok
  refine ⟨.node ⟨n.kind, n.text, n.val, n.keys⟩ Ts, ?_, ?_, ?_⟩
  ·simp only [Tr.wf, Bool.and_eq_true, hl]
   exact ⟨hok, g1⟩
  ·simp only [Tr.size]; omega
  ·simp only [Tr.flat]
   rw [prefix_app, Tr.flats_length, g2]
   refine ⟨g3, ?_⟩
   have hlt : i < l.length := by
    rcases Nat.lt_or_ge i l.length with h' | h'
    ·exact h'
    ·rw [List.getElem?_eq_none h'] at hn; cases hn
   rw [List.drop_eq_getElem_cons hlt]
   have : l[i] = n := by rw [List.getElem?_eq_getElem hlt] at hn; exact Option.some.inj hn
   rw [this, ← g4]
   exact ⟨_, rfl⟩
theorem backF_good {l : List Nd} {F : Nat → Option Nat} {kind : Int} : ∀ (Ts : List Tr) (a : Nat), (∀ T ∈ Ts, ∀ a i, Seg l T a i → F i = some a) → Tr.wfs kind 0 Ts = true → Tr.flats a Ts <+: l.drop a → backF l F kind (Tr.roots a Ts).reverse (a + Tr.sizes Ts) = some a := by
 intro Ts
 induction h : Ts.length generalizing Ts with
 | zero =>
  intro a _ _ _
  obtain rfl := List.length_eq_zero_iff.1 h
  rfl
 | succ n ih =>
  intro a hF hw hs
  obtain ⟨us, T, rfl⟩ : ∃ us T, Ts = us ++ [T] := by
   refine ⟨Ts.dropLast, Ts.getLast (by intro e; rw [e] at h; simp at h), (List.dropLast_concat_getLast _).symm⟩
  have hlu : us.length = n := by simpa using h
  rw [Tr.wfs_append, Bool.and_eq_true] at hw
  rw [Tr.flats_append, prefix_app, Tr.flats_length] at hs
  have hwT : fitsB kind us.length T.kind = true ∧ T.wf = true := by
   have := hw.2
   simp only [Tr.wfs, Bool.and_eq_true, Nat.zero_add] at this
   exact this.1
  have hseg : Seg l T (a + Tr.sizes us) (a + Tr.sizes us + T.size - 1) := ⟨hwT.2, by have := T.size_pos; omega, by simpa [Tr.flats] using hs.2⟩
  obtain ⟨ndM, hn1, hn2⟩ := hseg.kind
  have hpos := T.size_pos
  have hFT := hF T (by simp) _ _ hseg
  have := ih us hlu a (fun X hX => hF X (by simp [hX])) hw.1 hs.1
  rw [Tr.roots_append, Tr.sizes_append, List.reverse_append]
  simp only [Tr.roots, Tr.sizes, List.reverse_cons, List.reverse_nil, List.nil_append, List.singleton_append, Nat.add_zero, backF]
  rw [if_neg]
  ·rw [show a + (Tr.sizes us + T.size) - 1 = a + Tr.sizes us + T.size - 1 by omega, hFT]
   exact this
  ·simp only [not_or, Nat.not_lt, ne_eq, Classical.not_not, Bool.not_eq_false]
   refine ⟨by omega, by omega, ?_⟩
   rw [List.length_reverse, Tr.roots_length, show a + (Tr.sizes us + T.size) - 1 = a + Tr.sizes us + T.size - 1 by omega, hn1]
   simpa [hn2] using hwT.1
theorem firstF_good {l : List Nd} : ∀ (f : Nat) (T : Tr) (a i : Nat), T.ht ≤ f → Seg l T a i → firstF l f i = some a
 | 0, T, a, i, h, _ => by cases T; simp [Tr.ht] at h
 | f + 1, T, a, i, h, hs => by
  obtain ⟨b, ts⟩ := T
  obtain ⟨hf, hc, hws⟩ := wf_parts hs.wf
  have hlen := hs.len
  have hseg := hs.seg
  simp only [Tr.size] at hlen
  simp only [Tr.flat] at hseg
  rw [prefix_app, Tr.flats_length] at hseg
  have hi : l[i]? = some ⟨b.kind, b.text, b.val, b.keys, Tr.roots a ts⟩ := by
   have := prefix_get hseg.2 (j := 0) (by simp)
   rw [show i = a + Tr.sizes ts + 0 by omega, this]
   rfl
  simp only [firstF, hi]
  have hok : nodeOk ⟨b.kind, b.text, b.val, b.keys, Tr.roots a ts⟩ = true := by
   simp only [nodeOk, Bool.and_eq_true, Tr.roots_length]
   exact ⟨hf, hc⟩
  rw [if_pos hok, show i = a + Tr.sizes ts by omega]
  refine backF_good ts a (fun T hT a i hs => firstF_good f T a i ?_ hs) hws hseg.1
  have := Tr.ht_mem hT
  simp only [Tr.ht] at h
  omega
def ordF (l : List Nd) : List Fc → Nat → Option Nat
 | [], s => some s
 | f :: fs, s =>
  if nameB f.name = false ∨ f.params.all nameB = false then none
  else if f.body < (s : Int) ∨ (l.length : Int) ≤ f.body ∨ (l[f.body.toNat]?.map (·.kind)) ≠ some 19 ∨ firstF l (l.length + 1) f.body.toNat ≠ some s then none
  else ordF l fs (f.body.toNat + 1)
def ordB (p : Pg) : Bool := decide (ordF p.nodes p.funcs 0 = some p.nodes.length)
theorem ordF_spec {l : List Nd} : ∀ (fs : List Fc) (s e : Nat), ordF l fs s = some e → ∃ Fs : List FnT, (∀ F ∈ Fs, FnTOk F) ∧ fs = fcs s Fs ∧ e = s + Tr.sizes (Fs.map (·.body)) ∧ Tr.flats s (Fs.map (·.body)) <+: l.drop s
 | [], s, e, h => by cases h; exact ⟨[], fun _ h => (by cases h), rfl, rfl, by simp [Tr.flats]⟩
 | f :: fs, s, e, h => by
  simp only [ordF] at h
  split at h
  ·cases h
  rename_i h1
  split at h
  ·cases h
  rename_i h2
  simp only [not_or, Bool.not_eq_false, Int.not_lt, Int.not_le, ne_eq, Classical.not_not] at h1 h2
  obtain ⟨b1, b2, b3, b4⟩ := h2
  obtain ⟨T, hT⟩ := firstF_spec _ _ _ b4
  obtain ⟨Fs, g1, g2, g3, g4⟩ := ordF_spec fs _ _ h
  have hlen := hT.len
  obtain ⟨n, hn1, hn2⟩ := hT.kind
  rw [hn1] at b3
  have hk : T.kind = 19 := by rw [← hn2]; simpa using b3
  refine ⟨⟨f.name, f.params, T⟩ :: Fs, ?_, ?_, ?_, ?_⟩
  ·intro F hF
   rcases List.mem_cons.1 hF with rfl | hF
   ·exact ⟨h1.1, fun s hs => List.all_eq_true.1 h1.2 s hs, hk, hT.wf⟩
   ·exact g1 F hF
  ·simp only [fcs]
   rw [show s + T.size = f.body.toNat + 1 by omega, ← g2]
   have : f = ⟨f.name, f.params, ((f.body.toNat + 1 : Nat) : Int) - 1⟩ := by
    obtain ⟨a, b, c⟩ := f
    simp only [Fc.mk.injEq, true_and]
    simp only at b1
    omega
   rw [← this]
  ·simp only [List.map_cons, Tr.sizes]; omega
  ·simp only [List.map_cons, Tr.flats]
   rw [prefix_app, Tr.flat_length]
   refine ⟨hT.seg, ?_⟩
   rw [show s + T.size = f.body.toNat + 1 by omega]
   exact g4
theorem ordF_good {l : List Nd} : ∀ (Fs : List FnT) (s : Nat), (∀ F ∈ Fs, FnTOk F) → Tr.flats s (Fs.map (·.body)) <+: l.drop s → ordF l (fcs s Fs) s = some (s + Tr.sizes (Fs.map (·.body)))
 | [], s, _, _ => rfl
 | F :: Fs, s, h, hs => by
  simp only [List.map_cons, Tr.flats] at hs
  rw [prefix_app, Tr.flat_length] at hs
  have hF := h F (by simp)
  have hpos := F.body.size_pos
  have hseg : Seg l F.body s (s + F.body.size - 1) := ⟨hF.wf, by omega, hs.1⟩
  obtain ⟨n, hn1, hn2⟩ := hseg.kind
  have hle : s + F.body.size ≤ l.length := by
   have := hs.1.length_le
   rw [Tr.flat_length, List.length_drop] at this
   omega
  have hht : F.body.ht ≤ l.length + 1 := by
   have : ∀ (m : Nat) (T : Tr), T.size ≤ m → T.ht ≤ T.size := by
    intro m
    induction m with
    | zero => intro T hT; have := T.size_pos; omega
    | succ m ih =>
     intro T hT
     obtain ⟨a, ts⟩ := T
     simp only [Tr.size] at hT
     simp only [Tr.ht, Tr.size]
     have : Tr.hts ts ≤ Tr.sizes ts := hts_le fun X hX => by
      have h1 : ∀ (l : List Tr), X ∈ l → X.size ≤ Tr.sizes l := by
       intro l
       induction l with
       | nil => intro h; cases h
       | cons y l ih =>
        intro h
        simp only [Tr.sizes]
        rcases List.mem_cons.1 h with rfl | h
        ·omega
        ·have := ih h; omega
      have h2 := h1 ts hX
      have := ih X (by omega)
      omega
     omega
   have := this _ F.body (Nat.le_refl _)
   omega
  have hfirst := firstF_good (l := l) (l.length + 1) F.body s _ hht hseg
  have hn : (((s + F.body.size : Nat) : Int) - 1).toNat = s + F.body.size - 1 := by omega
  simp only [fcs, ordF, List.map_cons, Tr.sizes]
  rw [if_neg, if_neg]
  ·rw [hn, show s + F.body.size - 1 + 1 = s + F.body.size by omega, ordF_good Fs _ (fun X hX => h X (by simp [hX])) hs.2]
   congr 1; omega
  ·simp only [not_or, Int.not_lt, Int.not_le, ne_eq, Classical.not_not]
   refine ⟨by omega, by omega, ?_, ?_⟩
   ·rw [hn, hn1]; simp [hn2, hF.kind]
   ·rw [hn]; exact hfirst
  ·simp only [not_or, Bool.not_eq_false]
   exact ⟨hF.name, List.all_eq_true.2 hF.params⟩
theorem ord_iff {p : Pg} : ordB p = true ↔ ∃ Fs : List FnT, (∀ F ∈ Fs, FnTOk F) ∧ p = progOf Fs := by
 unfold ordB
 rw [decide_eq_true_eq]
 constructor
 ·intro h
  obtain ⟨Fs, g1, g2, g3, g4⟩ := ordF_spec _ _ _ h
  refine ⟨Fs, g1, ?_⟩
  obtain ⟨nodes, funcs⟩ := p
  simp only at g2 g3 g4
  simp only [List.drop_zero] at g4
  have : Tr.flats 0 (Fs.map (·.body)) = nodes := g4.eq_of_length (by rw [Tr.flats_length]; omega)
  simp only [progOf, this, g2]
 ·rintro ⟨Fs, h, rfl⟩
  have := ordF_good (l := (progOf Fs).nodes) Fs 0 h (by simp [progOf])
  simp only [progOf] at this ⊢
  rw [this, Nat.zero_add, Tr.flats_length]
end Go.Proofs.YtglndfgmlminpaaGreatDoor
namespace Go.Proofs.YtglndfgmlminpaaGreatDoor
inductive Pc where
 | t (k : Tok)
 | b (s : Bs)
def tkP : List Pc → List Tok
 | [] => []
 | .t k :: l => k :: tkP l
 | .b _ :: l => tkP l
def txP : List Pc → Bs
 | [] => []
 | .t k :: l => (textT k).1 ++ txP l
 | .b s :: l => s ++ txP l
theorem tkP_append : ∀ a c : List Pc, tkP (a ++ c) = tkP a ++ tkP c
 | [], c => rfl
 | .t k :: a, c => by simp [tkP, tkP_append a c]
 | .b s :: a, c => by simp [tkP, tkP_append a c]
theorem txP_append : ∀ a c : List Pc, txP (a ++ c) = txP a ++ txP c
 | [], c => rfl
 | .t k :: a, c => by simp [txP, txP_append a c]
 | .b s :: a, c => by simp [txP, txP_append a c]
abbrev sp1 : Pc := .b [32]
def tabs (n : Nat) : Bs := List.replicate n 9
abbrev nl (n : Nat) : Pc := .b (10 :: tabs n)
def qP (lv req : Int) (p : List Pc) : List Pc := if lv < req then .t (sy sLP) :: (p ++ [.t (sy sRP)]) else p
def commaP : List (List Pc) → List Pc
 | [] => []
 | [p] => p
 | p :: q :: l => p ++ .t (sy sCm) :: sp1 :: commaP (q :: l)
def keysP : List Bs → List (List Pc) → List (List Pc)
 | k :: ks, p :: ps => (.t (tk 4 k) :: .t (sy sCl) :: sp1 :: p) :: keysP ks ps
 | _, _ => []
def linesP (d : Nat) : List (List Pc) → List Pc
 | [] => []
 | p :: ps => nl d :: (p ++ linesP d ps)
def pcN (d : Nat) (a : Lab) (lv : List Int) (ps : List (List Pc)) : List Pc :=
 if a.kind = 1 then [.t (wd wNull)]
 else if a.kind = 2 then [.t (wd (if a.val = 1 then wTrue else wFalse))]
 else if a.kind = 3 then [.t ⟨3, [], a.val, 0⟩]
 else if a.kind = 4 then [.t (tk 4 a.text)]
 else if a.kind = 5 then [.t (tk 1 a.text)]
 else if a.kind = 6 then .t (sy sLB) :: (commaP ps ++ [.t (sy sRB)])
 else if a.kind = 7 then .t (sy sLC) :: (commaP (keysP a.keys ps) ++ [.t (sy sRC)])
 else if a.kind = 8 then
  (match lv, ps with
  | [l], [p] => if a.text = wNot then .t (wd wNot) :: sp1 :: qP l 3 p else .t (sy sMi) :: qP l 7 p
  | _, _ => [])
 else if a.kind = 9 then
  (match lv, ps with
  | [l1, l2], [p1, p2] => qP l1 (if binL a.text = 4 then 5 else binL a.text) p1 ++ sp1 :: .t (tk (opK a.text) a.text) :: sp1 :: qP l2 (binL a.text + 1) p2
  | _, _ => [])
 else if a.kind = 10 then
  (match lv, ps with
  | [l1, _], [p1, p2] => qP l1 8 p1 ++ .t (sy sLB) :: (p2 ++ [.t (sy sRB)])
  | _, _ => [])
 else if a.kind = 11 then .t (tk 1 a.text) :: .t (sy sLP) :: (commaP ps ++ [.t (sy sRP)])
 else if a.kind = 12 then .t (tk 6 a.text) :: .t (sy sLP) :: (commaP ps ++ [.t (sy sRP)])
 else if a.kind = 13 then
  (match ps with
  | [p] => .t (wd wLet) :: sp1 :: .t (tk 1 a.text) :: sp1 :: .t (sy sEq1) :: sp1 :: (p ++ [.t (sy sSc)])
  | _ => [])
 else if a.kind = 14 then
  (match ps with
  | [p] => .t (tk 1 a.text) :: sp1 :: .t (sy sEq1) :: sp1 :: (p ++ [.t (sy sSc)])
  | _ => [])
 else if a.kind = 15 then
  (match ps with
  | [c, b] => .t (wd wIf) :: sp1 :: (c ++ sp1 :: b)
  | [c, b, e] => .t (wd wIf) :: sp1 :: (c ++ sp1 :: (b ++ sp1 :: .t (wd wElse) :: sp1 :: e))
  | _ => [])
 else if a.kind = 16 then
  (match ps with
  | [c, b] => .t (wd wWhile) :: sp1 :: (c ++ sp1 :: b)
  | _ => [])
 else if a.kind = 17 then
  (match ps with
  | [p] => .t (wd wReturn) :: sp1 :: (p ++ [.t (sy sSc)])
  | _ => [])
 else if a.kind = 18 then
  (match ps with
  | [p] => p ++ [.t (sy sSc)]
  | _ => [])
 else .t (sy sLC) :: (linesP (d + 1) ps ++ [nl d, .t (sy sRC)])
mutual
def Tr.pc (d : Nat) : Tr → List Pc
 | .node a ts => pcN d a (ts.map Tr.level) (Tr.pcl (if a.kind = 19 then d + 1 else d) ts)
def Tr.pcl (d : Nat) : List Tr → List (List Pc)
 | [] => []
 | t :: ts => t.pc d :: Tr.pcl d ts
end
theorem Tr.pcl_eq (d : Nat) : ∀ ts : List Tr, Tr.pcl d ts = ts.map (Tr.pc d)
 | [] => rfl
 | t :: ts => by simp [Tr.pcl, Tr.pcl_eq d ts]
def parPc : List Bs → List Pc
 | [] => []
 | [s] => [.t (tk 1 s)]
 | s :: q :: l => .t (tk 1 s) :: .t (sy sCm) :: sp1 :: parPc (q :: l)
def FnT.pc (f : FnT) : List Pc := .t (wd wFunc) :: sp1 :: .t (Go.Proofs.YtglndfgmlminpaaGreatDoor.tk 1 f.name) :: .t (sy sLP) :: (parPc f.params ++ .t (sy sRP) :: sp1 :: (f.body.pc 0 ++ [nl 0]))
def progPc (fs : List FnT) : List Pc := (fs.map FnT.pc).flatten
theorem tkP_qP (lv req : Int) (p : List Pc) : tkP (qP lv req p) = qT lv req (tkP p) := by
 unfold qP qT
 split
 ·simp [tkP, tkP_append]
 ·rfl
theorem tkP_commaP : ∀ ps : List (List Pc), tkP (commaP ps) = commaT (ps.map tkP)
 | [] => rfl
 | [p] => rfl
 | p :: q :: l => by
  have := tkP_commaP (q :: l)
  simp only [commaP, tkP_append, tkP, List.map_cons, commaT] at this ⊢
  rw [this]
theorem tkP_keysP : ∀ (ks : List Bs) (ps : List (List Pc)), (keysP ks ps).map tkP = keysT ks (ps.map tkP)
 | [], _ => rfl
 | _ :: _, [] => rfl
 | k :: ks, p :: ps => by simp [keysP, keysT, tkP, tkP_keysP ks ps]
theorem tkP_linesP (d : Nat) : ∀ ps : List (List Pc), tkP (linesP d ps) = (ps.map tkP).flatten
 | [] => rfl
 | p :: ps => by simp [linesP, tkP, tkP_append, tkP_linesP d ps]
theorem tkP_tabs_last (a : List Pc) (d : Nat) (k : Tok) : tkP (a ++ [nl d, .t k]) = tkP a ++ [k] := by simp [tkP, tkP_append]
theorem kid_size {X : Tr} {a : Lab} {ts : List Tr} {n : Nat} (hX : X ∈ ts) (hn : (Tr.node a ts).size ≤ n + 1) : X.size ≤ n := by
 have : ∀ (l : List Tr), X ∈ l → X.size ≤ Tr.sizes l := by
  intro l
  induction l with
  | nil => intro h; cases h
  | cons y l ih =>
   intro h
   simp only [Tr.sizes]
   rcases List.mem_cons.1 h with rfl | h
   ·omega
   ·have := ih h; omega
 have := this ts hX
 simp only [Tr.size] at hn
 omega
theorem kid_wf {X : Tr} {k : Int} {ts : List Tr} (hX : X ∈ ts) (hws : Tr.wfs k 0 ts = true) : X.wf = true := by
 obtain ⟨i, hi⟩ := List.getElem?_of_mem hX
 exact (wfs_mem hws i X hi).1
theorem Tr.pc_tk : ∀ (n : Nat) (T : Tr) (d : Nat), T.size ≤ n → T.wf = true → tkP (T.pc d) = T.tk := by
 intro n
 induction n with
 | zero => intro T d hn; have := T.size_pos; omega
 | succ n ih =>
  intro T d hn hw
  obtain ⟨⟨kind, text, val, keys⟩, ts⟩ := T
  obtain ⟨hf, hc, hws⟩ := wf_parts hw
  simp only at hf hc hws
  have hX : ∀ X ∈ ts, ∀ d, tkP (X.pc d) = X.tk := fun X hX d => ih X d (kid_size hX hn) (kid_wf hX hws)
  have hl : ∀ d, (Tr.pcl d ts).map tkP = Tr.tkl ts := fun d => by
   rw [Tr.pcl_eq, Tr.tkl_eq, List.map_map]
   exact List.map_congr_left fun X h => hX X h d
  rcases count_cases hc with ⟨h1, h2, h0⟩ | ⟨rfl, h0⟩ | ⟨rfl, h0⟩ | ⟨rfl, h0⟩ | ⟨rfl, h0⟩ | ⟨rfl, h0⟩ | ⟨rfl, h0⟩ | ⟨rfl, h0⟩ | ⟨rfl, h0⟩ | ⟨rfl, h0⟩ | ⟨rfl, h0⟩ | rfl | rfl | rfl | rfl | rfl
  ·obtain rfl := len0 h0
   have : kind = 1 ∨ kind = 2 ∨ kind = 3 ∨ kind = 4 ∨ kind = 5 := by omega
   rcases this with rfl | rfl | rfl | rfl | rfl <;> rfl
  ·obtain ⟨A, rfl⟩ := len1 h0
   have e1 : (Tr.node ⟨8, text, val, keys⟩ [A]).pc d = if text = wNot then .t (wd wNot) :: sp1 :: qP A.level 3 (A.pc d) else .t (sy sMi) :: qP A.level 7 (A.pc d) := rfl
   have e2 : (Tr.node ⟨8, text, val, keys⟩ [A]).tk = if text = wNot then wd wNot :: qT A.level 3 A.tk else sy sMi :: qT A.level 7 A.tk := rfl
   rw [e1, e2]
   split <;> simp [tkP, tkP_qP, hX]
  ·obtain ⟨A, rfl⟩ := len1 h0
   have e1 : (Tr.node ⟨13, text, val, keys⟩ [A]).pc d = .t (wd wLet) :: sp1 :: .t (Go.Proofs.YtglndfgmlminpaaGreatDoor.tk 1 text) :: sp1 :: .t (sy sEq1) :: sp1 :: (A.pc d ++ [.t (sy sSc)]) := rfl
   have e2 : (Tr.node ⟨13, text, val, keys⟩ [A]).tk = wd wLet :: Go.Proofs.YtglndfgmlminpaaGreatDoor.tk 1 text :: sy sEq1 :: (A.tk ++ [sy sSc]) := rfl
   rw [e1, e2]; simp [tkP, tkP_append, hX]
  ·obtain ⟨A, rfl⟩ := len1 h0
   have e1 : (Tr.node ⟨14, text, val, keys⟩ [A]).pc d = .t (Go.Proofs.YtglndfgmlminpaaGreatDoor.tk 1 text) :: sp1 :: .t (sy sEq1) :: sp1 :: (A.pc d ++ [.t (sy sSc)]) := rfl
   have e2 : (Tr.node ⟨14, text, val, keys⟩ [A]).tk = Go.Proofs.YtglndfgmlminpaaGreatDoor.tk 1 text :: sy sEq1 :: (A.tk ++ [sy sSc]) := rfl
   rw [e1, e2]; simp [tkP, tkP_append, hX]
  ·obtain ⟨A, rfl⟩ := len1 h0
   have e1 : (Tr.node ⟨17, text, val, keys⟩ [A]).pc d = .t (wd wReturn) :: sp1 :: (A.pc d ++ [.t (sy sSc)]) := rfl
   have e2 : (Tr.node ⟨17, text, val, keys⟩ [A]).tk = wd wReturn :: (A.tk ++ [sy sSc]) := rfl
   rw [e1, e2]; simp [tkP, tkP_append, hX]
  ·obtain ⟨A, rfl⟩ := len1 h0
   have e1 : (Tr.node ⟨18, text, val, keys⟩ [A]).pc d = A.pc d ++ [.t (sy sSc)] := rfl
   have e2 : (Tr.node ⟨18, text, val, keys⟩ [A]).tk = A.tk ++ [sy sSc] := rfl
   rw [e1, e2]; simp [tkP, tkP_append, hX]
  ·obtain ⟨A, B, rfl⟩ := len2 h0
   have e1 : (Tr.node ⟨9, text, val, keys⟩ [A, B]).pc d = qP A.level (if binL text = 4 then 5 else binL text) (A.pc d) ++ sp1 :: .t (Go.Proofs.YtglndfgmlminpaaGreatDoor.tk (opK text) text) :: sp1 :: qP B.level (binL text + 1) (B.pc d) := rfl
   have e2 : (Tr.node ⟨9, text, val, keys⟩ [A, B]).tk = qT A.level (if binL text = 4 then 5 else binL text) A.tk ++ Go.Proofs.YtglndfgmlminpaaGreatDoor.tk (opK text) text :: qT B.level (binL text + 1) B.tk := rfl
   rw [e1, e2]; simp [tkP, tkP_append, tkP_qP, hX]
  ·obtain ⟨A, B, rfl⟩ := len2 h0
   have e1 : (Tr.node ⟨10, text, val, keys⟩ [A, B]).pc d = qP A.level 8 (A.pc d) ++ .t (sy sLB) :: (B.pc d ++ [.t (sy sRB)]) := rfl
   have e2 : (Tr.node ⟨10, text, val, keys⟩ [A, B]).tk = qT A.level 8 A.tk ++ sy sLB :: (B.tk ++ [sy sRB]) := rfl
   rw [e1, e2]; simp [tkP, tkP_append, tkP_qP, hX]
  ·obtain ⟨A, B, rfl⟩ := len2 h0
   have e1 : (Tr.node ⟨16, text, val, keys⟩ [A, B]).pc d = .t (wd wWhile) :: sp1 :: (A.pc d ++ sp1 :: B.pc d) := rfl
   have e2 : (Tr.node ⟨16, text, val, keys⟩ [A, B]).tk = wd wWhile :: (A.tk ++ B.tk) := rfl
   rw [e1, e2]; simp [tkP, tkP_append, hX]
  ·obtain ⟨A, B, rfl⟩ := len2 h0
   have e1 : (Tr.node ⟨15, text, val, keys⟩ [A, B]).pc d = .t (wd wIf) :: sp1 :: (A.pc d ++ sp1 :: B.pc d) := rfl
   have e2 : (Tr.node ⟨15, text, val, keys⟩ [A, B]).tk = wd wIf :: (A.tk ++ B.tk) := rfl
   rw [e1, e2]; simp [tkP, tkP_append, hX]
  ·obtain ⟨A, B, C, rfl⟩ := len3 h0
   have e1 : (Tr.node ⟨15, text, val, keys⟩ [A, B, C]).pc d = .t (wd wIf) :: sp1 :: (A.pc d ++ sp1 :: (B.pc d ++ sp1 :: .t (wd wElse) :: sp1 :: C.pc d)) := rfl
   have e2 : (Tr.node ⟨15, text, val, keys⟩ [A, B, C]).tk = wd wIf :: (A.tk ++ B.tk ++ wd wElse :: C.tk) := rfl
   rw [e1, e2]; simp [tkP, tkP_append, hX]
  ·have e1 : (Tr.node ⟨6, text, val, keys⟩ ts).pc d = .t (sy sLB) :: (commaP (Tr.pcl d ts) ++ [.t (sy sRB)]) := rfl
   have e2 : (Tr.node ⟨6, text, val, keys⟩ ts).tk = sy sLB :: (commaT (Tr.tkl ts) ++ [sy sRB]) := rfl
   rw [e1, e2]; simp [tkP, tkP_append, tkP_commaP, hl]
  ·have e1 : (Tr.node ⟨7, text, val, keys⟩ ts).pc d = .t (sy sLC) :: (commaP (keysP keys (Tr.pcl d ts)) ++ [.t (sy sRC)]) := rfl
   have e2 : (Tr.node ⟨7, text, val, keys⟩ ts).tk = sy sLC :: (commaT (keysT keys (Tr.tkl ts)) ++ [sy sRC]) := rfl
   rw [e1, e2]; simp [tkP, tkP_append, tkP_commaP, tkP_keysP, hl]
  ·have e1 : (Tr.node ⟨11, text, val, keys⟩ ts).pc d = .t (Go.Proofs.YtglndfgmlminpaaGreatDoor.tk 1 text) :: .t (sy sLP) :: (commaP (Tr.pcl d ts) ++ [.t (sy sRP)]) := rfl
   have e2 : (Tr.node ⟨11, text, val, keys⟩ ts).tk = Go.Proofs.YtglndfgmlminpaaGreatDoor.tk 1 text :: sy sLP :: (commaT (Tr.tkl ts) ++ [sy sRP]) := rfl
   rw [e1, e2]; simp [tkP, tkP_append, tkP_commaP, hl]
  ·have e1 : (Tr.node ⟨12, text, val, keys⟩ ts).pc d = .t (Go.Proofs.YtglndfgmlminpaaGreatDoor.tk 6 text) :: .t (sy sLP) :: (commaP (Tr.pcl d ts) ++ [.t (sy sRP)]) := rfl
   have e2 : (Tr.node ⟨12, text, val, keys⟩ ts).tk = Go.Proofs.YtglndfgmlminpaaGreatDoor.tk 6 text :: sy sLP :: (commaT (Tr.tkl ts) ++ [sy sRP]) := rfl
   rw [e1, e2]; simp [tkP, tkP_append, tkP_commaP, hl]
  ·have e1 : (Tr.node ⟨19, text, val, keys⟩ ts).pc d = .t (sy sLC) :: (linesP (d + 1) (Tr.pcl (d + 1) ts) ++ [nl d, .t (sy sRC)]) := rfl
   have e2 : (Tr.node ⟨19, text, val, keys⟩ ts).tk = sy sLC :: ((Tr.tkl ts).flatten ++ [sy sRC]) := rfl
   rw [e1, e2]; simp [tkP, tkP_tabs_last, tkP_linesP, hl]
theorem parPc_tk : ∀ ps : List Bs, tkP (parPc ps) = parT ps
 | [] => rfl
 | [p] => rfl
 | p :: q :: l => by
  have := parPc_tk (q :: l)
  simp only [parPc, tkP, parT] at this ⊢
  rw [this]
theorem FnT.pc_tk {F : FnT} (h : FnTOk F) : tkP F.pc = F.tk := by
 simp only [FnT.pc, FnT.tk, tkP, tkP_append, parPc_tk, Tr.pc_tk _ F.body 0 (Nat.le_refl _) h.wf, List.append_nil]
theorem progPc_tk : ∀ {fs : List FnT}, (∀ F ∈ fs, FnTOk F) → tkP (progPc fs) = progT fs
 | [], _ => rfl
 | F :: fs, h => by
  have := progPc_tk (fs := fs) fun X hX => h X (by simp [hX])
  simp only [progPc, progT, List.map_cons, List.flatten_cons, tkP_append] at this ⊢
  rw [this, FnT.pc_tk (h F (by simp))]
end Go.Proofs.YtglndfgmlminpaaGreatDoor
namespace Go.Proofs.YtglndfgmlminpaaGreatDoor
def opnT (t : Tok) : Bool := decide (t.kind = 5) && [sLP, sLB, sLC, sMi].contains t.text
def clsT (t : Tok) : Bool := decide (t.kind = 5) && [sRP, sRB, sRC, sCm, sSc, sCl, sLP, sLB].contains t.text
def nextOk (a : Tok) : List Pc → Bool
 | .t b :: _ => opnT a || clsT b
 | _ => true
def okTk (t : Tok) : Bool := decide ((textT t).2 = 0)
def adj : List Pc → Bool
 | [] => true
 | .b s :: l => !s.isEmpty && s.all isBl && adj l
 | .t a :: l => okTk a && nextOk a l && adj l
theorem adj_open {a : Tok} {l : List Pc} (h : okTk a = true) (ho : opnT a = true) (hl : adj l = true) : adj (.t a :: l) = true := by
 simp only [adj, Bool.and_eq_true]
 refine ⟨⟨h, ?_⟩, hl⟩
 unfold nextOk
 split
 ·simp [ho]
 ·rfl
theorem adj_tb {a : Tok} {s : Bs} {l : List Pc} (h : okTk a = true) (hl : adj (.b s :: l) = true) : adj (.t a :: .b s :: l) = true := by
 rw [show adj (.t a :: .b s :: l) = (okTk a && nextOk a (.b s :: l) && adj (.b s :: l)) from rfl, h, hl]; rfl
theorem adj_tc {a b : Tok} {l : List Pc} (h : okTk a = true) (hc : clsT b = true) (hl : adj (.t b :: l) = true) : adj (.t a :: .t b :: l) = true := by
 rw [show adj (.t a :: .t b :: l) = (okTk a && (opnT a || clsT b) && adj (.t b :: l)) from rfl, h, hl, hc]; simp
theorem adj_b {s : Bs} {l : List Pc} (h1 : s.isEmpty = false) (h2 : s.all isBl = true) (hl : adj l = true) : adj (.b s :: l) = true := by
 simp [adj, h1, h2, hl]
theorem adj_sp {l : List Pc} (hl : adj l = true) : adj (sp1 :: l) = true := adj_b rfl rfl hl
theorem adj_nl {d : Nat} {l : List Pc} (hl : adj l = true) : adj (nl d :: l) = true := by
 refine adj_b rfl ?_ hl
 simp [tabs, isBl]
theorem adj_one {a : Tok} (h : okTk a = true) : adj [.t a] = true := by simp [adj, h, nextOk]
theorem adj_mid : ∀ {p l : List Pc} {b : Tok}, adj p = true → clsT b = true → adj (.t b :: l) = true → adj (p ++ .t b :: l) = true
 | [], l, b, _, _, h => h
 | .b s :: p, l, b, hp, hc, h => by
  simp only [adj, Bool.and_eq_true] at hp
  simp only [List.cons_append, adj, Bool.and_eq_true]
  exact ⟨hp.1, adj_mid hp.2 hc h⟩
 | .t a :: p, l, b, hp, hc, h => by
  simp only [adj, Bool.and_eq_true] at hp
  simp only [List.cons_append, adj, Bool.and_eq_true]
  refine ⟨⟨hp.1.1, ?_⟩, adj_mid hp.2 hc h⟩
  cases p with
  | nil => simp [nextOk, hc]
  | cons x p =>
   cases x with
   | t k => simpa [nextOk] using hp.1.2
   | b s => rfl
theorem adj_midb : ∀ {p l : List Pc} {s : Bs}, adj p = true → adj (.b s :: l) = true → adj (p ++ .b s :: l) = true
 | [], l, s, _, h => h
 | .b s' :: p, l, s, hp, h => by
  simp only [adj, Bool.and_eq_true] at hp
  have := adj_midb hp.2 h
  simp only [List.cons_append]
  rw [show adj (.b s' :: (p ++ .b s :: l)) = (!s'.isEmpty && s'.all isBl && adj (p ++ .b s :: l)) from rfl, this]
  simp only [Bool.and_eq_true]
  exact ⟨hp.1, trivial⟩
 | .t a :: p, l, s, hp, h => by
  simp only [adj, Bool.and_eq_true] at hp
  have := adj_midb hp.2 h
  simp only [List.cons_append]
  rw [show adj (.t a :: (p ++ .b s :: l)) = (okTk a && nextOk a (p ++ .b s :: l) && adj (p ++ .b s :: l)) from rfl, this]
  simp only [Bool.and_eq_true]
  refine ⟨⟨hp.1.1, ?_⟩, trivial⟩
  cases p with
  | nil => rfl
  | cons x p =>
   cases x with
   | t k => simpa [nextOk] using hp.1.2
   | b s => rfl
theorem kwL_lit (l : Bs) : kwL l = ([wFunc, wLet, wIf, wElse, wWhile, wReturn, wAnd, wOr, wNot, wNull, wTrue, wFalse] : List Bs).any fun k => l == k := by
 have h : ∀ k : Bs, sEq (mk l) ⟨k.toArray⟩ = (l == k) := fun k => sEq_mk l k
 unfold kwL kwB kws
 simp only [List.any_cons, List.any_nil, h]
 rfl
theorem ok_wd {s : Bs} (h : ([wFunc, wLet, wIf, wElse, wWhile, wReturn, wAnd, wOr, wNot, wNull, wTrue, wFalse] : List Bs).any (fun k => s == k) = true) : okTk (wd s) = true := by
 rw [← kwL_lit] at h
 simp [okTk, textT, tk, h]
theorem ok_name {s : Bs} (h : nameB s = true) : okTk (tk 1 s) = true := by
 simp only [nameB, Bool.and_eq_true, Bool.not_eq_true'] at h
 simp [okTk, textT, tk, h.1, h.2]
theorem ok_host {s : Bs} (h : wholeB s = true) : okTk (tk 6 s) = true := by
 simp [okTk, textT, tk, h]
theorem ok_str {s : Bs} (h : contB s = true) : okTk (tk 4 s) = true := by
 simp [okTk, textT, tk, h]
theorem ok_int {v : Int} (h0 : 0 ≤ v) (h1 : v ≤ 1000000000000) : okTk ⟨3, [], v, 0⟩ = true := by
 have : validB v = true := by simp [validB]; omega
 simp [okTk, textT, h0, this]
theorem ok_op {s : Bs} (h : 0 < binL s) : okTk (tk (opK s) s) = true := by
 rcases binL_cases s with h0 | h1 | h2 | h4 | h5 | h6
 ·omega
 ·have := binL_or.2 h1
  simp only [List.contains_cons, List.contains_nil, Bool.or_false, beq_iff_eq] at this
  subst this; exact ok_wd rfl
 ·have := binL_and.2 h2
  simp only [List.contains_cons, List.contains_nil, Bool.or_false, beq_iff_eq] at this
  subst this; exact ok_wd rfl
 ·have := binL_cmp.2 h4
  simp only [opCmp, List.contains_cons, List.contains_nil, Bool.or_false, Bool.or_eq_true, beq_iff_eq] at this
  rcases this with rfl | rfl | rfl | rfl | rfl | rfl <;> rfl
 ·have := binL_add.2 h5
  simp only [opAdd, List.contains_cons, List.contains_nil, Bool.or_false, Bool.or_eq_true, beq_iff_eq] at this
  rcases this with rfl | rfl <;> rfl
 ·have := binL_mul.2 h6
  simp only [opMul, List.contains_cons, List.contains_nil, Bool.or_false, Bool.or_eq_true, beq_iff_eq] at this
  rcases this with rfl | rfl | rfl <;> rfl
theorem adj_qP {lv req : Int} {p : List Pc} (h : adj p = true) : adj (qP lv req p) = true := by
 unfold qP
 split
 ·exact adj_open rfl rfl (adj_mid h rfl (adj_one rfl))
 ·exact h
theorem adj_commaP : ∀ {ps : List (List Pc)}, (∀ p ∈ ps, adj p = true) → adj (commaP ps) = true
 | [], _ => rfl
 | [p], h => h p (by simp)
 | p :: q :: l, h => by
  have := adj_commaP (ps := q :: l) fun x hx => h x (by simp [hx])
  exact adj_mid (h p (by simp)) rfl (adj_tb rfl (adj_sp this))
theorem adj_keysP : ∀ {ks : List Bs} {ps : List (List Pc)}, (∀ k ∈ ks, contB k = true) → (∀ p ∈ ps, adj p = true) → ∀ p ∈ keysP ks ps, adj p = true
 | [], _, _, _, p, hp => by cases hp
 | _ :: _, [], _, _, p, hp => by cases hp
 | k :: ks, q :: ps, hk, h, p, hp => by
  simp only [keysP, List.mem_cons] at hp
  rcases hp with rfl | hp
  ·exact adj_tc (ok_str (hk k (by simp))) rfl (adj_tb rfl (adj_sp (h q (by simp))))
  ·exact adj_keysP (fun x hx => hk x (by simp [hx])) (fun x hx => h x (by simp [hx])) p hp
theorem adj_linesP (d d' : Nat) : ∀ {ps : List (List Pc)}, (∀ p ∈ ps, adj p = true) → adj (linesP d ps ++ [nl d', .t (sy sRC)]) = true
 | [], _ => adj_nl (adj_one rfl)
 | p :: ps, h => by
  have := adj_linesP d d' (ps := ps) fun x hx => h x (by simp [hx])
  simp only [linesP, List.cons_append, List.append_assoc]
  refine adj_nl ?_
  cases ps with
  | nil => exact adj_midb (h p (by simp)) this
  | cons q ps => exact adj_midb (h p (by simp)) this
theorem asc_cont : ∀ {ks : List Bs}, ascB ks = true → ∀ k ∈ ks, contB k = true
 | [], _, k, h => by cases h
 | [a], ha, k, h => by rw [List.mem_singleton.1 h]; exact ha
 | a :: b :: l, ha, k, h => by
  simp only [ascB, Bool.and_eq_true] at ha
  rcases List.mem_cons.1 h with rfl | h
  ·exact ha.1.1
  ·exact asc_cont (ks := b :: l) ha.2 k h
theorem Tr.pc_adj : ∀ (n : Nat) (T : Tr) (d : Nat), T.size ≤ n → T.wf = true → adj (T.pc d) = true := by
 intro n
 induction n with
 | zero => intro T d hn; have := T.size_pos; omega
 | succ n ih =>
  intro T d hn hw
  obtain ⟨⟨kind, text, val, keys⟩, ts⟩ := T
  obtain ⟨hf, hc, hws⟩ := wf_parts hw
  simp only at hf hc hws
  have hX : ∀ X ∈ ts, ∀ d, adj (X.pc d) = true := fun X hX d => ih X d (kid_size hX hn) (kid_wf hX hws)
  have hl : ∀ d, ∀ p ∈ Tr.pcl d ts, adj p = true := fun d p hp => by
   rw [Tr.pcl_eq] at hp
   obtain ⟨X, h1, rfl⟩ := List.mem_map.1 hp
   exact hX X h1 d
  have hff := fields_facts hf
  rcases count_cases hc with ⟨h1, h2, h0⟩ | ⟨rfl, h0⟩ | ⟨rfl, h0⟩ | ⟨rfl, h0⟩ | ⟨rfl, h0⟩ | ⟨rfl, h0⟩ | ⟨rfl, h0⟩ | ⟨rfl, h0⟩ | ⟨rfl, h0⟩ | ⟨rfl, h0⟩ | ⟨rfl, h0⟩ | rfl | rfl | rfl | rfl | rfl
  ·obtain rfl := len0 h0
   have : kind = 1 ∨ kind = 2 ∨ kind = 3 ∨ kind = 4 ∨ kind = 5 := by omega
   rcases this with rfl | rfl | rfl | rfl | rfl
   ·exact adj_one (ok_wd rfl)
   ·obtain rfl := hff.1 (by simp)
    obtain ⟨_, hv⟩ : text = [] ∧ (val = 0 ∨ val = 1) := by simpa [fieldsB] using hf
    rcases hv with rfl | rfl
    ·exact adj_one (ok_wd rfl)
    ·exact adj_one (ok_wd rfl)
   ·obtain rfl := hff.1 (by simp)
    obtain ⟨⟨_, h3⟩, h4⟩ : (text = [] ∧ 0 ≤ val) ∧ val ≤ 1000000000000 := by simpa [fieldsB] using hf
    exact adj_one (ok_int h3 h4)
   ·obtain rfl := hff.1 (by simp); obtain rfl := hff.2 (by simp) (by simp)
    exact adj_one (ok_str (by simpa [fieldsB] using hf))
   ·obtain rfl := hff.1 (by simp); obtain rfl := hff.2 (by simp) (by simp)
    exact adj_one (ok_name (by simpa [fieldsB] using hf))
  ·obtain ⟨A, rfl⟩ := len1 h0
   have e1 : (Tr.node ⟨8, text, val, keys⟩ [A]).pc d = if text = wNot then .t (wd wNot) :: sp1 :: qP A.level 3 (A.pc d) else .t (sy sMi) :: qP A.level 7 (A.pc d) := rfl
   rw [e1]
   split
   ·exact adj_tb (ok_wd rfl) (adj_sp (adj_qP (hX A (by simp) d)))
   ·exact adj_open rfl rfl (adj_qP (hX A (by simp) d))
  ·obtain ⟨A, rfl⟩ := len1 h0
   obtain rfl := hff.1 (by simp); obtain rfl := hff.2 (by simp) (by simp)
   have hn : nameB text = true := by simpa [fieldsB] using hf
   exact adj_tb (ok_wd rfl) (adj_sp (adj_tb (ok_name hn) (adj_sp (adj_tb rfl (adj_sp (adj_mid (hX A (by simp) d) rfl (adj_one rfl)))))))
  ·obtain ⟨A, rfl⟩ := len1 h0
   obtain rfl := hff.1 (by simp); obtain rfl := hff.2 (by simp) (by simp)
   have hn : nameB text = true := by simpa [fieldsB] using hf
   exact adj_tb (ok_name hn) (adj_sp (adj_tb rfl (adj_sp (adj_mid (hX A (by simp) d) rfl (adj_one rfl)))))
  ·obtain ⟨A, rfl⟩ := len1 h0
   exact adj_tb (ok_wd rfl) (adj_sp (adj_mid (hX A (by simp) d) rfl (adj_one rfl)))
  ·obtain ⟨A, rfl⟩ := len1 h0
   exact adj_mid (hX A (by simp) d) rfl (adj_one rfl)
  ·obtain ⟨A, B, rfl⟩ := len2 h0
   obtain rfl := hff.1 (by simp); obtain rfl := hff.2 (by simp) (by simp)
   have hb : 0 < binL text := by simpa [fieldsB] using hf
   exact adj_midb (adj_qP (hX A (by simp) d)) (adj_sp (adj_tb (ok_op hb) (adj_sp (adj_qP (hX B (by simp) d)))))
  ·obtain ⟨A, B, rfl⟩ := len2 h0
   exact adj_mid (adj_qP (hX A (by simp) d)) rfl (adj_open rfl rfl (adj_mid (hX B (by simp) d) rfl (adj_one rfl)))
  ·obtain ⟨A, B, rfl⟩ := len2 h0
   exact adj_tb (ok_wd rfl) (adj_sp (adj_midb (hX A (by simp) d) (adj_sp (hX B (by simp) d))))
  ·obtain ⟨A, B, rfl⟩ := len2 h0
   exact adj_tb (ok_wd rfl) (adj_sp (adj_midb (hX A (by simp) d) (adj_sp (hX B (by simp) d))))
  ·obtain ⟨A, B, C, rfl⟩ := len3 h0
   exact adj_tb (ok_wd rfl) (adj_sp (adj_midb (hX A (by simp) d) (adj_sp (adj_midb (hX B (by simp) d) (adj_sp (adj_tb (ok_wd rfl) (adj_sp (hX C (by simp) d))))))))
  ·exact adj_open rfl rfl (adj_mid (adj_commaP (hl d)) rfl (adj_one rfl))
  ·obtain rfl := hff.2 (by simp) (by simp)
   obtain ⟨⟨_, h2⟩, h3⟩ : (text = [] ∧ keys.length = ts.length) ∧ ascB keys = true := by simpa [fieldsB] using hf
   exact adj_open rfl rfl (adj_mid (adj_commaP (adj_keysP (asc_cont h3) (hl d))) rfl (adj_one rfl))
  ·obtain rfl := hff.1 (by simp); obtain rfl := hff.2 (by simp) (by simp)
   have hn : nameB text = true := by simpa [fieldsB] using hf
   exact adj_tc (ok_name hn) rfl (adj_open rfl rfl (adj_mid (adj_commaP (hl d)) rfl (adj_one rfl)))
  ·obtain rfl := hff.1 (by simp); obtain rfl := hff.2 (by simp) (by simp)
   have hn : wholeB text = true := by simpa [fieldsB] using hf
   exact adj_tc (ok_host hn) rfl (adj_open rfl rfl (adj_mid (adj_commaP (hl d)) rfl (adj_one rfl)))
  ·exact adj_open rfl rfl (adj_linesP (d + 1) d (hl (d + 1)))
theorem parPc_adj : ∀ {ps : List Bs} {l : List Pc}, (∀ s ∈ ps, nameB s = true) → adj (.t (sy sRP) :: l) = true → adj (parPc ps ++ .t (sy sRP) :: l) = true
 | [], l, _, h => h
 | [p], l, hp, h => adj_tc (ok_name (hp p (by simp))) rfl h
 | p :: q :: ps, l, hp, h => by
  have := parPc_adj (ps := q :: ps) (fun s hs => hp s (by simp [hs])) h
  exact adj_tc (ok_name (hp p (by simp))) rfl (adj_tb rfl (adj_sp this))
theorem FnT.pc_adj {F : FnT} (h : FnTOk F) {l : List Pc} (hl : adj l = true) : adj (F.pc ++ l) = true := by
 have hb := Tr.pc_adj _ F.body 0 (Nat.le_refl _) h.wf
 simp only [FnT.pc, List.cons_append, List.append_assoc]
 refine adj_tb (ok_wd rfl) (adj_sp (adj_tc (ok_name h.name) rfl (adj_open rfl rfl (parPc_adj h.params (adj_tb rfl (adj_sp ?_))))))
 exact adj_midb hb (adj_nl hl)
theorem progPc_adj : ∀ {fs : List FnT}, (∀ F ∈ fs, FnTOk F) → adj (progPc fs) = true
 | [], _ => rfl
 | F :: fs, h => FnT.pc_adj (h F (by simp)) (progPc_adj (fs := fs) fun X hX => h X (by simp [hX]))
end Go.Proofs.YtglndfgmlminpaaGreatDoor
