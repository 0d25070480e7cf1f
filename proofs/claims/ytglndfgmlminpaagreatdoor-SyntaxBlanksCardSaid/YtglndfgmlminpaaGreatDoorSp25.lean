/- Texts joined by pack.py: XSyP9 XSyPA -/
import Derived.Test.YtglndfgmlminpaaGreatDoorSp24
namespace Go.Proofs.YtglndfgmlminpaaGreatDoor
theorem qT_len (lv req : Int) (p : List Tok) : p.length ≤ (qT lv req p).length := by
 unfold qT
 split
 ·simp only [List.length_cons, List.length_append]; omega
 ·exact Nat.le_refl _
theorem commaT_mem : ∀ {ps : List (List Tok)} {p : List Tok}, p ∈ ps → p.length ≤ (commaT ps).length
 | [], p, h => by cases h
 | [q], p, h => by rw [List.mem_singleton.1 h]; exact Nat.le_refl _
 | q :: q2 :: l, p, h => by
  simp only [commaT, List.length_append, List.length_cons]
  rcases List.mem_cons.1 h with rfl | h
  ·omega
  ·have := commaT_mem (ps := q2 :: l) h; omega
theorem keysT_mem : ∀ {ks : List Bs} {ps : List (List Tok)} {p : List Tok}, ks.length = ps.length → p ∈ ps → ∃ q ∈ keysT ks ps, p.length ≤ q.length
 | [], [], p, _, h => by cases h
 | [], _ :: _, p, h, _ => by simp at h
 | _ :: _, [], p, h, _ => by simp at h
 | k :: ks, q :: ps, p, hl, h => by
  simp only [keysT]
  rcases List.mem_cons.1 h with rfl | h
  ·exact ⟨_, List.mem_cons_self .., by simp only [List.length_cons]; omega⟩
  ·obtain ⟨x, hx, hx2⟩ := keysT_mem (ks := ks) (by simpa using hl) h
   exact ⟨x, List.mem_cons_of_mem _ hx, hx2⟩
theorem flat_mem {ps : List (List Tok)} {p : List Tok} (h : p ∈ ps) : p.length ≤ ps.flatten.length := by
 induction ps with
 | nil => cases h
 | cons q ps ih =>
  simp only [List.flatten_cons, List.length_append]
  rcases List.mem_cons.1 h with rfl | h
  ·omega
  ·have := ih h; omega
theorem count_cases {k : Int} {n : Nat} (h : countB k n = true) : (1 ≤ k ∧ k ≤ 5 ∧ n = 0) ∨ (k = 8 ∧ n = 1) ∨ (k = 13 ∧ n = 1) ∨ (k = 14 ∧ n = 1) ∨ (k = 17 ∧ n = 1) ∨ (k = 18 ∧ n = 1) ∨ (k = 9 ∧ n = 2) ∨ (k = 10 ∧ n = 2) ∨ (k = 16 ∧ n = 2) ∨ (k = 15 ∧ n = 2) ∨ (k = 15 ∧ n = 3) ∨ k = 6 ∨ k = 7 ∨ k = 11 ∨ k = 12 ∨ k = 19 := by
 unfold countB at h
 split at h
 ·rename_i hk
  exact .inl ⟨hk.1, hk.2, of_decide_eq_true h⟩
 split at h
 ·rename_i hk
  have h := of_decide_eq_true h
  rcases hk with rfl | rfl | rfl | rfl | rfl <;> simp [h]
 split at h
 ·rename_i hk
  have h := of_decide_eq_true h
  rcases hk with rfl | rfl | rfl <;> simp [h]
 split at h
 ·rename_i hk
  subst hk
  simp only [Bool.or_eq_true, decide_eq_true_eq] at h
  rcases h with h | h <;> simp [h]
 ·have h := of_decide_eq_true h
  rcases h with rfl | rfl | rfl | rfl | rfl <;> simp
theorem len3 {ts : List Tr} (h : ts.length = 3) : ∃ a b c, ts = [a, b, c] := by
 match ts, h with
 | [a, b, c], _ => exact ⟨a, b, c, rfl⟩
theorem tk_len {T : Tr} (hw : T.wf = true) : 1 ≤ T.tk.length ∧ ∀ X, (∃ a ts, T = .node a ts ∧ X ∈ ts) → X.tk.length + 1 ≤ T.tk.length := by
 obtain ⟨⟨kind, text, val, keys⟩, ts⟩ := T
 obtain ⟨hf, hc, hws⟩ := wf_parts hw
 simp only at hf hc hws
 have fin : (1 ≤ (Tr.node ⟨kind, text, val, keys⟩ ts).tk.length ∧ ∀ X ∈ ts, X.tk.length + 1 ≤ (Tr.node ⟨kind, text, val, keys⟩ ts).tk.length) → 1 ≤ (Tr.node ⟨kind, text, val, keys⟩ ts).tk.length ∧ ∀ X, (∃ a us, Tr.node ⟨kind, text, val, keys⟩ ts = .node a us ∧ X ∈ us) → X.tk.length + 1 ≤ (Tr.node ⟨kind, text, val, keys⟩ ts).tk.length := by
  rintro ⟨h1, h2⟩
  refine ⟨h1, ?_⟩
  rintro X ⟨a, us, he, hX⟩
  cases he
  exact h2 X hX
 refine fin ?_
 have hmem : ∀ X ∈ ts, X.tk ∈ Tr.tkl ts := fun X hX => by rw [Tr.tkl_eq]; exact List.mem_map_of_mem hX
 have comma : ∀ X ∈ ts, X.tk.length ≤ (commaT (Tr.tkl ts)).length := fun X hX => commaT_mem (hmem X hX)
 rcases count_cases hc with ⟨h1, h2, h0⟩ | ⟨rfl, h0⟩ | ⟨rfl, h0⟩ | ⟨rfl, h0⟩ | ⟨rfl, h0⟩ | ⟨rfl, h0⟩ | ⟨rfl, h0⟩ | ⟨rfl, h0⟩ | ⟨rfl, h0⟩ | ⟨rfl, h0⟩ | ⟨rfl, h0⟩ | rfl | rfl | rfl | rfl | rfl
 ·obtain rfl := len0 h0
  refine ⟨?_, fun X hX => by cases hX⟩
  have : kind = 1 ∨ kind = 2 ∨ kind = 3 ∨ kind = 4 ∨ kind = 5 := by omega
  rcases this with rfl | rfl | rfl | rfl | rfl <;> exact Nat.le_refl 1
 ·obtain ⟨A, rfl⟩ := len1 h0
  have : (Tr.node ⟨8, text, val, keys⟩ [A]).tk = if text = wNot then wd wNot :: qT A.level 3 A.tk else sy sMi :: qT A.level 7 A.tk := rfl
  rw [this]
  have l1 := qT_len A.level 3 A.tk
  have l2 := qT_len A.level 7 A.tk
  split <;> (refine ⟨by simp only [List.length_cons]; omega, fun X hX => ?_⟩; rw [List.mem_singleton.1 hX]; simp only [List.length_cons]; omega)
 ·obtain ⟨A, rfl⟩ := len1 h0
  have : (Tr.node ⟨13, text, val, keys⟩ [A]).tk = wd wLet :: tk 1 text :: sy sEq1 :: (A.tk ++ [sy sSc]) := rfl
  rw [this]
  refine ⟨by simp only [List.length_cons, List.length_append]; omega, fun X hX => ?_⟩; rw [List.mem_singleton.1 hX]; simp only [List.length_cons, List.length_append]; omega
 ·obtain ⟨A, rfl⟩ := len1 h0
  have : (Tr.node ⟨14, text, val, keys⟩ [A]).tk = tk 1 text :: sy sEq1 :: (A.tk ++ [sy sSc]) := rfl
  rw [this]
  refine ⟨by simp only [List.length_cons, List.length_append]; omega, fun X hX => ?_⟩; rw [List.mem_singleton.1 hX]; simp only [List.length_cons, List.length_append]; omega
 ·obtain ⟨A, rfl⟩ := len1 h0
  have : (Tr.node ⟨17, text, val, keys⟩ [A]).tk = wd wReturn :: (A.tk ++ [sy sSc]) := rfl
  rw [this]
  refine ⟨by simp only [List.length_cons, List.length_append]; omega, fun X hX => ?_⟩; rw [List.mem_singleton.1 hX]; simp only [List.length_cons, List.length_append]; omega
 ·obtain ⟨A, rfl⟩ := len1 h0
  have : (Tr.node ⟨18, text, val, keys⟩ [A]).tk = A.tk ++ [sy sSc] := rfl
  rw [this]
  refine ⟨by simp only [List.length_cons, List.length_append]; omega, fun X hX => ?_⟩; rw [List.mem_singleton.1 hX]; simp
 ·obtain ⟨A, B, rfl⟩ := len2 h0
  have : (Tr.node ⟨9, text, val, keys⟩ [A, B]).tk = qT A.level (if binL text = 4 then 5 else binL text) A.tk ++ tk (opK text) text :: qT B.level (binL text + 1) B.tk := rfl
  rw [this]
  have l1 := qT_len A.level (if binL text = 4 then 5 else binL text) A.tk
  have l2 := qT_len B.level (binL text + 1) B.tk
  refine ⟨by simp only [List.length_cons, List.length_append]; omega, fun X hX => ?_⟩
  simp only [List.mem_cons, List.not_mem_nil, or_false] at hX
  simp only [List.length_cons, List.length_append]
  rcases hX with rfl | rfl <;> omega
 ·obtain ⟨A, B, rfl⟩ := len2 h0
  have : (Tr.node ⟨10, text, val, keys⟩ [A, B]).tk = qT A.level 8 A.tk ++ sy sLB :: (B.tk ++ [sy sRB]) := rfl
  rw [this]
  have l1 := qT_len A.level 8 A.tk
  refine ⟨by simp only [List.length_cons, List.length_append]; omega, fun X hX => ?_⟩
  simp only [List.mem_cons, List.not_mem_nil, or_false] at hX
  simp only [List.length_cons, List.length_append]
  rcases hX with rfl | rfl <;> omega
 ·obtain ⟨A, B, rfl⟩ := len2 h0
  have : (Tr.node ⟨16, text, val, keys⟩ [A, B]).tk = wd wWhile :: (A.tk ++ B.tk) := rfl
  rw [this]
  refine ⟨by simp only [List.length_cons, List.length_append]; omega, fun X hX => ?_⟩
  simp only [List.mem_cons, List.not_mem_nil, or_false] at hX
  simp only [List.length_cons, List.length_append]
  rcases hX with rfl | rfl <;> omega
 ·obtain ⟨A, B, rfl⟩ := len2 h0
  have : (Tr.node ⟨15, text, val, keys⟩ [A, B]).tk = wd wIf :: (A.tk ++ B.tk) := rfl
  rw [this]
  refine ⟨by simp only [List.length_cons, List.length_append]; omega, fun X hX => ?_⟩
  simp only [List.mem_cons, List.not_mem_nil, or_false] at hX
  simp only [List.length_cons, List.length_append]
  rcases hX with rfl | rfl <;> omega
 ·obtain ⟨A, B, C, rfl⟩ := len3 h0
  have : (Tr.node ⟨15, text, val, keys⟩ [A, B, C]).tk = wd wIf :: (A.tk ++ B.tk ++ wd wElse :: C.tk) := rfl
  rw [this]
  refine ⟨by simp only [List.length_cons, List.length_append]; omega, fun X hX => ?_⟩
  simp only [List.mem_cons, List.not_mem_nil, or_false] at hX
  simp only [List.length_cons, List.length_append]
  rcases hX with rfl | rfl | rfl <;> omega
 ·have : (Tr.node ⟨6, text, val, keys⟩ ts).tk = sy sLB :: (commaT (Tr.tkl ts) ++ [sy sRB]) := rfl
  rw [this]
  refine ⟨by simp only [List.length_cons, List.length_append]; omega, fun X hX => ?_⟩
  have := comma X hX
  simp only [List.length_cons, List.length_append]; omega
 ·have : (Tr.node ⟨7, text, val, keys⟩ ts).tk = sy sLC :: (commaT (keysT keys (Tr.tkl ts)) ++ [sy sRC]) := rfl
  rw [this]
  refine ⟨by simp only [List.length_cons, List.length_append]; omega, fun X hX => ?_⟩
  obtain rfl := (fields_facts hf).2 (by simp) (by simp)
  obtain ⟨⟨_, h2⟩, _⟩ : (text = [] ∧ keys.length = ts.length) ∧ ascB keys = true := by simpa [fieldsB] using hf
  obtain ⟨q, hq, hq2⟩ := keysT_mem (ks := keys) (by rw [h2, Tr.tkl_eq, List.length_map]) (hmem X hX)
  have := commaT_mem hq
  simp only [List.length_cons, List.length_append]; omega
 ·have : (Tr.node ⟨11, text, val, keys⟩ ts).tk = tk 1 text :: sy sLP :: (commaT (Tr.tkl ts) ++ [sy sRP]) := rfl
  rw [this]
  refine ⟨by simp only [List.length_cons, List.length_append]; omega, fun X hX => ?_⟩
  have := comma X hX
  simp only [List.length_cons, List.length_append]; omega
 ·have : (Tr.node ⟨12, text, val, keys⟩ ts).tk = tk 6 text :: sy sLP :: (commaT (Tr.tkl ts) ++ [sy sRP]) := rfl
  rw [this]
  refine ⟨by simp only [List.length_cons, List.length_append]; omega, fun X hX => ?_⟩
  have := comma X hX
  simp only [List.length_cons, List.length_append]; omega
 ·have : (Tr.node ⟨19, text, val, keys⟩ ts).tk = sy sLC :: ((Tr.tkl ts).flatten ++ [sy sRC]) := rfl
  rw [this]
  refine ⟨by simp only [List.length_cons, List.length_append]; omega, fun X hX => ?_⟩
  have := flat_mem (hmem X hX)
  simp only [List.length_cons, List.length_append]; omega
theorem hts_le {m : Nat} : ∀ {ts : List Tr}, (∀ X ∈ ts, X.ht ≤ m) → Tr.hts ts ≤ m
 | [], _ => Nat.zero_le _
 | t :: ts, h => by
  simp only [Tr.hts]
  have h1 := h t (by simp)
  have h2 := hts_le fun X hX => h X (List.mem_cons_of_mem _ hX)
  omega
theorem ht_le : ∀ (n : Nat) (T : Tr), T.size ≤ n → T.wf = true → T.ht ≤ T.tk.length := by
 intro n
 induction n with
 | zero => intro T hn; have := T.size_pos; omega
 | succ n ih =>
  intro T hn hw
  obtain ⟨a, ts⟩ := T
  obtain ⟨h1, h2⟩ := tk_len hw
  obtain ⟨_, _, hws⟩ := wf_parts hw
  have : Tr.hts ts ≤ (Tr.node a ts).tk.length - 1 := hts_le fun X hX => by
   have h3 := h2 X ⟨a, ts, rfl, hX⟩
   obtain ⟨i, hi⟩ := List.getElem?_of_mem hX
   have h4 := (wfs_mem hws i X hi).1
   have h5 : X.size ≤ n := by
    have : ∀ (l : List Tr), X ∈ l → X.size ≤ Tr.sizes l := by
     intro l
     induction l with
     | nil => intro h; cases h
     | cons y l ih =>
      intro h
      simp only [Tr.sizes]
      rcases List.mem_cons.1 h with rfl | h
      ·omega
      ·have := ih h; omega
    have := this ts hX
    simp only [Tr.size] at hn
    omega
   have := ih X h5 h4
   omega
  simp only [Tr.ht]; omega
theorem parF_good {e : Int} : ∀ (ps : List Bs) (p : Bs) (f : Nat) (l : List Bs) (r : List Tok), ps.length + 1 ≤ f → parF e f l (parT (p :: ps) ++ sy sRP :: r) = .ok (l ++ p :: ps, r)
 | [], p, f, l, r, hf => by
  obtain ⟨f, rfl⟩ : ∃ k, f = k + 1 := ⟨f - 1, by omega⟩
  rfl
 | q :: ps, p, f, l, r, hf => by
  obtain ⟨f, rfl⟩ : ∃ k, f = k + 1 := ⟨f - 1, by simp at hf; omega⟩
  have := parF_good (e := e) ps q f (l ++ [p]) r (by simp at hf ⊢; omega)
  have e1 : parF e (f + 1) l (parT (p :: q :: ps) ++ sy sRP :: r) = parF e f (l ++ [p]) (parT (q :: ps) ++ sy sRP :: r) := rfl
  rw [e1, this]
  simp
theorem parT_len : ∀ ps : List Bs, ps.length ≤ (parT ps).length
 | [] => Nat.le_refl _
 | [p] => Nat.le_refl _
 | p :: q :: l => by
  have := parT_len (q :: l)
  simp only [parT, List.length_cons] at this ⊢
  omega
theorem parP_good {e : Int} (ps : List Bs) (r : List Tok) : parP e (parT ps ++ sy sRP :: r) = .ok (ps, r) := by
 cases ps with
 | nil => rfl
 | cons p ps =>
  have h0 : isSym sRP (parT (p :: ps) ++ sy sRP :: r) = false := by cases ps <;> rfl
  unfold parP
  rw [h0]
  simp only [Bool.false_eq_true, if_false]
  have := parT_len (p :: ps)
  rw [parF_good ps p _ [] r (by simp only [List.length_append, List.length_cons] at this ⊢; omega)]
  rfl
theorem funcP_good {e : Int} {f : Nat} {F : FnT} (hF : FnTOk F) (hh : F.body.ht ≤ f) (r : List Tok) (ns : List Nd) :
  funcP e f (F.tk ++ r) ns = .ok (⟨F.name, F.params, ((ns.length + F.body.size : Nat) : Int) - 1⟩, r, ns ++ F.body.flat ns.length) := by
 have h1 := parP_good (e := e) F.params (F.body.tk ++ r)
 have h2 := block_good (e := e) f F.body hF.wf hF.kind hh r ns
 have e0 : funcP e f (F.tk ++ r) ns = (match parP e (parT F.params ++ sy sRP :: F.body.tk ++ r) with
   | .error o => .error o
   | .ok (ps, r4) => match blockP e f r4 ns with
    | .error o => .error o
    | .ok (b, r5, ns5) => .ok (⟨F.name, ps, b⟩, r5, ns5)) := rfl
 rw [e0, List.append_assoc, List.cons_append, h1]
 simp only [h2]
theorem progF_good {e : Int} {f : Nat} : ∀ (fs : List FnT), (∀ F ∈ fs, FnTOk F ∧ F.body.ht ≤ f) → ∀ (g : Nat) (fs0 : List FnT), fs.length ≤ g →
  progF e f g (progOf fs0).funcs (progT fs) (progOf fs0).nodes = .ok (progOf (fs0 ++ fs))
 | [], _, g, fs0, _ => by
  have : progF e f g (progOf fs0).funcs (progT []) (progOf fs0).nodes = .ok (progOf fs0) := by
   cases g with
   | zero => rfl
   | succ g => rfl
  rw [this, List.append_nil]
 | F :: fs, h, g, fs0, hg => by
  obtain ⟨g, rfl⟩ : ∃ k, g = k + 1 := ⟨g - 1, by simp at hg; omega⟩
  have hF := h F (by simp)
  have h1 := funcP_good (e := e) hF.1 hF.2 (progT fs) (progOf fs0).nodes
  have h2 := progF_good (e := e) fs (fun X hX => h X (by simp [hX])) g (fs0 ++ [F]) (by simpa using hg)
  have hl : (progOf fs0).nodes.length = Tr.sizes (fs0.map (·.body)) := Tr.flats_length _ _
  have htk : progT (F :: fs) = F.tk ++ progT fs := rfl
  have hne : progT (F :: fs) ≠ [] := by rw [htk]; simp [FnT.tk]
  rw [← htk] at h1
  simp only [progF, if_neg hne, h1]
  have e1 : (progOf fs0).funcs ++ [⟨F.name, F.params, (((progOf fs0).nodes.length + F.body.size : Nat) : Int) - 1⟩] = (progOf (fs0 ++ [F])).funcs := by
   simp only [progOf, fcs_append, Nat.zero_add]
   have : (Tr.flats 0 (fs0.map (·.body))).length = Tr.sizes (fs0.map (·.body)) := hl
   rw [this]
   simp [fcs]
  have e2 : (progOf fs0).nodes ++ F.body.flat (progOf fs0).nodes.length = (progOf (fs0 ++ [F])).nodes := by
   rw [hl]
   simp [progOf, Tr.flats_append, Tr.flats]
  rw [e1, e2, h2]
  simp
theorem progP_good {e : Int} {fs : List FnT} (h : ∀ F ∈ fs, FnTOk F) : progP e (progT fs) = .ok (progOf fs) := by
 have hlen : ∀ F ∈ fs, F.tk.length ≤ (progT fs).length := fun F hF => flat_mem (List.mem_map_of_mem hF)
 have h1 := progF_good (e := e) (f := (progT fs).length + 1) fs (fun F hF => ⟨h F hF, by
  have a1 := ht_le _ F.body (Nat.le_refl _) (h F hF).wf
  have a2 := hlen F hF
  have a3 : F.body.tk.length ≤ F.tk.length := by simp only [FnT.tk, List.length_cons, List.length_append]; omega
  omega⟩) (progT fs).length [] (by
  have : ∀ l : List FnT, l.length ≤ (progT l).length := by
   intro l
   induction l with
   | nil => exact Nat.le_refl _
   | cons F l ih =>
    have : progT (F :: l) = F.tk ++ progT l := rfl
    rw [this]
    simp only [List.length_cons, List.length_append, FnT.tk]
    omega
  exact this fs)
 exact h1
end Go.Proofs.YtglndfgmlminpaaGreatDoor
namespace Go.Proofs.YtglndfgmlminpaaGreatDoor
def strip (t : Tok) : Tok := { t with at_ := 0 }
def Sim (a b : List Tok) : Prop := a.map strip = b.map strip
theorem Sim.refl (a : List Tok) : Sim a a := rfl
theorem Sim.tail {a b : List Tok} (h : Sim a b) : Sim a.tail b.tail := by
 have := congrArg List.tail h
 simpa [Sim] using this
theorem Sim.length {a b : List Tok} (h : Sim a b) : a.length = b.length := by
 have := congrArg List.length h
 simpa using this
theorem Sim.nil {a b : List Tok} (h : Sim a b) : a = [] ↔ b = [] := by
 rw [← List.length_eq_zero_iff, ← List.length_eq_zero_iff, h.length]
theorem Sim.uncons {t u : Tok} {a b : List Tok} (h : Sim (t :: a) (u :: b)) : t.kind = u.kind ∧ t.text = u.text ∧ t.val = u.val ∧ Sim a b := by
 simp only [Sim, List.map_cons, List.cons.injEq, strip, Tok.mk.injEq] at h
 exact ⟨h.1.1, h.1.2.1, h.1.2.2.1, h.2⟩
theorem Sim.isTk {a b : List Tok} (h : Sim a b) (k : Int) (s : Bs) : isTk k s a = Go.Proofs.YtglndfgmlminpaaGreatDoor.isTk k s b := by
 cases a with
 | nil => obtain rfl := h.nil.1 rfl; rfl
 | cons t a =>
  cases b with
  | nil => have := h.nil.2 rfl; cases this
  | cons u b =>
   obtain ⟨h1, h2, _⟩ := h.uncons
   simp only [Go.Proofs.YtglndfgmlminpaaGreatDoor.isTk, h1, h2]
theorem Sim.pKind {a b : List Tok} (h : Sim a b) : pKind a = Go.Proofs.YtglndfgmlminpaaGreatDoor.pKind b := by
 cases a with
 | nil => obtain rfl := h.nil.1 rfl; rfl
 | cons t a =>
  cases b with
  | nil => have := h.nil.2 rfl; cases this
  | cons u b => exact h.uncons.1
theorem Sim.pText {a b : List Tok} (h : Sim a b) : pText a = Go.Proofs.YtglndfgmlminpaaGreatDoor.pText b := by
 cases a with
 | nil => obtain rfl := h.nil.1 rfl; rfl
 | cons t a =>
  cases b with
  | nil => have := h.nil.2 rfl; cases this
  | cons u b => exact h.uncons.2.1
theorem Sim.assigns {a b : List Tok} (h : Sim a b) : assigns a = Go.Proofs.YtglndfgmlminpaaGreatDoor.assigns b := by
 cases a with
 | nil => obtain rfl := h.nil.1 rfl; rfl
 | cons t a =>
  cases b with
  | nil => have := h.nil.2 rfl; cases this
  | cons u b =>
   obtain ⟨h1, _, _, h2⟩ := h.uncons
   simp only [Go.Proofs.YtglndfgmlminpaaGreatDoor.assigns, h1, h2.isTk]
def SimR {α : Type} (x y : PRes α) : Prop := (∃ o o', x = .error o ∧ y = .error o') ∨ ∃ a r r' ns, x = .ok (a, r, ns) ∧ y = .ok (a, r', ns) ∧ Sim r r'
def SimP (p q : Pars) : Prop := ∀ r r' ns, Sim r r' → SimR (p r ns) (q r' ns)
theorem SimR.er {α : Type} (o o' : Int) : SimR (α := α) (.error o) (.error o') := .inl ⟨o, o', rfl, rfl⟩
theorem SimR.ok {α : Type} (a : α) {r r' : List Tok} (h : Sim r r') (ns : List Nd) : SimR (.ok (a, r, ns)) (.ok (a, r', ns)) := .inr ⟨a, r, r', ns, rfl, rfl, h⟩
theorem SimR.add {n : Nd} {r r' : List Tok} (h : Sim r r') (ns : List Nd) : SimR (addN n r ns) (addN n r' ns) := .ok _ h _
theorem SimR.ite {α : Type} {c d : Prop} [Decidable c] [Decidable d] (h : c ↔ d) {x y x' y' : PRes α} (h1 : SimR x x') (h2 : SimR y y') : SimR (if c then x else y) (if d then x' else y') := by
 by_cases hc : c
 ·rw [if_pos hc, if_pos (h.1 hc)]; exact h1
 ·rw [if_neg hc, if_neg (fun hd => hc (h.2 hd))]; exact h2
theorem mustT_sim {e e' k : Int} {s : Bs} {r r' : List Tok} (h : Sim r r') : (∃ o o', mustT e k s r = .error o ∧ mustT e' k s r' = .error o') ∨ ∃ r1 r1', mustT e k s r = .ok r1 ∧ mustT e' k s r' = .ok r1' ∧ Sim r1 r1' := by
 unfold mustT
 rw [h.isTk]
 split
 ·exact .inr ⟨_, _, rfl, rfl, h.tail⟩
 ·exact .inl ⟨_, _, rfl, rfl⟩
theorem mustK_sim {e e' k : Int} {r r' : List Tok} (h : Sim r r') : (∃ o o', mustK e k r = .error o ∧ mustK e' k r' = .error o') ∨ ∃ s r1 r1', mustK e k r = .ok (s, r1) ∧ mustK e' k r' = .ok (s, r1') ∧ Sim r1 r1' := by
 unfold mustK
 rw [h.pKind, h.pText]
 by_cases hr : r = []
 ·have hr' := h.nil.1 hr
  rw [if_neg (fun hh => hh.2 hr), if_neg (fun hh => hh.2 hr')]
  exact .inl ⟨_, _, rfl, rfl⟩
 ·have hr' : r' ≠ [] := fun hh => hr (h.nil.2 hh)
  by_cases hk : pKind r' = k
  ·rw [if_pos ⟨hk, hr⟩, if_pos ⟨hk, hr'⟩]
   exact .inr ⟨_, _, _, rfl, rfl, h.tail⟩
  ·rw [if_neg (fun hh => hk hh.1), if_neg (fun hh => hk hh.1)]
   exact .inl ⟨_, _, rfl, rfl⟩
section
variable {e e' : Int} {E E' : Pars} (hE : SimP E E')
include hE
theorem listF_sim {fin : Bs} : ∀ (f : Nat) (l : List Int) (r r' : List Tok) (ns : List Nd), Sim r r' → SimR (listF e fin E f l r ns) (listF e' fin E' f l r' ns)
 | 0, l, r, r', ns, h => .er _ _
 | f + 1, l, r, r', ns, h => by
  simp only [listF]
  rcases hE r r' ns h with ⟨o, o', h1, h2⟩ | ⟨a, r1, r1', ns1, h1, h2, h3⟩
  ·rw [h1, h2]; exact .er _ _
  ·rw [h1, h2]
   simp only [h3.isTk]
   split
   ·exact .ok _ h3.tail _
   ·split
    ·exact listF_sim f _ _ _ _ h3.tail
    ·exact .er _ _
theorem listP_sim {fin : Bs} {r r' : List Tok} (h : Sim r r') (ns : List Nd) : SimR (listP e fin E r ns) (listP e' fin E' r' ns) := by
 unfold listP
 rw [show isSym fin r = isSym fin r' from h.isTk 5 fin, h.length]
 split
 ·exact .ok _ h.tail _
 ·exact listF_sim hE _ _ _ _ _ h
theorem keyF_sim : ∀ (f : Nat) (ks : List Bs) (l : List Int) (r r' : List Tok) (ns : List Nd), Sim r r' → SimR (keyF e E f ks l r ns) (keyF e' E' f ks l r' ns)
 | 0, ks, l, r, r', ns, h => .er _ _
 | f + 1, ks, l, r, r', ns, h => by
  simp only [keyF]
  refine SimR.ite (by rw [h.pKind, h.pText, ne_eq, h.nil]) ?_ (.er _ _)
  rcases mustT_sim (e := e) (e' := e') (k := 5) (s := sCl) h.tail with ⟨o, o', h1, h2⟩ | ⟨r1, r1', h1, h2, h3⟩
  ·rw [h1, h2]; exact .er _ _
  rw [h1, h2]
  dsimp only
  rcases hE r1 r1' ns h3 with ⟨o, o', h4, h5⟩ | ⟨a, r2, r2', ns1, h4, h5, h6⟩
  ·rw [h4, h5]; exact .er _ _
  rw [h4, h5]
  simp only [h6.isTk, h.pText]
  split
  ·exact .add h6.tail _
  ·split
   ·exact keyF_sim f _ _ _ _ _ h6.tail
   ·exact .er _ _
theorem keyP_sim {r r' : List Tok} (h : Sim r r') (ns : List Nd) : SimR (keyP e E r ns) (keyP e' E' r' ns) := by
 unfold keyP
 rw [show isSym sRC r = isSym sRC r' from h.isTk 5 sRC, h.length]
 split
 ·exact .add h.tail _
 ·exact keyF_sim hE _ _ _ _ _ _ h
theorem primP_sim : SimP (primP e E) (primP e' E') := by
 intro r r' ns h
 cases r with
 | nil => obtain rfl := h.nil.1 rfl; exact .er _ _
 | cons t r =>
  cases r' with
  | nil => have := h.nil.2 rfl; cases this
  | cons u r' =>
   obtain ⟨h1, h2, h3, h4⟩ := h.uncons
   have c1 : isWrd wNull (t :: r) = isWrd wNull (u :: r') := h.isTk _ _
   have c2 : isWrd wTrue (t :: r) = isWrd wTrue (u :: r') := h.isTk _ _
   have c3 : isWrd wFalse (t :: r) = isWrd wFalse (u :: r') := h.isTk _ _
   have c4 : isSym sLB (t :: r) = isSym sLB (u :: r') := h.isTk _ _
   have c5 : isSym sLC (t :: r) = isSym sLC (u :: r') := h.isTk _ _
   have c6 : isSym sLP (t :: r) = isSym sLP (u :: r') := h.isTk _ _
   unfold primP
   dsimp only
   rw [h1, h2, h3, c1, c2, c3, c4, c5, c6]
   refine SimR.ite Iff.rfl (.add h4 _) ?_
   refine SimR.ite Iff.rfl (.add h4 _) ?_
   refine SimR.ite Iff.rfl (.add h4 _) ?_
   refine SimR.ite Iff.rfl (.add h4 _) ?_
   refine SimR.ite Iff.rfl (.add h4 _) ?_
   refine SimR.ite Iff.rfl ?_ ?_
   ·rw [show isSym sLP r = isSym sLP r' from h4.isTk 5 sLP]
    refine SimR.ite Iff.rfl ?_ (.add h4 _)
    ·rcases listP_sim hE (e := e) (e' := e') (fin := sRP) h4.tail ns with ⟨o, o', g1, g2⟩ | ⟨a, r1, r1', ns1, g1, g2, g3⟩
     ·rw [g1, g2]; exact .er _ _
     ·rw [g1, g2]; exact .add g3 _
   refine SimR.ite Iff.rfl ?_ ?_
   ·rcases mustT_sim (e := e) (e' := e') (k := 5) (s := sLP) h4 with ⟨o, o', g1, g2⟩ | ⟨r1, r1', g1, g2, g3⟩
    ·rw [g1, g2]; exact .er _ _
    rw [g1, g2]
    dsimp only
    rcases listP_sim hE (e := e) (e' := e') (fin := sRP) g3 ns with ⟨o, o', g4, g5⟩ | ⟨a, r2, r2', ns1, g4, g5, g6⟩
    ·rw [g4, g5]; exact .er _ _
    ·rw [g4, g5]; exact .add g6 _
   refine SimR.ite Iff.rfl ?_ ?_
   ·rcases listP_sim hE (e := e) (e' := e') (fin := sRB) h4 ns with ⟨o, o', g1, g2⟩ | ⟨a, r1, r1', ns1, g1, g2, g3⟩
    ·rw [g1, g2]; exact .er _ _
    ·rw [g1, g2]; exact .add g3 _
   refine SimR.ite Iff.rfl (keyP_sim hE h4 ns) ?_
   refine SimR.ite Iff.rfl ?_ (.er _ _)
   ·rcases hE r r' ns h4 with ⟨o, o', g1, g2⟩ | ⟨a, r1, r1', ns1, g1, g2, g3⟩
    ·rw [g1, g2]; exact .er _ _
    rw [g1, g2]
    dsimp only
    rcases mustT_sim (e := e) (e' := e') (k := 5) (s := sRP) g3 with ⟨o, o', g4, g5⟩ | ⟨r2, r2', g4, g5, g6⟩
    ·rw [g4, g5]; exact .er _ _
    ·rw [g4, g5]; exact .ok _ g6 _
theorem postF_sim : ∀ (f : Nat) (i : Int) (r r' : List Tok) (ns : List Nd), Sim r r' → SimR (postF e E f i r ns) (postF e' E' f i r' ns)
 | 0, i, r, r', ns, h => .ok _ h _
 | f + 1, i, r, r', ns, h => by
  simp only [postF, h.isTk]
  split
  ·rcases hE r.tail r'.tail ns h.tail with ⟨o, o', g1, g2⟩ | ⟨a, r1, r1', ns1, g1, g2, g3⟩
   ·rw [g1, g2]; exact .er _ _
   rw [g1, g2]
   dsimp only
   rcases mustT_sim (e := e) (e' := e') (k := 5) (s := sRB) g3 with ⟨o, o', g4, g5⟩ | ⟨r2, r2', g4, g5, g6⟩
   ·rw [g4, g5]; exact .er _ _
   ·rw [g4, g5]; exact postF_sim f _ _ _ _ g6
  ·exact .ok _ h _
theorem postP_sim : SimP (postP e E) (postP e' E') := by
 intro r r' ns h
 unfold postP
 rcases primP_sim hE (e := e) (e' := e') r r' ns h with ⟨o, o', g1, g2⟩ | ⟨a, r1, r1', ns1, g1, g2, g3⟩
 ·rw [g1, g2]; exact .er _ _
 ·rw [g1, g2]
  dsimp only
  rw [g3.length]
  exact postF_sim hE _ _ _ _ _ g3
theorem unaryP_sim : SimP (unaryP e E) (unaryP e' E') := by
 intro r
 induction r with
 | nil => intro r' ns h; obtain rfl := h.nil.1 rfl; exact postP_sim hE _ _ _ h
 | cons t r ih =>
  intro r' ns h
  cases r' with
  | nil => have := h.nil.2 rfl; cases this
  | cons u r' =>
   simp only [unaryP, h.isTk]
   split
   ·rcases ih r' ns h.uncons.2.2.2 with ⟨o, o', g1, g2⟩ | ⟨a, r1, r1', ns1, g1, g2, g3⟩
    ·rw [g1, g2]; exact .er _ _
    ·rw [g1, g2]; exact .add g3 _
   ·exact postP_sim hE _ _ _ h
end
theorem chainF_sim {k : Int} {ops : List Bs} {O O' : Pars} (hO : SimP O O') : ∀ (f : Nat) (i : Int) (r r' : List Tok) (ns : List Nd), Sim r r' → SimR (chainF k ops O f i r ns) (chainF k ops O' f i r' ns)
 | 0, i, r, r', ns, h => .ok _ h _
 | f + 1, i, r, r', ns, h => by
  simp only [chainF]
  refine SimR.ite (by rw [h.pKind, h.pText, ne_eq, h.nil]) ?_ (.ok _ h _)
  rcases hO r.tail r'.tail ns h.tail with ⟨o, o', g1, g2⟩ | ⟨a, r1, r1', ns1, g1, g2, g3⟩
  ·rw [g1, g2]; exact .er _ _
  ·rw [g1, g2]
   dsimp only
   rw [h.pText]
   exact chainF_sim hO f _ _ _ _ g3
theorem chainP_sim {k : Int} {ops : List Bs} {O O' : Pars} (hO : SimP O O') : SimP (chainP k ops O) (chainP k ops O') := by
 intro r r' ns h
 unfold chainP
 rcases hO r r' ns h with ⟨o, o', g1, g2⟩ | ⟨a, r1, r1', ns1, g1, g2, g3⟩
 ·rw [g1, g2]; exact .er _ _
 ·rw [g1, g2]
  dsimp only
  rw [g3.length]
  exact chainF_sim hO _ _ _ _ _ g3
section
variable {e e' : Int} {E E' : Pars} (hE : SimP E E')
include hE
theorem sumP_sim : SimP (sumP e E) (sumP e' E') := chainP_sim (chainP_sim (unaryP_sim hE))
theorem cmpP_sim : SimP (cmpP e E) (cmpP e' E') := by
 intro r r' ns h
 unfold cmpP
 rcases sumP_sim hE (e := e) (e' := e') r r' ns h with ⟨o, o', g1, g2⟩ | ⟨a, r1, r1', ns1, g1, g2, g3⟩
 ·rw [g1, g2]; exact .er _ _
 ·rw [g1, g2]
  dsimp only
  refine SimR.ite (by rw [g3.pKind, g3.pText, ne_eq, g3.nil]) ?_ (.ok _ g3 _)
  rcases sumP_sim hE (e := e) (e' := e') _ _ ns1 g3.tail with ⟨o, o', g4, g5⟩ | ⟨b, r2, r2', ns2, g4, g5, g6⟩
  ·rw [g4, g5]; exact .er _ _
  ·rw [g4, g5, g3.pText]; exact .add g6 _
theorem notP_sim : SimP (notP e E) (notP e' E') := by
 intro r
 induction r with
 | nil => intro r' ns h; obtain rfl := h.nil.1 rfl; exact cmpP_sim hE _ _ _ h
 | cons t r ih =>
  intro r' ns h
  cases r' with
  | nil => have := h.nil.2 rfl; cases this
  | cons u r' =>
   simp only [notP, h.isTk]
   split
   ·rcases ih r' ns h.uncons.2.2.2 with ⟨o, o', g1, g2⟩ | ⟨a, r1, r1', ns1, g1, g2, g3⟩
    ·rw [g1, g2]; exact .er _ _
    ·rw [g1, g2]; exact .add g3 _
   ·exact cmpP_sim hE _ _ _ h
theorem orP_sim : SimP (orP e E) (orP e' E') := chainP_sim (chainP_sim (notP_sim hE))
end
theorem exprP_sim {e e' : Int} : ∀ f, SimP (exprP e f) (exprP e' f)
 | 0 => fun _ _ _ _ => .er _ _
 | f + 1 => orP_sim (exprP_sim f)
theorem valueP_sim {e e' : Int} {f : Nat} {kind : Int} {text : Bs} : SimP (valueP e f kind text) (valueP e' f kind text) := by
 intro r r' ns h
 unfold valueP
 rcases exprP_sim (e := e) (e' := e') f r r' ns h with ⟨o, o', g1, g2⟩ | ⟨a, r1, r1', ns1, g1, g2, g3⟩
 ·rw [g1, g2]; exact .er _ _
 rw [g1, g2]
 dsimp only
 rcases mustT_sim (e := e) (e' := e') (k := 5) (s := sSc) g3 with ⟨o, o', g4, g5⟩ | ⟨r2, r2', g4, g5, g6⟩
 ·rw [g4, g5]; exact .er _ _
 ·rw [g4, g5]; exact .add g6 _
theorem stmtP_sim {e e' : Int} {f : Nat} {Bl Bl' : Pars} (hB : SimP Bl Bl') : SimP (stmtP e f Bl) (stmtP e' f Bl') := by
 intro r r' ns h
 unfold stmtP
 simp only [h.isTk, h.assigns, h.pText]
 split
 ·rcases mustK_sim (e := e) (e' := e') (k := 1) h.tail with ⟨o, o', g1, g2⟩ | ⟨s, r1, r1', g1, g2, g3⟩
  ·rw [g1, g2]; exact .er _ _
  rw [g1, g2]
  dsimp only
  rcases mustT_sim (e := e) (e' := e') (k := 5) (s := sEq1) g3 with ⟨o, o', g4, g5⟩ | ⟨r2, r2', g4, g5, g6⟩
  ·rw [g4, g5]; exact .er _ _
  ·rw [g4, g5]; exact valueP_sim _ _ _ g6
 split
 ·rcases exprP_sim (e := e) (e' := e') f _ _ ns h.tail with ⟨o, o', g1, g2⟩ | ⟨a, r1, r1', ns1, g1, g2, g3⟩
  ·rw [g1, g2]; exact .er _ _
  rw [g1, g2]
  dsimp only
  rcases hB _ _ ns1 g3 with ⟨o, o', g4, g5⟩ | ⟨b, r2, r2', ns2, g4, g5, g6⟩
  ·rw [g4, g5]; exact .er _ _
  rw [g4, g5]
  simp only [g6.isTk]
  split
  ·rcases hB _ _ ns2 g6.tail with ⟨o, o', g7, g8⟩ | ⟨c, r3, r3', ns3, g7, g8, g9⟩
   ·rw [g7, g8]; exact .er _ _
   ·rw [g7, g8]; exact .add g9 _
  ·exact .add g6 _
 split
 ·rcases exprP_sim (e := e) (e' := e') f _ _ ns h.tail with ⟨o, o', g1, g2⟩ | ⟨a, r1, r1', ns1, g1, g2, g3⟩
  ·rw [g1, g2]; exact .er _ _
  rw [g1, g2]
  dsimp only
  rcases hB _ _ ns1 g3 with ⟨o, o', g4, g5⟩ | ⟨b, r2, r2', ns2, g4, g5, g6⟩
  ·rw [g4, g5]; exact .er _ _
  ·rw [g4, g5]; exact .add g6 _
 split
 ·exact valueP_sim _ _ _ h.tail
 split
 ·exact valueP_sim _ _ _ h.tail.tail
 ·exact valueP_sim _ _ _ h
theorem stmtsF_sim {e e' : Int} {S S' : Pars} (hS : SimP S S') : ∀ (g : Nat) (l : List Int) (r r' : List Tok) (ns : List Nd), Sim r r' → SimR (stmtsF e S g l r ns) (stmtsF e' S' g l r' ns)
 | 0, l, r, r', ns, h => .er _ _
 | g + 1, l, r, r', ns, h => by
  simp only [stmtsF, h.isTk]
  split
  ·exact .add h.tail _
  ·rcases hS r r' ns h with ⟨o, o', g1, g2⟩ | ⟨a, r1, r1', ns1, g1, g2, g3⟩
   ·rw [g1, g2]; exact .er _ _
   ·rw [g1, g2]; exact stmtsF_sim hS g _ _ _ _ g3
theorem blockP_sim {e e' : Int} : ∀ f, SimP (blockP e f) (blockP e' f)
 | 0 => fun _ _ _ _ => .er _ _
 | f + 1 => fun r r' ns h => by
  simp only [blockP]
  rcases mustT_sim (e := e) (e' := e') (k := 5) (s := sLC) h with ⟨o, o', g1, g2⟩ | ⟨r1, r1', g1, g2, g3⟩
  ·rw [g1, g2]; exact .er _ _
  ·rw [g1, g2]
   dsimp only
   rw [g3.length]
   exact stmtsF_sim (stmtP_sim (blockP_sim f)) _ _ _ _ _ g3
theorem parF_sim {e e' : Int} : ∀ (f : Nat) (l : List Bs) (r r' : List Tok), Sim r r' → (∃ o o', parF e f l r = .error o ∧ parF e' f l r' = .error o') ∨ ∃ l1 r1 r1', parF e f l r = .ok (l1, r1) ∧ parF e' f l r' = .ok (l1, r1') ∧ Sim r1 r1'
 | 0, l, r, r', h => .inl ⟨_, _, rfl, rfl⟩
 | f + 1, l, r, r', h => by
  simp only [parF]
  rcases mustK_sim (e := e) (e' := e') (k := 1) h with ⟨o, o', g1, g2⟩ | ⟨s, r1, r1', g1, g2, g3⟩
  ·rw [g1, g2]; exact .inl ⟨_, _, rfl, rfl⟩
  ·rw [g1, g2]
   simp only [g3.isTk]
   split
   ·exact .inr ⟨_, _, _, rfl, rfl, g3.tail⟩
   ·split
    ·exact parF_sim f _ _ _ g3.tail
    ·exact .inl ⟨_, _, rfl, rfl⟩
theorem parP_sim {e e' : Int} {r r' : List Tok} (h : Sim r r') : (∃ o o', parP e r = .error o ∧ parP e' r' = .error o') ∨ ∃ l1 r1 r1', parP e r = .ok (l1, r1) ∧ parP e' r' = .ok (l1, r1') ∧ Sim r1 r1' := by
 unfold parP
 rw [show isSym sRP r = isSym sRP r' from h.isTk 5 sRP, h.length]
 split
 ·exact .inr ⟨_, _, _, rfl, rfl, h.tail⟩
 ·exact parF_sim _ _ _ _ h
theorem funcP_sim {e e' : Int} {f : Nat} {r r' : List Tok} (h : Sim r r') (ns : List Nd) : (∃ o o', funcP e f r ns = .error o ∧ funcP e' f r' ns = .error o') ∨ ∃ x r1 r1' ns1, funcP e f r ns = .ok (x, r1, ns1) ∧ funcP e' f r' ns = .ok (x, r1', ns1) ∧ Sim r1 r1' := by
 unfold funcP
 rcases mustT_sim (e := e) (e' := e') (k := 2) (s := wFunc) h with ⟨o, o', g1, g2⟩ | ⟨r1, r1', g1, g2, h1⟩
 ·rw [g1, g2]; exact .inl ⟨_, _, rfl, rfl⟩
 rw [g1, g2]
 dsimp only
 rcases mustK_sim (e := e) (e' := e') (k := 1) h1 with ⟨o, o', g1, g2⟩ | ⟨s, r2, r2', g1, g2, h2⟩
 ·rw [g1, g2]; exact .inl ⟨_, _, rfl, rfl⟩
 rw [g1, g2]
 dsimp only
 rcases mustT_sim (e := e) (e' := e') (k := 5) (s := sLP) h2 with ⟨o, o', g1, g2⟩ | ⟨r3, r3', g1, g2, h3⟩
 ·rw [g1, g2]; exact .inl ⟨_, _, rfl, rfl⟩
 rw [g1, g2]
 dsimp only
 rcases parP_sim (e := e) (e' := e') h3 with ⟨o, o', g1, g2⟩ | ⟨l, r4, r4', g1, g2, h4⟩
 ·rw [g1, g2]; exact .inl ⟨_, _, rfl, rfl⟩
 rw [g1, g2]
 dsimp only
 rcases blockP_sim (e := e) (e' := e') f r4 r4' ns h4 with ⟨o, o', g1, g2⟩ | ⟨b, r5, r5', ns5, g1, g2, h5⟩
 ·rw [g1, g2]; exact .inl ⟨_, _, rfl, rfl⟩
 ·rw [g1, g2]; exact .inr ⟨_, _, _, _, rfl, rfl, h5⟩
theorem progF_sim {e e' : Int} {f : Nat} : ∀ (g : Nat) (fs : List Fc) (r r' : List Tok) (ns : List Nd), Sim r r' → (∃ o o', progF e f g fs r ns = .error o ∧ progF e' f g fs r' ns = .error o') ∨ ∃ p, progF e f g fs r ns = .ok p ∧ progF e' f g fs r' ns = .ok p
 | 0, fs, r, r', ns, h => .inr ⟨_, rfl, rfl⟩
 | g + 1, fs, r, r', ns, h => by
  simp only [progF]
  by_cases hr : r = []
  ·rw [if_pos hr, if_pos (h.nil.1 hr)]; exact .inr ⟨_, rfl, rfl⟩
  ·rw [if_neg hr, if_neg (fun hh => hr (h.nil.2 hh))]
   rcases funcP_sim (e := e) (e' := e') (f := f) h ns with ⟨o, o', g1, g2⟩ | ⟨x, r1, r1', ns1, g1, g2, g3⟩
   ·rw [g1, g2]; exact .inl ⟨_, _, rfl, rfl⟩
   ·rw [g1, g2]; exact progF_sim g _ _ _ _ g3
theorem progP_sim {e e' : Int} {r r' : List Tok} (h : Sim r r') : (∃ o o', progP e r = .error o ∧ progP e' r' = .error o') ∨ ∃ p, progP e r = .ok p ∧ progP e' r' = .ok p := by
 unfold progP
 rw [h.length]
 exact progF_sim _ _ _ _ _ h
end Go.Proofs.YtglndfgmlminpaaGreatDoor
