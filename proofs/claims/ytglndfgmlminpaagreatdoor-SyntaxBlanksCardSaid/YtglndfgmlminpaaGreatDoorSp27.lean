/- Texts joined by pack.py: XSyPD XSyPE XSyPF XSyPG XSyPH -/
import Derived.Test.YtglndfgmlminpaaGreatDoorSp21
import Derived.Test.YtglndfgmlminpaaGreatDoorSp26
namespace Go.Proofs.YtglndfgmlminpaaGreatDoor
def isEnd (c : UInt8) : Bool := isBl c || [41, 93, 125, 44, 59, 58, 40, 91].contains c
def sepE (r : Bs) : Prop := ∀ c, r.head? = some c → isEnd c = true
theorem end_cases {c : UInt8} (h : isEnd c = true) : c = 32 ∨ c = 9 ∨ c = 10 ∨ c = 41 ∨ c = 93 ∨ c = 125 ∨ c = 44 ∨ c = 59 ∨ c = 58 ∨ c = 40 ∨ c = 91 := by
 simp only [isEnd, Bool.or_eq_true, List.contains_cons, List.contains_nil, Bool.or_false, beq_iff_eq] at h
 rcases h with h | h
 ·rcases bl_cases h with h | h | h <;> simp [h]
 ·rcases h with h | h | h | h | h | h | h | h <;> simp [h]
theorem end_hd {c : UInt8} (h : isEnd c = true) : isHd c = false := by
 rcases end_cases h with rfl | rfl | rfl | rfl | rfl | rfl | rfl | rfl | rfl | rfl | rfl <;> rfl
theorem end_dg {c : UInt8} (h : isEnd c = true) : isDg c = false := by
 rcases end_cases h with rfl | rfl | rfl | rfl | rfl | rfl | rfl | rfl | rfl | rfl | rfl <;> rfl
theorem end_47 {c : UInt8} (h : isEnd c = true) : c ≠ 47 := by
 rcases end_cases h with rfl | rfl | rfl | rfl | rfl | rfl | rfl | rfl | rfl | rfl | rfl <;> decide
theorem symB_end (c : UInt8) {b : UInt8} (h : isEnd b = true) : symB [c, b] = false := by
 unfold symB
 rcases end_cases h with rfl | rfl | rfl | rfl | rfl | rfl | rfl | rfl | rfl | rfl | rfl <;> simp
theorem runT_appE : ∀ (x r : Bs), runT x = x.length → sepE r → runT (x ++ r) = x.length
 | [], r, _, hr => by
  cases r with
  | nil => rfl
  | cons c r =>
   have := hr c rfl
   simp [runT, end_hd this, end_dg this]
 | c :: x, r, h, hr => by
  simp only [runT, List.length_cons] at h
  split at h
  ·rename_i hc
   simp only [List.cons_append, runT, hc, if_true, List.length_cons]
   rw [runT_appE x r (by omega) hr]
  ·omega
theorem runL_appE {x r : Bs} (h0 : x ≠ []) (h : runL x = x.length) (hr : sepE r) : runL (x ++ r) = x.length := by
 cases x with
 | nil => exact absurd rfl h0
 | cons c x =>
  simp only [runL, List.length_cons] at h
  split at h
  ·rename_i hc
   simp only [List.cons_append, runL, hc, if_true, List.length_cons]
   rw [runT_appE x r (by omega) hr]
  ·omega
theorem digL_appE : ∀ (x r : Bs), (∀ c ∈ x, isDg c = true) → sepE r → digL (x ++ r) = x.length
 | [], r, _, hr => by
  cases r with
  | nil => rfl
  | cons c r => have := hr c rfl; simp [digL, end_dg this]
 | c :: x, r, h, hr => by
  simp only [List.cons_append, digL, h c (by simp), if_true, List.length_cons]
  rw [digL_appE x r (fun d hd => h d (by simp [hd])) hr]
theorem text_tokE (t : Tok) (x : Bs) (h : textT t = (x, 0)) (r : Bs) (hr : sepE r) :
  x ≠ [] ∧ tok1 (x ++ r) = ({ t with at_ := 0 }, x.length, 0) ∧ skip (x ++ r) = 0 := by
 obtain ⟨K, l, v, a⟩ := t
 by_cases h1 : K = 1
 ·subst h1
  rw [te_name] at h
  split at h
  ·cases h
  rename_i hv
  split at h
  ·rename_i hw
   have hx : l = x := congrArg Prod.fst h
   subst hx
   obtain ⟨w1, w2, w3⟩ := whole_elim hw.1
   have hra := runL_appE w1 w2 hr
   cases l with
   | nil => exact absurd rfl w1
   | cons c l =>
    have hc : isHd c = true := by
     cases hc : isHd c with
     | true => rfl
     | false => simp [runL, hc] at w2
    have hv0 : v = 0 := by simpa using hv
    refine ⟨by simp, ?_, skip0 (hd_bl hc).1 (by rw [(hd_bl hc).2]; rfl)⟩
    rw [List.cons_append, tok1_hd hc, ← List.cons_append, hra, if_neg (by omega), List.take_left' rfl, if_neg (by rw [hw.2]; simp), hv0]
  ·cases h
 by_cases h2 : K = 2
 ·subst h2
  rw [te_word] at h
  split at h
  ·cases h
  rename_i hv
  split at h
  ·rename_i hw
   have hx : l = x := congrArg Prod.fst h
   subst hx
   obtain ⟨w1, w2, w3⟩ := whole_elim (kwL_whole hw)
   have hra := runL_appE w1 w2 hr
   cases l with
   | nil => exact absurd rfl w1
   | cons c l =>
    have hc : isHd c = true := by
     cases hc : isHd c with
     | true => rfl
     | false => simp [runL, hc] at w2
    have hv0 : v = 0 := by simpa using hv
    refine ⟨by simp, ?_, skip0 (hd_bl hc).1 (by rw [(hd_bl hc).2]; rfl)⟩
    rw [List.cons_append, tok1_hd hc, ← List.cons_append, hra, if_neg (by omega), List.take_left' rfl, if_pos hw, hv0]
  ·cases h
 by_cases h3 : K = 3
 ·subst h3
  rw [te_int] at h
  split at h
  ·rename_i hw
   obtain ⟨w1, w2, w3⟩ := hw
   have hx : Lib.itoa v = x := congrArg Prod.fst h
   obtain ⟨n, rfl⟩ : ∃ n : Nat, v = n := ⟨v.toNat, by omega⟩
   rw [Lib.itoa_nonneg] at hx
   subst hx
   have hl : l = [] := by simpa using w1
   subst hl
   have hn : n ≤ 1000000000000 := by unfold validB at w3; simp at w3; omega
   have hp := pnum_itoa hn
   obtain ⟨d1, d2⟩ := digs_itoa n
   have hda := digL_appE _ r d2 hr
   cases hx : Lib.decDigits n with
   | nil => exact absurd hx d1
   | cons c x =>
    rw [hx] at hp d2 hda
    have hc := d2 c (by simp)
    have hb := dg_bl hc
    refine ⟨by simp, ?_, skip0 hb.1 (by rw [hb.2.1]; rfl)⟩
    rw [List.cons_append, tok1_dg hb.2.2 hc, ← List.cons_append, hda, List.take_left' rfl, hp, if_pos rfl]
  ·cases h
 by_cases h4 : K = 4
 ·subst h4
  rw [te_str] at h
  split at h
  ·cases h
  rename_i hv
  split at h
  ·rename_i hw
   have hx : 34 :: (esc l ++ [34]) = x := congrArg Prod.fst h
   subst hx
   have hv0 : v = 0 := by simpa using hv
   rw [contB_okB, Bool.and_eq_true, decide_eq_true_eq] at hw
   have he : (34 :: (esc l ++ [34])) ++ r = 34 :: (esc l ++ 34 :: r) := by simp
   rw [he]
   refine ⟨by simp, ?_, skip0 rfl rfl⟩
   rw [tok1_qt, txt_esc l 1 [] r hw.2 (by simpa using hw.1), if_pos rfl, hv0]
   simp only [List.nil_append, List.length_cons, List.length_append, List.length_nil, Prod.mk.injEq, true_and, and_true]
   omega
  ·cases h
 by_cases h5 : K = 5
 ·subst h5
  rw [te_sym] at h
  split at h
  ·cases h
  rename_i hv
  split at h
  ·rename_i hw
   have hx : l = x := congrArg Prod.fst h
   subst hx
   have hv0 : v = 0 := by simpa using hv
   obtain ⟨s1, s2, s3, s4, s5, s6, s7⟩ := symS_hd l (symB_mem hw)
   refine ⟨s6, ?_⟩
   match l, s1, s2, s3, s4, s5, s6, s7, hw with
   | [c], s1, s2, s3, s4, s5, s6, s7, hw =>
    simp only [List.headD_cons] at s1 s2 s3 s4 s5 s7
    rw [List.cons_append, List.nil_append]
    constructor
    ·rw [tok1_sy s1 s2 s3 s4, if_neg, List.take_succ_cons, List.take_zero, if_pos hw, hv0]
     ·rfl
     ·rintro ⟨q1, q2⟩
      cases r with
      | nil => simp at q1
      | cons b r =>
       have := symB_end c (hr b rfl)
       simp only [List.take_succ_cons, List.take_zero] at q2
       rw [this] at q2; cases q2
    ·refine skip0 s5 ?_
     cases r with
     | nil => simp
     | cons b r =>
      have hb := hr b rfl
      have : b ≠ 47 := end_47 hb
      simp [this]
   | [c, d], s1, s2, s3, s4, s5, s6, s7, hw =>
    simp only [List.headD_cons] at s1 s2 s3 s4 s5 s7
    have s8 : (c == 47) = false := by
     rcases s7 with s7 | s7
     ·simp at s7
     ·exact s7.2
    show tok1 (c :: d :: r) = _ ∧ skip (c :: d :: r) = 0
    refine ⟨?_, skip0 s5 (by rw [s8]; rfl)⟩
    rw [tok1_sy s1 s2 s3 s4, if_pos ⟨by simp, by simpa using hw⟩, hv0]
    rfl
   | c :: d :: e :: l, s1, s2, s3, s4, s5, s6, s7, hw => simp at s7
  ·cases h
 by_cases h6 : K = 6
 ·subst h6
  rw [te_host] at h
  split at h
  ·cases h
  rename_i hv
  split at h
  ·rename_i hw
   have hx : 64 :: l = x := congrArg Prod.fst h
   subst hx
   have hv0 : v = 0 := by simpa using hv
   obtain ⟨w1, w2, w3⟩ := whole_elim hw
   have hra := runL_appE w1 w2 hr
   have hl : l.length ≠ 0 := by simpa using w1
   refine ⟨by simp, ?_, skip0 rfl rfl⟩
   rw [List.cons_append, tok1_at, hra, if_neg hl, if_neg (by omega), List.take_left' rfl, hv0]
   rfl
  ·cases h
 rw [te_no K l v a ⟨h1, h2, h3, h4, h5, h6⟩] at h
 cases h
theorem open_tok {t : Tok} (ho : opnT t = true) (h : okTk t = true) (r : Bs) : (textT t).1 ≠ [] ∧ tok1 ((textT t).1 ++ r) = ({ t with at_ := 0 }, (textT t).1.length, 0) ∧ skip ((textT t).1 ++ r) = 0 := by
 obtain ⟨K, l, v, a⟩ := t
 simp only [opnT, Bool.and_eq_true, decide_eq_true_eq, List.contains_cons, List.contains_nil, Bool.or_false, Bool.or_eq_true, beq_iff_eq] at ho
 obtain ⟨rfl, ho⟩ := ho
 have hv : v = 0 := by
  simp only [okTk, decide_eq_true_eq] at h
  rw [te_sym] at h
  split at h
  ·cases h
  ·rename_i hv; simpa using hv
 subst hv
 have key : ∀ c : UInt8, isHd c = false → isDg c = false → (c == 34) = false → (c == 64) = false → isBl c = false → (c == 47) = false → symB [c] = true → (∀ d, symB [c, d] = false) → l = [c] →
   (textT ⟨5, l, 0, a⟩).1 ≠ [] ∧ tok1 ((textT ⟨5, l, 0, a⟩).1 ++ r) = (⟨5, l, 0, 0⟩, (textT ⟨5, l, 0, a⟩).1.length, 0) ∧ skip ((textT ⟨5, l, 0, a⟩).1 ++ r) = 0 := by
  intro c s1 s2 s3 s4 s5 s6 hs hd hl
  subst hl
  have e : (textT ⟨5, [c], 0, a⟩).1 = [c] := by rw [te_sym, if_neg (by simp), if_pos hs]
  rw [e]
  refine ⟨by simp, ?_, ?_⟩
  ·rw [List.cons_append, List.nil_append, tok1_sy s1 s2 s3 s4, if_neg, List.take_succ_cons, List.take_zero, if_pos hs]
   ·rfl
   ·rintro ⟨q1, q2⟩
    cases r with
    | nil => simp at q1
    | cons b r =>
     simp only [List.take_succ_cons, List.take_zero] at q2
     rw [hd b] at q2; cases q2
  ·exact skip0 s5 (by rw [s6]; rfl)
 rcases ho with rfl | rfl | rfl | rfl
 ·exact key 40 rfl rfl rfl rfl rfl rfl rfl (fun d => by simp [symB]) rfl
 ·exact key 91 rfl rfl rfl rfl rfl rfl rfl (fun d => by simp [symB]) rfl
 ·exact key 123 rfl rfl rfl rfl rfl rfl rfl (fun d => by simp [symB]) rfl
 ·exact key 45 rfl rfl rfl rfl rfl rfl rfl (fun d => by simp [symB]) rfl
def atP : Nat → List Pc → List Tok
 | _, [] => []
 | k, .t t :: l => { t with at_ := (k : Int) } :: atP (k + (textT t).1.length) l
 | k, .b s :: l => atP (k + s.length) l
theorem atP_sim : ∀ (l : List Pc) (k : Nat), Sim (atP k l) (tkP l)
 | [], _ => rfl
 | .t t :: l, k => by
  have := atP_sim l (k + (textT t).1.length)
  simp only [Sim, atP, tkP, List.map_cons, strip] at this ⊢
  rw [this]
 | .b s :: l, k => atP_sim l _
theorem skip_bl : ∀ (s X : Bs), s.all isBl = true → skip (s ++ X) = s.length + skip X
 | [], X, _ => by simp
 | c :: s, X, h => by
  simp only [List.all_cons, Bool.and_eq_true] at h
  simp only [List.cons_append, skip, skp, h.1, if_true, List.length_cons]
  have := skip_bl s X h.2
  simp only [skip] at this
  omega
theorem clsT_end {b : Tok} (hc : clsT b = true) (h : okTk b = true) (r : Bs) : sepE ((textT b).1 ++ r) := by
 obtain ⟨K, l, v, a⟩ := b
 simp only [clsT, Bool.and_eq_true, decide_eq_true_eq, List.contains_cons, List.contains_nil, Bool.or_false, Bool.or_eq_true, beq_iff_eq] at hc
 obtain ⟨rfl, hc⟩ := hc
 have e : (textT ⟨5, l, v, a⟩).1 = l := by
  simp only [okTk, decide_eq_true_eq] at h
  rw [te_sym] at h ⊢
  split at h
  ·cases h
  ·split at h
   ·rename_i h1 h2; rw [if_neg h1, if_pos h2]
   ·cases h
 rw [e]
 intro c hcc
 rcases hc with rfl | rfl | rfl | rfl | rfl | rfl | rfl | rfl <;> (cases hcc; rfl)
theorem next_end : ∀ {l : List Pc} {a : Tok}, nextOk a l = true → opnT a = false → adj l = true → sepE (txP l)
 | [], a, _, _, _ => fun c h => by cases h
 | .t b :: l, a, hn, ho, hl => by
  simp only [nextOk, ho, Bool.false_or] at hn
  simp only [adj, Bool.and_eq_true] at hl
  exact clsT_end hn hl.1.1 _
 | .b s :: l, a, _, _, hl => by
  simp only [adj, Bool.and_eq_true, Bool.not_eq_true'] at hl
  intro c hc
  cases s with
  | nil => simp at hl
  | cons x s =>
   simp only [txP, List.cons_append, List.head?_cons, Option.some.injEq] at hc
   subst hc
   have := hl.1.2
   simp only [List.all_cons, Bool.and_eq_true] at this
   simp [isEnd, this.1]
theorem pc_read : ∀ (l : List Pc) (k : Nat), adj l = true → LxR ((txP l).drop (skip (txP l))) (k + skip (txP l)) (atP k l)
 | [], k, _ => rfl
 | .b s :: l, k, h => by
  simp only [adj, Bool.and_eq_true] at h
  have := pc_read l (k + s.length) h.2
  simp only [txP, atP]
  rw [skip_bl s _ h.1.2, ← List.drop_drop, List.drop_left, ← Nat.add_assoc]
  exact this
 | .t a :: l, k, h => by
  simp only [adj, Bool.and_eq_true] at h
  have ih := pc_read l (k + (textT a).1.length) h.2
  have hok : textT a = ((textT a).1, 0) := by
   have := h.1.1
   simp only [okTk, decide_eq_true_eq] at this
   rw [← this]
  obtain ⟨h1, h2, h3⟩ : (textT a).1 ≠ [] ∧ tok1 ((textT a).1 ++ txP l) = ({ a with at_ := 0 }, (textT a).1.length, 0) ∧ skip ((textT a).1 ++ txP l) = 0 := by
   cases ho : opnT a with
   | true => exact open_tok ho h.1.1 _
   | false => exact text_tokE a _ hok _ (next_end h.1.2 ho h.2)
  simp only [txP, atP, h3, List.drop_zero, Nat.add_zero]
  have hlen : (textT a).1.length ≠ 0 := by simpa using h1
  refine ⟨(textT a).1.length, by simp [h1], h3, by omega, by simp, h2, rfl, ?_⟩
  rw [← List.drop_drop, List.drop_left]
  exact ih
theorem LxR_uniq : ∀ {ts ts' : List Tok} {L : Bs} {k : Nat}, LxR L k ts → LxR L k ts' → ts = ts'
 | [], [], _, _, _, _ => rfl
 | [], t :: ts, L, k, h, h' => by obtain ⟨n, h1, _⟩ := h'; exact absurd h h1
 | t :: ts, [], L, k, h, h' => by obtain ⟨n, h1, _⟩ := h; exact absurd h' h1
 | t :: ts, t' :: ts', L, k, ⟨n, h1, h2, h3, h4, h5, h6, h7⟩, ⟨n', g1, g2, g3, g4, g5, g6, g7⟩ => by
  rw [h5] at g5
  simp only [Prod.mk.injEq, Tok.mk.injEq, and_true] at g5
  obtain ⟨⟨a1, a2, a3⟩, rfl⟩ := g5
  rw [LxR_uniq h7 g7]
  obtain ⟨k1, k2, k3, k4⟩ := t
  obtain ⟨l1, l2, l3, l4⟩ := t'
  simp only at a1 a2 a3 h6 g6
  subst a1 a2 a3
  rw [h6, g6]
theorem tokens_pc {l : List Pc} (h : adj l = true) (hok : (tokens (txP l)).2.2 = 0) : tokens (txP l) = (atP 0 l, 0, 0) := by
 obtain ⟨ts, h1, h2, h3⟩ := tokens_Rd hok
 have := pc_read l 0 h
 rw [Nat.zero_add] at this
 rw [h1, LxR_uniq h3 this]
end Go.Proofs.YtglndfgmlminpaaGreatDoor
namespace Go.Proofs.YtglndfgmlminpaaGreatDoor
def nestF (l : List Nd) : Nat → Nat → Nat
 | 0, _ => 0
 | f + 1, i => match l[i]? with
  | none => 0
  | some n => n.kids.foldl (fun m k => max m (nestF l f k.toNat)) 0 + 1
theorem seg_first {l : List Nd} {T : Tr} {a : Nat} (hw : T.wf = true) (h : T.flat a <+: l.drop a) : Seg l T a (a + T.size - 1) := ⟨hw, by have := T.size_pos; omega, h⟩
theorem nest_kids {l : List Nd} {F : Nat → Nat} : ∀ (Ts : List Tr) (a m : Nat), (∀ T ∈ Ts, ∀ a i, Seg l T a i → F i = T.ht) → (∀ T ∈ Ts, T.wf = true) → Tr.flats a Ts <+: l.drop a →
  (Tr.roots a Ts).foldl (fun m k => max m (F k.toNat)) m = max m (Tr.hts Ts)
 | [], a, m, _, _, _ => by simp [Tr.roots, Tr.hts]
 | T :: Ts, a, m, hF, hw, h => by
  simp only [Tr.flats] at h
  rw [prefix_app, Tr.flat_length] at h
  have hs := seg_first (hw T (by simp)) h.1
  have hpos := T.size_pos
  simp only [Tr.roots, List.foldl_cons, Tr.hts]
  rw [show (((a + T.size : Nat) : Int) - 1).toNat = a + T.size - 1 by omega, hF T (by simp) _ _ hs]
  rw [nest_kids Ts (a + T.size) _ (fun X hX => hF X (by simp [hX])) (fun X hX => hw X (by simp [hX])) h.2]
  omega
theorem nestF_seg {l : List Nd} : ∀ (f : Nat) (T : Tr) (a i : Nat), T.ht ≤ f → Seg l T a i → nestF l f i = T.ht
 | 0, T, a, i, h, _ => by cases T; simp [Tr.ht] at h
 | f + 1, T, a, i, h, hs => by
  obtain ⟨b, ts⟩ := T
  obtain ⟨hf, hc, hws⟩ := wf_parts hs.wf
  have hlen := hs.len
  have hseg := hs.seg
  simp only [Tr.size] at hlen
  simp only [Tr.flat] at hseg
  rw [prefix_app, Tr.flats_length] at hseg
  have hi : l[i]? = some ⟨b.kind, b.text, b.val, b.keys, Tr.roots a ts⟩ := by
   have := prefix_get hseg.2 (j := 0) (by simp)
   rw [show i = a + Tr.sizes ts + 0 by omega, this]
   rfl
  simp only [nestF, hi, Tr.ht]
  rw [nest_kids ts a 0 (fun T hT a i hs => nestF_seg f T a i (by have := Tr.ht_mem hT; simp only [Tr.ht] at h; omega) hs) (fun X hX => kid_wf hX hws) hseg.1]
  omega
def deepF (p : Pg) : Nat := p.funcs.foldl (fun m f => max m (nestF p.nodes (p.nodes.length + 1) f.body.toNat)) 0
def checkP (p : Pg) : Int :=
 if 600 < p.nodes.length ∨ 16 < p.funcs.length then 3
 else if ordB p = false then 1
 else if p.funcs.any (fun f => decide (8 < f.params.length)) = true ∨ 32 < deepF p then 3
 else 0
def parseP (s : Bs) : Pg × Int × Int :=
 if (tokens s).2.2 ≠ 0 then (⟨[], []⟩, (tokens s).2.1, (tokens s).2.2)
 else match progP s.length (tokens s).1 with
  | .error o => (⟨[], []⟩, o, 1)
  | .ok p => if checkP p ≠ 0 then (⟨[], []⟩, 0, 3) else (p, 0, 0)
end Go.Proofs.YtglndfgmlminpaaGreatDoor
namespace Go.Proofs.YtglndfgmlminpaaGreatDoor
theorem Tr.mem_size : ∀ {l : List Tr} {X : Tr}, X ∈ l → X.size ≤ Tr.sizes l
 | [], X, h => by cases h
 | y :: l, X, h => by
  simp only [Tr.sizes]
  rcases List.mem_cons.1 h with rfl | h
  ·omega
  ·have := Tr.mem_size h; omega
theorem Tr.ht_size : ∀ (m : Nat) (T : Tr), T.size ≤ m → T.ht ≤ T.size
 | 0, T, h => by have := T.size_pos; omega
 | m + 1, T, h => by
  obtain ⟨a, ts⟩ := T
  simp only [Tr.size] at h
  simp only [Tr.ht, Tr.size]
  have : Tr.hts ts ≤ Tr.sizes ts := hts_le fun X hX => by
   have h2 := Tr.mem_size hX
   have := Tr.ht_size m X (by omega)
   omega
  omega
theorem Seg.len_le {l : List Nd} {T : Tr} {a i : Nat} (h : Seg l T a i) : i < l.length ∧ T.ht ≤ l.length + 1 := by
 have h1 := h.seg.length_le
 have h2 := h.len
 have h3 := T.size_pos
 rw [Tr.flat_length, List.length_drop] at h1
 have := Tr.ht_size _ T (Nat.le_refl _)
 exact ⟨by omega, by omega⟩
abbrev F0 (l : List Nd) (i : Nat) : Option Nat := firstF l (l.length + 1) i
structure MInv (l : List Nd) (low : Nat) (sz ht : List Nat) : Prop where
 len : ht.length = sz.length
 get : ∀ j, low ≤ j → j < sz.length → F0 l j = some (j + 1 - sz.getD j 0) ∧ low ≤ j + 1 - sz.getD j 0 ∧ (1 ≤ sz.getD j 0 ∧ sz.getD j 0 ≤ j + 1)
 hts : ∀ j, low ≤ j → j < sz.length → ht.getD j 0 = nestF l (l.length + 1) j
theorem MInv.snoc {l : List Nd} {low : Nat} {sz ht : List Nat} (hI : MInv l low sz ht) {s h : Nat} (h1 : F0 l sz.length = some (sz.length + 1 - s) ∧ low ≤ sz.length + 1 - s ∧ (1 ≤ s ∧ s ≤ sz.length + 1)) (h2 : h = nestF l (l.length + 1) sz.length) : MInv l low (sz ++ [s]) (ht ++ [h]) := by
 refine ⟨by simp [hI.len], fun j a b => ?_, fun j a b => ?_⟩
 ·rw [List.length_append, List.length_singleton] at b
  rcases Nat.lt_or_ge j sz.length with h3 | h3
  ·rw [show (sz ++ [s]).getD j 0 = sz.getD j 0 by simp [List.getD_eq_getElem?_getD, List.getElem?_append_left h3]]
   exact hI.get j a h3
  ·obtain rfl : j = sz.length := by omega
   rw [show (sz ++ [s]).getD sz.length 0 = s by simp [List.getD_eq_getElem?_getD]]
   exact h1
 ·rw [List.length_append, List.length_singleton] at b
  rcases Nat.lt_or_ge j sz.length with h3 | h3
  ·rw [show (ht ++ [h]).getD j 0 = ht.getD j 0 by simp [List.getD_eq_getElem?_getD, List.getElem?_append_left (show j < ht.length by rw [hI.len]; exact h3)]]
   exact hI.hts j a h3
  ·obtain rfl : j = sz.length := by omega
   rw [← hI.len, show (ht ++ [h]).getD ht.length 0 = h by simp [List.getD_eq_getElem?_getD], hI.len]
   exact h2
end Go.Proofs.YtglndfgmlminpaaGreatDoor
namespace Go.Proofs.YtglndfgmlminpaaGreatDoor
def Atv (e o : Int) (r : List Tok) : Prop := o = e ∨ ∃ t ∈ r, o = t.at_
theorem Atv.suf {e o : Int} {r r1 : List Tok} (h : Atv e o r1) (hs : r1 <:+ r) : Atv e o r := by
 rcases h with h | ⟨t, h1, h2⟩
 ·exact .inl h
 ·exact .inr ⟨t, hs.subset h1, h2⟩
theorem Atv.eats {e o : Int} {r r1 : List Tok} (h : Atv e o r1) (hs : Eats r r1) : Atv e o r := h.suf hs.suf
theorem Atv.off (e : Int) : ∀ r : List Tok, Atv e (offT e r) r
 | [] => .inl rfl
 | t :: r => .inr ⟨t, by simp, rfl⟩
theorem Atv.err {e o : Int} {α : Type} {r : List Tok} (h : (Except.error (offT e r) : Except Int α) = .error o) : Atv e o r := by
 cases h; exact .off e r
def AtP (e : Int) (p : Pars) : Prop := ∀ {r ns o}, p r ns = .error o → Atv e o r
theorem mustT_at {e k : Int} {s : Bs} {r : List Tok} {o : Int} (h : mustT e k s r = .error o) : Atv e o r := by
 unfold mustT at h
 split at h
 ·cases h
 ·exact .err h
theorem mustK_at {e k : Int} {r : List Tok} {o : Int} (h : mustK e k r = .error o) : Atv e o r := by
 unfold mustK at h
 split at h
 ·cases h
 ·exact .err h
section
variable {e : Int} {E : Pars} (hE : AtP e E) (hC : EatsP E)
include hE hC
theorem listF_at {fin : Bs} : ∀ (f : Nat) {l : List Int} {r : List Tok} {ns : List Nd} {o : Int}, listF e fin E f l r ns = .error o → Atv e o r
 | 0, l, r, ns, o, h => .err h
 | f + 1, l, r, ns, o, h => by
  simp only [listF] at h
  split at h
  ·rename_i h1; cases h; exact hE h1
  ·rename_i i r1 ns1 h1
   have h2 := hC h1
   split at h
   ·cases h
   ·split at h
    ·rename_i hc
     exact (listF_at f h).eats (h2.trans (.of_tk hc))
    ·exact (Atv.err h).eats h2
theorem listP_at {fin : Bs} {r : List Tok} {ns : List Nd} {o : Int} (h : listP e fin E r ns = .error o) : Atv e o r := by
 unfold listP at h
 split at h
 ·cases h
 ·exact listF_at hE hC _ h
theorem keyF_at : ∀ (f : Nat) {ks : List Bs} {l : List Int} {r : List Tok} {ns : List Nd} {o : Int}, keyF e E f ks l r ns = .error o → Atv e o r
 | 0, ks, l, r, ns, o, h => .err h
 | f + 1, ks, l, r, ns, o, h => by
  simp only [keyF] at h
  split at h
  rotate_left
  ·exact .err h
  rename_i hk
  have h0 := Eats.of_tail hk.2.1
  split at h
  ·rename_i h1; cases h; exact (mustT_at h1).eats h0
  rename_i r1 h1
  have h2 := h0.trans (mustT_eats h1)
  split at h
  ·rename_i h3; cases h; exact (hE h3).eats h2
  rename_i i r3 ns3 h3
  have h4 := h2.trans (hC h3)
  split at h
  ·cases h
  split at h
  ·rename_i hc
   exact (keyF_at f h).eats (h4.trans (.of_tk hc))
  ·exact (Atv.err h).eats h4
theorem keyP_at {r : List Tok} {ns : List Nd} {o : Int} (h : keyP e E r ns = .error o) : Atv e o r := by
 unfold keyP at h
 split at h
 ·cases h
 ·exact keyF_at hE hC _ h
theorem primP_at : AtP e (primP e E) := by
 intro r ns o h
 unfold primP at h
 cases r with
 | nil => cases h; exact .inl rfl
 | cons t r =>
  have h0 : Eats (t :: r) r := .of_tail (by simp)
  dsimp only at h
  split at h
  ·cases h
  split at h
  ·cases h
  split at h
  ·cases h
  split at h
  ·cases h
  split at h
  ·cases h
  split at h
  ·split at h
   ·rename_i hk
    split at h
    ·rename_i h2; cases h; exact (listP_at hE hC h2).eats (h0.trans (.of_tk hk))
    ·cases h
   ·cases h
  split at h
  ·split at h
   ·rename_i h2; cases h; exact (mustT_at h2).eats h0
   ·rename_i h2
    split at h
    ·rename_i h3; cases h; exact (listP_at hE hC h3).eats (h0.trans (mustT_eats h2))
    ·cases h
  split at h
  ·split at h
   ·rename_i h2; cases h; exact (listP_at hE hC h2).eats h0
   ·cases h
  split at h
  ·exact (keyP_at hE hC h).eats h0
  split at h
  ·split at h
   ·rename_i h2; cases h; exact (hE h2).eats h0
   ·rename_i h2
    split at h
    ·rename_i h3; cases h; exact (mustT_at h3).eats (h0.trans (hC h2))
    ·cases h
  ·cases h; exact .inr ⟨t, by simp, rfl⟩
theorem postF_at : ∀ (f : Nat) {i : Int} {r : List Tok} {ns : List Nd} {o : Int}, postF e E f i r ns = .error o → Atv e o r
 | 0, i, r, ns, o, h => by cases h
 | f + 1, i, r, ns, o, h => by
  simp only [postF] at h
  split at h
  rotate_left
  ·cases h
  rename_i hk
  have h0 : Eats r r.tail := .of_tk hk
  split at h
  ·rename_i h1; cases h; exact (hE h1).eats h0
  rename_i k r1 ns1 h1
  have h2 := h0.trans (hC h1)
  split at h
  ·rename_i h3; cases h; exact (mustT_at h3).eats h2
  ·rename_i h3
   exact (postF_at f h).eats (h2.trans (mustT_eats h3))
theorem postP_at : AtP e (postP e E) := by
 intro r ns o h
 unfold postP at h
 split at h
 ·rename_i h1; cases h; exact primP_at hE hC h1
 ·rename_i h1
  exact (postF_at hE hC _ h).eats (primP_eats hC h1)
theorem unaryP_at : AtP e (unaryP e E) := by
 intro r
 induction r with
 | nil => intro ns o h; exact postP_at hE hC h
 | cons t r ih =>
  intro ns o h
  simp only [unaryP] at h
  split at h
  ·split at h
   ·rename_i h1; cases h; exact (ih h1).eats (.of_tail (by simp))
   ·cases h
  ·exact postP_at hE hC h
omit hE hC in
theorem chainF_at {k : Int} {ops : List Bs} {O : Pars} (hO : AtP e O) (hOC : EatsP O) : ∀ (f : Nat) {i : Int} {r : List Tok} {ns : List Nd} {o : Int}, chainF k ops O f i r ns = .error o → Atv e o r
 | 0, i, r, ns, o, h => by cases h
 | f + 1, i, r, ns, o, h => by
  simp only [chainF] at h
  split at h
  rotate_left
  ·cases h
  rename_i hk
  have h0 : Eats r r.tail := .of_tail hk.2.2
  split at h
  ·rename_i h1; cases h; exact (hO h1).eats h0
  ·rename_i h1
   exact (chainF_at hO hOC f h).eats (h0.trans (hOC h1))
omit hE hC in
theorem chainP_at {k : Int} {ops : List Bs} {O : Pars} (hO : AtP e O) (hOC : EatsP O) : AtP e (chainP k ops O) := by
 intro r ns o h
 unfold chainP at h
 split at h
 ·rename_i h1; cases h; exact hO h1
 ·rename_i h1
  exact (chainF_at hO hOC _ h).eats (hOC h1)
theorem sumP_at : AtP e (sumP e E) := chainP_at (chainP_at (unaryP_at hE hC) (unaryP_eats hC)) (termP_eats hC)
theorem cmpP_at : AtP e (cmpP e E) := by
 intro r ns o h
 unfold cmpP at h
 split at h
 ·rename_i h1; cases h; exact sumP_at hE hC h1
 ·rename_i h1
  have h2 := sumP_eats hC h1
  split at h
  ·rename_i hk
   split at h
   ·rename_i h3; cases h; exact (sumP_at hE hC h3).eats (h2.trans (.of_tail hk.2.2))
   ·cases h
  ·cases h
theorem notP_at : AtP e (notP e E) := by
 intro r
 induction r with
 | nil => intro ns o h; exact cmpP_at hE hC h
 | cons t r ih =>
  intro ns o h
  simp only [notP] at h
  split at h
  ·split at h
   ·rename_i h1; cases h; exact (ih h1).eats (.of_tail (by simp))
   ·cases h
  ·exact cmpP_at hE hC h
theorem orP_at : AtP e (orP e E) := chainP_at (chainP_at (notP_at hE hC) (notP_eats hC)) (andP_eats hC)
end
theorem exprP_at {e : Int} : ∀ f, AtP e (exprP e f)
 | 0, _r, _ns, _o, h => .err h
 | f + 1, _r, _ns, _o, h => orP_at (exprP_at f) (exprP_eats f) h
theorem valueP_at {e : Int} {f : Nat} {kind : Int} {text : Bs} : AtP e (valueP e f kind text) := by
 intro r ns o h
 unfold valueP at h
 split at h
 ·rename_i h1; cases h; exact exprP_at f h1
 ·rename_i h1
  split at h
  ·rename_i h2; cases h; exact (mustT_at h2).eats (exprP_eats f h1)
  ·cases h
theorem stmtP_at {e : Int} {f : Nat} {Bl : Pars} (hB : AtP e Bl) (hC : EatsP Bl) : AtP e (stmtP e f Bl) := by
 intro r ns o h
 unfold stmtP at h
 split at h
 ·rename_i hk
  have h0 : Eats r r.tail := .of_tk hk
  split at h
  ·rename_i h1; cases h; exact (mustK_at h1).eats h0
  rename_i h1
  have h2 := h0.trans (mustK_eats h1)
  split at h
  ·rename_i h3; cases h; exact (mustT_at h3).eats h2
  ·rename_i h3
   exact (valueP_at h).eats (h2.trans (mustT_eats h3))
 split at h
 ·rename_i hk
  have h0 : Eats r r.tail := .of_tk hk
  split at h
  ·rename_i h1; cases h; exact (exprP_at f h1).eats h0
  rename_i h1
  have h2 := h0.trans (exprP_eats f h1)
  split at h
  ·rename_i h3; cases h; exact (hB h3).eats h2
  rename_i h3
  have h4 := h2.trans (hC h3)
  split at h
  ·rename_i hk2
   split at h
   ·rename_i h5; cases h; exact (hB h5).eats (h4.trans (.of_tk hk2))
   ·cases h
  ·cases h
 split at h
 ·rename_i hk
  have h0 : Eats r r.tail := .of_tk hk
  split at h
  ·rename_i h1; cases h; exact (exprP_at f h1).eats h0
  rename_i h1
  have h2 := h0.trans (exprP_eats f h1)
  split at h
  ·rename_i h3; cases h; exact (hB h3).eats h2
  ·cases h
 split at h
 ·rename_i hk
  exact (valueP_at h).eats (.of_tk hk)
 split at h
 ·exact (valueP_at h).suf ((List.tail_suffix _).trans (List.tail_suffix _))
 ·exact valueP_at h
theorem stmtsF_at {e : Int} {S : Pars} (hS : AtP e S) (hC : EatsP S) : ∀ (g : Nat) {l : List Int} {r : List Tok} {ns : List Nd} {o : Int}, stmtsF e S g l r ns = .error o → Atv e o r
 | 0, l, r, ns, o, h => .err h
 | g + 1, l, r, ns, o, h => by
  simp only [stmtsF] at h
  split at h
  ·cases h
  split at h
  ·rename_i h1; cases h; exact hS h1
  ·rename_i h1
   exact (stmtsF_at hS hC g h).eats (hC h1)
theorem blockP_at {e : Int} : ∀ f, AtP e (blockP e f)
 | 0, r, ns, o, h => .err h
 | f + 1, r, ns, o, h => by
  simp only [blockP] at h
  split at h
  ·rename_i h1; cases h; exact mustT_at h1
  ·rename_i h1
   exact (stmtsF_at (stmtP_at (blockP_at f) (blockP_eats f)) (stmtP_eats (blockP_eats f)) _ h).eats (mustT_eats h1)
theorem parF_at {e : Int} : ∀ (f : Nat) {l : List Bs} {r : List Tok} {o : Int}, parF e f l r = .error o → Atv e o r
 | 0, l, r, o, h => .err h
 | f + 1, l, r, o, h => by
  simp only [parF] at h
  split at h
  ·rename_i h1; cases h; exact mustK_at h1
  rename_i h1
  have h2 := mustK_eats h1
  split at h
  ·cases h
  split at h
  ·rename_i hc
   exact (parF_at f h).eats (h2.trans (.of_tk hc))
  ·exact (Atv.err h).eats h2
theorem funcP_at {e : Int} {f : Nat} {r : List Tok} {ns : List Nd} {o : Int} (h : funcP e f r ns = .error o) : Atv e o r := by
 unfold funcP at h
 split at h
 ·rename_i h1; cases h; exact mustT_at h1
 rename_i h1
 have g1 := mustT_eats h1
 split at h
 ·rename_i h2; cases h; exact (mustK_at h2).eats g1
 rename_i h2
 have g2 := g1.trans (mustK_eats h2)
 split at h
 ·rename_i h3; cases h; exact (mustT_at h3).eats g2
 rename_i h3
 have g3 := g2.trans (mustT_eats h3)
 split at h
 ·rename_i h4
  cases h
  refine Atv.eats ?_ g3
  unfold parP at h4
  split at h4
  ·cases h4
  ·exact parF_at _ h4
 rename_i h4
 have g4 := g3.trans (parP_eats h4)
 split at h
 ·rename_i h5; cases h; exact (blockP_at f h5).eats g4
 ·cases h
theorem progF_at {e : Int} {f : Nat} : ∀ (g : Nat) {fs : List Fc} {r : List Tok} {ns : List Nd} {o : Int}, progF e f g fs r ns = .error o → Atv e o r
 | 0, fs, r, ns, o, h => by cases h
 | g + 1, fs, r, ns, o, h => by
  simp only [progF] at h
  split at h
  ·cases h
  split at h
  ·rename_i h1; cases h; exact funcP_at h1
  ·rename_i h1
   exact (progF_at g h).eats (funcP_eats h1)
theorem progP_at {e : Int} {r : List Tok} {o : Int} (h : progP e r = .error o) : Atv e o r := progF_at _ h
end Go.Proofs.YtglndfgmlminpaaGreatDoor
namespace Go.Proofs.YtglndfgmlminpaaGreatDoor
theorem tokB_text {t : Tok} (h : (textT t).2 = 0) : tokB t = true := by
 unfold textT at h
 unfold tokB nameB
 split at h
 ·rename_i h1
  obtain ⟨h1, h2, h3, h4⟩ := h1
  unfold validB at h4
  simp only [Bool.and_eq_true, decide_eq_true_eq] at h4
  simp [h1, h3, h4.2]
 split at h
 ·cases h
 rename_i hv
 have hv : t.val = 0 := by simpa using hv
 split at h
 ·rename_i h1
  rcases h1 with ⟨a, b, c⟩ | ⟨a, b⟩ | ⟨a, b⟩
  ·simp [a, b, hv]; simpa using c
  ·simp [a]
  ·simp [a]
 split at h
 ·rename_i h1; simp [h1.1, h1.2]
 split at h
 ·rename_i h1; simp [h1.1, h1.2]
 ·cases h
theorem own_TokB {s : Bs} : ∀ {ts : List Tok} {e : Nat}, own s e ts → TokB ts
 | [], _, _ => fun t h => by cases h
 | x :: ts, e, ⟨k, _, h2, _, _, _, h6⟩ => fun t h => by
  rcases List.mem_cons.1 h with rfl | h
  ·exact tokB_text h2
  ·exact own_TokB h6 t h
theorem own_at {s : Bs} : ∀ {ts : List Tok} {e : Nat}, own s e ts → ∀ t ∈ ts, 0 ≤ t.at_ ∧ t.at_ ≤ s.length
 | [], _, _, t, h => by cases h
 | x :: ts, e, ⟨k, h1, _, _, h4, _, h6⟩, t, h => by
  rcases List.mem_cons.1 h with rfl | h
  ·omega
  ·exact own_at h6 t h
theorem tokens_TokB (s : Bs) : TokB (tokens s).1 := by
 by_cases h : (tokens s).2.2 = 0
 ·exact own_TokB (tokens_own h)
 ·rw [(tokens_err h).1]; exact fun t h => by cases h
theorem parse_trees {s : Bs} {p : Pg} (h : progP s.length (tokens s).1 = .ok p) : ∃ Fs, (∀ F ∈ Fs, FnTOk F) ∧ p = progOf Fs := progP_put (tokens_TokB s) h
theorem check_trees {p : Pg} (h : checkP p = 0) : ∃ Fs, (∀ F ∈ Fs, FnTOk F) ∧ p = progOf Fs := by
 unfold checkP at h
 split at h
 ·cases h
 split at h
 ·cases h
 rename_i h2
 exact ord_iff.1 (by simpa using h2)
theorem check_01 (p : Pg) : checkP p = 0 ∨ checkP p = 1 ∨ checkP p = 3 := by
 unfold checkP
 split
 ·exact .inr (.inr rfl)
 split
 ·exact .inr (.inl rfl)
 split
 ·exact .inr (.inr rfl)
 ·exact .inl rfl
theorem check_lim {Fs : List FnT} (h : ∀ F ∈ Fs, FnTOk F) : checkP (progOf Fs) = 0 ∨ checkP (progOf Fs) = 3 := by
 have ho : ordB (progOf Fs) = true := ord_iff.2 ⟨Fs, h, rfl⟩
 unfold checkP
 rw [ho]
 split
 ·exact .inr rfl
 rw [if_neg (by simp)]
 split
 ·exact .inr rfl
 ·exact .inl rfl
def printT (Fs : List FnT) : Bs × Int := if (tokens (txP (progPc Fs))).2.2 ≠ 0 then ([], 3) else (txP (progPc Fs), 0)
theorem round {Fs : List FnT} (h : ∀ F ∈ Fs, FnTOk F) (hc : checkP (progOf Fs) = 0) (hp : (printT Fs).2 = 0) : parseP (printT Fs).1 = (progOf Fs, 0, 0) := by
 have ht : (tokens (txP (progPc Fs))).2.2 = 0 := by
  unfold printT at hp
  split at hp
  ·cases hp
  ·rename_i h; simpa using h
 have e1 : printT Fs = (txP (progPc Fs), 0) := by unfold printT; rw [if_neg (by simp [ht])]
 have e2 := tokens_pc (progPc_adj h) ht
 rw [e1]
 unfold parseP
 rw [e2]
 simp only [ne_eq, not_true_eq_false, if_false]
 have hs : Sim (atP 0 (progPc Fs)) (progT Fs) := by rw [← progPc_tk h]; exact atP_sim _ _
 have hg := progP_good (e := (txP (progPc Fs)).length) h
 rcases progP_sim (e := ((txP (progPc Fs)).length : Int)) (e' := ((txP (progPc Fs)).length : Int)) hs with ⟨o, o', _, h2⟩ | ⟨p, h1, h2⟩
 ·rw [hg] at h2; cases h2
 ·rw [hg] at h2
  cases h2
  rw [h1]
  simp [hc]
theorem parse_ok {s : Bs} (h : (parseP s).2.2 = 0) : (parseP s).2.1 = 0 ∧ checkP (parseP s).1 = 0 := by
 unfold parseP at h ⊢
 split at h
 ·rename_i h1; exact absurd h h1
 rename_i h1
 rw [if_neg h1]
 split at h
 ·cases h
 rename_i p hp
 split at h
 ·cases h
 rename_i hc
 rw [if_neg hc]
 exact ⟨rfl, by simpa using hc⟩
theorem parse_at {s : Bs} (h : (parseP s).2.2 ≠ 0) : (parseP s).1 = ⟨[], []⟩ ∧ 0 ≤ (parseP s).2.1 ∧ (parseP s).2.1 ≤ s.length := by
 unfold parseP at h ⊢
 split at h
 ·rename_i h1
  rw [if_pos h1]
  have := (tokens_err h1).2
  exact ⟨rfl, by simp, by simpa using this⟩
 rename_i h1
 rw [if_neg h1]
 split at h
 ·rename_i o ho
  rcases progP_at ho with h2 | ⟨t, h2, h3⟩
  ·refine ⟨rfl, ?_⟩
   simp only
   omega
  ·have := own_at (tokens_own (by simpa using h1)) t h2
   refine ⟨rfl, ?_⟩
   simp only
   omega
 ·split at h
  ·rename_i hc
   rw [if_pos hc]
   exact ⟨rfl, by simp, by simp⟩
  ·exact absurd rfl h
theorem texts_own {s : Bs} : ∀ {ts : List Tok} {e : Nat}, own s e ts → (texts ts).2 = 0
 | [], _, _ => rfl
 | x :: ts, e, ⟨k, h1, h2, _, h4, _, h6⟩ => by
  simp only [texts]
  rw [if_pos h2, if_pos (texts_own h6)]
theorem join_lim {s : Bs} (h : (tokens s).2.2 = 0) : (joinT (tokens s).1).2 = 0 ∨ (joinT (tokens s).1).2 = 3 := by
 have := texts_own (tokens_own h)
 unfold joinT
 split
 ·exact .inr rfl
 rw [if_neg (by simp [this])]
 split
 ·exact .inr rfl
 ·exact .inl rfl
theorem placed_sim : ∀ (l : List Tok) (k : Nat), Sim l (placed k l)
 | [], _ => rfl
 | t :: l, k => by
  have := placed_sim l (k + (textT t).1.length + 1)
  simp only [Sim, placed, List.map_cons] at this ⊢
  rw [this]
  rfl
theorem parse_blanks {s : Bs} (h : (tokens s).2.2 = 0) (hj : (joinT (tokens s).1).2 = 0) : (parseP (joinT (tokens s).1).1).1 = (parseP s).1 ∧ (parseP (joinT (tokens s).1).1).2.2 = (parseP s).2.2 := by
 have hb := (join_back (l := (tokens s).1) (s := (joinT (tokens s).1).1) (by rw [← hj])).1
 unfold parseP
 rw [hb]
 simp only [h, ne_eq, not_true_eq_false, if_false]
 rcases progP_sim (e := s.length) (e' := (joinT (tokens s).1).1.length) (placed_sim (tokens s).1 0) with ⟨o, o', h1, h2⟩ | ⟨p, h1, h2⟩
 ·rw [h1, h2]; exact ⟨rfl, rfl⟩
 ·rw [h1, h2]
  by_cases hc : checkP p = 0
  ·simp [hc]
  ·simp [hc]
end Go.Proofs.YtglndfgmlminpaaGreatDoor
