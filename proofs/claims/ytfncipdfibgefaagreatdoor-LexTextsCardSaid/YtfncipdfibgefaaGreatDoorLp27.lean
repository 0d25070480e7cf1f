/- Texts joined by pack.py: XLxP3 XLx30 XLxN XLxL -/
import Derived.Test.YtfncipdfibgefaaGreatDoorLp26
import Derived.Test.YtfncipdfibgefaaGreatDoorLp24
import Derived.Test.YtfncipdfibgefaaGreatDoorLp0
import Derived.Test.YtfncipdfibgefaaGreatDoorRows
import Derived.LaidLaws
import Derived.Stop.LaidErr
import Derived.Lib.LaidTab
/-
  Plain facts: blanks put in front of a token, or at the end, change offsets alone.
-/
namespace Go.Proofs.YtfncipdfibgefaaGreatDoor
open Go.RowKit

theorem skp_take : ∀ (b : Bool) (l X : Bs), skp b l < l.length → skp b (l.take (skp b l) ++ X) = skp b l + skp false X
  | _, [], X, h => by simp at h
  | false, c :: l, X, h => by
    cases h1 : isBl c with
    | true =>
      simp only [skp, h1, if_true, List.length_cons] at h
      have := skp_take false l X (by omega)
      simp only [skp, h1, if_true, List.take_succ_cons, List.cons_append, this]; omega
    | false =>
      cases h2 : c == 47 && l.head? == some 47 with
      | true =>
        have hs : skp false (c :: l) = skp true l + 1 := by simp only [skp, h1, h2, if_true, Bool.false_eq_true, if_false]
        rw [hs, List.length_cons] at h
        have := skp_take true l X (by omega)
        rw [hs, List.take_succ_cons, List.cons_append]
        have h3 : (l.take (skp true l) ++ X).head? = l.head? := by
          cases l with
          | nil => simp at h2
          | cons d l =>
            have hd : d = 47 := by simp at h2; exact h2.2
            subst hd
            simp [skp]
        have h4 : (c == 47 && (l.take (skp true l) ++ X).head? == some 47) = true := by rw [h3]; exact h2
        simp only [skp, h1, h4, if_true, Bool.false_eq_true, if_false, this]; omega
      | false =>
        have hs : skp false (c :: l) = 0 := by simp only [skp, h1, h2, Bool.false_eq_true, if_false]
        rw [hs]; simp
  | true, c :: l, X, h => by
    cases h1 : c == 10 with
    | true =>
      simp only [skp, h1, if_true, List.length_cons] at h
      have := skp_take false l X (by omega)
      simp only [skp, h1, if_true, List.take_succ_cons, List.cons_append, this]; omega
    | false =>
      simp only [skp, h1, Bool.false_eq_true, if_false, List.length_cons] at h
      have := skp_take true l X (by omega)
      simp only [skp, h1, Bool.false_eq_true, if_false, List.take_succ_cons, List.cons_append, this]; omega
theorem skp_all : ∀ (b : Bool) (l X : Bs), skp b l = l.length → skp b (l ++ 10 :: X) = l.length + skp false (10 :: X)
  | false, [], X, _ => by simp
  | true, [], X, _ => by simp [skp_nl]
  | false, c :: l, X, h => by
    cases h1 : isBl c with
    | true =>
      simp only [skp, h1, if_true, List.length_cons] at h
      have := skp_all false l X (by omega)
      rw [List.cons_append, skp_bl h1, this, List.length_cons]; omega
    | false =>
      cases h2 : c == 47 && l.head? == some 47 with
      | true =>
        have hs : skp false (c :: l) = skp true l + 1 := by simp only [skp, h1, h2, if_true, Bool.false_eq_true, if_false]
        rw [hs, List.length_cons] at h
        have := skp_all true l X (by omega)
        have h4 : (c == 47 && (l ++ 10 :: X).head? == some 47) = true := by
          cases l with
          | nil => simp at h2
          | cons d l => exact h2
        rw [List.cons_append]
        conv => lhs; simp only [skp, h1, h4, if_true, Bool.false_eq_true, if_false]
        rw [this, List.length_cons]; omega
      | false =>
        have hs : skp false (c :: l) = 0 := by simp only [skp, h1, h2, Bool.false_eq_true, if_false]
        rw [hs] at h; simp at h
  | true, c :: l, X, h => by
    cases h1 : c == 10 with
    | true =>
      simp only [skp, h1, if_true, List.length_cons] at h
      have := skp_all false l X (by omega)
      rw [List.cons_append]
      conv => lhs; simp only [skp, h1, if_true]
      rw [this, List.length_cons]; omega
    | false =>
      simp only [skp, h1, Bool.false_eq_true, if_false, List.length_cons] at h
      have := skp_all true l X (by omega)
      rw [List.cons_append, skp_in h1, this, List.length_cons]; omega

/-! ### A token is read from its bytes and the byte behind them -/
theorem runT_swap : ∀ (x r r' : Bs), runT (x ++ r) = x.length → r.head? = r'.head? → runT (x ++ r') = x.length
  | [], r, r', h, hh => by
    cases r with
    | nil => cases r' with
      | nil => rfl
      | cons c r' => simp at hh
    | cons c r => cases r' with
      | nil => simp at hh
      | cons d r' =>
        obtain rfl : c = d := by simpa using hh
        simp only [List.nil_append, runT, List.length_nil] at h ⊢
        split at h
        · omega
        · rename_i hc; simp [hc]
  | c :: x, r, r', h, hh => by
    simp only [List.cons_append, runT, List.length_cons] at h ⊢
    split at h
    · rename_i hc
      rw [if_pos hc, runT_swap x r r' (by omega) hh]
    · omega
theorem runL_swap {x r r' : Bs} (h0 : x ≠ []) (h : runL (x ++ r) = x.length) (hh : r.head? = r'.head?) : runL (x ++ r') = x.length := by
  cases x with
  | nil => exact absurd rfl h0
  | cons c x =>
    simp only [List.cons_append, runL, List.length_cons] at h ⊢
    split at h
    · rename_i hc
      rw [if_pos hc, runT_swap x r r' (by omega) hh]
    · omega
theorem digL_swap : ∀ (x r r' : Bs), digL (x ++ r) = x.length → r.head? = r'.head? → digL (x ++ r') = x.length
  | [], r, r', h, hh => by
    cases r with
    | nil => cases r' with
      | nil => rfl
      | cons c r' => simp at hh
    | cons c r => cases r' with
      | nil => simp at hh
      | cons d r' =>
        obtain rfl : c = d := by simpa using hh
        simp only [List.nil_append, digL, List.length_nil] at h ⊢
        split at h
        · omega
        · rename_i hc; simp [hc]
  | c :: x, r, r', h, hh => by
    simp only [List.cons_append, digL, List.length_cons] at h ⊢
    split at h
    · rename_i hc
      rw [if_pos hc, digL_swap x r r' (by omega) hh]
    · omega

theorem tok1_swap (c : UInt8) (x r r' : Bs) (t : Tok) (h : tok1 (c :: x ++ r) = (t, (c :: x).length, 0)) (hh : r.head? = r'.head?) : tok1 (c :: x ++ r') = (t, (c :: x).length, 0) := by
  have ht : ∀ q : Bs, (c :: (x ++ q)).take (c :: x).length = c :: x := fun q => by rw [← List.cons_append]; exact List.take_left' rfl
  rw [List.cons_append] at h ⊢
  cases h1 : isHd c with
  | true =>
    rw [tok1_hd h1] at h ⊢
    have hn : runL (c :: (x ++ r)) = (c :: x).length := by
      split at h
      · have := congrArg (fun p => p.2.2) h; simp at this
      split at h
      · exact congrArg (fun p => p.2.1) h
      · exact congrArg (fun p => p.2.1) h
    have hn' : runL (c :: (x ++ r')) = (c :: x).length := by
      rw [← List.cons_append] at hn ⊢
      exact runL_swap (by simp) hn hh
    rw [hn, ht] at h
    rw [hn', ht]
    exact h
  | false =>
  cases h2 : isDg c with
  | true =>
    rw [tok1_dg h1 h2] at h ⊢
    have hn : digL (c :: (x ++ r)) = (c :: x).length := by
      split at h
      · exact congrArg (fun p => p.2.1) h
      · rename_i h3; exact absurd (congrArg (fun p => p.2.2) h) h3
    have hn' : digL (c :: (x ++ r')) = (c :: x).length := by
      rw [← List.cons_append] at hn ⊢
      exact digL_swap _ r r' hn hh
    rw [hn, ht] at h
    rw [hn', ht]
    exact h
  | false =>
  cases h3 : (c == 34) with
  | true =>
    have : c = 34 := by simpa using h3
    subst this
    rw [tok1_qt] at h ⊢
    have h4 : (txt (x ++ r) 1 []).2.2 = 0 := by
      split at h
      · assumption
      · rename_i h3; exact absurd (congrArg (fun p => p.2.2) h) h3
    rw [if_pos h4] at h
    obtain ⟨s, r0, e1, e2, e3, e4, e5⟩ := txt_ok (x ++ r) 1 [] h4 (by simp)
    have hn : (txt (x ++ r) 1 []).2.1 = (34 :: x).length := congrArg (fun p => p.2.1) h
    rw [e5] at hn
    have hx : x = esc s ++ [34] := by
      have h5 : x = (esc s ++ 34 :: r0).take x.length := by rw [← e1, List.take_left' rfl]
      rw [h5, show esc s ++ 34 :: r0 = (esc s ++ [34]) ++ r0 by simp]
      refine List.take_left' ?_
      simp only [List.length_append, List.length_cons, List.length_nil] at hn ⊢
      omega
    subst hx
    have h6 := txt_esc s 1 [] r' e4 e3
    have h7 := txt_esc s 1 [] r e4 e3
    rw [List.append_assoc, List.singleton_append] at h ⊢
    rw [h7] at h
    rw [h6, if_pos rfl]
    exact h
  | false =>
  cases h4 : (c == 64) with
  | true =>
    have : c = 64 := by simpa using h4
    subst this
    rw [tok1_at] at h ⊢
    split at h
    · have := congrArg (fun p => p.2.2) h; simp at this
    rename_i h5
    split at h
    · have := congrArg (fun p => p.2.2) h; simp at this
    rename_i h6
    have hn : runL (x ++ r) = x.length := by
      have := congrArg (fun p => p.2.1) h
      simpa using this
    have hx : x ≠ [] := by rintro rfl; exact h5 hn
    have hn' := runL_swap hx hn hh
    rw [hn, List.take_left' rfl] at h
    rw [hn'] 
    rw [hn] at h5 h6
    rw [if_neg h5, if_neg h6, List.take_left' rfl]
    exact h
  | false =>
    rw [tok1_sy h1 h2 h3 h4] at h ⊢
    have ht2 : (c :: (x ++ r)).take 2 = (c :: (x ++ r')).take 2 := by
      cases x with
      | cons d x => rfl
      | nil =>
        cases r with
        | nil => cases r' with
          | nil => rfl
          | cons d r' => simp at hh
        | cons d r => cases r' with
          | nil => simp at hh
          | cons e r' => obtain rfl : d = e := by simpa using hh
                         rfl
    have hl2 : 2 ≤ (c :: (x ++ r)).length ↔ 2 ≤ (c :: (x ++ r')).length := by
      have := congrArg List.length ht2
      simp only [List.length_take] at this
      omega
    simp only [ht2, hl2] at h
    exact h

/-! ### The reading from blanks on -/
def PR (L : Bs) (k : Nat) (ts : List Tok) : Prop := LxR (L.drop (skip L)) (k + skip L) ts
theorem LxR_skip {L : Bs} {k : Nat} : ∀ {ts : List Tok}, LxR L k ts → skip L = 0
  | [], h => by rw [show L = [] from h]; rfl
  | _ :: _, ⟨_, _, h, _⟩ => h
theorem LxR_PR {L : Bs} {k : Nat} {ts : List Tok} (h : LxR L k ts) : PR L k ts := by
  unfold PR; rw [LxR_skip h]; exact h
theorem LxR_move : ∀ (ts : List Tok) (L : Bs) (k k' : Nat), LxR L k ts → ∃ ts', LxR L k' ts' ∧ ts'.length = ts.length ∧ sameB ts ts' false = true
  | [], L, k, k', h => ⟨[], h, rfl, rfl⟩
  | t :: ts, L, k, k', ⟨n, h1, h2, h3, h4, h5, h6, h7⟩ => by
    obtain ⟨ts', g1, g2, g3⟩ := LxR_move ts _ _ (k' + n + skip (L.drop n)) h7
    exact ⟨{ t with at_ := k' } :: ts', ⟨n, h1, h2, h3, h4, h5, rfl, g1⟩, by simp [g2], by simp [sameB, g3]⟩
theorem LxR_ge : ∀ (ts : List Tok) (L : Bs) (k : Nat), LxR L k ts → ∀ (i : Nat) (t : Tok), ts[i]? = some t → (k : Int) ≤ t.at_ ∧ t.at_ < k + L.length
  | [], _, _, _, i, t, h => by simp at h
  | u :: ts, L, k, ⟨n, h1, h2, h3, h4, h5, h6, h7⟩, i, t, h => by
    cases i with
    | zero =>
      obtain rfl : u = t := by simpa using h
      have : L.length ≠ 0 := by simpa using h1
      omega
    | succ i =>
      have := LxR_ge ts _ _ h7 i t (by simpa using h)
      rw [List.length_drop] at this
      omega

/-- Blanks (and comments) that end outside of a comment. -/
structure Blank (B : Bs) : Prop where
  pos : B ≠ []
  sep : ∀ R, sep (B ++ R)
  skip : ∀ R, skip (B ++ R) = B.length + skip R

theorem skip_swap {c : UInt8} {x r r' : Bs} (h : skip (c :: x ++ r) = 0) (hh : r.head? = r'.head?) : skip (c :: x ++ r') = 0 := by
  have h1 : isBl c = false := by
    cases hc : isBl c with
    | false => rfl
    | true => simp [skp, hc] at h
  refine skip0 h1 ?_
  have h2 : (x ++ r').head? = (x ++ r).head? := by cases x with
    | nil => exact hh.symm
    | cons d x => rfl
  show (c == 47 && (x ++ r').head? == some 47) = false
  rw [h2]
  cases hc : (c == 47 && (x ++ r).head? == some 47) with
  | false => rfl
  | true => simp only [skip, List.cons_append, skp, h1, hc, if_true, Bool.false_eq_true, if_false] at h; omega

theorem PR_ins {B : Bs} (hB : Blank B) : ∀ (ts : List Tok) (L : Bs) (k i j : Nat), PR L k ts →
    ((∃ t : Tok, ts[i]? = some t ∧ t.at_ = ((k + j : Nat) : Int)) ∨ (i = ts.length ∧ j = L.length ∧ B.head? = some 10)) →
    ∃ ts', PR (L.take j ++ (B ++ L.drop j)) k ts' ∧ ts'.length = ts.length ∧ sameB ts ts' false = true
  | [], L, k, i, j, h, hi => by
    rcases hi with ⟨t, ht, _⟩ | ⟨_, rfl, hb⟩
    · simp at ht
    have hL : L.drop (skip L) = [] := h
    have h1 := skp_le false L
    have h2 : L.length ≤ skip L := List.drop_eq_nil_iff.1 hL
    obtain ⟨B', rfl⟩ : ∃ B', B = 10 :: B' := by
      cases B with
      | nil => simp at hb
      | cons c B => obtain rfl : c = 10 := by simpa using hb
                    exact ⟨B, rfl⟩
    refine ⟨[], ?_, rfl, rfl⟩
    rw [List.take_length, List.drop_length, List.append_nil]
    show (L ++ 10 :: B').drop (skip (L ++ 10 :: B')) = []
    have h3 := skp_all false L B' (by unfold skip at h2; omega)
    have h4 := hB.skip []
    rw [List.append_nil] at h4
    refine List.drop_eq_nil_of_le ?_
    show _ ≤ skp false (L ++ 10 :: B')
    rw [h3]
    unfold skip at h4
    rw [h4]
    simp
  | t :: ts, L, k, i, j, h, hi => by
    have hLR := h
    obtain ⟨n, h1, h2, h3, h4, h5, h6, h7⟩ := h
    have hlt : skip L < L.length := by
      have : (L.drop (skip L)).length ≠ 0 := fun h => h1 (List.length_eq_zero_iff.1 h)
      rw [List.length_drop] at this; omega
    cases i with
    | zero =>
      obtain ⟨u, hu, huj⟩ : ∃ u : Tok, (t :: ts)[0]? = some u ∧ u.at_ = ((k + j : Nat) : Int) := by
        rcases hi with hi | ⟨hi, _⟩
        · exact hi
        · simp at hi
      obtain rfl : t = u := by simpa using hu
      have hj : j = skip L := by omega
      subst hj
      obtain ⟨ts', g1, g2, g3⟩ := LxR_move _ _ _ (k + (skip L + (B.length + 0))) hLR
      refine ⟨ts', ?_, g2, g3⟩
      have hs : skip (L.take (skip L) ++ (B ++ L.drop (skip L))) = skip L + (B.length + 0) := by
        have := skp_take false L (B ++ L.drop (skip L)) hlt
        have h8 := hB.skip (L.drop (skip L))
        rw [h2] at h8
        unfold skip at *
        rw [this, h8]
      unfold PR
      rw [hs]
      have hd : (L.take (skip L) ++ (B ++ L.drop (skip L))).drop (skip L + (B.length + 0)) = L.drop (skip L) := by
        rw [← List.drop_drop, List.drop_left' (by rw [List.length_take]; omega), Nat.add_zero, List.drop_left' rfl]
      rw [hd]
      exact g1
    | succ i =>
      have hPR : PR ((L.drop (skip L)).drop n) (k + skip L + n) ts := by
        unfold PR; rw [List.drop_drop]; exact h7
      have hbd := LxR_ge ts _ _ h7
      have hge : skip L + n ≤ j ∧ j ≤ L.length := by
        rcases hi with ⟨u, hu, huj⟩ | ⟨_, rfl, _⟩
        · have := hbd i u (by simpa using hu)
          rw [List.length_drop, List.length_drop] at this
          rw [List.length_drop] at h4
          omega
        · rw [List.length_drop] at h4; omega
      obtain ⟨m, hm⟩ : ∃ m, j = skip L + n + m := ⟨j - (skip L + n), by omega⟩
      obtain ⟨ts', g1, g2, g3⟩ := PR_ins hB ts ((L.drop (skip L)).drop n) (k + skip L + n) i m hPR (by
        rcases hi with ⟨u, hu, huj⟩ | ⟨hi, rfl, hb⟩
        · exact .inl ⟨u, by simpa using hu, by rw [huj, hm]; congr 1; omega⟩
        · refine .inr ⟨by simpa using hi, ?_, hb⟩
          rw [List.length_drop, List.length_drop]; omega)
      generalize hM : L.drop (skip L) = M at h1 h2 h4 h5 h7 hPR g1
      generalize hZ : (M.drop n).take m ++ (B ++ (M.drop n).drop m) = Z at g1
      have hall : L.take j ++ (B ++ L.drop j) = L.take (skip L) ++ (M.take n ++ Z) := by
        rw [← hZ, ← hM, hm, show skip L + n + m = skip L + (n + m) by omega, List.take_add, List.take_add, List.drop_drop, List.drop_drop, List.append_assoc, List.append_assoc]
        congr 4
        rw [show skip L + n + m = skip L + (n + m) by omega]
      obtain ⟨c, x, hx⟩ : ∃ c x, M.take n = c :: x := by
        cases hq : M.take n with
        | nil =>
          have := congrArg List.length hq
          rw [List.length_take, List.length_nil] at this
          have hM0 : M.length ≠ 0 := fun h => h1 (List.length_eq_zero_iff.1 h)
          omega
        | cons c x => exact ⟨c, x, rfl⟩
      have hxl : (c :: x).length = n := by rw [← hx, List.length_take]; omega
      have hMx : M = c :: x ++ M.drop n := by rw [← hx, List.take_append_drop]
      have key : tok1 (c :: x ++ Z) = ({ t with at_ := 0 }, n, 0) ∧ skip (c :: x ++ Z) = 0 := by
        by_cases hm0 : m = 0
        · subst hm0
          rw [List.take_zero, List.nil_append] at hZ
          have ht : textT t = (c :: x, 0) := by
            cases M with
            | nil => exact absurd rfl h1
            | cons d M' =>
              have := (tok1_text d M' 0 (by rw [h5])).1
              rw [h5, hx] at this
              exact this
          obtain ⟨_, q1, q2⟩ := text_tok1 t (c :: x) ht Z (by rw [← hZ]; exact hB.sep _)
          rw [hxl] at q1
          exact ⟨q1, q2⟩
        · have hmn : m ≤ (M.drop n).length := by
            rw [← hM, List.length_drop, List.length_drop]; omega
          have hhd : (M.drop n).head? = Z.head? := by
            rw [← hZ]
            cases hD : M.drop n with
            | nil => rw [hD] at hmn; simp at hmn; omega
            | cons d D =>
              obtain ⟨m', rfl⟩ : ∃ m', m = m' + 1 := ⟨m - 1, by omega⟩
              rfl
          have q1 := tok1_swap c x (M.drop n) Z { t with at_ := 0 } (by rw [← hMx, hxl]; exact h5) hhd
          rw [hxl] at q1
          exact ⟨q1, skip_swap (by rw [← hMx]; exact h2) hhd⟩
      have hs : skip (L.take (skip L) ++ (M.take n ++ Z)) = skip L := by
        have := skp_take false L (M.take n ++ Z) hlt
        have h8 := key.2
        rw [← hx] at h8
        unfold skip at *
        rw [this, h8]; rfl
      refine ⟨{ t with at_ := (k + skip L : Nat) } :: ts', ?_, by simp [g2], by simp [sameB, g3]⟩
      rw [hall]
      unfold PR
      rw [hs, List.drop_left' (by rw [List.length_take]; omega), hx]
      have hdn : (c :: x ++ Z).drop n = Z := List.drop_left' hxl
      refine ⟨n, by simp, key.2, h3, by rw [List.length_append, hxl]; omega, key.1, rfl, ?_⟩
      rw [hdn, ← List.drop_drop, hdn]
      exact g1

theorem tokens_ins {s B : Bs} (hB : Blank B) {i j : Nat} (h : (tokens s).2.2 = 0) (hl : s.length + B.length ≤ 4000)
    (hi : (∃ t : Tok, (tokens s).1[i]? = some t ∧ t.at_ = (j : Nat)) ∨ (i = (tokens s).1.length ∧ j = s.length ∧ B.head? = some 10)) :
    ∃ ts', tokens (s.take j ++ (B ++ s.drop j)) = (ts', 0, 0) ∧ sameB (tokens s).1 ts' false = true := by
  have hlen := tokens_len s
  obtain ⟨ts, e1, e2, e3⟩ := tokens_Rd h
  rw [e1] at hi hlen ⊢
  obtain ⟨ts', g1, g2, g3⟩ := PR_ins hB ts s 0 i j (by unfold PR; rw [Nat.zero_add]; exact e3) (by rw [Nat.zero_add]; exact hi)
  unfold PR at g1
  rw [Nat.zero_add] at g1
  refine ⟨ts', Rd_tokens ?_ g1 (by dsimp only at hlen; omega), g3⟩
  have : (s.take j).length + (s.drop j).length = s.length := by rw [← List.length_append, List.take_append_drop]
  simp only [List.length_append]
  omega

theorem blank1 : Blank [32, 10] := ⟨by simp, fun R c h => by simp at h; subst h; rfl, fun R => by
  show skp false (32 :: 10 :: R) = 2 + skp false R
  simp [skp, show isBl 32 = true from rfl, show isBl 10 = true from rfl]; omega⟩
theorem blank2 : Blank [9, 47, 47, 32, 120, 32, 64, 32, 34, 10] := ⟨by simp, fun R c h => by simp at h; subst h; rfl, fun R => by
  show skp false (9 :: 47 :: 47 :: 32 :: 120 :: 32 :: 64 :: 32 :: 34 :: 10 :: R) = 10 + skp false R
  simp [skp, show isBl 9 = true from rfl, show isBl 47 = false from rfl, show isBl 10 = true from rfl]; omega⟩
theorem Blank.nl {B : Bs} (h : Blank B) : Blank (10 :: B) := ⟨by simp, fun R c h => by simp at h; subst h; rfl, fun R => by
  have := h.skip R
  show skp false (10 :: (B ++ R)) = (10 :: B).length + skp false R
  rw [skp_bl (by rfl), List.length_cons]
  have this : skp false (B ++ R) = B.length + skp false R := this
  omega⟩

end Go.Proofs.YtfncipdfibgefaaGreatDoor
/-
  The laws of offsets, joins and blanks as contracts.
-/
namespace Go.Proofs.YtfncipdfibgefaaGreatDoor
open Go.RowKit

theorem textT_ok {t : Tok} (h : (textT t).2 = 0) : t.text.length ≤ 200 ∧ -9223372036854775808 ≤ t.val ∧ t.val ≤ 9223372036854775807 := by
  unfold textT at h
  split at h
  · rename_i h1
    obtain ⟨_, h2, h3, h4⟩ := h1
    unfold validB at h4; simp at h4
    rw [h2]; simp; omega
  split at h
  · simp at h
  rename_i h0
  have h0 : t.val = 0 := by simpa using h0
  refine ⟨?_, by omega, by omega⟩
  split at h
  · rename_i h1
    rcases h1 with ⟨_, h1, _⟩ | ⟨_, h1⟩ | ⟨_, h1⟩
    · have := (whole_elim h1).2.2; omega
    · have := (whole_elim (kwL_whole h1)).2.2; omega
    · have := (show ∀ x ∈ symS, x.length ≤ 2 by decide) _ (symB_mem h1); omega
  split at h
  · rename_i h1; have := (whole_elim h1.2).2.2; omega
  split at h
  · rename_i h1
    have := h1.2
    rw [contB_okB, Bool.and_eq_true, decide_eq_true_eq] at this
    omega
  · simp at h

set_option maxHeartbeats 4000000 in
set_option maxRecDepth 100000 in
theorem x_lawOffsets (l : Bs) (hl : l.length ≤ 281474976710656) : DCalls Tryz.prog 7 [bstr l] (boo true) := by
  have hown := @tokens_own l
  have herr := @tokens_err l
  have hlen := tokens_len l
  have ht := x_tokens l hl
  generalize tokens l = T at *
  obtain ⟨ts, at_, e⟩ := T
  dsimp only [tksV] at hown herr hlen ht
  refine sx Tryz.func7 (by kernel_rfl) ?_
  conv => whnf
  rintro (_ | _) h0
  rotate_left
  · conv => whnf
    refine ⟨_, x_awake, ?_⟩
    conv => whnf
  have h0 : l.length ≤ 5000 := by simp [mk_size] at h0; omega
  conv => whnf
  refine ⟨_, ht, ?_⟩
  conv => whnf
  rintro (_ | _) h1
  rotate_left
  · have h1 : e ≠ 0 := by simpa using h1
    obtain ⟨e1, e2⟩ := herr h1
    subst e1
    conv => whnf
    refine known true rfl ?_
    conv => whnf
    refine known true (by simp) ?_
    conv => whnf
    refine known true (by simp [mk_size]; omega) ?_
    conv => whnf
    refine ⟨_, x_awake, ?_⟩
    conv => whnf
  have h1 : e = 0 := by simpa using h1
  have hown := hown h1
  clear ht herr
  conv => whnf
  refine ⟨[], Nat × Nat, fun ⟨k, z⟩ => [(40, int k), (6, int z)], fun _ => [], fun ⟨k, z⟩ => k ≤ ts.length ∧ z ≤ l.length ∧ own l z (ts.drop k), fun x => ts.length - x.1, (0, 0), ⟨Nat.zero_le _, Nat.zero_le _, hown⟩, ?_, ?_⟩
  · refine ⟨rfl, ?_, ?_⟩ <;> repeat' (first | exact trivial | exact rfl | refine and_rfl ?_ | refine and_two ?_ ?_)
  rintro ⟨k, z⟩ ⟨hk1, hz, hk⟩
  conv => whnf
  rintro (_ | _) h2
  · conv => whnf
    refine ⟨_, x_awake, ?_⟩
    conv => whnf
  have h2 : k < ts.length := by simp at h2; omega
  rw [List.drop_eq_getElem_cons h2] at hk
  have hg := get_map tokD h2
  generalize ts[k] = t at hk hg
  obtain ⟨a, ha, hx, hb, hc, hd, he⟩ := hk
  obtain ⟨o1, o2⟩ := textT_ok hx
  have hxo := x_textOf t (by omega) o2
  rw [show textT t = ((textT t).1, 0) from Prod.ext rfl hx] at hxo
  generalize (textT t).1 = x at *
  obtain ⟨K, tx, v, at'⟩ := t
  dsimp only at ha o1 o2
  subst ha
  have hw : IntKind.i64.wrap ((a : Int) + (((mk x).size : Nat) : Int)) = ((a + x.length : Nat) : Int) := by rw [mk_size, IntWalk.i64_in _ (by omega)]; omega
  conv => whnf
  refine ⟨by omega, _, hg, ?_⟩
  conv => whnf
  refine ⟨_, hxo, ?_⟩
  conv => whnf
  refine ⟨none, by kernel_rfl, ?_⟩
  conv => whnf
  refine known false rfl ?_
  conv => whnf
  refine ⟨by omega, _, hg, ?_⟩
  conv => whnf
  refine known false (by simp; omega) ?_
  conv => whnf
  refine ⟨by omega, _, hg, ?_⟩
  conv => whnf
  refine known false (by rw [hw]; simp [mk_size]; omega) ?_
  conv => whnf
  refine ⟨by omega, _, hg, ?_⟩
  conv => whnf
  refine ⟨by omega, _, hg, ?_⟩
  conv => whnf
  rw [hw]
  refine ⟨by dsimp only; omega, by dsimp only; omega, by rw [mk_size]; omega, ?_⟩
  rw [mk_mid, hd]
  conv => whnf
  refine known false (by simp) ?_
  conv => whnf
  refine ⟨by omega, _, hg, ?_⟩
  conv => whnf
  refine ⟨(k + 1, a + x.length), ⟨h2, by omega, he⟩, by dsimp only; omega, ?_⟩
  refine ⟨rfl, ?_, ?_⟩ <;> repeat' (first | exact trivial | exact rfl | refine and_rfl ?_ | refine and_val (wrap_succ (by omega)) ?_ | refine and_val hw ?_ | refine and_two ?_ ?_)

theorem join_len {l : List Tok} {s : Bs} (h : joinT l = (s, 0)) : s.length ≤ 4000 := by
  unfold joinT at h
  split at h
  · cases h
  split at h
  · rename_i h2; exact absurd (congrArg Prod.snd h) h2
  split at h
  · cases h
  · rename_i h3
    have := congrArg Prod.fst h
    dsimp only at this
    rw [← this]; omega

set_option maxHeartbeats 4000000 in
set_option maxRecDepth 100000 in
theorem x_lawJoins (l : List Tok) (hl : l.length ≤ 8796093022207) (hvs : ∀ s ∈ l, -9223372036854775808 ≤ s.val ∧ s.val ≤ 9223372036854775807) :
    DCalls Tryz.prog 6 [toks l] (boo true) := by
  refine sx Tryz.func6 (by kernel_rfl) ?_
  conv => whnf
  refine ⟨_, x_small l hl, ?_⟩
  conv => whnf
  rintro (_ | _) h0
  rotate_left
  · conv => whnf
    refine ⟨_, x_awake, ?_⟩
    conv => whnf
  have h0 : smallB l = true := by simpa using h0
  have hok : tokOk l := fun s hs => by
    unfold smallB at h0
    simp only [Bool.and_eq_true, List.all_eq_true, decide_eq_true_eq] at h0
    exact ⟨by have := h0.2 s hs; omega, hvs s hs⟩
  have hj := x_join l hok hl
  have hback := @join_back l
  have hjl := @join_len l
  generalize joinT l = J at *
  obtain ⟨s, e⟩ := J
  dsimp only [teV] at hj
  conv => whnf
  refine ⟨_, hj, ?_⟩
  conv => whnf
  rintro (_ | _) h1
  rotate_left
  · conv => whnf
    refine ⟨_, x_awake, ?_⟩
    conv => whnf
  obtain rfl : e = 0 := by simpa using h1
  obtain ⟨b1, b2, b3⟩ := hback rfl
  have hsl := hjl rfl
  have ht := x_tokens s (by omega)
  rw [b1] at ht
  dsimp only [tksV] at ht
  have hs := x_same l (placed 0 l) false hl
  rw [placed_same] at hs
  have hpl := placed_len 0 l
  have hI : ∃ rest, (placed 0 l).drop 0 = placed 0 rest ∧ (texts rest).2 = 0 := ⟨l, rfl, b2⟩
  generalize placed 0 l = ms at *
  conv => whnf
  refine ⟨_, ht, ?_⟩
  conv => whnf
  refine known false rfl ?_
  conv => whnf
  refine ⟨_, hs, ?_⟩
  conv => whnf
  refine known false rfl ?_
  conv => whnf
  refine ⟨[], Nat × Nat, fun ⟨k, z⟩ => [(39, int k), (7, int z)], fun _ => [], fun ⟨k, z⟩ => k ≤ ms.length ∧ z ≤ 1000 * k ∧ ∃ rest, ms.drop k = placed z rest ∧ (texts rest).2 = 0, fun x => ms.length - x.1, (0, 0), ⟨Nat.zero_le _, Nat.zero_le _, hI⟩, ?_, ?_⟩
  · refine ⟨rfl, ?_, ?_⟩ <;> repeat' (first | exact trivial | exact rfl | refine and_rfl ?_ | refine and_two ?_ ?_)
  rintro ⟨k, z⟩ ⟨hk1, hz, rest, hk, hr⟩
  conv => whnf
  rintro (_ | _) h2
  · conv => whnf
    refine ⟨_, x_awake, ?_⟩
    conv => whnf
  have h2 : k < ms.length := by simp at h2; omega
  rw [List.drop_eq_getElem_cons h2] at hk
  have hg := get_map tokD h2
  generalize ms[k] = t at hk hg
  cases rest with
  | nil => cases hk
  | cons u rest =>
  obtain ⟨q1, q2, _⟩ := texts_ok hr
  rw [placed] at hk
  injection hk with hk hk'
  rw [← textT_at u z, ← hk] at q1
  rw [← textT_at u z, ← hk] at hk'
  have ha : t.at_ = z := by rw [hk]
  clear hk
  obtain ⟨o1, o2⟩ := textT_ok q1
  have hxl := textT_len t
  have hxo := x_textOf t (by omega) o2
  rw [show textT t = ((textT t).1, 0) from Prod.ext rfl q1] at hxo
  generalize (textT t).1 = x at *
  obtain ⟨K, tx, v, at'⟩ := t
  dsimp only at ha o1 o2 hxl
  subst ha
  have hw : IntKind.i64.wrap ((z : Int) + (((mk x).size : Nat) : Int)) = ((z + x.length : Nat) : Int) := by rw [mk_size, IntWalk.i64_in _ (by omega)]; omega
  conv => whnf
  refine ⟨by omega, _, hg, ?_⟩
  conv => whnf
  refine ⟨_, hxo, ?_⟩
  conv => whnf
  refine known false rfl ?_
  conv => whnf
  refine ⟨by omega, _, hg, ?_⟩
  conv => whnf
  refine known false (by simp) ?_
  conv => whnf
  refine ⟨(k + 1, z + x.length + 1), ⟨h2, by omega, rest, hk', q2⟩, by dsimp only; omega, ?_⟩
  refine ⟨rfl, ?_, ?_⟩ <;> repeat' (first | exact trivial | exact rfl | refine and_rfl ?_ | refine and_val (wrap_succ (by omega)) ?_ | refine and_val (by rw [hw, wrap_succ (by omega)]) ?_ | refine and_two ?_ ?_)

set_option maxHeartbeats 4000000 in
set_option maxRecDepth 100000 in
theorem x_lawBlanks (l : Bs) (n : Int) (tab : Bool) (hl : l.length ≤ 281474976710656) : DCalls Tryz.prog 8 [bstr l, int n, boo tab] (boo true) := by
  have hown := @tokens_own l
  have hlen := tokens_len l
  have ht := x_tokens l hl
  have hins := fun (B : Bs) (hB : Blank B) (i j : Nat) => @tokens_ins l B hB i j
  generalize tokens l = T at *
  obtain ⟨ts, at_, e⟩ := T
  dsimp only [tksV] at hown hlen ht hins
  refine sx Tryz.func8 (by kernel_rfl) ?_
  conv => whnf
  rintro (_ | _) h0
  rotate_left
  · conv => whnf
    refine ⟨_, x_awake, ?_⟩
    conv => whnf
  have h0 : l.length ≤ 3900 := by simp [mk_size] at h0; omega
  conv => whnf
  refine ⟨_, ht, ?_⟩
  conv => whnf
  rintro (_ | _) h1
  rotate_left
  · repeat ((conv => whnf); first | refine known true rfl ?_ | refine ⟨_, x_awake, ?_⟩)
    conv => whnf
  obtain rfl : e = 0 := by simpa using h1
  conv => whnf
  rintro (_ | _) h2
  rotate_left
  · repeat ((conv => whnf); first | refine known true rfl ?_ | refine ⟨_, x_awake, ?_⟩)
    conv => whnf
  have h2 : 0 ≤ n := by simpa using h2
  conv => whnf
  rintro (_ | _) h3
  rotate_left
  · conv => whnf
    refine ⟨_, x_awake, ?_⟩
    conv => whnf
  have h3 : n ≤ ts.length := by simpa using h3
  obtain ⟨i, rfl⟩ : ∃ i : Nat, n = i := ⟨n.toNat, by omega⟩
  have hfin : ∀ (B : Bs), Blank B → B.length ≤ 20 → ∀ (j : Nat), ((∃ t, ts[i]? = some t ∧ t.at_ = (j : Nat)) ∨ (i = ts.length ∧ j = l.length ∧ B.head? = some 10)) →
      ∃ ts', DCalls Tryz.prog 10 [bstr (l.take j ++ (B ++ l.drop j))] (.tu [toks ts', int 0, int 0]) ∧ DCalls Tryz.prog 12 [toks ts, toks ts', boo false] (boo true) := by
    intro B hB hBl j hj
    obtain ⟨ts', g1, g2⟩ := hins B hB i j rfl (by omega) hj
    refine ⟨ts', ?_, ?_⟩
    · have := x_tokens (l.take j ++ (B ++ l.drop j)) (by
        have : (l.take j).length + (l.drop j).length = l.length := by rw [← List.length_append, List.take_append_drop]
        simp only [List.length_append]
        omega)
      rw [g1] at this
      exact this
    · have := x_same ts ts' false (by omega)
      rw [g2] at this
      exact this
  clear hins ht
  by_cases hi : i < ts.length
  · have hg := get_map tokD hi
    have hat : ∃ j : Nat, ts[i].at_ = j ∧ j ≤ l.length := by
      have : ∀ (us : List Tok) (z i : Nat) (h : i < us.length), own l z us → ∃ j : Nat, us[i].at_ = j ∧ j ≤ l.length := by
        intro us
        induction us with
        | nil => intro z i h _; simp at h
        | cons u us ih =>
          rintro z i h ⟨j, q1, q2, q3, q4, q5, q6⟩
          cases i with
          | zero => exact ⟨j, q1, by omega⟩
          | succ i => exact ih _ i _ q6
      exact this ts 0 i hi (hown rfl)
    obtain ⟨j, hj, hjl⟩ := hat
    have hti : ts[i]? = some ts[i] := List.getElem?_eq_getElem hi
    generalize ts[i] = t at *
    obtain ⟨K, tx, v, at'⟩ := t
    dsimp only at hj
    subst hj
    conv => whnf
    refine known true (by simp; omega) ?_
    conv => whnf
    refine ⟨by omega, _, hg, ?_⟩
    cases tab with
    | false =>
      obtain ⟨ts', g1, g2⟩ := hfin [32, 10] blank1 (by decide) j (.inl ⟨_, hti, rfl⟩)
      conv => whnf
      refine known false rfl ?_
      conv => whnf
      refine known false (by simp; omega) ?_
      conv => whnf
      refine ⟨none, by kernel_rfl, ?_⟩
      conv => whnf
      refine ⟨by omega, by dsimp only; omega, by dsimp only; rw [mk_size]; omega, ?_⟩
      rw [mk_toI]
      conv => whnf
      refine ⟨by rw [mk_size, show (⟨#[32, 10]⟩ : ByteArray).size = 2 from rfl]; simp; omega, ?_⟩
      conv => whnf
      refine ⟨by dsimp only; omega, by dsimp only; rw [mk_size]; omega, by omega, ?_⟩
      rw [mk_fromI, show mk (l.take j) ++ (⟨#[32, 10]⟩ : ByteArray) = mk (l.take j ++ [32, 10]) from mk_app _ [32, 10]]
      conv => whnf
      refine ⟨by rw [mk_size, mk_size]; simp; omega, ?_⟩
      rw [mk_app, List.append_assoc]
      conv => whnf
      refine ⟨_, g1, ?_⟩
      conv => whnf
      refine known true rfl ?_
      repeat ((conv => whnf); first | refine known true rfl ?_ | refine ⟨_, g2, ?_⟩ | refine ⟨_, x_awake, ?_⟩)
      conv => whnf
    | true =>
      obtain ⟨ts', g1, g2⟩ := hfin [9, 47, 47, 32, 120, 32, 64, 32, 34, 10] blank2 (by decide) j (.inl ⟨_, hti, rfl⟩)
      conv => whnf
      refine known true rfl ?_
      conv => whnf
      refine known false (by simp; omega) ?_
      conv => whnf
      refine ⟨none, by kernel_rfl, ?_⟩
      conv => whnf
      refine ⟨by omega, by dsimp only; omega, by dsimp only; rw [mk_size]; omega, ?_⟩
      rw [mk_toI]
      conv => whnf
      refine ⟨by rw [mk_size, show (⟨#[9, 47, 47, 32, 120, 32, 64, 32, 34, 10]⟩ : ByteArray).size = 10 from rfl]; simp; omega, ?_⟩
      conv => whnf
      refine ⟨by dsimp only; omega, by dsimp only; rw [mk_size]; omega, by omega, ?_⟩
      rw [mk_fromI, show mk (l.take j) ++ (⟨#[9, 47, 47, 32, 120, 32, 64, 32, 34, 10]⟩ : ByteArray) = mk (l.take j ++ [9, 47, 47, 32, 120, 32, 64, 32, 34, 10]) from mk_app _ [9, 47, 47, 32, 120, 32, 64, 32, 34, 10]]
      conv => whnf
      refine ⟨by rw [mk_size, mk_size]; simp; omega, ?_⟩
      rw [mk_app, List.append_assoc]
      conv => whnf
      refine ⟨_, g1, ?_⟩
      conv => whnf
      refine known true rfl ?_
      repeat ((conv => whnf); first | refine known true rfl ?_ | refine ⟨_, g2, ?_⟩ | refine ⟨_, x_awake, ?_⟩)
      conv => whnf
  · have hi : i = ts.length := by omega
    conv => whnf
    refine known false (by simp; omega) ?_
    cases tab with
    | false =>
      obtain ⟨ts', g1, g2⟩ := hfin (10 :: [32, 10]) blank1.nl (by decide) l.length (.inr ⟨hi, rfl, rfl⟩)
      rw [List.take_length, List.drop_length] at g1
      conv => whnf
      refine known false rfl ?_
      conv => whnf
      refine known true (by simp; omega) ?_
      conv => whnf
      refine ⟨by decide, ?_⟩
      conv => whnf
      refine ⟨none, by kernel_rfl, ?_⟩
      conv => whnf
      refine ⟨by omega, by omega, by omega, ?_⟩
      rw [mk_toI, mk_size, List.take_length, show (⟨#[10]⟩ : ByteArray) ++ (⟨#[32, 10]⟩ : ByteArray) = mk [10, 32, 10] from mk_app [10] [32, 10]]
      conv => whnf
      refine ⟨by rw [mk_size, mk_size]; simp; omega, ?_⟩
      conv => whnf
      refine ⟨by omega, by rw [mk_size]; omega, by omega, ?_⟩
      rw [mk_fromI, List.drop_length, mk_app]
      conv => whnf
      refine ⟨by rw [mk_size, mk_size]; simp; omega, ?_⟩
      rw [mk_app, List.append_assoc]
      conv => whnf
      refine ⟨_, g1, ?_⟩
      conv => whnf
      refine known true rfl ?_
      repeat ((conv => whnf); first | refine known true rfl ?_ | refine ⟨_, g2, ?_⟩ | refine ⟨_, x_awake, ?_⟩)
      conv => whnf
    | true =>
      obtain ⟨ts', g1, g2⟩ := hfin (10 :: [9, 47, 47, 32, 120, 32, 64, 32, 34, 10]) blank2.nl (by decide) l.length (.inr ⟨hi, rfl, rfl⟩)
      rw [List.take_length, List.drop_length] at g1
      conv => whnf
      refine known true rfl ?_
      conv => whnf
      refine known true (by simp; omega) ?_
      conv => whnf
      refine ⟨by decide, ?_⟩
      conv => whnf
      refine ⟨none, by kernel_rfl, ?_⟩
      conv => whnf
      refine ⟨by omega, by omega, by omega, ?_⟩
      rw [mk_toI, mk_size, List.take_length, show (⟨#[10]⟩ : ByteArray) ++ (⟨#[9, 47, 47, 32, 120, 32, 64, 32, 34, 10]⟩ : ByteArray) = mk [10, 9, 47, 47, 32, 120, 32, 64, 32, 34, 10] from mk_app [10] [9, 47, 47, 32, 120, 32, 64, 32, 34, 10]]
      conv => whnf
      refine ⟨by rw [mk_size, mk_size]; simp; omega, ?_⟩
      conv => whnf
      refine ⟨by omega, by rw [mk_size]; omega, by omega, ?_⟩
      rw [mk_fromI, List.drop_length, mk_app]
      conv => whnf
      refine ⟨by rw [mk_size, mk_size]; simp; omega, ?_⟩
      rw [mk_app, List.append_assoc]
      conv => whnf
      refine ⟨_, g1, ?_⟩
      conv => whnf
      refine known true rfl ?_
      repeat ((conv => whnf); first | refine known true rfl ?_ | refine ⟨_, g2, ?_⟩ | refine ⟨_, x_awake, ?_⟩)
      conv => whnf

end Go.Proofs.YtfncipdfibgefaaGreatDoor
/-
  The laws of package lex, over arguments that were read.
-/
namespace Go.Proofs.YtfncipdfibgefaaGreatDoor
open Go.RowKit

theorem wf_i64 {z : Int} (h : (Lit.int .i64 z).wf = true) : -9223372036854775808 ≤ z ∧ z ≤ 9223372036854775807 := by
  simpa [Lit.wf, IntKind.min, IntKind.max, IntKind.signed, IntKind.bits] using h

theorem map_of {α : Type} {f : α → List D} {p : α → Prop} : ∀ {xs : List (List D)}, (∀ x ∈ xs, ∃ a, x = f a ∧ p a) → ∃ l : List α, xs = l.map f ∧ ∀ a ∈ l, p a
  | [], _ => ⟨[], rfl, by simp⟩
  | x :: xs, h => by
    obtain ⟨a, rfl, ha⟩ := h x (by simp)
    obtain ⟨l, rfl, hl⟩ := map_of (xs := xs) fun y hy => h y (by simp [hy])
    exact ⟨a :: l, rfl, by simpa using ⟨ha, hl⟩⟩

theorem read_tok {n : Nat} {ds : List D} (h : DOk TT (n + 2) 31 ds) : ∃ t : Tok, ds = tokD t ∧ -9223372036854775808 ≤ t.val ∧ t.val ≤ 9223372036854775807 := by
  obtain ⟨_, _, rfl, ⟨k, rfl, _⟩, _, _, rfl, ⟨s, rfl, _⟩, _, _, rfl, ⟨v, rfl, hv⟩, _, _, rfl, ⟨a, rfl, _⟩, rfl⟩ := h
  exact ⟨⟨k, s.data.toList, v, a⟩, rfl, wf_i64 hv⟩

theorem read_toks {n : Nat} {ds : List D} (h : DOk TT (n + 3) 23 ds) : ∃ l : List Tok, ds = [.sl 4 (l.map tokD)] ∧ l.length ≤ 8796093022207 ∧ ∀ t ∈ l, -9223372036854775808 ≤ t.val ∧ t.val ≤ 9223372036854775807 := by
  obtain ⟨xs, rfl, h1, _, h2⟩ := h
  obtain ⟨l, rfl, hok⟩ := map_of (f := tokD) (p := fun t => -9223372036854775808 ≤ t.val ∧ t.val ≤ 9223372036854775807) fun x hx => read_tok (h2 x hx)
  refine ⟨l, rfl, ?_, hok⟩
  have : l.length * 40 ≤ 140737488351232 := by rw [List.length_map] at h1; exact h1
  omega

theorem d_tokens (ds0 : List D) (h0 : DOk TT 6 9 ds0) : DCalls Tryz.prog 3 [vOf TT 9 ds0] (boo true) := by
  obtain ⟨l, h, hl⟩ := read_bs h0
  rw [h]
  exact x_lawTokens l (by omega)

theorem d_offsets (ds0 : List D) (h0 : DOk TT 6 9 ds0) : DCalls Tryz.prog 7 [vOf TT 9 ds0] (boo true) := by
  obtain ⟨l, h, hl⟩ := read_bs h0
  rw [h]
  exact x_lawOffsets l (by omega)

theorem d_blanks (ds0 ds1 ds2 : List D) (h0 : DOk TT 6 9 ds0) (h1 : DOk TT 6 3 ds1) (h2 : DOk TT 6 4 ds2) : DCalls Tryz.prog 8 [vOf TT 9 ds0, vOf TT 3 ds1, vOf TT 4 ds2] (boo true) := by
  obtain ⟨l, h, hl⟩ := read_bs h0
  obtain ⟨k, rfl, _⟩ := h1
  obtain ⟨b, rfl⟩ := h2
  rw [h]
  exact x_lawBlanks l k b (by omega)

theorem d_joins (ds0 : List D) (h0 : DOk TT 6 23 ds0) : DCalls Tryz.prog 6 [vOf TT 23 ds0] (boo true) := by
  obtain ⟨l, rfl, hl, hok⟩ := read_toks h0
  exact x_lawJoins l hl hok

theorem d_texts (ds0 ds1 : List D) (h0 : DOk TT 6 31 ds0) (h1 : DOk TT 6 23 ds1) : DCalls Tryz.prog 4 [vOf TT 31 ds0, vOf TT 23 ds1] (boo true) := by
  obtain ⟨t, rfl, hv⟩ := read_tok h0
  obtain ⟨l, rfl, hl, hok⟩ := read_toks h1
  exact x_lawTexts t l hl hv hok

end Go.Proofs.YtfncipdfibgefaaGreatDoor
/-
  The variables that the program's text lays: what the entered world holds; a world that holds it.
-/
namespace Go.Proofs.YtfncipdfibgefaaGreatDoor
open Go.RowKit Go.ChangeShapes

abbrev laidVars : List (String × DataW Unit) := [("math/bits.deBruijn32tab", Rows.laid_math_bits_deBruijn32tab), ("math/bits.deBruijn64tab", Rows.laid_math_bits_deBruijn64tab), ("internal/strconv.uint64pow10", Rows.laid_internal_strconv_uint64pow10), ("strconv.ErrRange", Rows.laid_strconv_ErrRange), ("strconv.ErrSyntax", Rows.laid_strconv_ErrSyntax)]

theorem star_err : "*" ++ "errors.errorString" = "*errors.errorString" := by decide
theorem row_err (u : TypeId) (h : Tryz.prog.typeName? 3 u = some "*errors.errorString") : u = 170 :=
  typeName_ptr_named (nm := "errors.errorString") (by rw [star_err]; kernel_rfl) (by kernel_rfl) (by decide) u (by rw [star_err]; exact h)
theorem g2_named : Program.globalNamed Tryz.prog "strconv.ErrRange" = some 2 := by kernel_rfl

theorem pow10Tab_data : (Rows.laid_internal_strconv_uint64pow10 : DataW Unit) = Lib.tabData .u64 Lib.pow10Tab := by
  unfold Rows.laid_internal_strconv_uint64pow10 Lib.tabData Lib.pow10Tab
  simp [List.range, List.range.loop]

theorem ginv_of_laid {W : World} (h : laidMet Tryz.prog laidVars W) : ginv W := by
  have h3 := h.tail.tail
  have h4 := h3.tail
  obtain ⟨a, s, hv, hc, _⟩ := laid_sentinel h4 g2_named (ti := 90) (by kernel_rfl) Tryz.underlying90 row_err Tryz.underlying170 Tryz.underlying172 rfl rfl Tryz.underlying9 (by kernel_rfl) (by kernel_rfl)
  refine ⟨⟨_, by simpa using World.var?_cell g2_named hv 0, .inr ⟨_, _, rfl⟩⟩, ?_⟩
  rw [pow10Tab_data] at h3
  exact Lib.tabIs_of_head (t := 156) (e := 131) (n := 20) g3_named (by kernel_rfl) (by kernel_rfl) (by kernel_rfl) (by kernel_rfl) (by kernel_rfl) h3

abbrev rangeS : ByteArray := { data := #[118, 97, 108, 117, 101, 32, 111, 117, 116, 32, 111, 102, 32, 114, 97, 110, 103, 101] }
abbrev syntaxS : ByteArray := { data := #[105, 110, 118, 97, 108, 105, 100, 32, 115, 121, 110, 116, 97, 120] }
noncomputable def low0 : Nat := (World.holding Tryz.prog default ⟨#[], #[], []⟩).heap.size
/-- The cells of a variable, laid. -/
def lay (cs : Array Value) : Obj → Obj
  | .cells _ t frozen => .cells cs t frozen
  | o => o
noncomputable def laidWorld (os : Os) : World :=
  let w0 := World.holding Tryz.prog os ⟨#[.cells #[.string rangeS] 172, .cells #[.string syntaxS] 172], #[], []⟩
  { w0 with heap := ((((w0.heap.modify 1 (lay #[.iface 170 (.pointer (some ⟨low0 + 1, 0, none⟩))])).modify 2 (lay #[.iface 170 (.pointer (some ⟨low0, 0, none⟩))])).modify 3 (lay #[.int .u64 1, .int .u64 10, .int .u64 100, .int .u64 1000, .int .u64 10000, .int .u64 100000, .int .u64 1000000, .int .u64 10000000, .int .u64 100000000, .int .u64 1000000000, .int .u64 10000000000, .int .u64 100000000000, .int .u64 1000000000000, .int .u64 10000000000000, .int .u64 100000000000000, .int .u64 1000000000000000, .int .u64 10000000000000000, .int .u64 100000000000000000, .int .u64 1000000000000000000, .int .u64 10000000000000000000])).modify 4 (lay #[.int .u8 0, .int .u8 1, .int .u8 28, .int .u8 2, .int .u8 29, .int .u8 14, .int .u8 24, .int .u8 3, .int .u8 30, .int .u8 22, .int .u8 20, .int .u8 15, .int .u8 25, .int .u8 17, .int .u8 4, .int .u8 8, .int .u8 31, .int .u8 27, .int .u8 13, .int .u8 23, .int .u8 21, .int .u8 19, .int .u8 16, .int .u8 7, .int .u8 26, .int .u8 12, .int .u8 18, .int .u8 6, .int .u8 11, .int .u8 5, .int .u8 10, .int .u8 9])).modify 5 (lay #[.int .u8 0, .int .u8 1, .int .u8 56, .int .u8 2, .int .u8 57, .int .u8 49, .int .u8 28, .int .u8 3, .int .u8 61, .int .u8 58, .int .u8 42, .int .u8 50, .int .u8 38, .int .u8 29, .int .u8 17, .int .u8 4, .int .u8 62, .int .u8 47, .int .u8 59, .int .u8 36, .int .u8 45, .int .u8 43, .int .u8 51, .int .u8 22, .int .u8 53, .int .u8 39, .int .u8 33, .int .u8 30, .int .u8 24, .int .u8 18, .int .u8 12, .int .u8 5, .int .u8 63, .int .u8 55, .int .u8 48, .int .u8 27, .int .u8 60, .int .u8 41, .int .u8 37, .int .u8 16, .int .u8 46, .int .u8 35, .int .u8 44, .int .u8 21, .int .u8 52, .int .u8 32, .int .u8 23, .int .u8 11, .int .u8 54, .int .u8 26, .int .u8 40, .int .u8 15, .int .u8 34, .int .u8 20, .int .u8 31, .int .u8 10, .int .u8 25, .int .u8 14, .int .u8 19, .int .u8 9, .int .u8 13, .int .u8 8, .int .u8 7, .int .u8 6]) }
set_option maxRecDepth 100000 in
theorem laidWorld_met (os : Os) (args : Array Value) : laidMet Tryz.prog laidVars ((laidWorld os).forCall (fun _ _ => 0) ⟨#[], args, []⟩).memory :=
  laidMet_of_run' 8 (by kernel_rfl) (by kernel_rfl)

end Go.Proofs.YtfncipdfibgefaaGreatDoor
