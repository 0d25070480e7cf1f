/- Texts joined by pack.py: XLx23 XLx24 XLx24b XLx25 XSxR XLxM XLx27 -/
import Derived.Test.YtfncipdfibgefaaGreatDoorLp21
import Derived.Test.YtfncipdfibgefaaGreatDoorLp22
import Derived.Test.YtfncipdfibgefaaGreatDoorLp23
import Derived.Test.YtfncipdfibgefaaGreatDoorLp20
import Derived.Test.YtfncipdfibgefaaGreatDoorLp13
import Derived.ChangeArms
import Derived.SizedLaws
import Derived.DataReads
import Derived.WideShapes
/-
  Contracts of lex: the text of a string token.
-/
namespace Go.Proofs.YtfncipdfibgefaaGreatDoor
open Go.RowKit

theorem xt_str (l : Bs) (v a : Int) (hl : l.length ≤ 1000000) : DCalls Tryz.prog 14 [(⟨4, l, v, a⟩ : Tok).V] (teV (textT ⟨4, l, v, a⟩)) := by
  cases h1 : !(mk l).toList == (⟨#[]⟩ : ByteArray).toList with
  | false => exact xt_str_a l v a hl h1
  | true =>
    cases h2 : (runL l : Int) == ((mk l).size : Int) with
    | false => exact xt_str_b l v a hl h1 h2
    | true => exact xt_str_c l v a hl h1 h2

theorem x_textOf (t : Tok) (hl : t.text.length ≤ 1000000) (hv : -9223372036854775808 ≤ t.val ∧ t.val ≤ 9223372036854775807) : DCalls Tryz.prog 14 [t.V] (teV (textT t)) := by
  obtain ⟨K, l, v, a⟩ := t
  by_cases h1 : K = 1
  · subst h1; exact xt_name l v a hl hv
  by_cases h2 : K = 2
  · subst h2; exact xt_word l v a hl hv
  by_cases h3 : K = 3
  · subst h3; exact xt_int l v a hl hv
  by_cases h4 : K = 4
  · subst h4; exact xt_str l v a hl
  by_cases h5 : K = 5
  · subst h5; exact xt_sym l v a hl hv
  by_cases h6 : K = 6
  · subst h6; exact xt_host l v a hl hv
  exact xt_no K l v a hl hv ⟨h1, h2, h3, h4, h5, h6⟩

end Go.Proofs.YtfncipdfibgefaaGreatDoor
/-
  strings.Join, and plain facts of texts.
-/
namespace Go.Proofs.YtfncipdfibgefaaGreatDoor
open Go.RowKit

def strD (b : Bs) : List D := [.cv (.string (mk b))]
abbrev strsV (l : List Bs) : V := .sl true 1 (l.map strD)

theorem str_get {l : List Bs} {i j : Nat} {d : D} (h : ((l.map strD)[i]?.bind fun x => x[j]?) = some d) : j = 0 ∧ ∃ b, l[i]? = some b ∧ d = .cv (.string (mk b)) := by
  rw [List.getElem?_map] at h
  cases hi : l[i]? with
  | none => rw [hi] at h; cases h
  | some b =>
    rw [hi] at h
    cases j with
    | zero => simp [strD] at h; exact ⟨rfl, b, rfl, h.symm⟩
    | succ j => simp [strD] at h

theorem join_lib : ∀ xs : List Bs, Lib.join xs [32] = joinSp xs
  | [] => rfl
  | [a] => by simp [Lib.join, joinSp]
  | a :: b :: l => by
    have := join_lib (b :: l)
    unfold Lib.join at this ⊢
    rw [joinSp, ← this]
    simp [List.intercalate, List.intersperse]

theorem x_sjoin (xs : List Bs) (hn : xs.length ≤ 140737488355328) (hl : (joinSp xs).length ≤ 140737488355328) : DCalls Tryz.prog 36 [strsV xs, bstr [32]] (bstr (joinSp xs)) := by
  refine ⟨⟨_, Tryz.func36, by kernel_rfl, by kernel_rfl⟩, fun w vs hi hvs => ?_⟩
  obtain ⟨v0, v1, rfl⟩ : ∃ v0 v1, vs = [v0, v1] := by
    have := hvs.1
    match vs, this with
    | [a, b], _ => exact ⟨a, b, rfl⟩
  have r0 := hvs.2 0 _ rfl
  have r1 := hvs.2 1 _ rfl
  simp only [List.getD_eq_getElem?_getD, List.getElem?_cons_zero, List.getElem?_cons_succ, Option.getD_some] at r0 r1
  cases r1
  cases r0
  rename_i hr
  generalize hxs : xs.map strD = ys at hr
  cases hr with
  | nil _ A cap =>
    have : xs = [] := by simpa using hxs
    subst this
    refine (Any.strings_Join_none Tryz.lays156 Tryz.Builder_Extra_156 A cap (mk [32]) w).mono ?_
    rintro e w' ⟨rfl, rfl⟩
    exact ⟨_, rfl, .cv _, Below.refl _ _⟩
  | sl _ _ b o' cap u hS hx hcap hc hd =>
    subst hxs
    rw [List.length_map] at hcap ⊢
    have hmm : (xs.map mk).map (·.data.toList) = xs := by rw [List.map_map]; exact List.map_id' xs
    have h := Tryz.strings_Join b o' cap (xs.map mk) (mk [32]) w (fun j x hj => by
      rw [List.getElem?_map, Option.map_eq_some_iff] at hj
      obtain ⟨y, hy, rfl⟩ := hj
      have h0 : (((xs.map strD)[j]?).bind fun x => x[0]?) = some (.cv (.string (mk y))) := by rw [List.getElem?_map, hy]; rfl
      have h3 := hc j 0 _ h0
      have h4 := hd j 0 _ h0
      generalize u j 0 = z at h3 h4
      cases h4
      rw [show o' + j = o' + j * 1 + 0 by omega]; exact h3) hS (by rw [List.length_map]; exact hn) (by rw [List.length_map]; exact hcap) (by rw [hmm, show (mk [32]).data.toList = [32] from rfl, join_lib]; exact hl)
    rw [hmm, show (mk [32]).data.toList = [32] from rfl, join_lib, List.length_map] at h
    refine h.mono ?_
    rintro e w' ⟨rfl, hb⟩
    exact ⟨_, rfl, .cv _, hb⟩

theorem itoa_len (n : Int) (h : validB n = true) (h0 : 0 ≤ n) : (Lib.itoa n).length ≤ 13 := by
  obtain ⟨k, rfl⟩ : ∃ k : Nat, n = k := ⟨n.toNat, by omega⟩
  rw [Lib.itoa_nonneg]
  refine decDigits_len 12 k ?_
  unfold validB at h; simp at h; omega
theorem textT_len (t : Tok) : (textT t).1.length ≤ 2 * t.text.length + 13 := by
  unfold textT
  split
  · rename_i h; have := itoa_len t.val h.2.2.2 h.2.2.1; simp only; omega
  split
  · simp
  split
  · simp only; omega
  split
  · simp only [List.length_cons]; omega
  split
  · have h1 := esc_len t.text; have h2 := ex_le t.text; simp only [List.length_cons, List.length_append, List.length_nil]; omega
  · simp

theorem texts_cons (t : Tok) (l : List Tok) : texts (t :: l) = if (textT t).2 = 0 then (if (texts l).2 = 0 then ((textT t).1 :: (texts l).1, 0) else ([], (texts l).2)) else ([], (textT t).2) := rfl
theorem joinSp_len : ∀ (xs : List Bs) (B : Nat), (∀ x ∈ xs, x.length ≤ B) → (joinSp xs).length ≤ xs.length * (B + 1)
  | [], B, _ => by simp [joinSp]
  | [a], B, h => by have := h a (by simp); simp [joinSp]; omega
  | a :: b :: l, B, h => by
    have h1 := h a (by simp)
    have h2 := joinSp_len (b :: l) B fun x hx => h x (by simp at hx ⊢; exact .inr hx)
    simp only [joinSp, List.length_append, List.length_cons] at h2 ⊢
    rw [Nat.add_mul _ 1]
    omega
theorem texts_mem : ∀ (l : List Tok) (x : Bs), x ∈ (texts l).1 → ∃ t ∈ l, x = (textT t).1
  | [], x, h => by simp [texts] at h
  | t :: l, x, h => by
    rw [texts_cons] at h
    split at h
    · split at h
      · rcases List.mem_cons.1 h with rfl | h
        · exact ⟨t, by simp, rfl⟩
        · obtain ⟨s, h1, h2⟩ := texts_mem l x h
          exact ⟨s, by simp [h1], h2⟩
      · simp at h
    · simp at h
theorem texts_len : ∀ (l : List Tok), (texts l).1.length ≤ l.length
  | [] => by simp [texts]
  | t :: l => by
    have := texts_len l
    rw [texts_cons]
    split
    · split
      · simp only [List.length_cons]; omega
      · simp
    · simp

theorem texts_err : ∀ (l : List Tok), (texts l).2 ≠ 0 → (texts l).1 = []
  | [], h => rfl
  | t :: l, h => by
    rw [texts_cons] at h ⊢
    split at h
    · split at h
      · exact absurd rfl h
      · rename_i h1 h2; rw [if_pos h1, if_neg h2]
    · rename_i h1; rw [if_neg h1]

end Go.Proofs.YtfncipdfibgefaaGreatDoor
/-
  Contracts of lex: Join.
-/
namespace Go.Proofs.YtfncipdfibgefaaGreatDoor
open Go.RowKit

/-- Tokens whose numbers are numbers and whose texts are not too long. -/
def tokOk (l : List Tok) : Prop := ∀ t ∈ l, t.text.length ≤ 1000000 ∧ -9223372036854775808 ≤ t.val ∧ t.val ≤ 9223372036854775807

set_option maxHeartbeats 4000000 in
set_option maxRecDepth 100000 in
theorem x_join (l : List Tok) (hok : tokOk l) (hl : l.length ≤ 8796093022207) : DCalls Tryz.prog 16 [toks l] (teV (joinT l)) := by
  refine sx Tryz.func16 (by kernel_rfl) ?_
  conv => whnf
  rintro (_ | _) h0
  rotate_left
  · simp at h0
    rw [show joinT l = ([], 3) by unfold joinT; rw [if_pos (by omega)]]
    (conv => whnf) <;> rfl
  have h0 : l.length ≤ 1000 := by simp at h0; omega
  have hj : joinT l = if (texts l).2 ≠ 0 then ([], (texts l).2) else if (joinSp (texts l).1).length > 4000 then ([], 3) else (joinSp (texts l).1, 0) := by unfold joinT; rw [if_neg (by omega)]
  rw [hj]
  have hlong : (joinSp (texts l).1).length ≤ 1000 * 2000014 := by
    refine Nat.le_trans (joinSp_len _ 2000013 fun x hx => ?_) (Nat.mul_le_mul_right _ (Nat.le_trans (texts_len l) h0))
    obtain ⟨t, h1, rfl⟩ := texts_mem l x hx
    have := textT_len t
    have := (hok t h1).1
    omega
  have htl := texts_len l
  have hE : (texts l).2 ≠ 0 → (texts l).1 = [] := texts_err l
  generalize hR : texts l = R at *
  conv => whnf
  refine ⟨[(4, 30, 9, 1)], Nat × List Bs, fun ⟨k, acc⟩ => [(15, int k), (4, .ow 30 0), (6, .un)], fun ⟨k, acc⟩ => [(30, some (.row 0 9 1 true (acc.map strD))), (6, none)], fun ⟨k, acc⟩ => k ≤ l.length ∧ acc.length ≤ k ∧ R = (if (texts (l.drop k)).2 = 0 then (acc ++ (texts (l.drop k)).1, 0) else ([], (texts (l.drop k)).2)), fun x => l.length - x.1, (0, []), ⟨Nat.zero_le _, by simp, by
      rw [List.drop_zero, hR]
      by_cases h : R.2 = 0
      · rw [if_pos h, List.nil_append, ← h]
      · rw [if_neg h, ← hE h]⟩, ?_, ?_⟩
  · refine ⟨rfl, ?_, ?_⟩ <;> repeat' (first | exact trivial | exact rfl | refine and_rfl ?_ | refine and_two ?_ ?_)
  rintro ⟨k, acc⟩ ⟨hk1, hk2, hk⟩
  conv => whnf
  rintro (_ | _) h2
  · have h2 : l.length ≤ k := by simp at h2; omega
    rw [List.drop_eq_nil_of_le h2, show texts [] = ([], 0) from rfl, if_pos rfl, List.append_nil] at hk
    subst hk
    dsimp only at hlong htl ⊢
    rw [if_neg (by simp)]
    conv => whnf
    refine ⟨_, x_sjoin acc (by omega) (by omega), ?_⟩
    conv => whnf
    rintro (_ | _) h3
    · rw [if_neg (by simp [mk_size] at h3; omega)]
      (conv => whnf) <;> rfl
    · rw [if_pos (by simp [mk_size] at h3; omega)]
      (conv => whnf) <;> rfl
  have h2 : k < l.length := by simp at h2; omega
  rw [List.drop_eq_getElem_cons h2, texts_cons] at hk
  obtain ⟨o1, o2, o3⟩ := hok l[k] (List.getElem_mem h2)
  conv => whnf
  refine ⟨by omega, _, get_map tokD h2, ?_⟩
  conv => whnf
  refine ⟨_, x_textOf l[k] o1 ⟨o2, o3⟩, ?_⟩
  conv => whnf
  rintro (_ | _) h4
  rotate_left
  · have h4 : (textT l[k]).2 ≠ 0 := by simpa using h4
    rw [if_neg h4, if_neg h4] at hk
    subst hk
    rw [if_pos h4]
    (conv => whnf) <;> rfl
  have h4 : (textT l[k]).2 = 0 := by simpa using h4
  rw [if_pos h4] at hk
  conv => whnf
  refine ⟨by simp; omega, ?_⟩
  conv => whnf
  refine ⟨(k + 1, acc ++ [(textT l[k]).1]), ⟨h2, by simp; omega, by
    rw [hk]
    by_cases h : (texts (l.drop (k + 1))).2 = 0
    · rw [if_pos h, if_pos h, if_pos rfl]; simp
    · rw [if_neg h, if_neg h, if_neg h]⟩, by dsimp only; omega, ?_⟩
  refine ⟨rfl, ?_, ?_⟩ <;> repeat' (first | exact trivial | exact rfl | refine and_rfl ?_ | refine and_val (wrap_succ (by omega)) ?_ | refine and_two ?_ ?_ | (simp [strD]; done))

end Go.Proofs.YtfncipdfibgefaaGreatDoor
/-
  Contracts of the laws: small, awake; and the law of words.
-/
namespace Go.Proofs.YtfncipdfibgefaaGreatDoor
open Go.RowKit

def smallB (l : List Tok) : Bool := decide (l.length ≤ 1100) && l.all fun t => decide (t.text.length ≤ 1000)

set_option maxRecDepth 100000 in
theorem x_small (l : List Tok) (hl : l.length ≤ 8796093022207) : DCalls Tryz.prog 13 [toks l] (boo (smallB l)) := by
  refine sx Tryz.func13 (by kernel_rfl) ?_
  conv => whnf
  rintro (_ | _) h0
  rotate_left
  · have h0 : ¬ l.length ≤ 1100 := by simp at h0; omega
    conv => whnf
    exact fin_boo (by simp [smallB, h0])
  have h0 : l.length ≤ 1100 := by simp at h0; omega
  generalize hR : smallB l = R
  have hR : (l.all fun t => decide (t.text.length ≤ 1000)) = R := by rw [← hR]; simp [smallB, h0]
  conv => whnf
  refine ⟨[], Nat, fun k => [(9, int k)], fun _ => [], fun k => k ≤ l.length ∧ ((l.drop k).all fun t => decide (t.text.length ≤ 1000)) = R, fun k => l.length - k, 0, ⟨Nat.zero_le _, hR⟩, ?_, ?_⟩
  · refine ⟨rfl, ?_, ?_⟩ <;> repeat' (first | exact trivial | exact rfl | refine and_rfl ?_ | refine and_two ?_ ?_)
  rintro k ⟨hk1, hk⟩
  conv => whnf
  rintro (_ | _) h2
  · simp at h2
    rw [List.drop_eq_nil_of_le h2] at hk
    conv => whnf
    exact fin_boo (by rw [← hk]; rfl)
  have h2 : k < l.length := by simp at h2; omega
  rw [List.drop_eq_getElem_cons h2, List.all_cons] at hk
  conv => whnf
  refine ⟨by omega, _, get_map tokD h2, ?_⟩
  conv => whnf
  rintro (_ | _) h3
  · have h3 : l[k].text.length ≤ 1000 := by simp [mk_size] at h3; omega
    conv => whnf
    refine ⟨k + 1, ⟨h2, by rw [← hk]; simp [h3]⟩, by dsimp only; omega, ?_⟩
    refine ⟨rfl, ?_, ?_⟩ <;> repeat' (first | exact trivial | exact rfl | refine and_rfl ?_ | refine and_val (wrap_succ (by omega)) ?_ | refine and_two ?_ ?_)
  · have h3 : ¬ l[k].text.length ≤ 1000 := by simp [mk_size] at h3; omega
    conv => whnf
    exact fin_boo (by rw [← hk]; simp [h3])

def aw1 : Bs := [108, 101, 116, 32, 97, 49, 61, 49, 50, 59, 32, 47, 47, 32, 120]
def aw2 : Bs := [48, 55]
def aw3 : Bs := [49, 48, 48, 48, 48, 48, 48, 48, 48, 48, 48, 48, 49]
def awT : List Tok := [⟨2, [108, 101, 116], 0, 0⟩, ⟨1, [97, 49], 0, 4⟩, ⟨5, [61], 0, 6⟩, ⟨3, [], 12, 7⟩, ⟨5, [59], 0, 9⟩]
theorem aw_1 : tokens aw1 = (awT, 0, 0) := by kernel_rfl
theorem aw_2 : tokens aw2 = ([], 0, 1) := by kernel_rfl
theorem aw_3 : tokens aw3 = ([], 0, 2) := by kernel_rfl
theorem aw_4 : textT ⟨4, [97, 34, 98], 0, 0⟩ = ([34, 97, 92, 34, 98, 34], 0) := by kernel_rfl
theorem itoa12 : Lib.itoa 12 = [49, 50] := by
  rw [show (12 : Int) = ((12 : Nat) : Int) from rfl, Lib.itoa_nonneg, decDigits_ge (by omega), decDigits_lt (by omega)]; rfl
theorem aw_5 : joinT awT = ([108, 101, 116, 32, 97, 49, 32, 61, 32, 49, 50, 32, 59], 0) := by
  have h1 : textT ⟨2, [108, 101, 116], 0, 0⟩ = ([108, 101, 116], 0) := by kernel_rfl
  have h2 : textT ⟨1, [97, 49], 0, 4⟩ = ([97, 49], 0) := by kernel_rfl
  have h3 : textT ⟨5, [61], 0, 6⟩ = ([61], 0) := by kernel_rfl
  have h4 : textT ⟨3, [], 12, 7⟩ = ([49, 50], 0) := by rw [te_int, if_pos ⟨rfl, by decide, by decide⟩, itoa12]
  have h5 : textT ⟨5, [59], 0, 9⟩ = ([59], 0) := by kernel_rfl
  have ht : texts awT = ([[108, 101, 116], [97, 49], [61], [49, 50], [59]], 0) := by
    unfold awT
    simp only [h1, h2, h3, h4, h5, texts, if_true]
  unfold joinT
  rw [ht]; rfl
theorem awT_ok : tokOk awT := by
  intro t ht
  simp only [awT, List.mem_cons, List.not_mem_nil, or_false] at ht
  rcases ht with rfl | rfl | rfl | rfl | rfl <;> decide

set_option maxHeartbeats 2000000 in
set_option maxRecDepth 100000 in
theorem x_awake : DCalls Tryz.prog 9 [] (boo true) := by
  have t1 := x_tokens aw1 (by decide)
  have t2 := x_tokens aw2 (by decide)
  have t3 := x_tokens aw3 (by decide)
  rw [aw_1] at t1; rw [aw_2] at t2; rw [aw_3] at t3
  have t4 := x_textOf ⟨4, [97, 34, 98], 0, 0⟩ (by decide) (by decide)
  rw [aw_4] at t4
  have t5 := x_join awT awT_ok (by decide)
  rw [aw_5] at t5
  have t6 : DCalls Tryz.prog 18 [bstr [119, 104, 105, 108, 101]] (boo true) := by
    have := x_keywordL [119, 104, 105, 108, 101]
    rw [show kwL [119, 104, 105, 108, 101] = true by kernel_rfl] at this; exact this
  have t7 : DCalls Tryz.prog 20 [bstr [33, 61]] (boo true) := by
    have := x_symbol [33, 61] (by decide)
    rw [show symB [33, 61] = true by kernel_rfl] at this; exact this
  refine sx Tryz.func9 (by kernel_rfl) ?_
  conv => whnf
  refine ⟨_, t1, ?_⟩
  conv => whnf
  refine ⟨_, t2, ?_⟩
  conv => whnf
  refine ⟨_, t3, ?_⟩
  conv => whnf
  refine ⟨_, t4, ?_⟩
  conv => whnf
  refine ⟨_, t5, ?_⟩
  repeat ((conv => whnf); first | refine known true rfl ?_ | refine known true (by kernel_rfl) ?_ | refine ⟨by decide, _, rfl, ?_⟩ | refine ⟨_, t6, ?_⟩ | refine ⟨_, t7, ?_⟩)
  conv => whnf

set_option maxRecDepth 100000 in
theorem x_lawWords (l : Bs) (hl : l.length ≤ 281474976710656) : DCalls Tryz.prog 5 [bstr l] (boo true) := by
  refine sx Tryz.func5 (by kernel_rfl) ?_
  conv => whnf
  refine ⟨_, x_keywordL l, ?_⟩
  conv => whnf
  refine ⟨_, x_rkeywordL l, ?_⟩
  conv => whnf
  refine known true (by simp) ?_
  conv => whnf
  refine ⟨_, x_symbol l (by omega), ?_⟩
  conv => whnf
  refine ⟨_, x_rsymbol l (by omega), ?_⟩
  repeat ((conv => whnf); first | refine known true (by simp) ?_ | refine ⟨_, x_awake, ?_⟩)
  conv => whnf

end Go.Proofs.YtfncipdfibgefaaGreatDoor
/-
  A reader of code over states that name their own memory: arguments that are read are data.
-/
namespace Go.Proofs.YtfncipdfibgefaaGreatDoor
open Go.RowKit

def szOf (T : Tab) (e : Nat) : Nat := match T e with | some i => i.size | none => 0
def byOf (T : Tab) (e : Nat) : Nat := match T e with | some i => i.bytes | none => 0

def DOkL (p : Nat → List D → Prop) : List (Nat × Nat) → List D → Prop
  | [], ds => ds = []
  | f :: fs, ds => ∃ a b, ds = a ++ b ∧ p f.2 a ∧ DOkL p fs b

/-- Data of a type. -/
def DOk (T : Tab) : Nat → Nat → List D → Prop
  | 0, _, _ => False
  | n + 1, ty, ds => match T ty with
    | none => False
    | some i => match i.kd with
      | .int k => ∃ z, ds = [.cv (.int k z)] ∧ (Lit.int k z).wf = true
      | .bool => ∃ b, ds = [.cv (.bool b)]
      | .string => ∃ s : ByteArray, ds = [.cv (.string s)] ∧ s.size ≤ reachBytes
      | .slice e => ∃ xs, ds = [.sl (szOf T e) xs] ∧ xs.length * byOf T e ≤ reachBytes ∧ xs.length ≤ maxLen ∧ ∀ x ∈ xs, DOk T n e x
      | .struct fs => DOkL (DOk T n) fs ds
      | _ => False

def contig (T : Tab) : Nat → List (Nat × Nat) → Option Nat
  | o, [] => some o
  | o, (off, ty) :: fs => if off = o then (match T ty with | some i => contig T (o + i.size) fs | none => none) else none

/-- The types that are read. -/
def okT (T : Tab) : Nat → Nat → Bool
  | 0, _ => false
  | n + 1, ty => match T ty with
    | none => false
    | some i => match i.kd with
      | .int _ | .bool | .string => i.size == 1
      | .slice e => i.size == 1 && (szOf T e != 0 && okT T n e)
      | .struct fs => contig T 0 fs == some i.size && fs.all fun f => okT T n f.2
      | _ => false

section
variable {P : Program} {T : Tab} {H : Type} {enc : TypeId × Value → H} {w : World} {spare : Nat → Bool} {held : Bool}

theorem TOk.cells (hT : TOk P T) {ty : Nat} {i : TI} (h : T ty = some i) : P.cellsOf ty = i.size ∧ P.bytesOf ty = i.bytes := by
  obtain ⟨j, h1, h2, h3, _⟩ := hT.get ty i h
  simp [Program.cellsOf, Program.bytesOf, h1, h2, h3]

theorem TOk.szOf (hT : TOk P T) {ty : Nat} (h : szOf T ty ≠ 0) : P.cellsOf ty = szOf T ty ∧ P.bytesOf ty = byOf T ty := by
  unfold Go.Proofs.YtfncipdfibgefaaGreatDoor.szOf at h ⊢
  unfold byOf
  cases hi : T ty with
  | none => rw [hi] at h; exact absurd rfl h
  | some i => exact hT.cells hi

theorem get_of_cells? {a : Addr} {n : Nat} {cs : List Value} (h : w.cells? 0 a n = some cs) : cs.length = n ∧ ∀ j u, cs[j]? = some u → w.cell? (a.add j) = some u := by
  unfold World.cells? at h
  rw [if_pos (Nat.zero_le _)] at h
  have hl := mapM_some_length h
  simp at hl
  refine ⟨hl, fun j u hu => ?_⟩
  have hj : j < n := by have := lt_of_get hu; omega
  have := mapM_some_get h j j (by simp [hj])
  rw [this, hu]

theorem weights_sl {e : TypeId} {d : DataW H} : ∀ {l : List (DataW H)}, d ∈ l → ∀ n ∈ d.weights P e, n ∈ DataW.weightsAll P e l
  | x :: l, hd, n, hn => by
    simp only [DataW.weightsAll, List.mem_append]
    rcases List.mem_cons.1 hd with rfl | hd
    · exact .inl hn
    · exact .inr (weights_sl hd n hn)

theorem cells_one {v : Value} (h : v.oneCell' = true) : v.cells = #[v] := by
  cases v <;> simp_all [Value.oneCell', Value.cells]

set_option maxHeartbeats 1000000 in
theorem trod_read (hT : TOk P T) : ∀ (n ty fuel : Nat) (cs : List Value) (x : DataW H × List MemPlace), okT T n ty = true → DataW.trod enc P w 0 spare held fuel ty cs = some x → (∀ q ∈ x.1.weights P ty, q ≤ reachBytes) →
    ∃ ds, DOk T n ty ds ∧ ds.length = cs.length ∧ ∀ (i : Nat) (d : D), ds[i]? = some d → ∃ u : Value, cs[i]? = some u ∧ RelD (fun b => b < w.heap.size) w d u := by
  intro n
  induction n with
  | zero => intro ty fuel cs x h; cases h
  | succ n ih =>
    intro ty fuel cs x hok h hw
    simp only [okT] at hok
    cases hi : T ty with
    | none => rw [hi] at hok; cases hok
    | some i =>
    rw [hi] at hok
    obtain ⟨size, bytes, agg, zero, kd⟩ := i
    have one : ∀ {d : D} {u : Value}, RelD (fun b => b < w.heap.size) w d u → ∀ (i : Nat) (d' : D), [d][i]? = some d' → ∃ u' : Value, [u][i]? = some u' ∧ RelD (fun b => b < w.heap.size) w d' u' := by
      intro d u hr i d' hd
      cases i with
      | zero => simp at hd; subst hd; exact ⟨u, rfl, hr⟩
      | succ i => simp at hd
    cases kd with
    | int k =>
      obtain ⟨z, rfl, _, hz⟩ := DataW.trod_int (hT.kd_int hi rfl) h
      exact ⟨[.cv (.int k z)], by simp only [DOk, hi]; exact ⟨z, rfl, hz⟩, rfl, one (.cv _ rfl)⟩
    | bool =>
      obtain ⟨b, rfl, _⟩ := DataW.trod_bool (hT.kd_bool hi rfl) h
      exact ⟨[.cv (.bool b)], by simp only [DOk, hi]; exact ⟨b, rfl⟩, rfl, one (.cv _ rfl)⟩
    | string =>
      obtain ⟨s, rfl, rfl, _⟩ := DataW.trod_string (hT.kd_string hi rfl) h
      have := hw s.data.toList.length (by simp [DataW.weights])
      exact ⟨[.cv (.string s)], by simp only [DOk, hi]; exact ⟨s, rfl, by simpa using this⟩, rfl, one (.cv _ rfl)⟩
    | slice e =>
      simp only [Bool.and_eq_true, bne_iff_ne, ne_eq] at hok
      obtain ⟨_, hsz, hoke⟩ := hok
      obtain ⟨hc, hb⟩ := hT.szOf hsz
      have hu := hT.kd_slice hi rfl
      rcases DataW.trod_slice hu h with ⟨rfl, rfl⟩ | ⟨a, len, cap, elems, rest, m, rfl, rfl, rfl, _, hlc, hcm, hlen, hel, _, _⟩
      · exact ⟨[.sl (szOf T e) []], by simp only [DOk, hi]; exact ⟨[], rfl, by simp, by simp, by simp⟩, rfl, one (.nil _ _ _)⟩
      · rw [hc] at hel
        have helem : ∀ i, i < len → ∃ (ds : List D) (us : List Value), w.cells? 0 (a.add (i * szOf T e)) (szOf T e) = some us ∧ DOk T n e ds ∧ ds.length = us.length ∧ ∀ (j : Nat) (d : D), ds[j]? = some d → ∃ u : Value, us[j]? = some u ∧ RelD (fun b => b < w.heap.size) w d u := by
          intro i hlt
          have h1 := hel i hlt
          have hi' : i < elems.length := by omega
          rw [List.getElem?_eq_getElem hi', Option.bind_eq_some_iff] at h1
          obtain ⟨us, h2, h3⟩ := h1
          obtain ⟨ds, h4, h5, h6⟩ := ih e m us _ hoke h3 fun q hq => hw q (by
            simp only [DataW.weights, hu, List.mem_cons, List.mem_append]
            exact .inr (.inl (weights_sl (List.mem_map.2 ⟨_, List.getElem_mem hi', rfl⟩) q hq)))
          exact ⟨ds, us, h2, h4, h5, h6⟩
        let dsF : Nat → List D := fun i => if hlt : i < len then Classical.choose (helem i hlt) else []
        have hF : ∀ i, i < len → ∃ us : List Value, w.cells? 0 (a.add (i * szOf T e)) (szOf T e) = some us ∧ DOk T n e (dsF i) ∧ (dsF i).length = us.length ∧ ∀ (j : Nat) (d : D), (dsF i)[j]? = some d → ∃ u : Value, us[j]? = some u ∧ RelD (fun b => b < w.heap.size) w d u := by
          intro i hlt
          have := Classical.choose_spec (helem i hlt)
          simp only [dsF, hlt, dif_pos]
          exact this
        refine ⟨[.sl (szOf T e) ((List.range len).map dsF)], ?_, rfl, one ?_⟩
        · simp only [DOk, hi]
          refine ⟨_, rfl, ?_, by simp; omega, fun x hx => ?_⟩
          · have := hw ((elems.length + rest.length) * P.bytesOf e) (by simp [DataW.weights, hu])
            rw [hb] at this
            simp only [List.length_map, List.length_range]
            refine Nat.le_trans (Nat.mul_le_mul_right _ ?_) this
            omega
          · obtain ⟨i, hi', rfl⟩ := List.mem_map.1 hx
            exact (hF i (by simpa using hi')).choose_spec.2.1
        · by_cases h0 : len = 0
          · subst h0; exact .nil _ _ _
          have hcell : ∀ (i j : Nat) (d : D), i < len → (dsF i)[j]? = some d → ∃ u : Value, w.cell? ((a.add (i * szOf T e)).add j) = some u ∧ RelD (fun b => b < w.heap.size) w d u := by
            intro i j d hlt hd
            obtain ⟨us, h1, h2, h3, h4⟩ := hF i hlt
            obtain ⟨u, h5, h6⟩ := h4 j d hd
            exact ⟨u, (get_of_cells? h1).2 j u h5, h6⟩
          have hlenF : ∀ i, i < len → (dsF i).length = szOf T e := fun i hlt => by
            obtain ⟨us, h1, h2, h3, h4⟩ := hF i hlt
            rw [h3, (get_of_cells? h1).1]
          obtain ⟨b, o, spot⟩ := a
          obtain ⟨u0, h1, _⟩ := hcell 0 0 _ (by omega) (List.getElem?_eq_getElem (by rw [hlenF 0 (by omega)]; omega))
          have hspot : spot = none := by
            have := World.cell?_spot h1
            unfold Addr.add at this
            split at this <;> split at this <;> simp_all
          subst hspot
          have hlt := World.block_lt_of_cell? w _ h1
          simp only [add_mk] at hlt hcell
          have hl : ((List.range len).map dsF).length = len := by simp
          have hget : ∀ (i j : Nat) (d : D), (((List.range len).map dsF)[i]?.bind fun x => x[j]?) = some d → i < len ∧ (dsF i)[j]? = some d := by
            intro i j d hd
            rcases Nat.lt_or_ge i len with h' | h'
            · simp [h'] at hd; exact ⟨h', hd⟩
            · simp [h'] at hd
          suffices hs : RelD (fun b => b < w.heap.size) w (.sl (szOf T e) ((List.range len).map dsF)) (.slice (some ⟨b, o, none⟩) ((List.range len).map dsF).length cap) by rw [hl] at hs; exact hs
          refine RelD.sl (S := fun b => b < w.heap.size) _ _ b o cap (fun i j => (w.cell? ⟨b, o + i * szOf T e + j, none⟩).getD undef) hlt (fun x hx => ?_) (by rw [hl]; exact hlc) (fun i j d hd => ?_) (fun i j d hd => ?_)
          · obtain ⟨i, hi', rfl⟩ := List.mem_map.1 hx
            exact hlenF i (by simpa using hi')
          · obtain ⟨h2, h3⟩ := hget i j d hd
            obtain ⟨u, h4, _⟩ := hcell i j d h2 h3
            rw [h4]; rfl
          · obtain ⟨h2, h3⟩ := hget i j d hd
            obtain ⟨u, h4, h5⟩ := hcell i j d h2 h3
            rw [h4]; exact h5
    | struct fs =>
      simp only [Bool.and_eq_true, beq_iff_eq, List.all_eq_true] at hok
      obtain ⟨hcon, hall⟩ := hok
      obtain ⟨gs, hu, hgs⟩ := hT.kd_struct hi rfl
      obtain ⟨xs, m, rfl, rfl, hl, hxl, hf⟩ := DataW.trod_struct hu h
      rw [(hT.cells hi).1] at hl
      replace hl : cs.length = size := hl
      have key : ∀ (l : List (Nat × Nat)) (k o : Nat), fs.drop k = l → contig T o l = some size → ∃ ds, DOkL (DOk T n) l ds ∧ o + ds.length = size ∧ ∀ (i : Nat) (d : D), ds[i]? = some d → ∃ u : Value, cs[o + i]? = some u ∧ RelD (fun b => b < w.heap.size) w d u := by
        intro l
        induction l with
        | nil =>
          intro k o _ hc
          simp only [contig, Option.some.injEq] at hc
          exact ⟨[], rfl, by simp [hc], by simp⟩
        | cons f l ihl =>
          intro k o hk hc
          obtain ⟨off, fty⟩ := f
          simp only [contig] at hc
          split at hc
          rotate_left
          · cases hc
          rename_i hoff
          subst hoff
          cases hft : T fty with
          | none => rw [hft] at hc; cases hc
          | some fi =>
          rw [hft] at hc
          have hkf : fs[k]? = some (off, fty) := by
            have := congrArg (fun l => l[0]?) hk
            simpa using this
          have hg : ∃ g, gs[k]? = some g ∧ g.offset = off ∧ g.type = fty := by
            rw [← hgs, List.getElem?_map, Option.map_eq_some_iff] at hkf
            obtain ⟨g, hg, e⟩ := hkf
            simp only [Prod.mk.injEq] at e
            exact ⟨g, by simpa using hg, e.1, e.2⟩
          obtain ⟨g, hg, rfl, rfl⟩ := hg
          have h1 := hf k g hg
          have hlt : k < xs.length := by
            have : k < gs.size := (Array.getElem?_eq_some_iff.1 hg).1
            omega
          rw [List.getElem?_eq_getElem hlt, (hT.cells hft).1] at h1
          obtain ⟨da, h2, h3, h4⟩ := ih g.type m _ _ (hall _ (List.mem_of_getElem? hkf)) h1 fun q hq => hw q (by
            simp only [DataW.weights, hu]
            refine DataW.weights_mem_each (j := k) (t := g.type) (d := xs[k].1) ?_ ?_ q hq
            · rw [List.getElem?_map]; simp [hg]
            · simp [hlt])
          obtain ⟨db, h5, h6, h7⟩ := ihl (k + 1) (g.offset + fi.size) (by
            have := congrArg (List.drop 1) hk
            simpa [List.drop_drop, Nat.add_comm] using this) hc
          have hla : da.length = fi.size := by
            rw [h3, List.length_take, List.length_drop]; omega
          refine ⟨da ++ db, ⟨da, db, rfl, h2, h5⟩, by simp; omega, fun i d hd => ?_⟩
          rw [List.getElem?_append] at hd
          split at hd
          · rename_i hlt'
            obtain ⟨u, h8, h9⟩ := h4 i d hd
            rw [List.getElem?_take, if_pos (by omega), List.getElem?_drop] at h8
            exact ⟨u, h8, h9⟩
          · rename_i hge
            obtain ⟨u, h8, h9⟩ := h7 _ d hd
            refine ⟨u, ?_, h9⟩
            rw [← h8]; congr 1; omega
      obtain ⟨ds, h1, h2, h3⟩ := key fs 0 0 rfl hcon
      exact ⟨ds, by simp only [DOk, hi]; exact h1, by omega, fun i d hd => by simpa using h3 i d hd⟩
    | _ => cases hok

def dV : List D → V
  | [d] => d.v true
  | _ => .un

/-- Data of a type, as an argument. -/
def vOf (T : Tab) (ty : Nat) (ds : List D) : V :=
  match T ty with
  | some i => if i.agg then .ag (ds.map (D.v true)) else dV ds
  | none => .un

open Go.WideShapes in
theorem read_arg (hT : TOk P T) {n ty : Nat} (hok : okT T n ty = true) {r : Reach} {b0 : Nat} {v : Value} {d : DataW H} {ps : List MemPlace} (hval : Value.okWide P w r b0 ty v)
    (h : DataW.Trod enc P w 0 spare held ty v d ps) (hw : ∀ q ∈ d.weights P ty, q ≤ reachBytes) : ∃ ds, DOk T n ty ds ∧ RelV (fun _ => none) (fun _ b => b < w.heap.size) w (vOf T ty ds) v := by
  obtain ⟨fuel, h⟩ := h
  obtain ⟨ds, h1, h2, h3⟩ := trod_read hT n ty fuel _ _ hok h hw
  refine ⟨ds, h1, ?_⟩
  cases n with
  | zero => cases hok
  | succ n =>
  simp only [okT] at hok
  unfold vOf
  cases hi : T ty with
  | none => rw [hi] at hok; cases hok
  | some i =>
  rw [hi] at hok
  have hagg := (hT.ok hi).1
  have one : i.agg = false → v.cells = #[v] → RelV (fun _ => none) (fun _ b => b < w.heap.size) w (if i.agg then .ag (ds.map (D.v true)) else dV ds) v := by
    intro e1 e2
    rw [e2] at h2 h3
    rw [e1]
    match ds, h2, h3 with
    | [d], _, h3 =>
      obtain ⟨u, hu, hr⟩ := h3 0 d rfl
      simp at hu; subst hu
      exact .ofD (S := fun _ b => b < w.heap.size) hr
    | [], _, _ => exact .un _
    | _ :: _ :: _, _, _ => exact .un _
  have many : ∀ us : Array Value, i.agg = true → v = .agg us → RelV (fun _ => none) (fun _ b => b < w.heap.size) w (if i.agg then .ag (ds.map (D.v true)) else dV ds) v := by
    rintro us e1 rfl
    rw [e1]
    simp only [Value.cells, Array.length_toList] at h2 h3
    refine .ag _ us (by simpa using h2) fun j c hc => ?_
    rw [List.getElem?_map, Option.map_eq_some_iff] at hc
    obtain ⟨d, hd, rfl⟩ := hc
    obtain ⟨u, hu, hr⟩ := h3 j d hd
    rw [getD_of_get hu]
    exact .ofD (S := fun _ b => b < w.heap.size) hr
  obtain ⟨size, bytes, agg, zero, kd⟩ := i
  cases kd with
  | int k => obtain ⟨z, rfl⟩ := okWide_int (hT.kd_int hi rfl) hval; exact one hagg rfl
  | bool => obtain ⟨z, rfl⟩ := okWide_bool (hT.kd_bool hi rfl) hval; exact one hagg rfl
  | string => obtain ⟨z, rfl⟩ := okWide_string (hT.kd_string hi rfl) hval; exact one hagg rfl
  | slice e => obtain ⟨a, l, c, rfl⟩ := okWide_slice (hT.kd_slice hi rfl) hval; exact one hagg rfl
  | struct fs =>
    obtain ⟨gs, hu, _⟩ := hT.kd_struct hi rfl
    obtain ⟨us, rfl, _⟩ := okWide_struct hu hval
    exact many us hagg rfl
  | _ => cases hok

/-- The reach, one argument at a time. -/
theorem weights_cons {t : TypeId} {ts : List TypeId} {d : DataW H} {ds : List (DataW H)} (h : ∀ q ∈ DataW.weightsEach P (t :: ts) (d :: ds), q ≤ reachBytes) :
    (∀ q ∈ d.weights P t, q ≤ reachBytes) ∧ ∀ q ∈ DataW.weightsEach P ts ds, q ≤ reachBytes := by
  simp only [DataW.weightsEach, List.mem_append] at h
  exact ⟨fun q hq => h q (.inl hq), fun q hq => h q (.inr hq)⟩

theorem relL_nil {N : Names} {S : Sets} : RelL N S w [] [] := ⟨rfl, by simp⟩
theorem relL_cons {N : Names} {S : Sets} {v : V} {u : Value} {vs : List V} {us : List Value} (h : RelV N S w v u) (hl : RelL N S w vs us) : RelL N S w (v :: vs) (u :: us) := by
  refine ⟨by simp [hl.1], fun i x hx => ?_⟩
  cases i with
  | zero => simp at hx; subst hx; simpa using h
  | succ i => simpa using hl.2 i x (by simpa using hx)

end
end Go.Proofs.YtfncipdfibgefaaGreatDoor
/-
  The law of words, over arguments that were read.
-/
namespace Go.Proofs.YtfncipdfibgefaaGreatDoor
open Go.RowKit

theorem read_bs {ds : List D} (h : DOk TT 6 9 ds) : ∃ l : Bs, vOf TT 9 ds = bstr l ∧ l.length ≤ 140737488355328 := by
  obtain ⟨x, rfl, hx⟩ := h
  refine ⟨x.data.toList, ?_, ?_⟩
  · rfl
  · have h1 : x.size = x.data.toList.length := by rw [ByteArray.size, Array.length_toList]
    have h2 := reachBytes_lt
    have h3 : x.size ≤ reachBytes := hx
    rw [← h1]
    generalize x.size = n at h3
    generalize reachBytes = m at h2 h3
    omega

theorem d_words (ds0 : List D) (h0 : DOk TT 6 9 ds0) : DCalls Tryz.prog 5 [vOf TT 9 ds0] (boo true) := by
  obtain ⟨l, h, hl⟩ := read_bs h0
  rw [h]
  exact x_lawWords l (by omega)

end Go.Proofs.YtfncipdfibgefaaGreatDoor
/-
  Contracts of faasref07: the text of a string, between quotation marks.
-/
namespace Go.Proofs.YtfncipdfibgefaaGreatDoor
open Go.RowKit

def okB (l : Bs) : Bool := l.all fun c => !(decide (c < 32) || decide (c > 126))
theorem contB_okB (l : Bs) : contB l = (decide (l.length ≤ 200) && okB l) := rfl
/-- What quoted returns. -/
abbrev qV (l : Bs) : V := if okB l = true then .tu [bstr (34 :: (esc l ++ [34])), boo (decide (l.length ≤ 200))] else .tu [bstr [], boo false]
theorem fin_q0 {l : Bs} (h : okB l = false) : V.tu [bstr [], boo false] = qV l := by unfold qV; rw [if_neg (by simp [h])]
theorem fin_q1 {l a : Bs} {b : Bool} (h : okB l = true) (ha : a = 34 :: (esc l ++ [34])) (hb : b = decide (l.length ≤ 200)) : V.tu [bstr a, boo b] = qV l := by unfold qV; rw [if_pos h, ha, hb]
theorem esc_upto {l : Bs} {k : Nat} (h : k < l.length) : esc (l.take (k + 1)) = esc (l.take k) ++ esc [l[k]] := by
  rw [← esc_app, List.take_append_getElem]

theorem and_bs {a b : Bs} {p : Prop} (e : a = b) (h : p) : V.cv (.string (mk a)) = V.cv (.string (mk b)) ∧ p := ⟨by rw [e], h⟩

set_option maxHeartbeats 2000000 in
set_option maxRecDepth 100000 in
theorem x_quoted (l : Bs) (hl : l.length ≤ 1000000) : DCalls Tryz.prog 35 [bstr l] (qV l) := by
  refine sx Tryz.func35 (by kernel_rfl) ?_
  conv => whnf
  refine ⟨[], Nat, fun k => [(8, int k), (4, bstr (34 :: esc (l.take k)))], fun _ => [], fun k => k ≤ l.length ∧ okB (l.drop k) = okB l, fun k => l.length - k, 0, ⟨Nat.zero_le _, rfl⟩, ?_, ?_⟩
  · refine ⟨rfl, ?_, ?_⟩ <;> repeat' (first | exact trivial | exact rfl | refine and_rfl ?_ | refine and_two ?_ ?_)
  rintro k ⟨hk1, hk⟩
  have hE : (esc (l.take k)).length ≤ 2000000 := by
    have h1 := esc_len (l.take k)
    have h2 := ex_le (l.take k)
    have h3 : (l.take k).length ≤ 1000000 := by rw [List.length_take]; omega
    omega
  conv => whnf
  rintro (_ | _) h2
  · have h2 : l.length ≤ k := by simp [mk_size] at h2; omega
    rw [List.drop_eq_nil_of_le h2] at hk
    rw [List.take_of_length_le h2] at hE ⊢
    conv => whnf
    refine ⟨by rw [mk_size, show (⟨#[34]⟩ : ByteArray).size = 1 from rfl, List.length_cons]; omega, ?_⟩
    conv => whnf
    rw [show mk (34 :: esc l) ++ (⟨#[34]⟩ : ByteArray) = mk (34 :: (esc l ++ [34])) from mk_app (34 :: esc l) [34]]
    exact fin_q1 (by rw [← hk]; rfl) rfl (by rw [mk_size, Bool.eq_iff_iff]; simp; omega)
  have h2 : k < l.length := by simp [mk_size] at h2; omega
  have hw : IntKind.i64.wrap (((k : Nat) : Int) + 1) = ((k + 1 : Nat) : Int) := wrap_succ (by omega)
  rw [drop_cons h2] at hk
  conv => whnf
  refine ⟨by omega, _, mk_at h2, ?_⟩
  conv => whnf
  rintro (_ | _) h3
  rotate_left
  · conv => whnf
    exact fin_q0 (by rw [← hk]; unfold okB; rw [List.all_cons, rangeB]; simp at *; omega)
  conv => whnf
  refine ⟨by omega, _, mk_at h2, ?_⟩
  conv => whnf
  rintro (_ | _) h4
  rotate_left
  · conv => whnf
    exact fin_q0 (by rw [← hk]; unfold okB; rw [List.all_cons, rangeB]; simp at *; omega)
  have hr : (decide (l[k] < 32) || decide (l[k] > 126)) = false := by rw [rangeB]; simp at *; omega
  have hk : okB (l.drop (k + 1)) = okB l := by rw [← hk]; unfold okB; rw [List.all_cons, hr]; rfl
  clear h3 h4
  have hsp : sp l[k] = (decide ((l[k].toNat : Int) = 34) || decide ((l[k].toNat : Int) = 92)) := by unfold sp; rw [u8_eq, u8_eq]; rfl
  have hU := esc_upto h2
  rw [esc_one] at hU
  conv => whnf
  refine ⟨by omega, _, mk_at h2, ?_⟩
  conv => whnf
  rintro (_ | _) h3
  · conv => whnf
    refine ⟨by omega, _, mk_at h2, ?_⟩
    conv => whnf
    rintro (_ | _) h4
    · have hs : sp l[k] = false := by rw [hsp]; simp at *; exact ⟨h3, h4⟩
      rw [hs, if_neg (by simp)] at hU
      conv => whnf
      rw [hw]
      refine ⟨by omega, by omega, by rw [mk_size]; omega, ?_⟩
      rw [mk_slice1 h2]
      conv => whnf
      rw [mk_app]
      refine ⟨by rw [mk_size, mk_size]; simp; omega, ?_⟩
      conv => whnf
      refine ⟨k + 1, ⟨h2, hk⟩, by dsimp only; omega, ?_⟩
      refine ⟨rfl, ?_, ?_⟩ <;> repeat' (first | exact trivial | exact rfl | refine and_rfl ?_ | refine and_val hw ?_ | refine and_bs (by rw [hU]; rfl) ?_ | refine and_two ?_ ?_)
    have hs : sp l[k] = true := by rw [hsp]; simp at *; exact .inr h4
    rw [hs, if_pos rfl] at hU
    conv => whnf
    refine ⟨by rw [mk_size, show (⟨#[92]⟩ : ByteArray).size = 1 from rfl, List.length_cons]; omega, ?_⟩
    conv => whnf
    rw [hw]
    refine ⟨by omega, by omega, by rw [mk_size]; omega, ?_⟩
    rw [mk_slice1 h2]
    conv => whnf
    rw [show mk (34 :: esc (l.take k)) ++ (⟨#[92]⟩ : ByteArray) = mk (34 :: (esc (l.take k) ++ [92])) from mk_app _ [92], mk_app]
    refine ⟨by rw [mk_size, mk_size]; simp; omega, ?_⟩
    conv => whnf
    refine ⟨k + 1, ⟨h2, hk⟩, by dsimp only; omega, ?_⟩
    refine ⟨rfl, ?_, ?_⟩ <;> repeat' (first | exact trivial | exact rfl | refine and_rfl ?_ | refine and_val hw ?_ | refine and_bs (by rw [hU]; simp) ?_ | refine and_two ?_ ?_)
  have hs : sp l[k] = true := by rw [hsp]; simp at *; exact .inl h3
  rw [hs, if_pos rfl] at hU
  conv => whnf
  refine ⟨by rw [mk_size, show (⟨#[92]⟩ : ByteArray).size = 1 from rfl, List.length_cons]; omega, ?_⟩
  conv => whnf
  rw [hw]
  refine ⟨by omega, by omega, by rw [mk_size]; omega, ?_⟩
  rw [mk_slice1 h2]
  conv => whnf
  rw [show mk (34 :: esc (l.take k)) ++ (⟨#[92]⟩ : ByteArray) = mk (34 :: (esc (l.take k) ++ [92])) from mk_app _ [92], mk_app]
  refine ⟨by rw [mk_size, mk_size]; simp; omega, ?_⟩
  conv => whnf
  refine ⟨k + 1, ⟨h2, hk⟩, by dsimp only; omega, ?_⟩
  refine ⟨rfl, ?_, ?_⟩ <;> repeat' (first | exact trivial | exact rfl | refine and_rfl ?_ | refine and_val hw ?_ | refine and_bs (by rw [hU]; simp) ?_ | refine and_two ?_ ?_)

end Go.Proofs.YtfncipdfibgefaaGreatDoor
