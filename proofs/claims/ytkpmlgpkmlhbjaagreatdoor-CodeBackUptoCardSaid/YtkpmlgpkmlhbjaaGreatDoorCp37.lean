/- Texts joined by pack.py: XLx23 XCd48 XCd50 XCd53 XCd55 -/
import Derived.Test.YtkpmlgpkmlhbjaaGreatDoorCp34
import Derived.Test.YtkpmlgpkmlhbjaaGreatDoorCp35
import Derived.Test.YtkpmlgpkmlhbjaaGreatDoorCp36
import Derived.Test.YtkpmlgpkmlhbjaaGreatDoorCp33
import Derived.Test.YtkpmlgpkmlhbjaaGreatDoorCp24
import Derived.Test.YtkpmlgpkmlhbjaaGreatDoorCp32
namespace Go.Proofs.YtkpmlgpkmlhbjaaGreatDoor
open Go.RowKit
theorem xt_str (l : Bs) (v a : Int) (hl : l.length ≤ 1000000) : DCalls Tryz.prog 112 [(⟨4, l, v, a⟩ : Tok).V] (teV (textT ⟨4, l, v, a⟩)) := by
  cases h1 : !(mk l).toList == (⟨#[]⟩ : ByteArray).toList with
  | false => exact xt_str_a l v a hl h1
  | true =>
    cases h2 : (runL l : Int) == ((mk l).size : Int) with
    | false => exact xt_str_b l v a hl h1 h2
    | true => exact xt_str_c l v a hl h1 h2
theorem x_textOf (t : Tok) (hl : t.text.length ≤ 1000000) (hv : -9223372036854775808 ≤ t.val ∧ t.val ≤ 9223372036854775807) : DCalls Tryz.prog 112 [t.V] (teV (textT t)) := by
  obtain ⟨K, l, v, a⟩ := t
  by_cases h1 : K = 1
  · subst h1; exact xt_name l v a hl hv
  by_cases h2 : K = 2
  · subst h2; exact xt_word l v a hl hv
  by_cases h3 : K = 3
  · subst h3; exact xt_int l v a hl hv
  by_cases h4 : K = 4
  · subst h4; exact xt_str l v a hl
  by_cases h5 : K = 5
  · subst h5; exact xt_sym l v a hl hv
  by_cases h6 : K = 6
  · subst h6; exact xt_host l v a hl hv
  exact xt_no K l v a hl hv ⟨h1, h2, h3, h4, h5, h6⟩
end Go.Proofs.YtkpmlgpkmlhbjaaGreatDoor
namespace Go.Proofs.YtkpmlgpkmlhbjaaGreatDoor
open Go.RowKit
def wordsL : List Bs := [[], [110, 117, 108, 108], [98, 111, 111, 108], [105, 110, 116], [115, 116, 114], [108, 111, 97, 100], [115, 116, 111, 114, 101], [112, 111, 112], [117, 110, 97, 114, 121], [98, 105, 110, 97, 114, 121], [105, 110, 100, 101, 120], [108, 105, 115, 116], [109, 97, 112], [106, 117, 109, 112], [102, 97, 108, 115, 101], [116, 101, 115, 116], [100, 117, 112], [99, 97, 108, 108], [98, 117, 105, 108, 116], [104, 111, 115, 116], [114, 101, 116, 117, 114, 110]]
def wordB (op : Int) : Bs := wordsL.getD op.toNat []
set_option maxHeartbeats 4000000 in
set_option maxRecDepth 100000 in
theorem x_word (op : Int) (h1 : 1 ≤ op) (h2 : op ≤ 20) : DCalls Tryz.prog 75 [int op] (bstr (wordB op)) := by
  refine sx Tryz.func75 (by kernel_rfl) ?_
  rcases op20 h1 h2 with h | h | h | h | h | h | h | h | h | h | h | h | h | h | h | h | h | h | h | h <;> subst h
  all_goals conv => whnf
  all_goals refine ⟨by decide, by decide, ?_⟩
  all_goals conv => whnf
  all_goals refine ⟨_, rfl, ?_⟩
  all_goals ((conv => whnf) <;> rfl)
set_option maxHeartbeats 4000000 in
set_option maxRecDepth 100000 in
theorem x_ctoken (l : Bs) (hl : l.length ≤ 1000000) : DCalls Tryz.prog 73 [bstr l] (bstr (tokS l)) := by
  refine sx Tryz.func73 (by kernel_rfl) ?_
  conv => whnf
  refine ⟨_, x_textOf ⟨4, l, 0, 0⟩ hl (by simp), ?_⟩
  (conv => whnf) <;> rfl
def opsP (x : In) : List Bs := (if bareB x.op then [] else [fmt x.a]) ++ (if x.op == 4 then [tokS x.s] else if x.s == [] then [] else [x.s]) ++ x.ks.map tokS
def partsP (x : In) (i : Int) : List Bs := fmt i :: wordB x.op :: opsP x
def lineP (x : In) (i : Int) : Bs := joinSp (partsP x i)
theorem joinSp_snoc : ∀ (l : List Bs) (a w : Bs), joinSp (a :: l ++ [w]) = joinSp (a :: l) ++ ([32] ++ w)
  | [], a, w => by simp [joinSp]
  | b :: l, a, w => by
    have := joinSp_snoc l b w
    rw [show a :: b :: l ++ [w] = a :: b :: (l ++ [w]) from rfl]
    rw [show joinSp (a :: b :: (l ++ [w])) = a ++ 32 :: joinSp (b :: (l ++ [w])) from rfl, show joinSp (a :: b :: l) = a ++ 32 :: joinSp (b :: l) from rfl]
    rw [show b :: (l ++ [w]) = b :: l ++ [w] from rfl, this]
    simp
structure LineOk (x : In) (i : Int) : Prop where
  h1 : 1 ≤ x.op
  h2 : x.op ≤ 20
  a : validB x.a = true
  i : validB i = true
  s : x.s.length ≤ 1000
  k : ∀ b ∈ x.ks, b.length ≤ 1000
  n : x.ks.length ≤ 1000
  e : (x.op = 8 ∨ x.op = 9 ∨ x.op = 18 ∨ x.op = 19) → x.s ≠ []
  z : ¬ (x.op = 4 ∨ x.op = 8 ∨ x.op = 9 ∨ x.op = 18 ∨ x.op = 19) → x.s = []
theorem decD_len (u : Nat) (h : u ≤ 1000000000000) : (Lib.decDigits u).length ≤ 13 := decDigits_len 12 u (by omega)
theorem fmt_len {n : Int} (h : validB n = true) : (fmt n).length ≤ 14 := by
  unfold validB at h
  simp only [Bool.and_eq_true, decide_eq_true_eq] at h
  rcases Int.lt_or_le n 0 with hn | hn
  · obtain ⟨p, hp⟩ : ∃ p : Nat, n = -(p : Int) := ⟨n.natAbs, by omega⟩
    have := decD_len p (by omega)
    show (Lib.itoa n).length ≤ 14
    rw [hp, itoa_neg p (by omega), List.length_cons]; omega
  · obtain ⟨p, hp⟩ : ∃ p : Nat, n = (p : Int) := ⟨n.natAbs, by omega⟩
    have := decD_len p (by omega)
    show (Lib.itoa n).length ≤ 14
    rw [hp, Lib.itoa_nonneg]; omega
theorem tokS_len (s : Bs) (h : s.length ≤ 1000) : (tokS s).length ≤ 3000 := by
  have := textT_len ⟨4, s, 0, 0⟩
  unfold tokS
  dsimp only at this
  omega
theorem wordB_len (op : Int) : (wordB op).length ≤ 10 := by
  unfold wordB
  generalize op.toNat = n
  by_cases h : n < 21
  · have : ∀ k : Fin 21, (wordsL.getD k.val []).length ≤ 10 := by decide
    exact this ⟨n, h⟩
  · rw [List.getD_eq_getElem?_getD, List.getElem?_eq_none (by simp [wordsL]; omega)]; simp
theorem parts_len {x : In} {i : Int} (h : LineOk x i) : (∀ b ∈ partsP x i, b.length ≤ 3000) ∧ (partsP x i).length ≤ 2000 := by
  have h1 := fmt_len h.a
  have h2 := fmt_len h.i
  have h3 := wordB_len x.op
  have h4 := tokS_len x.s h.s
  have hs := h.s
  constructor
  · intro b hb
    unfold partsP opsP at hb
    simp only [List.mem_cons, List.mem_append, List.mem_map] at hb
    rcases hb with rfl | rfl | (hb | hb) | ⟨y, hy, rfl⟩
    · omega
    · omega
    · split at hb <;> simp at hb
      subst hb; omega
    · split at hb
      · simp at hb; subst hb; omega
      · split at hb <;> simp at hb
        subst hb; omega
    · exact tokS_len y (h.k y hy)
  · have := h.n
    have a1 : (if bareB x.op then ([] : List Bs) else [fmt x.a]).length ≤ 1 := by split <;> simp
    have a2 : (if x.op == 4 then [tokS x.s] else if x.s == [] then [] else [x.s]).length ≤ 1 := by
      split
      · simp
      · split <;> simp
    unfold partsP opsP
    simp only [List.length_cons, List.length_append, List.length_map]
    omega
set_option maxHeartbeats 16000000 in
set_option maxRecDepth 100000 in
theorem x_line (x : In) (i : Int) (h : LineOk x i) : DCalls Tryz.prog 51 [x.V, int i] (bstr (lineP x i)) := by
  obtain ⟨hp1, hp2⟩ := parts_len h
  have hj := joinSp_len (partsP x i) 3000 hp1
  have hjn := x_sjoin (partsP x i) (by omega) (by
    have : (partsP x i).length * (3000 + 1) ≤ 2000 * 3001 := Nat.mul_le_mul_right _ hp2
    omega)
  rw [show joinSp (partsP x i) = lineP x i from rfl] at hjn
  generalize lineP x i = L at hjn
  obtain ⟨h1, h2, ha, hi, hs, hk, hn, he, hz⟩ := h
  obtain ⟨op, a, s, ks⟩ := x
  dsimp only at h1 h2 ha hs hk hn he hz
  have hks : (ks.map strD).length = ks.length := List.length_map _
  obtain ⟨P0, hP0⟩ : ∃ P0, P0 = partsP ⟨op, a, s, []⟩ i := ⟨_, rfl⟩
  have hP : partsP ⟨op, a, s, ks⟩ i = P0 ++ ks.map tokS := by rw [hP0]; simp [partsP, opsP]
  rw [hP] at hjn hp2
  clear hP hj hp1
  refine sx Tryz.func51 (by kernel_rfl) ?_
  conv => whnf
  refine ⟨show 0 ≤ op by omega, show op.toNat < 21 by omega, ?_⟩
  rcases op20 h1 h2 with h | h | h | h | h | h | h | h | h | h | h | h | h | h | h | h | h | h | h | h <;> subst h
  all_goals conv => whnf
  all_goals refine ⟨none, by kernel_rfl, ?_⟩
  all_goals conv => whnf
  all_goals refine ⟨_, x_format i (valid_i64 hi).1 (valid_i64 hi).2, ?_⟩
  all_goals repeat ((conv => whnf); first | refine known true rfl ?_ | refine known false rfl ?_ | refine ⟨_, x_format a (valid_i64 ha).1 (valid_i64 ha).2, ?_⟩ | refine ⟨of_decide_eq_true rfl, ?_⟩ | refine ⟨_, x_ctoken s (by omega), ?_⟩)
  all_goals conv => whnf
  all_goals
    refine ⟨[], Nat × List Bs, fun ⟨k, acc⟩ => [(49, int k), (6, .ow 17 0), (17, .un), (20, .un), (25, .un), (33, .un), (38, .un), (41, .un), (45, .un)], fun ⟨k, acc⟩ => [(17, some (.row 0 9 1 true (acc.map strD)))], fun ⟨k, acc⟩ => k ≤ ks.length ∧ acc ++ (ks.drop k).map tokS = P0 ++ ks.map tokS, fun x => ks.length - x.1, (0, P0), ⟨Nat.zero_le _, by rw [List.drop_zero]⟩, ?_, ?_⟩
    · refine ⟨rfl, ?_, ?_⟩ <;> repeat' (first | exact trivial | exact rfl | refine and_rfl ?_ | (rw [hP0]; rfl) | (rw [hP0, show s = [] from hz (by decide)]; rfl) | (rw [hP0]; simp [partsP, opsP, bareB, he, strD, wordB, wordsL, mk]; done) | refine and_two ?_ ?_)
    rintro ⟨k, acc⟩ ⟨hk1, hk2⟩
    have hal : acc.length ≤ 2000 := by
      have := congrArg List.length hk2
      simp only [List.length_append] at this hp2
      omega
    have hla : (acc.map strD).length = acc.length := List.length_map _
    conv => whnf
    rintro (_ | _) k1
    · have k1 : ks.length ≤ k := by rw [← hks]; simpa using k1
      rw [List.drop_eq_nil_of_le k1, List.map_nil, List.append_nil] at hk2
      subst hk2
      conv => whnf
      refine ⟨_, hjn, ?_⟩
      (conv => whnf) <;> rfl
    have k1 : k < ks.length := by rw [← hks]; simpa using k1
    have hw : IntKind.i64.wrap (((k : Nat) : Int) + 1) = ((k + 1 : Nat) : Int) := wrap_succ (by omega)
    rw [List.drop_eq_getElem_cons k1, List.map_cons] at hk2
    have hkb := hk _ (List.getElem_mem k1)
    conv => whnf
    refine ⟨by omega, _, get_map strD k1, ?_⟩
    conv => whnf
    refine ⟨_, x_ctoken ks[k] (by omega), ?_⟩
    conv => whnf
    refine ⟨by rw [hla]; simp; omega, ?_⟩
    conv => whnf
    refine ⟨(k + 1, acc ++ [tokS ks[k]]), ⟨k1, by rw [← hk2]; simp⟩, by dsimp only; omega, ?_⟩
    refine ⟨rfl, ?_, ?_⟩ <;> repeat' (first | exact trivial | exact rfl | refine and_rfl ?_ | refine and_val hw ?_ | (simp [strD]; done) | refine and_two ?_ ?_)
end Go.Proofs.YtkpmlgpkmlhbjaaGreatDoor
namespace Go.Proofs.YtkpmlgpkmlhbjaaGreatDoor
open Go.RowKit
theorem sz32 : (⟨#[32]⟩ : ByteArray).size = 1 := rfl
theorem mk32 : (⟨#[32]⟩ : ByteArray) = mk [32] := rfl
theorem nesB {s : Bs} (h : s ≠ []) : (!((mk s).toList == (⟨#[]⟩ : ByteArray).toList)) = true := by
  rw [lit0]; simpa using h
theorem esB : (!((mk []).toList == (⟨#[]⟩ : ByteArray).toList)) = false := by rw [lit0]; rfl
theorem and_str {a b : ByteArray} {p : Prop} (e : a = b) (h : p) : V.cv (.string a) = V.cv (.string b) ∧ p := ⟨by rw [e], h⟩
set_option maxHeartbeats 16000000 in
set_option maxRecDepth 100000 in
theorem x_rline (x : In) (i : Int) (h : LineOk x i) : DCalls Tryz.prog 53 [int i, x.V] (bstr (lineP x i)) := by
  obtain ⟨hp1, hp2⟩ := parts_len h
  have hfi : (Lib.itoa i).length ≤ 14 := fmt_len h.i
  have hfa : (Lib.itoa x.a).length ≤ 14 := fmt_len h.a
  have hts := tokS_len x.s h.s
  have hwl := wordB_len x.op
  obtain ⟨h1, h2, ha, hi, hs, hk, hn, he, hz⟩ := h
  obtain ⟨op, a, s, ks⟩ := x
  dsimp only at h1 h2 ha hs hk hn he hz hfa hts hwl
  have hks : (ks.map strD).length = ks.length := List.length_map _
  have hbare := x_rbare op h1 h2
  have hword := x_word op h1 h2
  obtain ⟨P0, hP0⟩ : ∃ P0, P0 = partsP ⟨op, a, s, []⟩ i := ⟨_, rfl⟩
  have hP : partsP ⟨op, a, s, ks⟩ i = P0 ++ ks.map tokS := by rw [hP0]; simp [partsP, opsP]
  have hne : P0 ≠ [] := by rw [hP0]; simp [partsP]
  have hL : lineP ⟨op, a, s, ks⟩ i = joinSp (P0 ++ ks.map tokS) := by unfold lineP; rw [hP]
  rw [hL]
  rw [hP] at hp1 hp2
  clear hP hL
  refine sx Tryz.func53 (by kernel_rfl) ?_
  conv => whnf
  refine ⟨none, by kernel_rfl, ?_⟩
  conv => whnf
  refine ⟨_, x_rformatG i hi, ?_⟩
  rcases op20 h1 h2 with h | h | h | h | h | h | h | h | h | h | h | h | h | h | h | h | h | h | h | h <;> subst h
  all_goals simp at he
  all_goals simp at hz
  all_goals try subst hz
  all_goals repeat ((conv => whnf); first | refine known true rfl ?_ | refine known false rfl ?_ | refine known true (nesB he) ?_ | refine known false esB ?_ | refine ⟨_, hword, ?_⟩ | refine ⟨_, hbare, ?_⟩ | refine ⟨_, x_rformatG a ha, ?_⟩ | refine ⟨_, x_rtoken s (by omega), ?_⟩ | refine ⟨by (simp only [ByteArray.size_append, mk_size, sz32]; omega), ?_⟩)
  all_goals conv => whnf
  all_goals
    refine ⟨[], Nat × Bs, fun ⟨k, acc⟩ => [(8, int k), (5, bstr acc)], fun _ => [], fun ⟨k, acc⟩ => k ≤ ks.length ∧ acc = joinSp (P0 ++ (ks.take k).map tokS), fun x => ks.length - x.1, (0, joinSp P0), ⟨Nat.zero_le _, by rw [List.take_zero, List.map_nil, List.append_nil]⟩, ?_, ?_⟩
    · refine ⟨rfl, ?_, ?_⟩ <;> repeat' (first | exact trivial | exact rfl | refine and_rfl ?_ | (refine and_str (by rw [hP0]; simp only [mk32, mk_app]; simp [partsP, opsP, bareB, joinSp, he]) ?_) | (refine and_str (by rw [hP0]; simp only [mk32, mk_app]; simp [partsP, opsP, bareB, joinSp]) ?_) | refine and_two ?_ ?_)
    rintro ⟨k, acc⟩ ⟨hk1, hk2⟩
    conv => whnf
    rintro (_ | _) k1
    · have k1 : ks.length ≤ k := by rw [← hks]; simpa using k1
      rw [List.take_of_length_le k1] at hk2
      rw [← hk2]
      (conv => whnf) <;> rfl
    have k1 : k < ks.length := by rw [← hks]; simpa using k1
    have hw : IntKind.i64.wrap (((k : Nat) : Int) + 1) = ((k + 1 : Nat) : Int) := wrap_succ (by omega)
    have hkb := hk _ (List.getElem_mem k1)
    have htk := tokS_len ks[k] hkb
    have hal : acc.length ≤ 10000000 := by
      have h3 := joinSp_len (P0 ++ (ks.take k).map tokS) 3000 fun b hb => hp1 b (by
        rcases List.mem_append.1 hb with hb | hb
        · exact List.mem_append_left _ hb
        · refine List.mem_append_right _ ?_
          obtain ⟨y, hy, rfl⟩ := List.mem_map.1 hb
          exact List.mem_map.2 ⟨y, List.mem_of_mem_take hy, rfl⟩)
      have h4 : (P0 ++ (ks.take k).map tokS).length ≤ 2000 := by
        simp only [List.length_append, List.length_map, List.length_take] at hp2 ⊢
        omega
      rw [hk2]
      have : (P0 ++ (ks.take k).map tokS).length * (3000 + 1) ≤ 2000 * 3001 := Nat.mul_le_mul_right _ h4
      omega
    have hnx : joinSp (P0 ++ (ks.take (k + 1)).map tokS) = acc ++ [32] ++ tokS ks[k] := by
      rw [List.take_add_one, List.getElem?_eq_getElem k1, List.map_append, ← List.append_assoc, hk2]
      cases P0 with
      | nil => exact absurd rfl hne
      | cons p P => rw [List.cons_append, show (Option.toList (some ks[k])).map tokS = [tokS ks[k]] from rfl, joinSp_snoc]; simp
    conv => whnf
    refine ⟨by omega, _, get_map strD k1, ?_⟩
    conv => whnf
    refine ⟨_, x_rtoken ks[k] (by omega), ?_⟩
    conv => whnf
    refine ⟨by (simp only [mk_size, sz32]; omega), ?_⟩
    conv => whnf
    refine ⟨by (simp only [ByteArray.size_append, mk_size, sz32]; omega), ?_⟩
    conv => whnf
    refine ⟨(k + 1, acc ++ [32] ++ tokS ks[k]), ⟨k1, hnx.symm⟩, by dsimp only; omega, ?_⟩
    refine ⟨rfl, ?_, ?_⟩ <;> repeat' (first | exact trivial | exact rfl | refine and_rfl ?_ | refine and_val hw ?_ | (refine and_str (by simp only [mk32, mk_app]) ?_) | refine and_two ?_ ?_)
end Go.Proofs.YtkpmlgpkmlhbjaaGreatDoor
namespace Go.Proofs.YtkpmlgpkmlhbjaaGreatDoor
open Go.RowKit
def fnL (f : Fn) : Bs := [102, 117, 110, 99, 32] ++ f.nm ++ [32] ++ fmt f.ps ++ [32] ++ fmt f.ls
def insL (c : Cd) : Nat → Nat → List Bs
  | 0, _ => []
  | n + 1, i => lineP (c.is.getD i noIn) i :: insL c n (i + 1)
def fnLs (c : Cd) (f : Fn) : List Bs := fnL f :: insL c (f.ed - f.en).toNat f.en.toNat
def fmtP (c : Cd) : List Bs × Int := if (chkP c).2 = 0 then (c.fs.flatMap (fnLs c), 0) else ([], (chkP c).2)
theorem fin_fmt {p q : List Bs × Int} (h : p = q) : V.tu [.sl true 1 (p.1.map strD), int p.2] = unV q := by rw [h]
theorem idxS_mem {s : Bs} : ∀ {l : List Bs} {i : Nat}, idxS s l i ≥ 0 → s ∈ l
  | [], i, h => by simp [idxS] at h
  | a :: l, i, h => by
    unfold idxS at h
    split at h
    · rename_i he
      have he := eq_of_beq he
      subst he; simp
    · exact List.mem_cons_of_mem _ (idxS_mem h)
theorem hasS_len {s : Bs} {l : List Bs} (h : hasS s l = true) : s ∈ l := by
  unfold hasS at h
  exact idxS_mem (of_decide_eq_true h)
theorem lookT_mem {s : Bs} : ∀ {l : List (Bs × Int)}, (lookT s l).2 = true → ∃ n, (s, n) ∈ l
  | [], h => by unfold lookT at h; cases h
  | (k, n) :: l, h => by
    unfold lookT at h
    split at h
    · rename_i he
      have he : s = k := by simpa using he
      subst he
      exact ⟨n, by simp⟩
    · obtain ⟨m, hm⟩ := lookT_mem h
      exact ⟨m, List.mem_cons_of_mem _ hm⟩
theorem built_len {s : Bs} (h : (lookT s builtT).2 = true) : s ≠ [] ∧ s.length ≤ 200 := by
  obtain ⟨n, hn⟩ := lookT_mem h
  unfold builtT at hn
  simp only [List.mem_cons, Prod.mk.injEq, List.not_mem_nil, or_false] at hn
  rcases hn with ⟨rfl, _⟩ | ⟨rfl, _⟩ | ⟨rfl, _⟩ | ⟨rfl, _⟩ | ⟨rfl, _⟩ | ⟨rfl, _⟩ | ⟨rfl, _⟩ | ⟨rfl, _⟩ <;> exact ⟨by simp, by simp⟩
theorem host_len {s : Bs} (h : (lookT s hostT).2 = true) : s ≠ [] ∧ s.length ≤ 200 := by
  obtain ⟨n, hn⟩ := lookT_mem h
  unfold hostT at hn
  simp only [List.mem_cons, Prod.mk.injEq, List.not_mem_nil, or_false] at hn
  rcases hn with ⟨rfl, _⟩ | ⟨rfl, _⟩ | ⟨rfl, _⟩ | ⟨rfl, _⟩ | ⟨rfl, _⟩ | ⟨rfl, _⟩ | ⟨rfl, _⟩ | ⟨rfl, _⟩ | ⟨rfl, _⟩ | ⟨rfl, _⟩ <;> exact ⟨by simp, by simp⟩
theorem binOps_len {s : Bs} (h : s ∈ binOps) : s ≠ [] ∧ s.length ≤ 200 := by
  unfold binOps at h
  simp only [List.mem_cons, List.not_mem_nil, or_false] at h
  rcases h with rfl | rfl | rfl | rfl | rfl | rfl | rfl | rfl | rfl | rfl | rfl <;> exact ⟨by simp, by simp⟩
theorem contB200 {s : Bs} (h : contB s = true) : s.length ≤ 200 := by
  unfold contB at h
  simp only [Bool.and_eq_true, decide_eq_true_eq] at h
  exact h.1
theorem keysF_mem : ∀ (p : Option Bs) (l : List Bs), keysF p l = true → ∀ b ∈ l, contB b = true
  | _, [], _ => by simp
  | p, a :: l, h => by
    unfold keysF at h
    simp only [Bool.and_eq_true] at h
    intro b hb
    rcases List.mem_cons.1 hb with rfl | hb
    · exact h.1.1
    · exact keysF_mem _ l h.2 b hb
theorem keysB_mem {l : List Bs} (h : keysB l = true) : ∀ b ∈ l, contB b = true := by
  unfold keysB at h
  exact keysF_mem _ l h
theorem formed_line {nf : Nat} {f : Fn} {x : In} (hn : nf ≤ 16) (hf : FnOk f) (h : formedB nf f x = true) (i : Int) (hi : validB i = true) : LineOk x i := by
  obtain ⟨o1, o2, ho⟩ := formed_op h
  obtain ⟨k1, k2, k3, k4⟩ := formed_ks h
  have ha := (formed_a hn hf h).2
  have hk := keysB_mem k3
  have hkl : ∀ b ∈ x.ks, b.length ≤ 1000 := fun b hb => by have := contB200 (hk b hb); omega
  obtain ⟨op, a, s, ks⟩ := x
  dsimp only at o1 o2 k1 k4 ha hkl ho
  have hs : s.length ≤ 1000 ∧ ((op = 8 ∨ op = 9 ∨ op = 18 ∨ op = 19) → s ≠ []) ∧ (¬ (op = 4 ∨ op = 8 ∨ op = 9 ∨ op = 18 ∨ op = 19) → s = []) := by
    rcases op20 o1 o2 with h | h | h | h | h | h | h | h | h | h | h | h | h | h | h | h | h | h | h | h <;> subst h
    case inr.inr.inr.inl =>
      have := contB200 (show contB s = true from k4)
      exact ⟨by omega, by simp, by simp⟩
    case inr.inr.inr.inr.inr.inr.inr.inl =>
      have k4 : (s == [45] || s == [110, 111, 116]) = true := k4
      simp only [Bool.or_eq_true, beq_iff_eq] at k4
      rcases k4 with rfl | rfl <;> simp
    case inr.inr.inr.inr.inr.inr.inr.inr.inl =>
      obtain ⟨b1, b2⟩ := binOps_len (hasS_len (show hasS s binOps = true from k4))
      exact ⟨by omega, fun _ => b1, by simp⟩
    case inr.inr.inr.inr.inr.inr.inr.inr.inr.inr.inr.inr.inr.inr.inr.inr.inr.inl =>
      have ho : ((lookT s builtT).2 && a == (lookT s builtT).1) = true := ho
      simp only [Bool.and_eq_true] at ho
      obtain ⟨b1, b2⟩ := built_len ho.1
      exact ⟨by omega, fun _ => b1, by simp⟩
    case inr.inr.inr.inr.inr.inr.inr.inr.inr.inr.inr.inr.inr.inr.inr.inr.inr.inr.inl =>
      have ho : ((lookT s hostT).2 && a == (lookT s hostT).1) = true := ho
      simp only [Bool.and_eq_true] at ho
      obtain ⟨b1, b2⟩ := host_len ho.1
      exact ⟨by omega, fun _ => b1, by simp⟩
    all_goals
      have k4 : (s == []) = true := by simpa [sB] using k4
      have k4 : s = [] := by simpa using k4
      subst k4
      exact ⟨by simp, by simp, by simp⟩
  exact ⟨o1, o2, ha, hi, hs.1, hkl, by dsimp only; omega, hs.2.1, hs.2.2⟩
theorem insL_len (c : Cd) : ∀ (n i : Nat), (insL c n i).length = n
  | 0, _ => rfl
  | n + 1, i => by unfold insL; rw [List.length_cons, insL_len c n]
theorem fmt_cnt (c : Cd) : ∀ (l : List Fn) (e : Int), Chain c.is.length l e → ((l.flatMap (fnLs c)).length : Int) ≤ l.length + (c.is.length - e)
  | [], e, h => by have h : e = c.is.length := h; simp; omega
  | f :: l, e, h => by
    obtain ⟨h1, h2, h3, _, _, h6⟩ := h
    have := fmt_cnt c l f.ed h6
    rw [List.flatMap_cons, List.length_append, show (fnLs c f).length = (f.ed - f.en).toNat + 1 by unfold fnLs; rw [List.length_cons, insL_len], List.length_cons]
    omega
theorem fn_str (f : Fn) : (⟨#[102, 117, 110, 99, 32]⟩ : ByteArray) ++ mk f.nm ++ ⟨#[32]⟩ ++ mk (Lib.itoa f.ps) ++ ⟨#[32]⟩ ++ mk (Lib.itoa f.ls) = mk (fnL f) := by
  rw [show (⟨#[102, 117, 110, 99, 32]⟩ : ByteArray) = mk [102, 117, 110, 99, 32] from rfl]
  simp only [mk32, mk_app]
  rfl
theorem fn_row (acc : List Bs) (f : Fn) {r : List D} : acc.map strD ++ ([D.cv (.string ((⟨#[102, 117, 110, 99, 32]⟩ : ByteArray) ++ mk f.nm ++ ⟨#[32]⟩ ++ mk (Lib.itoa f.ps) ++ ⟨#[32]⟩ ++ mk (Lib.itoa f.ls)))] :: List.replicate 0 r) = (acc ++ [fnL f]).map strD := by
  rw [fn_str, List.map_append]; rfl
theorem sz5 : (⟨#[102, 117, 110, 99, 32]⟩ : ByteArray).size = 5 := rfl
theorem Sound.line {c : Cd} (h : Sound c) {f : Fn} (hf : f ∈ c.fs) {i : Nat} (hi : i < c.is.length) (h1 : f.en ≤ i) (h2 : (i : Int) < f.ed) : LineOk c.is[i] i := by
  have g1 := (insF_none _ _ (insAll_none _ h.ins f hf) i (by omega) (by omega)).1
  rw [show c.is.getD i noIn = c.is[i] by simp [hi]] at g1
  exact formed_line h.f16 (h.fok hf).1 g1 _ (valid_nat (by have := h.i4k; omega))
set_option maxHeartbeats 8000000 in
set_option maxRecDepth 100000 in
theorem x_cformat (c : Cd) (hc : CdIn c) : DCalls Tryz.prog 25 [c.V] (unV (fmtP c)) := by
  have hlf : (c.fs.map fnD).length = c.fs.length := List.length_map _
  refine sx Tryz.func25 (by kernel_rfl) ?_
  conv => whnf
  refine ⟨_, x_check c hc, ?_⟩
  conv => whnf
  rintro (_ | _) h
  rotate_left
  · have h : (chkP c).2 ≠ 0 := by simpa using h
    conv => whnf
    exact fin_fmt (p := ([], (chkP c).2)) (by unfold fmtP; rw [if_neg h])
  have h : (chkP c).2 = 0 := by simpa using h
  have hS := (sound_of h).1
  have h16 := hS.f16
  have h4k := hS.i4k
  have hcnt := fmt_cnt c c.fs 0 hS.chain
  rw [show fmtP c = (c.fs.flatMap (fnLs c), 0) by unfold fmtP; rw [if_pos h]]
  generalize hT : c.fs.flatMap (fnLs c) = T at *
  conv => whnf
  refine ⟨[(6, 40, 9, 1)], Nat × List Bs, fun ⟨k, acc⟩ => [(21, int k), (6, .ow 40 0)], fun ⟨k, acc⟩ => [(40, some (.row 0 9 1 true (acc.map strD)))], fun ⟨k, acc⟩ => k ≤ c.fs.length ∧ acc ++ (c.fs.drop k).flatMap (fnLs c) = T, fun x => c.fs.length - x.1, (0, []), ⟨Nat.zero_le _, hT⟩, ?_, ?_⟩
  · refine ⟨rfl, ?_, ?_⟩ <;> repeat' (first | exact trivial | exact rfl | refine and_rfl ?_ | refine and_two ?_ ?_)
  clear hT
  rintro ⟨k, acc⟩ ⟨hk1, hk⟩
  have hal : acc.length ≤ T.length := by rw [← hk]; simp
  have hla : (acc.map strD).length = acc.length := List.length_map _
  conv => whnf
  rintro (_ | _) k1
  · have k1 : c.fs.length ≤ k := by rw [← hlf]; simpa using k1
    rw [List.drop_eq_nil_of_le k1, List.flatMap_nil, List.append_nil] at hk
    conv => whnf
    exact fin_fmt (p := (acc, 0)) (by rw [hk])
  have k1 : k < c.fs.length := by rw [← hlf]; simpa using k1
  have hw : IntKind.i64.wrap (((k : Nat) : Int) + 1) = ((k + 1 : Nat) : Int) := wrap_succ (by omega)
  have hfm := List.getElem_mem k1
  rw [List.drop_eq_getElem_cons k1, List.flatMap_cons] at hk
  conv => whnf
  refine ⟨by omega, _, get_map fnD k1, ?_⟩
  generalize c.fs[k] = f at *
  obtain ⟨q1, q2, q3, q4, _⟩ := hS.chain.mem (by omega) f hfm
  obtain ⟨v1, v2, v3, v4⟩ := hS.recOk.fs f hfm
  have hnm := hc.nm f hfm
  have hl1 : (Lib.itoa f.ps).length ≤ 14 := fmt_len v1
  have hl2 : (Lib.itoa f.ls).length ≤ 14 := fmt_len v2
  conv => whnf
  refine ⟨none, by kernel_rfl, ?_⟩
  conv => whnf
  refine ⟨by (simp only [mk_size, sz5]; omega), ?_⟩
  conv => whnf
  refine ⟨by (simp only [ByteArray.size_append, mk_size, sz32, sz5]; omega), ?_⟩
  conv => whnf
  refine ⟨_, x_format f.ps (valid_i64 v1).1 (valid_i64 v1).2, ?_⟩
  conv => whnf
  refine ⟨by (simp only [ByteArray.size_append, mk_size, sz32, sz5]; omega), ?_⟩
  conv => whnf
  refine ⟨by (simp only [ByteArray.size_append, mk_size, sz32, sz5]; omega), ?_⟩
  conv => whnf
  refine ⟨_, x_format f.ls (valid_i64 v2).1 (valid_i64 v2).2, ?_⟩
  conv => whnf
  refine ⟨by (simp only [ByteArray.size_append, mk_size, sz32, sz5]; omega), ?_⟩
  conv => whnf
  refine ⟨by rw [hla]; simp; omega, ?_⟩
  conv => whnf
  refine ⟨[], Nat × List Bs, fun ⟨i, acc⟩ => [(9, int i), (6, .ow 40 0), (25, .un), (40, .un)], fun ⟨i, acc⟩ => [(40, some (.row 0 9 1 true (acc.map strD)))], fun ⟨i, acc⟩ => f.en ≤ i ∧ (i : Int) ≤ f.ed ∧ acc ++ (insL c (f.ed - i).toNat i ++ (c.fs.drop (k + 1)).flatMap (fnLs c)) = T, fun x => f.ed.toNat - x.1, (f.en.toNat, acc ++ [fnL f]), ⟨by omega, by omega, by rw [← hk, Int.toNat_of_nonneg q1]; simp [fnLs]⟩, ?_, ?_⟩
  · refine ⟨rfl, ?_, ?_⟩ <;> repeat' (first | exact trivial | exact rfl | refine and_rfl ?_ | refine and_val (show f.en = ((f.en.toNat : Nat) : Int) by omega) ?_ | exact fn_row _ _ | refine and_two ?_ ?_)
  clear hk hal hla
  rintro ⟨i, acc⟩ ⟨i1, i2, hi⟩
  have hal : acc.length ≤ T.length := by rw [← hi]; simp
  have hla : (acc.map strD).length = acc.length := List.length_map _
  conv => whnf
  rintro (_ | _) k2
  · have k2 : (i : Int) = f.ed := by simp at k2; omega
    rw [show (f.ed - (i : Int)).toNat = 0 by omega, show insL c 0 i = [] from rfl, List.nil_append] at hi
    conv => whnf
    refine ⟨(k + 1, acc), ⟨k1, hi⟩, by dsimp only; omega, ?_⟩
    refine ⟨rfl, ?_, ?_⟩ <;> repeat' (first | exact trivial | exact rfl | refine and_rfl ?_ | refine and_val hw ?_ | refine and_two ?_ ?_)
  have k2 : (i : Int) < f.ed := by simpa using k2
  have hil : i < c.is.length := by omega
  have hwi : IntKind.i64.wrap (((i : Nat) : Int) + 1) = ((i + 1 : Nat) : Int) := wrap_succ (by omega)
  obtain ⟨n, hn⟩ : ∃ n, (f.ed - (i : Int)).toNat = n + 1 := ⟨(f.ed - (i : Int)).toNat - 1, by omega⟩
  rw [hn, show insL c (n + 1) i = lineP (c.is.getD i noIn) i :: insL c n (i + 1) from rfl, show c.is.getD i noIn = c.is[i] by simp [hil]] at hi
  conv => whnf
  refine ⟨by omega, _, get_map inD hil, ?_⟩
  conv => whnf
  refine ⟨_, x_line c.is[i] i (hS.line hfm hil i1 k2), ?_⟩
  conv => whnf
  refine ⟨by rw [hla]; simp; omega, ?_⟩
  conv => whnf
  refine ⟨(i + 1, acc ++ [lineP c.is[i] i]), ⟨by omega, by omega, by rw [show (f.ed - ((i + 1 : Nat) : Int)).toNat = n by omega, ← hi]; simp⟩, by dsimp only; omega, ?_⟩
  refine ⟨rfl, ?_, ?_⟩ <;> repeat' (first | exact trivial | exact rfl | refine and_rfl ?_ | refine and_val hwi ?_ | (simp [strD]; done) | refine and_two ?_ ?_)
set_option maxHeartbeats 8000000 in
set_option maxRecDepth 100000 in
theorem x_rcformat (c : Cd) (hc : CdIn c) : DCalls Tryz.prog 26 [c.V] (unV (fmtP c)) := by
  have hlf : (c.fs.map fnD).length = c.fs.length := List.length_map _
  refine sx Tryz.func26 (by kernel_rfl) ?_
  conv => whnf
  refine ⟨_, x_rcheck c hc, ?_⟩
  conv => whnf
  rintro (_ | _) h
  rotate_left
  · have h : (chkP c).2 ≠ 0 := by simpa using h
    conv => whnf
    exact fin_fmt (p := ([], (chkP c).2)) (by unfold fmtP; rw [if_neg h])
  have h : (chkP c).2 = 0 := by simpa using h
  have hS := (sound_of h).1
  have h16 := hS.f16
  have h4k := hS.i4k
  have hcnt := fmt_cnt c c.fs 0 hS.chain
  rw [show fmtP c = (c.fs.flatMap (fnLs c), 0) by unfold fmtP; rw [if_pos h]]
  generalize hT : c.fs.flatMap (fnLs c) = T at *
  conv => whnf
  refine ⟨[], Nat × List Bs, fun ⟨k, acc⟩ => [(7, int k), (6, .ow 18 0), (18, .un)], fun ⟨k, acc⟩ => [(18, some (.row 0 9 1 true (acc.map strD)))], fun ⟨k, acc⟩ => k ≤ c.fs.length ∧ acc ++ (c.fs.drop k).flatMap (fnLs c) = T, fun x => c.fs.length - x.1, (0, []), ⟨Nat.zero_le _, hT⟩, ?_, ?_⟩
  · refine ⟨rfl, ?_, ?_⟩ <;> repeat' (first | exact trivial | exact rfl | refine and_rfl ?_ | refine and_two ?_ ?_)
  clear hT
  rintro ⟨k, acc⟩ ⟨hk1, hk⟩
  have hal : acc.length ≤ T.length := by rw [← hk]; simp
  have hla : (acc.map strD).length = acc.length := List.length_map _
  conv => whnf
  rintro (_ | _) k1
  · have k1 : c.fs.length ≤ k := by rw [← hlf]; simpa using k1
    rw [List.drop_eq_nil_of_le k1, List.flatMap_nil, List.append_nil] at hk
    conv => whnf
    exact fin_fmt (p := (acc, 0)) (by rw [hk])
  have k1 : k < c.fs.length := by rw [← hlf]; simpa using k1
  have hw : IntKind.i64.wrap (((k : Nat) : Int) + 1) = ((k + 1 : Nat) : Int) := wrap_succ (by omega)
  have hfm := List.getElem_mem k1
  rw [List.drop_eq_getElem_cons k1, List.flatMap_cons] at hk
  conv => whnf
  refine ⟨by omega, _, get_map fnD k1, ?_⟩
  generalize c.fs[k] = f at *
  obtain ⟨q1, q2, q3, q4, _⟩ := hS.chain.mem (by omega) f hfm
  obtain ⟨v1, v2, v3, v4⟩ := hS.recOk.fs f hfm
  have hnm := hc.nm f hfm
  have hl1 : (Lib.itoa f.ps).length ≤ 14 := fmt_len v1
  have hl2 : (Lib.itoa f.ls).length ≤ 14 := fmt_len v2
  conv => whnf
  refine ⟨none, by kernel_rfl, ?_⟩
  conv => whnf
  refine ⟨by (simp only [mk_size, sz5]; omega), ?_⟩
  conv => whnf
  refine ⟨by (simp only [ByteArray.size_append, mk_size, sz32, sz5]; omega), ?_⟩
  conv => whnf
  refine ⟨_, x_rformatG f.ps v1, ?_⟩
  conv => whnf
  refine ⟨by (simp only [ByteArray.size_append, mk_size, sz32, sz5]; omega), ?_⟩
  conv => whnf
  refine ⟨by (simp only [ByteArray.size_append, mk_size, sz32, sz5]; omega), ?_⟩
  conv => whnf
  refine ⟨_, x_rformatG f.ls v2, ?_⟩
  conv => whnf
  refine ⟨by (simp only [ByteArray.size_append, mk_size, sz32, sz5]; omega), ?_⟩
  conv => whnf
  refine ⟨by rw [hla]; simp; omega, ?_⟩
  conv => whnf
  refine ⟨[], Nat × List Bs, fun ⟨i, acc⟩ => [(9, int i), (6, .ow 18 0), (31, .un), (46, .un)], fun ⟨i, acc⟩ => [(18, some (.row 0 9 1 true (acc.map strD)))], fun ⟨i, acc⟩ => f.en ≤ i ∧ (i : Int) ≤ f.ed ∧ acc ++ (insL c (f.ed - i).toNat i ++ (c.fs.drop (k + 1)).flatMap (fnLs c)) = T, fun x => f.ed.toNat - x.1, (f.en.toNat, acc ++ [fnL f]), ⟨by omega, by omega, by rw [← hk, Int.toNat_of_nonneg q1]; simp [fnLs]⟩, ?_, ?_⟩
  · refine ⟨rfl, ?_, ?_⟩ <;> repeat' (first | exact trivial | exact rfl | refine and_rfl ?_ | refine and_val (show f.en = ((f.en.toNat : Nat) : Int) by omega) ?_ | exact fn_row _ _ | refine and_two ?_ ?_)
  clear hk hal hla
  rintro ⟨i, acc⟩ ⟨i1, i2, hi⟩
  have hal : acc.length ≤ T.length := by rw [← hi]; simp
  have hla : (acc.map strD).length = acc.length := List.length_map _
  conv => whnf
  rintro (_ | _) k2
  · have k2 : (i : Int) = f.ed := by simp at k2; omega
    rw [show (f.ed - (i : Int)).toNat = 0 by omega, show insL c 0 i = [] from rfl, List.nil_append] at hi
    conv => whnf
    refine ⟨(k + 1, acc), ⟨k1, hi⟩, by dsimp only; omega, ?_⟩
    refine ⟨rfl, ?_, ?_⟩ <;> repeat' (first | exact trivial | exact rfl | refine and_rfl ?_ | refine and_val hw ?_ | refine and_two ?_ ?_)
  have k2 : (i : Int) < f.ed := by simpa using k2
  have hil : i < c.is.length := by omega
  have hwi : IntKind.i64.wrap (((i : Nat) : Int) + 1) = ((i + 1 : Nat) : Int) := wrap_succ (by omega)
  obtain ⟨n, hn⟩ : ∃ n, (f.ed - (i : Int)).toNat = n + 1 := ⟨(f.ed - (i : Int)).toNat - 1, by omega⟩
  rw [hn, show insL c (n + 1) i = lineP (c.is.getD i noIn) i :: insL c n (i + 1) from rfl, show c.is.getD i noIn = c.is[i] by simp [hil]] at hi
  conv => whnf
  refine ⟨by omega, _, get_map inD hil, ?_⟩
  conv => whnf
  refine ⟨_, x_rline c.is[i] i (hS.line hfm hil i1 k2), ?_⟩
  conv => whnf
  refine ⟨by rw [hla]; simp; omega, ?_⟩
  conv => whnf
  refine ⟨(i + 1, acc ++ [lineP c.is[i] i]), ⟨by omega, by omega, by rw [show (f.ed - ((i + 1 : Nat) : Int)).toNat = n by omega, ← hi]; simp⟩, by dsimp only; omega, ?_⟩
  refine ⟨rfl, ?_, ?_⟩ <;> repeat' (first | exact trivial | exact rfl | refine and_rfl ?_ | refine and_val hwi ?_ | (simp [strD]; done) | refine and_two ?_ ?_)
end Go.Proofs.YtkpmlgpkmlhbjaaGreatDoor
namespace Go.Proofs.YtkpmlgpkmlhbjaaGreatDoor
open Go.RowKit
abbrev Awake : Prop := DCalls Tryz.prog 14 [] (boo true)
theorem ints_refl (l : List Int) : all2 intB l l = true := (all2_eq intB_eq).2 rfl
theorem strs_refl (l : List Bs) : all2 strB l l = true := (all2_eq strB_eq).2 rfl
theorem same_refl (c : Cd) : sameC c c = true := (sameC_eq c c).2 rfl
theorem dep_facts {c : Cd} (h : (chkP c).2 = 0) : Rw c.is.length (verP c).1 ∧ ∀ f ∈ c.fs, dAt (verP c).1 f.en.toNat = 0 ∧ ∀ i, f.en.toNat ≤ i → i < f.ed.toNat → 0 ≤ dAt (verP c).1 i → Okd c (verP c).1 i := by
  obtain ⟨hS, hd⟩ := sound_of h
  obtain ⟨h1, h2, _⟩ := depAll_spec c.fs 0 _ _ hS.chain (fun f hf => by
    obtain ⟨lo, ed, e1, e2, e3, e4, hg⟩ := hS.good f hf
    rw [show f.en.toNat = lo by omega, show f.ed.toNat = ed by omega]; exact hg) (rw_rep _) hd
  exact ⟨h1, h2⟩
theorem dep_len (c : Cd) : (verP c).1.length ≤ 4000 := by
  by_cases h : (chkP c).2 = 0
  · rw [(dep_facts h).1.len]; exact (sound_of h).1.i4k
  · rw [ver_err h]; simp
theorem tgt_len (c : Cd) : (tgtP c).length ≤ 4000 := by
  unfold tgtP
  split
  · rename_i h
    have h1 := Lib.compact_length_le ((jumps c.is).mergeSort fun x y => decide (x ≤ y))
    rw [List.length_mergeSort] at h1
    have h2 := jumps_len c.is
    have h3 := (sound_of h).1.i4k
    omega
  · simp
theorem fmt_cntP (c : Cd) : (fmtP c).1.length ≤ 4016 := by
  unfold fmtP
  split
  · rename_i h
    have hS := (sound_of h).1
    have := fmt_cnt c c.fs 0 hS.chain
    have := hS.f16
    have := hS.i4k
    dsimp only
    omega
  · simp
set_option maxHeartbeats 4000000 in
set_option maxRecDepth 100000 in
theorem x_lawChecks (haw : Awake) (c : Cd) (hc : CdIn c) : DCalls Tryz.prog 3 [c.V] (boo true) := by
  have hd := dep_len c
  refine sx Tryz.func3 (by kernel_rfl) ?_
  conv => whnf
  refine ⟨_, x_check c hc, ?_⟩
  conv => whnf
  refine ⟨_, x_rcheck c hc, ?_⟩
  conv => whnf
  refine known false (bne_self_eq_false _) ?_
  conv => whnf
  refine known false (bne_self_eq_false _) ?_
  conv => whnf
  refine ⟨_, x_depth c hc, ?_⟩
  conv => whnf
  refine ⟨_, x_rdepth c hc, ?_⟩
  conv => whnf
  refine known true (beq_self_eq_true _) ?_
  conv => whnf
  refine ⟨_, x_ints (verP c).1 (verP c).1 (by omega), ?_⟩
  rw [ints_refl]
  repeat ((conv => whnf); first | refine known true rfl ?_ | refine known false rfl ?_ | refine ⟨_, haw, ?_⟩)
  (conv => whnf) <;> rfl
set_option maxHeartbeats 4000000 in
set_option maxRecDepth 100000 in
theorem x_lawLooks (haw : Awake) (a b : Cd) (x : Bs) (ha : CdIn a) (hb : CdBig a) : DCalls Tryz.prog 4 [a.V, b.V, bstr x] (boo true) := by
  have hd := tgt_len a
  refine sx Tryz.func4 (by kernel_rfl) ?_
  conv => whnf
  refine ⟨none, by kernel_rfl, ?_⟩
  conv => whnf
  refine ⟨_, x_targets a ha, ?_⟩
  conv => whnf
  refine ⟨_, x_rtargets a ha, ?_⟩
  conv => whnf
  refine ⟨_, x_ints (tgtP a) (tgtP a) (by omega), ?_⟩
  rw [ints_refl]
  conv => whnf
  refine known true rfl ?_
  conv => whnf
  refine ⟨_, x_find a x hb.fs, ?_⟩
  conv => whnf
  refine ⟨_, x_rfind a x hb.fs, ?_⟩
  conv => whnf
  refine known true (beq_self_eq_true _) ?_
  conv => whnf
  refine ⟨_, x_sameC a b hb, ?_⟩
  conv => whnf
  refine ⟨_, x_rsameC a b hb, ?_⟩
  conv => whnf
  refine known true (beq_self_eq_true _) ?_
  conv => whnf
  refine ⟨_, x_sameC a a hb, ?_⟩
  rw [same_refl]
  repeat ((conv => whnf); first | refine known true rfl ?_ | refine known false rfl ?_ | refine ⟨_, haw, ?_⟩)
  (conv => whnf) <;> rfl
set_option maxHeartbeats 4000000 in
set_option maxRecDepth 100000 in
theorem x_lawFormats (haw : Awake) (c : Cd) (hc : CdIn c) : DCalls Tryz.prog 6 [c.V] (boo true) := by
  have hd := fmt_cntP c
  refine sx Tryz.func6 (by kernel_rfl) ?_
  conv => whnf
  refine ⟨_, x_cformat c hc, ?_⟩
  conv => whnf
  refine ⟨_, x_rcformat c hc, ?_⟩
  conv => whnf
  refine known true (beq_self_eq_true _) ?_
  conv => whnf
  refine ⟨_, x_same05 (fmtP c).1 (fmtP c).1 (by omega), ?_⟩
  rw [strs_refl]
  repeat ((conv => whnf); first | refine known true rfl ?_ | refine known false rfl ?_ | refine ⟨_, haw, ?_⟩)
  (conv => whnf) <;> rfl
set_option maxHeartbeats 4000000 in
set_option maxRecDepth 100000 in
theorem x_takes (c : Cd) (x : In) (h1 : 1 ≤ x.op) (h2 : x.op ≤ 20) (h3 : x.op = 17 → 0 ≤ x.a ∧ x.a < c.fs.length) : DCalls Tryz.prog 28 [c.V, x.V] (.tu [int (popsN c.fs x), int (pushN x)]) := by
  obtain ⟨op, a, s, ks⟩ := x
  dsimp only at h1 h2 h3
  refine sx Tryz.func28 (by kernel_rfl) ?_
  rcases op20 h1 h2 with h | h | h | h | h | h | h | h | h | h | h | h | h | h | h | h | h | h | h | h <;> subst h
  all_goals repeat ((conv => whnf); first | refine known true rfl ?_ | refine known false rfl ?_)
  all_goals try ((conv => whnf) <;> rfl)
  obtain ⟨h3, h4⟩ := h3 rfl
  obtain ⟨n, rfl⟩ : ∃ n : Nat, a = n := ⟨a.toNat, by omega⟩
  have h5 : n < c.fs.length := by omega
  conv => whnf
  refine ⟨by dsimp only; omega, _, get_map fnD h5, ?_⟩
  rw [show popsN c.fs ⟨17, n, s, ks⟩ = c.fs[n].ps by simp [popsN, h5]]
  (conv => whnf) <;> rfl
structure Way (c : Cd) (f : Fn) (d : List Int) (at_ n : Int) : Prop where
  ge : f.en ≤ at_
  lt : at_ < f.ed
  d : dAt d at_.toNat = n
  n : 0 ≤ n
theorem Way.step {c : Cd} {f : Fn} {d : List Int} {at_ n : Int} (h : Way c f d at_ n) (hd : ∀ i, f.en.toNat ≤ i → i < f.ed.toNat → 0 ≤ dAt d i → Okd c d i) (h0 : 0 ≤ f.en) (hg : Goods c f.en.toNat f.ed.toNat) (hl : f.ed ≤ c.is.length) :
    badI c d at_.toNat = false ∧ ∀ k ∈ succs (c.is.getD at_.toNat noIn) at_.toNat, Way c f d k (afterI c d at_.toNat) := by
  have h1 := h.ge
  have h2 := h.lt
  obtain ⟨o1, o2⟩ := hd at_.toNat (by omega) (by omega) (by rw [h.d]; exact h.n)
  have hil : at_.toNat < c.is.length := by omega
  have hgi := hg at_.toNat hil (by omega) (by omega)
  have hxa : c.is.getD at_.toNat noIn = c.is[at_.toNat] := by simp [hil]
  refine ⟨o1, fun k hk => ?_⟩
  have hk6 := hgi.h6 k (by rw [← hxa]; exact hk)
  have hab := after_bound (by rw [hxa]; exact hgi) (by rw [h.d]; exact h.n) o1
  exact ⟨by omega, by omega, o2 k hk, hab.1⟩
end Go.Proofs.YtkpmlgpkmlhbjaaGreatDoor
