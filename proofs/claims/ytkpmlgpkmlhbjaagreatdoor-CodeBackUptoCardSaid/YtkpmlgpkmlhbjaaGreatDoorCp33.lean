/- Texts joined by pack.py: XCd41 XCd42 XCd43 XLx23h -/
import Derived.Test.YtkpmlgpkmlhbjaaGreatDoorCp26
import Derived.Test.YtkpmlgpkmlhbjaaGreatDoorCp32
import Derived.Test.YtkpmlgpkmlhbjaaGreatDoorCp14
import Derived.Test.YtkpmlgpkmlhbjaaGreatDoorCp21
import Derived.Test.YtkpmlgpkmlhbjaaGreatDoorCp20
namespace Go.Proofs.YtkpmlgpkmlhbjaaGreatDoor
open Go.RowKit
abbrev fmt (n : Int) : Bs := Lib.itoa n
def fnR (f : Fn) : List Bs := [f.nm, fmt f.ps, fmt f.ls, fmt f.en, fmt f.ed]
def inR (x : In) : List (List Bs) := [fmt x.op, fmt x.a, x.s] :: x.ks.map fun k => [k]
def hdR (c : Cd) : List Bs := [fmt c.fs.length, fmt c.is.length]
def recsP (c : Cd) : List (List Bs) := hdR c :: (c.fs.map fnR ++ c.is.flatMap inR)
def rowD (r : List Bs) : List D := [.sl 1 (r.map strD)]
abbrev rowsV (l : List (List Bs)) : V := .sl true 1 (l.map rowD)
structure RecOk (c : Cd) : Prop where
  len : (recsP c).length ≤ 1000000000
  fs : ∀ f ∈ c.fs, validB f.ps = true ∧ validB f.ls = true ∧ validB f.en = true ∧ validB f.ed = true
  is : ∀ x ∈ c.is, validB x.op = true ∧ validB x.a = true
theorem recs_len (c : Cd) : (recsP c).length = 1 + c.fs.length + (c.is.flatMap inR).length := by unfold recsP; simp; omega
theorem flatR_len : ∀ l : List In, l.length ≤ (l.flatMap inR).length
  | [] => Nat.le_refl _
  | x :: l => by
    have := flatR_len l
    rw [List.flatMap_cons, List.length_append]
    simp only [inR, List.length_cons]
    omega
theorem valid_i64 {n : Int} (h : validB n = true) : -9223372036854775808 ≤ n ∧ n ≤ 9223372036854775807 := by
  unfold validB at h
  simp only [Bool.and_eq_true, decide_eq_true_eq] at h
  omega
theorem valid_nat {n : Nat} (h : n ≤ 1000000000) : validB (n : Int) = true := by unfold validB; simp; omega
def recM : List (Nat × Bool) := [(2000067, false)]
set_option maxHeartbeats 8000000 in
set_option maxRecDepth 100000 in
theorem x_records (c : Cd) (hc : RecOk c) : DCalls Tryz.prog 41 [c.V] (rowsV (recsP c)) := by
  have hlf : (c.fs.map fnD).length = c.fs.length := List.length_map _
  have hli : (c.is.map inD).length = c.is.length := List.length_map _
  have hlen := hc.len
  have hrl := recs_len c
  have hfl := flatR_len c.is
  refine sxm recM Tryz.func41 (by kernel_rfl) ?_
  conv => whnf
  refine ⟨none, by kernel_rfl, ?_⟩
  conv => whnf
  rw [hlf]
  refine ⟨_, x_format c.fs.length (by omega) (by omega), ?_⟩
  conv => whnf
  rw [hli]
  refine ⟨_, x_format c.is.length (by omega) (by omega), ?_⟩
  conv => whnf
  refine ⟨_, _, ot_build1 (tokM recM) rfl rfl rfl rfl rfl rfl rfl rfl rfl rfl, ?_⟩
  conv => whnf
  refine ⟨[], Nat × List (List Bs), fun ⟨k, acc⟩ => [(23, int k), (3, .ow 19 0), (19, .un)], fun ⟨k, acc⟩ => [(19, some (.row 0 44 1 true (acc.map rowD)))], fun ⟨k, acc⟩ => k ≤ c.fs.length ∧ acc ++ ((c.fs.drop k).map fnR ++ c.is.flatMap inR) = recsP c, fun x => c.fs.length - x.1, (0, [hdR c]), ⟨Nat.zero_le _, rfl⟩, ?_, ?_⟩
  · refine ⟨rfl, ?_, ?_⟩ <;> repeat' (first | exact trivial | exact rfl | refine and_rfl ?_ | refine and_two ?_ ?_)
  rintro ⟨k, acc⟩ ⟨hk1, hk⟩
  have hal : acc.length ≤ (recsP c).length := by rw [← hk]; simp
  have hla : (acc.map rowD).length = acc.length := List.length_map _
  conv => whnf
  rintro (_ | _) h1
  · have h1 : c.fs.length ≤ k := by rw [← hlf]; simpa using h1
    rw [List.drop_eq_nil_of_le h1, List.map_nil, List.nil_append] at hk
    conv => whnf
    refine ⟨[], Nat × List (List Bs), fun ⟨k, acc⟩ => [(49, int k), (3, .ow 19 0)], fun ⟨k, acc⟩ => [(19, some (.row 0 44 1 true (acc.map rowD)))], fun ⟨k, acc⟩ => k ≤ c.is.length ∧ acc ++ ((c.is.drop k).flatMap inR) = recsP c, fun x => c.is.length - x.1, (0, acc), ⟨Nat.zero_le _, hk⟩, ?_, ?_⟩
    · refine ⟨rfl, ?_, ?_⟩ <;> repeat' (first | exact trivial | exact rfl | refine and_rfl ?_ | refine and_two ?_ ?_)
    clear hk hal hla h1
    rintro ⟨j, acc⟩ ⟨hj1, hj⟩
    have hal : acc.length ≤ (recsP c).length := by rw [← hj]; simp
    have hla : (acc.map rowD).length = acc.length := List.length_map _
    conv => whnf
    rintro (_ | _) h1
    · have h1 : c.is.length ≤ j := by rw [← hli]; simpa using h1
      rw [List.drop_eq_nil_of_le h1, List.flatMap_nil, List.append_nil] at hj
      rw [← hj]
      (conv => whnf) <;> rfl
    have h1 : j < c.is.length := by rw [← hli]; simpa using h1
    obtain ⟨v1, v2⟩ := hc.is _ (List.getElem_mem h1)
    rw [List.drop_eq_getElem_cons h1, List.flatMap_cons] at hj
    have hw : IntKind.i64.wrap (((j : Nat) : Int) + 1) = ((j + 1 : Nat) : Int) := wrap_succ (by omega)
    conv => whnf
    refine ⟨by omega, _, get_map inD h1, ?_⟩
    generalize c.is[j] = x at *
    obtain ⟨op, a, s, ks⟩ := x
    have hks : (ks.map strD).length = ks.length := List.length_map _
    have hkb : ks.length ≤ 1000000000 := by
      have := congrArg List.length hj
      simp [inR] at this
      omega
    conv => whnf
    refine ⟨none, by kernel_rfl, ?_⟩
    conv => whnf
    refine ⟨_, x_format op (valid_i64 v1).1 (valid_i64 v1).2, ?_⟩
    conv => whnf
    refine ⟨_, x_format a (valid_i64 v2).1 (valid_i64 v2).2, ?_⟩
    conv => whnf
    refine ⟨_, _, ot_build1 (tokM recM) rfl rfl rfl rfl rfl rfl rfl rfl rfl rfl, ?_⟩
    conv => whnf
    refine ⟨by rw [hla]; simp; omega, ?_⟩
    conv => whnf
    refine ⟨[], Nat × List (List Bs), fun ⟨k, acc⟩ => [(68, int k), (3, .ow 19 0), (53, .un)], fun ⟨k, acc⟩ => [(19, some (.row 0 44 1 true (acc.map rowD)))], fun ⟨k, acc⟩ => k ≤ ks.length ∧ acc ++ (((ks.drop k).map fun k => [k]) ++ (c.is.drop (j + 1)).flatMap inR) = recsP c, fun x => ks.length - x.1, (0, acc ++ [[fmt op, fmt a, s]]), ⟨Nat.zero_le _, by rw [← hj]; simp [inR]⟩, ?_, ?_⟩
    · refine ⟨rfl, ?_, ?_⟩ <;> repeat' (first | exact trivial | exact rfl | refine and_rfl ?_ | (simp [rowD, strD]; done) | refine and_two ?_ ?_)
    clear hj hal hla
    rintro ⟨q, acc⟩ ⟨hq1, hq⟩
    have hal : acc.length ≤ (recsP c).length := by rw [← hq]; simp
    have hla : (acc.map rowD).length = acc.length := List.length_map _
    conv => whnf
    rintro (_ | _) h2
    · have h2 : ks.length ≤ q := by rw [← hks]; simpa using h2
      rw [List.drop_eq_nil_of_le h2, List.map_nil, List.nil_append] at hq
      conv => whnf
      refine ⟨(j + 1, acc), ⟨h1, hq⟩, by dsimp only; omega, ?_⟩
      refine ⟨rfl, ?_, ?_⟩ <;> repeat' (first | exact trivial | exact rfl | refine and_rfl ?_ | refine and_val hw ?_ | refine and_two ?_ ?_)
    have h2 : q < ks.length := by rw [← hks]; simpa using h2
    have hw2 : IntKind.i64.wrap (((q : Nat) : Int) + 1) = ((q + 1 : Nat) : Int) := wrap_succ (by omega)
    rw [List.drop_eq_getElem_cons h2] at hq
    conv => whnf
    refine ⟨by omega, _, get_map strD h2, ?_⟩
    conv => whnf
    refine ⟨_, _, ot_build1 (tokM recM) rfl rfl rfl rfl rfl rfl rfl rfl rfl rfl, ?_⟩
    conv => whnf
    refine ⟨by rw [hla]; simp; omega, ?_⟩
    conv => whnf
    refine ⟨(q + 1, acc ++ [[ks[q]]]), ⟨h2, by rw [← hq]; simp only [List.map_cons, List.append_assoc, List.cons_append, List.nil_append]⟩, by dsimp only; omega, ?_⟩
    refine ⟨rfl, ?_, ?_⟩ <;> repeat' (first | exact trivial | exact rfl | refine and_rfl ?_ | refine and_val hw2 ?_ | (simp [rowD, strD]; done) | refine and_two ?_ ?_)
  have h1 : k < c.fs.length := by rw [← hlf]; simpa using h1
  obtain ⟨v1, v2, v3, v4⟩ := hc.fs _ (List.getElem_mem h1)
  rw [List.drop_eq_getElem_cons h1] at hk
  have hw : IntKind.i64.wrap (((k : Nat) : Int) + 1) = ((k + 1 : Nat) : Int) := wrap_succ (by omega)
  conv => whnf
  refine ⟨by omega, _, get_map fnD h1, ?_⟩
  generalize c.fs[k] = f at *
  obtain ⟨nm, ps, ls, en, ed⟩ := f
  conv => whnf
  refine ⟨none, by kernel_rfl, ?_⟩
  conv => whnf
  refine ⟨_, x_format ps (valid_i64 v1).1 (valid_i64 v1).2, ?_⟩
  conv => whnf
  refine ⟨_, x_format ls (valid_i64 v2).1 (valid_i64 v2).2, ?_⟩
  conv => whnf
  refine ⟨_, x_format en (valid_i64 v3).1 (valid_i64 v3).2, ?_⟩
  conv => whnf
  refine ⟨_, x_format ed (valid_i64 v4).1 (valid_i64 v4).2, ?_⟩
  conv => whnf
  refine ⟨_, _, ot_build1 (tokM recM) rfl rfl rfl rfl rfl rfl rfl rfl rfl rfl, ?_⟩
  conv => whnf
  refine ⟨by rw [hla]; simp; omega, ?_⟩
  conv => whnf
  refine ⟨(k + 1, acc ++ [fnR ⟨nm, ps, ls, en, ed⟩]), ⟨h1, by rw [← hk]; simp only [List.map_cons, List.append_assoc, List.cons_append, List.nil_append]⟩, by dsimp only; omega, ?_⟩
  refine ⟨rfl, ?_, ?_⟩ <;> repeat' (first | exact trivial | exact rfl | refine and_rfl ?_ | refine and_val hw ?_ | (simp [rowD, strD, fnR]; done) | refine and_two ?_ ?_)
end Go.Proofs.YtkpmlgpkmlhbjaaGreatDoor
namespace Go.Proofs.YtkpmlgpkmlhbjaaGreatDoor
open Go.RowKit
set_option maxHeartbeats 8000000 in
set_option maxRecDepth 100000 in
theorem x_rrows (c : Cd) (hc : RecOk c) : DCalls Tryz.prog 44 [c.V] (rowsV (recsP c)) := by
  have hlf : (c.fs.map fnD).length = c.fs.length := List.length_map _
  have hli : (c.is.map inD).length = c.is.length := List.length_map _
  have hlen := hc.len
  have hrl := recs_len c
  have hfl := flatR_len c.is
  refine sxm recM Tryz.func44 (by kernel_rfl) ?_
  conv => whnf
  refine ⟨none, by kernel_rfl, ?_⟩
  conv => whnf
  rw [hlf]
  refine ⟨_, x_rformatG c.fs.length (valid_nat (by omega)), ?_⟩
  conv => whnf
  rw [hli]
  refine ⟨_, x_rformatG c.is.length (valid_nat (by omega)), ?_⟩
  conv => whnf
  refine ⟨_, _, ot_build1 (tokM recM) rfl rfl rfl rfl rfl rfl rfl rfl rfl rfl, ?_⟩
  conv => whnf
  refine ⟨[], Nat × List (List Bs), fun ⟨k, acc⟩ => [(4, int k), (3, .ow 17 0), (17, .un)], fun ⟨k, acc⟩ => [(17, some (.row 0 44 1 true (acc.map rowD)))], fun ⟨k, acc⟩ => k ≤ c.fs.length ∧ acc ++ ((c.fs.drop k).map fnR ++ c.is.flatMap inR) = recsP c, fun x => c.fs.length - x.1, (0, [hdR c]), ⟨Nat.zero_le _, rfl⟩, ?_, ?_⟩
  · refine ⟨rfl, ?_, ?_⟩ <;> repeat' (first | exact trivial | exact rfl | refine and_rfl ?_ | refine and_two ?_ ?_)
  rintro ⟨k, acc⟩ ⟨hk1, hk⟩
  have hal : acc.length ≤ (recsP c).length := by rw [← hk]; simp
  have hla : (acc.map rowD).length = acc.length := List.length_map _
  conv => whnf
  rintro (_ | _) h1
  · have h1 : c.fs.length ≤ k := by rw [← hlf]; simpa using h1
    rw [List.drop_eq_nil_of_le h1, List.map_nil, List.nil_append] at hk
    conv => whnf
    refine ⟨[], Nat × List (List Bs), fun ⟨k, acc⟩ => [(6, int k), (3, .ow 17 0)], fun ⟨k, acc⟩ => [(17, some (.row 0 44 1 true (acc.map rowD)))], fun ⟨k, acc⟩ => k ≤ c.is.length ∧ acc ++ ((c.is.drop k).flatMap inR) = recsP c, fun x => c.is.length - x.1, (0, acc), ⟨Nat.zero_le _, hk⟩, ?_, ?_⟩
    · refine ⟨rfl, ?_, ?_⟩ <;> repeat' (first | exact trivial | exact rfl | refine and_rfl ?_ | refine and_two ?_ ?_)
    clear hk hal hla h1
    rintro ⟨j, acc⟩ ⟨hj1, hj⟩
    have hal : acc.length ≤ (recsP c).length := by rw [← hj]; simp
    have hla : (acc.map rowD).length = acc.length := List.length_map _
    conv => whnf
    rintro (_ | _) h1
    · have h1 : c.is.length ≤ j := by rw [← hli]; simpa using h1
      rw [List.drop_eq_nil_of_le h1, List.flatMap_nil, List.append_nil] at hj
      rw [← hj]
      (conv => whnf) <;> rfl
    have h1 : j < c.is.length := by rw [← hli]; simpa using h1
    obtain ⟨v1, v2⟩ := hc.is _ (List.getElem_mem h1)
    rw [List.drop_eq_getElem_cons h1, List.flatMap_cons] at hj
    have hw : IntKind.i64.wrap (((j : Nat) : Int) + 1) = ((j + 1 : Nat) : Int) := wrap_succ (by omega)
    have hgm := get_map inD h1
    generalize c.is[j] = x at *
    obtain ⟨op, a, s, ks⟩ := x
    have hks : (ks.map strD).length = ks.length := List.length_map _
    have hkb : ks.length ≤ 1000000000 := by
      have := congrArg List.length hj
      simp [inR] at this
      omega
    conv => whnf
    refine ⟨none, by kernel_rfl, ?_⟩
    conv => whnf
    refine ⟨by omega, _, hgm, ?_⟩
    conv => whnf
    refine ⟨_, x_rformatG op v1, ?_⟩
    conv => whnf
    refine ⟨by omega, _, hgm, ?_⟩
    conv => whnf
    refine ⟨_, x_rformatG a v2, ?_⟩
    conv => whnf
    refine ⟨by omega, _, hgm, ?_⟩
    conv => whnf
    refine ⟨_, _, ot_build1 (tokM recM) rfl rfl rfl rfl rfl rfl rfl rfl rfl rfl, ?_⟩
    conv => whnf
    refine ⟨by rw [hla]; simp; omega, ?_⟩
    conv => whnf
    refine ⟨[], Nat × List (List Bs), fun ⟨k, acc⟩ => [(7, int k), (3, .ow 17 0), (55, .un)], fun ⟨k, acc⟩ => [(17, some (.row 0 44 1 true (acc.map rowD)))], fun ⟨k, acc⟩ => k ≤ ks.length ∧ acc ++ (((ks.drop k).map fun k => [k]) ++ (c.is.drop (j + 1)).flatMap inR) = recsP c, fun x => ks.length - x.1, (0, acc ++ [[fmt op, fmt a, s]]), ⟨Nat.zero_le _, by rw [← hj]; simp [inR]⟩, ?_, ?_⟩
    · refine ⟨rfl, ?_, ?_⟩ <;> repeat' (first | exact trivial | exact rfl | refine and_rfl ?_ | (simp [rowD, strD]; done) | refine and_two ?_ ?_)
    clear hj hal hla
    rintro ⟨q, acc⟩ ⟨hq1, hq⟩
    have hal : acc.length ≤ (recsP c).length := by rw [← hq]; simp
    have hla : (acc.map rowD).length = acc.length := List.length_map _
    conv => whnf
    refine ⟨by omega, _, hgm, ?_⟩
    conv => whnf
    rintro (_ | _) h2
    · have h2 : ks.length ≤ q := by rw [← hks]; simpa using h2
      rw [List.drop_eq_nil_of_le h2, List.map_nil, List.nil_append] at hq
      conv => whnf
      refine ⟨(j + 1, acc), ⟨h1, hq⟩, by dsimp only; omega, ?_⟩
      refine ⟨rfl, ?_, ?_⟩ <;> repeat' (first | exact trivial | exact rfl | refine and_rfl ?_ | refine and_val hw ?_ | refine and_two ?_ ?_)
    have h2 : q < ks.length := by rw [← hks]; simpa using h2
    have hw2 : IntKind.i64.wrap (((q : Nat) : Int) + 1) = ((q + 1 : Nat) : Int) := wrap_succ (by omega)
    rw [List.drop_eq_getElem_cons h2] at hq
    conv => whnf
    refine ⟨by omega, _, hgm, ?_⟩
    conv => whnf
    refine ⟨by omega, _, get_map strD h2, ?_⟩
    conv => whnf
    refine ⟨_, _, ot_build1 (tokM recM) rfl rfl rfl rfl rfl rfl rfl rfl rfl rfl, ?_⟩
    conv => whnf
    refine ⟨by rw [hla]; simp; omega, ?_⟩
    conv => whnf
    refine ⟨(q + 1, acc ++ [[ks[q]]]), ⟨h2, by rw [← hq]; simp only [List.map_cons, List.append_assoc, List.cons_append, List.nil_append]⟩, by dsimp only; omega, ?_⟩
    refine ⟨rfl, ?_, ?_⟩ <;> repeat' (first | exact trivial | exact rfl | refine and_rfl ?_ | refine and_val hw2 ?_ | (simp [rowD, strD]; done) | refine and_two ?_ ?_)
  have h1 : k < c.fs.length := by rw [← hlf]; simpa using h1
  obtain ⟨v1, v2, v3, v4⟩ := hc.fs _ (List.getElem_mem h1)
  rw [List.drop_eq_getElem_cons h1] at hk
  have hw : IntKind.i64.wrap (((k : Nat) : Int) + 1) = ((k + 1 : Nat) : Int) := wrap_succ (by omega)
  conv => whnf
  refine ⟨by omega, _, get_map fnD h1, ?_⟩
  generalize c.fs[k] = f at *
  obtain ⟨nm, ps, ls, en, ed⟩ := f
  conv => whnf
  refine ⟨none, by kernel_rfl, ?_⟩
  conv => whnf
  refine ⟨_, x_rformatG ps v1, ?_⟩
  conv => whnf
  refine ⟨_, x_rformatG ls v2, ?_⟩
  conv => whnf
  refine ⟨_, x_rformatG en v3, ?_⟩
  conv => whnf
  refine ⟨_, x_rformatG ed v4, ?_⟩
  conv => whnf
  refine ⟨_, _, ot_build1 (tokM recM) rfl rfl rfl rfl rfl rfl rfl rfl rfl rfl, ?_⟩
  conv => whnf
  refine ⟨by rw [hla]; simp; omega, ?_⟩
  conv => whnf
  refine ⟨(k + 1, acc ++ [fnR ⟨nm, ps, ls, en, ed⟩]), ⟨h1, by rw [← hk]; simp only [List.map_cons, List.append_assoc, List.cons_append, List.nil_append]⟩, by dsimp only; omega, ?_⟩
  refine ⟨rfl, ?_, ?_⟩ <;> repeat' (first | exact trivial | exact rfl | refine and_rfl ?_ | refine and_val hw ?_ | (simp [rowD, strD, fnR]; done) | refine and_two ?_ ?_)
end Go.Proofs.YtkpmlgpkmlhbjaaGreatDoor
namespace Go.Proofs.YtkpmlgpkmlhbjaaGreatDoor
open Go.RowKit
theorem formed_ks {nf : Nat} {f : Fn} {x : In} (h : formedB nf f x = true) : x.ks.length ≤ 64 ∧ (x.op ≠ 12 → x.ks = []) ∧ keysB x.ks = true ∧ sB x = true := by
  obtain ⟨_, _, ho⟩ := formed_op h
  unfold formedB at h
  simp only [Bool.and_eq_true, Bool.not_eq_true', Bool.and_eq_false_iff, bne_eq_false_iff_eq, decide_eq_false_iff_not] at h
  obtain ⟨⟨⟨_, hk⟩, h1⟩, hs⟩ := h
  have h2 : x.op ≠ 12 → x.ks = [] := fun hne => List.eq_nil_of_length_eq_zero (by rcases h1 with h1 | h1 <;> omega)
  refine ⟨?_, h2, hk, hs⟩
  by_cases hx : x.op = 12
  · unfold opdB at ho
    rw [hx] at ho
    simp [bareB] at ho
    omega
  · rw [h2 hx]; simp
theorem formed_a {nf : Nat} {f : Fn} {x : In} (hn : nf ≤ 16) (hf : FnOk f) (h : formedB nf f x = true) : validB x.op = true ∧ validB x.a = true := by
  obtain ⟨o1, o2, ho⟩ := formed_op h
  have hks := (formed_ks h).1
  refine ⟨by unfold validB; simp; omega, ?_⟩
  obtain ⟨op, a, s, ks⟩ := x
  obtain ⟨l0, l1, e0, e1, e2⟩ := hf
  dsimp only at o1 o2 hks ⊢
  have hb := built_bound s
  have hh := host_bound s
  rcases op20 o1 o2 with h | h | h | h | h | h | h | h | h | h | h | h | h | h | h | h | h | h | h | h <;> subst h
  case inr.inr.inl => simpa [opdB, bareB] using ho
  all_goals
    simp [opdB, bareB] at ho
    unfold validB
    simp <;> omega
theorem flat_le : ∀ (l : List In), (∀ x ∈ l, x.ks.length ≤ 64) → (l.flatMap inR).length ≤ 65 * l.length
  | [], _ => by simp
  | x :: l, h => by
    have h1 := h x (by simp)
    have h2 := flat_le l fun y hy => h y (by simp [hy])
    rw [List.flatMap_cons, List.length_append]
    simp only [inR, List.length_cons, List.length_map]
    omega
theorem Sound.fok {c : Cd} (h : Sound c) {f : Fn} (hf : f ∈ c.fs) : FnOk f ∧ validB f.ps = true := by
  obtain ⟨q1, q2, q3, q4, _⟩ := h.chain.mem (by omega) f hf
  have := h.i4k
  unfold psB inB at q4
  simp at q4
  exact ⟨⟨by omega, by omega, q1, q2, by omega⟩, by unfold validB; simp; omega⟩
theorem Sound.ks {c : Cd} (h : Sound c) : ∀ x ∈ c.is, x.ks.length ≤ 64 := fun x hx => by
  obtain ⟨i, hi, rfl⟩ := List.getElem_of_mem hx
  obtain ⟨f, hf, _, _, _, _, _, hfo⟩ := h.cover hi
  exact (formed_ks hfo).1
theorem Sound.recOk {c : Cd} (h : Sound c) : RecOk c := by
  refine ⟨?_, fun f hf => ?_, fun x hx => ?_⟩
  · rw [recs_len]
    have := flat_le c.is h.ks
    have := h.f16
    have := h.i4k
    omega
  · obtain ⟨⟨l0, l1, e0, e1, e2⟩, hp⟩ := h.fok hf
    refine ⟨hp, ?_, ?_, ?_⟩ <;> (unfold validB; simp; omega)
  · obtain ⟨i, hi, rfl⟩ := List.getElem_of_mem hx
    obtain ⟨f, hf, _, _, _, _, _, hfo⟩ := h.cover hi
    exact formed_a h.f16 (h.fok hf).1 hfo
theorem packB_err : ∀ (l : List Bs) (acc : Bs), (packB l acc).2 = 0 ∨ packB l acc = ([], 3)
  | [], acc => .inl rfl
  | f :: l, acc => by
    unfold packB
    split
    · exact .inr rfl
    · exact packB_err l _
theorem pack_err (l : List Bs) : (packP l).2 = 0 ∨ packP l = ([], 3) := by
  unfold packP
  split
  · exact .inr rfl
  · exact packB_err l _
theorem packB_len : ∀ (l : List Bs) (acc : Bs), (packB l acc).1.length ≤ acc.length + 4002 * l.length
  | [], acc => by unfold packB; simp
  | f :: l, acc => by
    unfold packB
    split
    · simp
    · have := packB_len l (acc ++ [UInt8.ofNat (f.length / 256), UInt8.ofNat f.length] ++ f)
      simp only [List.length_append, List.length_cons, List.length_nil] at this ⊢
      omega
theorem pack_len (l : List Bs) : (packP l).1.length ≤ 300000 := by
  unfold packP
  split
  · simp
  · have := packB_len l [UInt8.ofNat l.length]
    simp only [List.length_cons, List.length_nil] at this
    omega
theorem join_err (l : List Bs) : (joinF l).2 = 0 ∨ joinF l = ([], 3) := by
  rw [joinF_eq]
  split
  · exact .inr rfl
  · exact .inl rfl
theorem rec_len (c : Cd) : ∀ r ∈ recsP c, r.length ≤ 8796093022207 := by
  intro r hm
  unfold recsP at hm
  rcases List.mem_cons.1 hm with rfl | hm
  · simp [hdR]
  rcases List.mem_append.1 hm with hm | hm
  · obtain ⟨f, _, rfl⟩ := List.mem_map.1 hm
    simp [fnR]
  · obtain ⟨x, _, hx⟩ := List.mem_flatMap.1 hm
    rw [show inR x = [fmt x.op, fmt x.a, x.s] :: x.ks.map fun k => [k] from rfl] at hx
    rcases List.mem_cons.1 hx with rfl | hx
    · simp
    · obtain ⟨s, _, rfl⟩ := List.mem_map.1 hx
      simp
def encL : List (List Bs) → List Bs → Bs × Int
  | [], acc => joinF acc
  | r :: l, acc => if (packP r).2 = 0 then encL l (acc ++ [(packP r).1]) else ([], 3)
def encP (c : Cd) : Bs × Int := if (chkP c).2 = 0 then encL (recsP c) [] else ([], (chkP c).2)
theorem encL_cons (r : List Bs) (l : List (List Bs)) (acc : List Bs) : encL (r :: l) acc = if (packP r).2 = 0 then encL l (acc ++ [(packP r).1]) else ([], 3) := rfl
theorem fin_enc {p q : Bs × Int} (h : p = q) : V.tu [bstr p.1, int p.2] = teV q := by rw [h]
set_option maxHeartbeats 4000000 in
set_option maxRecDepth 100000 in
theorem x_encode (c : Cd) (hc : CdIn c) : DCalls Tryz.prog 21 [c.V] (teV (encP c)) := by
  refine sx Tryz.func21 (by kernel_rfl) ?_
  conv => whnf
  refine ⟨_, x_check c hc, ?_⟩
  conv => whnf
  rintro (_ | _) h
  rotate_left
  · have h : (chkP c).2 ≠ 0 := by simpa using h
    conv => whnf
    exact fin_enc (p := ([], (chkP c).2)) (by unfold encP; rw [if_neg h])
  have h : (chkP c).2 = 0 := by simpa using h
  have hr := (sound_of h).1.recOk
  have hlen := hr.len
  have hlr : ((recsP c).map rowD).length = (recsP c).length := List.length_map _
  rw [show encP c = encL (recsP c) [] by unfold encP; rw [if_pos h]]
  conv => whnf
  refine ⟨_, x_records c hr, ?_⟩
  conv => whnf
  refine ⟨[(6, 38, 9, 1)], Nat × List Bs, fun ⟨k, acc⟩ => [(24, int k), (6, .ow 38 0)], fun ⟨k, acc⟩ => [(38, some (.row 0 9 1 true (acc.map strD)))], fun ⟨k, acc⟩ => k ≤ (recsP c).length ∧ acc.length ≤ k ∧ (∀ b ∈ acc, b.length ≤ 300000) ∧ encL ((recsP c).drop k) acc = encL (recsP c) [], fun x => (recsP c).length - x.1, (0, []), ⟨Nat.zero_le _, Nat.le_refl _, by simp, rfl⟩, ?_, ?_⟩
  · refine ⟨rfl, ?_, ?_⟩ <;> repeat' (first | exact trivial | exact rfl | refine and_rfl ?_ | refine and_two ?_ ?_)
  rintro ⟨k, acc⟩ ⟨hk1, hk2, hk3, hk⟩
  conv => whnf
  rintro (_ | _) h1
  · have h1 : (recsP c).length ≤ k := by rw [← hlr]; simpa using h1
    rw [List.drop_eq_nil_of_le h1] at hk
    have hk : joinF acc = encL (recsP c) [] := hk
    conv => whnf
    refine ⟨_, x_join4 acc (by omega) (fun b hb => by have := hk3 b hb; omega), ?_⟩
    conv => whnf
    rintro (_ | _) h2
    · have h2 : (joinF acc).2 = 0 := by simpa using h2
      conv => whnf
      exact fin_enc (p := ((joinF acc).1, 0)) (by rw [← hk, ← h2])
    · have h2 : (joinF acc).2 ≠ 0 := by simpa using h2
      conv => whnf
      exact fin_enc (p := ([], 3)) (by rw [← hk]; exact ((join_err acc).resolve_left h2).symm)
  have h1 : k < (recsP c).length := by rw [← hlr]; simpa using h1
  have hrl := rec_len c _ (List.getElem_mem h1)
  rw [List.drop_eq_getElem_cons h1, encL_cons] at hk
  have hw : IntKind.i64.wrap (((k : Nat) : Int) + 1) = ((k + 1 : Nat) : Int) := wrap_succ (by omega)
  have hla : (acc.map strD).length = acc.length := List.length_map _
  conv => whnf
  refine ⟨by omega, _, get_map rowD h1, ?_⟩
  generalize (recsP c)[k] = r at *
  conv => whnf
  refine ⟨_, x_pack r hrl, ?_⟩
  conv => whnf
  rintro (_ | _) h2
  rotate_left
  · have h2 : (packP r).2 ≠ 0 := by simpa using h2
    rw [if_neg h2] at hk
    conv => whnf
    exact fin_enc (p := ([], 3)) hk
  have h2 : (packP r).2 = 0 := by simpa using h2
  rw [if_pos h2] at hk
  conv => whnf
  refine ⟨by rw [hla]; simp; omega, ?_⟩
  conv => whnf
  refine ⟨(k + 1, acc ++ [(packP r).1]), ⟨h1, by simp; omega, fun b hb => by
    rcases List.mem_append.1 hb with hb | hb
    · exact hk3 b hb
    · simp at hb; subst hb; exact pack_len r, hk⟩, by dsimp only; omega, ?_⟩
  refine ⟨rfl, ?_, ?_⟩ <;> repeat' (first | exact trivial | exact rfl | refine and_rfl ?_ | refine and_val hw ?_ | (simp [strD]; done) | refine and_two ?_ ?_)
set_option maxHeartbeats 4000000 in
set_option maxRecDepth 100000 in
theorem x_rencode (c : Cd) (hc : CdIn c) : DCalls Tryz.prog 22 [c.V] (teV (encP c)) := by
  refine sx Tryz.func22 (by kernel_rfl) ?_
  conv => whnf
  refine ⟨_, x_rcheck c hc, ?_⟩
  conv => whnf
  rintro (_ | _) h
  rotate_left
  · have h : (chkP c).2 ≠ 0 := by simpa using h
    conv => whnf
    exact fin_enc (p := ([], (chkP c).2)) (by unfold encP; rw [if_neg h])
  have h : (chkP c).2 = 0 := by simpa using h
  have hr := (sound_of h).1.recOk
  have hlen := hr.len
  have hlr : ((recsP c).map rowD).length = (recsP c).length := List.length_map _
  rw [show encP c = encL (recsP c) [] by unfold encP; rw [if_pos h]]
  conv => whnf
  refine ⟨_, x_rrows c hr, ?_⟩
  conv => whnf
  refine ⟨[], Nat × List Bs, fun ⟨k, acc⟩ => [(8, int k), (7, .ow 21 0), (21, .un)], fun ⟨k, acc⟩ => [(21, some (.row 0 9 1 true (acc.map strD)))], fun ⟨k, acc⟩ => k ≤ (recsP c).length ∧ acc.length ≤ k ∧ (∀ b ∈ acc, b.length ≤ 300000) ∧ encL ((recsP c).drop k) acc = encL (recsP c) [], fun x => (recsP c).length - x.1, (0, []), ⟨Nat.zero_le _, Nat.le_refl _, by simp, rfl⟩, ?_, ?_⟩
  · refine ⟨rfl, ?_, ?_⟩ <;> repeat' (first | exact trivial | exact rfl | refine and_rfl ?_ | refine and_two ?_ ?_)
  rintro ⟨k, acc⟩ ⟨hk1, hk2, hk3, hk⟩
  conv => whnf
  rintro (_ | _) h1
  · have h1 : (recsP c).length ≤ k := by rw [← hlr]; simpa using h1
    rw [List.drop_eq_nil_of_le h1] at hk
    have hk : joinF acc = encL (recsP c) [] := hk
    conv => whnf
    refine ⟨_, x_rjoin4 acc (by omega) (fun b hb => by have := hk3 b hb; omega), ?_⟩
    conv => whnf
    exact fin_enc (p := joinF acc) hk
  have h1 : k < (recsP c).length := by rw [← hlr]; simpa using h1
  have hrl := rec_len c _ (List.getElem_mem h1)
  rw [List.drop_eq_getElem_cons h1, encL_cons] at hk
  have hw : IntKind.i64.wrap (((k : Nat) : Int) + 1) = ((k + 1 : Nat) : Int) := wrap_succ (by omega)
  have hla : (acc.map strD).length = acc.length := List.length_map _
  conv => whnf
  refine ⟨by omega, _, get_map rowD h1, ?_⟩
  generalize (recsP c)[k] = r at *
  conv => whnf
  refine ⟨_, x_rpack r hrl, ?_⟩
  conv => whnf
  rintro (_ | _) h2
  rotate_left
  · have h2 : (packP r).2 ≠ 0 := by simpa using h2
    rw [if_neg h2] at hk
    conv => whnf
    exact fin_enc (p := ([], (packP r).2)) (by rw [← hk, (pack_err r).resolve_left h2])
  have h2 : (packP r).2 = 0 := by simpa using h2
  rw [if_pos h2] at hk
  conv => whnf
  refine ⟨by rw [hla]; simp; omega, ?_⟩
  conv => whnf
  refine ⟨(k + 1, acc ++ [(packP r).1]), ⟨h1, by simp; omega, fun b hb => by
    rcases List.mem_append.1 hb with hb | hb
    · exact hk3 b hb
    · simp at hb; subst hb; exact pack_len r, hk⟩, by dsimp only; omega, ?_⟩
  refine ⟨rfl, ?_, ?_⟩ <;> repeat' (first | exact trivial | exact rfl | refine and_rfl ?_ | refine and_val hw ?_ | (simp [strD]; done) | refine and_two ?_ ?_)
end Go.Proofs.YtkpmlgpkmlhbjaaGreatDoor
namespace Go.Proofs.YtkpmlgpkmlhbjaaGreatDoor
open Go.RowKit
theorem contB_len {l : Bs} (h : contB l = true) : l.length ≤ 200 := by unfold contB at h; simp at h; exact h.1
theorem fin_te4 {t : Tok} {a : Bs} {e : Int} (h : textT t = (34 :: (a ++ [34]), e)) : V.tu [.cv (.string (⟨#[34]⟩ ++ mk a ++ ⟨#[34]⟩)), int e] = teV (textT t) := by
  rw [h, show (⟨#[34]⟩ : ByteArray) ++ mk a ++ ⟨#[34]⟩ = mk (34 :: (a ++ [34])) by rw [show (⟨#[34]⟩ : ByteArray) = mk [34] from rfl, mk_app, mk_app]; rfl]
def tmS : List (Nat × Bool) := [(142, false), (143, false)]
end Go.Proofs.YtkpmlgpkmlhbjaaGreatDoor
