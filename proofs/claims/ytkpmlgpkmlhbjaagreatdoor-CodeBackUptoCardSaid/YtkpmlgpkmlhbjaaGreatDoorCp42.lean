/- Texts joined by pack.py: XCd51 XCd52 XCd56 XCd57 XCd58 XCd59 -/
import Derived.Test.YtkpmlgpkmlhbjaaGreatDoorCp41
import Derived.Test.YtkpmlgpkmlhbjaaGreatDoorCp37
namespace Go.Proofs.YtkpmlgpkmlhbjaaGreatDoor
open Go.RowKit
theorem open_body (s : Bs) : (openP s).1.length ≤ s.length := by
  unfold openP
  split
  · simp
  split
  · simp
  split
  · simp
  split
  · unfold bodyP; simp; omega
  · simp
theorem split_facts : ∀ (n : Nat) (s : Bs), s.length ≤ n → 8 * (splitP s).1.length ≤ s.length ∧ ∀ b ∈ (splitP s).1, b.length ≤ s.length := by
  intro n
  induction n with
  | zero =>
    intro s h
    have : s = [] := List.eq_nil_of_length_eq_zero (by omega)
    subst this
    rw [split_nil]; simp
  | succ n ih =>
    intro s h
    by_cases ho : (openP s).2.2 = 0
    · have hl := open_len ho
      rw [split_ok ho]
      obtain ⟨h1, h2⟩ := ih (s.drop (openP s).2.1) (by rw [List.length_drop]; omega)
      rw [List.length_drop] at h1
      refine ⟨by simp only [List.length_cons]; omega, fun b hb => ?_⟩
      rcases List.mem_cons.1 hb with rfl | hb
      · exact open_body s
      · have := h2 b hb
        rw [List.length_drop] at this; omega
    · rw [split_err ho]; simp
theorem fnsQ_cons (r : List Bs) (l : List (List Bs)) (acc : List Fn) : fnsQ (r :: l) acc = if (fnP r).2 = true then fnsQ l (acc ++ [(fnP r).1]) else none := rfl
abbrev rdPV (p : Cd × Bool) : V := .tu [p.1.V, boo p.2]
theorem fin_rdp {p q : Cd × Bool} (h : p = q) : rdPV p = rdPV q := by rw [h]
theorem drop_rows (l : List (List Bs)) (k : Nat) : (((l.map rowD).take (((l.map rowD).length : Nat) : Int).toNat).drop k) = (l.drop k).map rowD := by
  rw [Int.toNat_natCast, List.take_length, List.map_drop]
theorem unpB_cnt : ∀ (n : Nat) (s : Bs) (acc : List Bs), (unpB n s acc).1.length ≤ acc.length + n
  | 0, s, acc => by
    unfold unpB
    split
    · exact Nat.le_refl _
    · simp
  | n + 1, [], acc => by unfold unpB; simp
  | n + 1, [a], acc => by unfold unpB; simp
  | n + 1, a :: b :: r, acc => by
    unfold unpB
    split
    · simp
    · split
      · simp
      · have h := unpB_cnt n (r.drop (256 * a.toNat + b.toNat)) (acc ++ [r.take (256 * a.toNat + b.toNat)])
        simp only [List.length_append, List.length_cons, List.length_nil] at h
        omega
theorem unpack_cnt (b : Bs) : (unpackP b).1.length ≤ 64 := by
  cases b with
  | nil => simp [unpackP]
  | cons c r =>
    rw [unpack_cons]
    split
    · simp
    · have h := unpB_cnt c.toNat r []
      simp only [List.length_nil] at h
      omega
set_option maxHeartbeats 8000000 in
set_option maxRecDepth 100000 in
theorem x_read (s : Bs) (hs : s.length ≤ 400000000000) : DCalls Tryz.prog 49 [bstr s] (rdPV (readP s)) := by
  obtain ⟨f1, f2⟩ := split_facts s.length s (Nat.le_refl _)
  have hbl : ((splitP s).1.map strD).length = (splitP s).1.length := List.length_map _
  refine sx Tryz.func49 (by kernel_rfl) ?_
  conv => whnf
  refine ⟨_, x_rsplit s (by omega), ?_⟩
  conv => whnf
  refine ⟨[], Nat × List (List Bs), fun ⟨k, acc⟩ => [(7, int k), (6, .ow 22 0), (22, .un)], fun ⟨k, acc⟩ => [(22, some (.row 0 44 1 true (acc.map rowD)))], fun ⟨k, acc⟩ => k ≤ (splitP s).1.length ∧ acc = ((splitP s).1.take k).map (fun b => (unpackP b).1) ∧ ((splitP s).1.take k).all (fun b => (unpackP b).2 == 0) = true, fun x => (splitP s).1.length - x.1, (0, []), ⟨Nat.zero_le _, by simp, by simp⟩, ?_, ?_⟩
  · refine ⟨rfl, ?_, ?_⟩ <;> repeat' (first | exact trivial | exact rfl | refine and_rfl ?_ | refine and_two ?_ ?_)
  rintro ⟨k, acc⟩ ⟨hk1, hk2, hk3⟩
  have hal : acc.length ≤ k := by rw [hk2]; simp; omega
  have hla : (acc.map rowD).length = acc.length := List.length_map _
  conv => whnf
  rintro (_ | _) h1
  rotate_left
  · have h1 : k < (splitP s).1.length := by rw [← hbl]; simpa using h1
    have hw : IntKind.i64.wrap (((k : Nat) : Int) + 1) = ((k + 1 : Nat) : Int) := wrap_succ (by omega)
    have htk : (splitP s).1.take (k + 1) = (splitP s).1.take k ++ [(splitP s).1[k]] := by rw [List.take_add_one, List.getElem?_eq_getElem h1]; rfl
    have hbm := f2 _ (List.getElem_mem h1)
    conv => whnf
    refine ⟨by omega, _, get_map strD h1, ?_⟩
    conv => whnf
    refine ⟨_, x_runpack (splitP s).1[k] (by omega), ?_⟩
    conv => whnf
    rintro (_ | _) h2
    rotate_left
    · have h2 : (unpackP (splitP s).1[k]).2 ≠ 0 := by simpa using h2
      have hR : readP s = (zCd, false) := by
        unfold readP
        rw [if_pos]
        cases ha : (splitP s).1.all (fun b => (unpackP b).2 == 0) with
        | false => rfl
        | true => exact absurd (by simpa using List.all_eq_true.1 ha _ (List.getElem_mem h1)) h2
      conv => whnf
      exact fin_rdp (p := (zCd, false)) hR.symm
    have h2 : (unpackP (splitP s).1[k]).2 = 0 := by simpa using h2
    conv => whnf
    refine ⟨by rw [hla]; simp; omega, ?_⟩
    conv => whnf
    refine ⟨(k + 1, acc ++ [(unpackP (splitP s).1[k]).1]), ⟨h1, by rw [htk, List.map_append, hk2]; rfl, by rw [htk, List.all_append, hk3]; simp [h2]⟩, by dsimp only; omega, ?_⟩
    refine ⟨rfl, ?_, ?_⟩ <;> repeat' (first | exact trivial | exact rfl | refine and_rfl ?_ | refine and_val hw ?_ | (simp [rowD]; done) | refine and_two ?_ ?_)
  have h1 : (splitP s).1.length ≤ k := by rw [← hbl]; simpa using h1
  rw [List.take_of_length_le h1] at hk2 hk3
  have hacc : acc = readL s := hk2
  have hall : ¬ (splitP s).1.all (fun b => (unpackP b).2 == 0) = false := by rw [hk3]; simp
  clear hk2 hk3
  have hR : readP s = if (splitP s).2 ≠ s.length ∨ acc.length < 1 ∨ (acc.getD 0 []).length ≠ 2 then (zCd, false) else if (numsP (acc.getD 0 [])).2 = false ∨ nB (gB (acc.getD 0 []) 0) < 0 ∨ nB (gB (acc.getD 0 []) 0) > acc.length - 1 then (zCd, false)
      else readQ (acc.drop (1 + (nB (gB (acc.getD 0 []) 0)).toNat)) (fnsQ ((acc.drop 1).take (nB (gB (acc.getD 0 []) 0)).toNat) []) := by
    rw [hacc]; unfold readP; rw [if_neg hall]; rfl
  have hfld : ∀ r ∈ acc, r.length ≤ 1000000 ∧ ∀ b ∈ r, b.length ≤ 281474976710656 := by
    intro r hr
    rw [hacc] at hr
    unfold readL at hr
    obtain ⟨b, _, rfl⟩ := List.mem_map.1 hr
    exact ⟨Nat.le_trans (unpack_cnt b) (by decide), fun x hx => by have := unpack_mem b x hx; omega⟩
  clear hacc hall
  conv => whnf
  rintro (_ | _) h2
  rotate_left
  · have h2 : (splitP s).2 ≠ s.length := by simp [mk_size] at h2; omega
    conv => whnf
    exact fin_rdp (p := (zCd, false)) (by rw [hR, if_pos (.inl h2)])
  have h2 : (splitP s).2 = s.length := by simp [mk_size] at h2; omega
  conv => whnf
  rintro (_ | _) h3
  rotate_left
  · have h3 : acc.length < 1 := by rw [hla] at h3; simp at h3; omega
    conv => whnf
    exact fin_rdp (p := (zCd, false)) (by rw [hR, if_pos (.inr (.inl h3))])
  have h3 : 1 ≤ acc.length := by rw [hla] at h3; simp at h3; omega
  obtain ⟨r0, l, rfl⟩ : ∃ r0 l, acc = r0 :: l := by
    cases acc with
    | nil => simp at h3
    | cons a b => exact ⟨a, b, rfl⟩
  rw [show (r0 :: l).getD 0 [] = r0 from rfl] at hR
  have hlr : (r0.map strD).length = r0.length := List.length_map _
  conv => whnf
  refine ⟨by decide, by simp, ?_⟩
  conv => whnf
  refine ⟨_, rfl, ?_⟩
  conv => whnf
  rintro (_ | _) h4
  rotate_left
  · have h4 : r0.length ≠ 2 := by rw [hlr] at h4; simp at h4; omega
    conv => whnf
    exact fin_rdp (p := (zCd, false)) (by rw [hR, if_pos (.inr (.inr h4))])
  have h4 : r0.length = 2 := by rw [hlr] at h4; simp at h4; omega
  rw [if_neg (by simp [h2, h4])] at hR
  obtain ⟨a, b, rfl⟩ := list2 h4
  obtain ⟨g1, g2⟩ := hfld [a, b] (by simp)
  conv => whnf
  refine ⟨by decide, by simp, ?_⟩
  conv => whnf
  refine ⟨_, rfl, ?_⟩
  conv => whnf
  refine ⟨_, x_numbers [a, b] (by simp) g2, ?_⟩
  conv => whnf
  rintro (_ | _) h5
  rotate_left
  · have h5 : (numsP [a, b]).2 = false := by simpa using h5
    conv => whnf
    exact fin_rdp (p := (zCd, false)) (by rw [hR, if_pos (.inl h5)])
  have h5 : (numsP [a, b]).2 = true := by simpa using h5
  have h6 : (numsP [a, b]).1 = [nB a, nB b] := by
    unfold numsP at h5 ⊢
    split at h5
    · rename_i h; rw [if_pos h]; rfl
    · cases h5
  rw [show gB [a, b] 0 = a from rfl] at hR
  rw [h6]
  conv => whnf
  refine ⟨by decide, _, rfl, ?_⟩
  conv => whnf
  rintro (_ | _) h7
  rotate_left
  · have h7 : nB a < 0 := of_decide_eq_true h7
    conv => whnf
    exact fin_rdp (p := (zCd, false)) (by rw [hR, if_pos (.inr (.inl h7))])
  have h7 : ¬ nB a < 0 := of_decide_eq_false h7
  have hll : (([a, b] :: l).map rowD).length = l.length + 1 := by simp
  have hwl : IntKind.i64.wrap (((([a, b] :: l).map rowD).length : Int) - 1) = (l.length : Int) := by rw [hll, IntWalk.i64_in _ (by simp at hal; omega)]; omega
  conv => whnf
  refine ⟨by decide, _, rfl, ?_⟩
  conv => whnf
  rw [hwl]
  rintro (_ | _) h8
  rotate_left
  · have h8 : nB a > (l.length : Int) := of_decide_eq_true h8
    conv => whnf
    exact fin_rdp (p := (zCd, false)) (by rw [hR, if_pos (.inr (.inr (by simp; exact h8)))])
  have h8 : ¬ nB a > (l.length : Int) := of_decide_eq_false h8
  rw [if_neg (by simp [h5]; omega)] at hR
  rw [show (([a, b] :: l).drop 1) = l from rfl] at hR
  have hN : ((nB a).toNat : Int) = nB a := by omega
  generalize hNn : (nB a).toNat = N at hR hN
  rw [← hN] at h8
  rw [← hN]
  have hNl : N ≤ l.length := by omega
  clear h7 h8 hNn
  rw [show 1 + N = N + 1 from Nat.add_comm 1 N, List.drop_succ_cons] at hR
  generalize hQ : fnsQ (l.take N) [] = Q at hR
  have hal2 : l.length + 1 ≤ k := hal
  conv => whnf
  refine ⟨[(1012000, 110, 50, 5)], Nat × List Fn, fun ⟨j, fs⟩ => [(13, int j)], fun ⟨j, fs⟩ => [(12, some (.box [.ow 110 0, .cv (.slice none 0 0)])), (110, some (.row 0 50 5 true (fs.map fnD)))], fun ⟨j, fs⟩ => j ≤ N ∧ fs.length ≤ j ∧ fnsQ ((l.take N).drop j) fs = Q, fun x => N - x.1, (0, []), ⟨Nat.zero_le _, Nat.le_refl _, hQ⟩, ?_, ?_⟩
  · refine ⟨rfl, ?_, ?_⟩ <;> repeat' (first | exact trivial | exact rfl | refine and_rfl ?_ | refine and_two ?_ ?_)
  clear hQ
  rintro ⟨j, fs⟩ ⟨j1, j2, j3⟩
  have hlf : (fs.map fnD).length = fs.length := List.length_map _
  have hlt : (l.take N).length = N := by rw [List.length_take]; omega
  conv => whnf
  refine ⟨by decide, _, rfl, ?_⟩
  conv => whnf
  rintro (_ | _) k1
  rotate_left
  · have k1 : (j : Int) < (N : Int) := of_decide_eq_true k1
    have k1 : j < N := by omega
    have k1' : j < (l.take N).length := by omega
    have hw : IntKind.i64.wrap (((j : Nat) : Int) + 1) = ((j + 1 : Nat) : Int) := wrap_succ (by omega)
    have hw1 : IntKind.i64.wrap (1 + ((j : Nat) : Int)) = ((j + 1 : Nat) : Int) := by rw [Int.add_comm]; exact hw
    rw [List.drop_eq_getElem_cons k1', List.getElem_take, fnsQ_cons] at j3
    have hjl : j < l.length := by omega
    have hgm : (([a, b] :: l).map rowD)[((j + 1 : Nat) : Int).toNat]? = some (rowD l[j]) := get_map rowD (l := [a, b] :: l) (k := j + 1) (by simp; omega)
    obtain ⟨q1, q2⟩ := hfld l[j] (List.mem_cons_of_mem _ (List.getElem_mem hjl))
    generalize l[j] = r at *
    conv => whnf
    refine ⟨by rw [hw1]; omega, by rw [hw1, hll]; omega, ?_⟩
    conv => whnf
    refine ⟨_, (by rw [hw1]; exact hgm), ?_⟩
    conv => whnf
    refine ⟨_, x_function r q1 q2, ?_⟩
    conv => whnf
    rintro (_ | _) m1
    rotate_left
    · have m1 : (fnP r).2 = false := by simpa using m1
      rw [if_neg (by simp [m1])] at j3
      rw [← j3] at hR
      conv => whnf
      exact fin_rdp (p := (zCd, false)) hR.symm
    have m1 : (fnP r).2 = true := by simpa using m1
    rw [if_pos m1] at j3
    conv => whnf
    refine ⟨by rw [hlf]; simp; omega, ?_⟩
    conv => whnf
    refine ⟨(j + 1, fs ++ [(fnP r).1]), ⟨k1, by simp; omega, j3⟩, by dsimp only; omega, ?_⟩
    refine ⟨rfl, ?_, ?_⟩ <;> repeat' (first | exact trivial | exact rfl | refine and_rfl ?_ | refine and_val hw ?_ | (rw [List.map_append]; rfl) | (simp [fnD]; done) | refine and_two ?_ ?_)
  have k1 : ¬ (j : Int) < (N : Int) := of_decide_eq_false k1
  have k1 : N ≤ j := by omega
  have hjN : j = N := by omega
  subst hjN
  rw [List.drop_eq_nil_of_le (by omega)] at j3
  have j3 : some fs = Q := j3
  rw [← j3] at hR
  have hw1 : IntKind.i64.wrap (1 + ((j : Nat) : Int)) = ((j + 1 : Nat) : Int) := by rw [Int.add_comm]; exact wrap_succ (by omega)
  conv => whnf
  refine ⟨by decide, _, rfl, ?_⟩
  conv => whnf
  rw [hw1]
  refine ⟨by omega, by rw [hll]; omega, Int.le_refl _, ?_⟩
  have hI := x_instructions (l.drop j) (by rw [List.length_drop]; omega) (fun r hr => hfld r (List.mem_cons_of_mem _ (List.mem_of_mem_drop hr)))
  rw [show rowsV (l.drop j) = .sl true 1 ((([a, b] :: l).map rowD).take (((([a, b] :: l).map rowD).length : Nat) : Int).toNat |>.drop (((j + 1 : Nat) : Int).toNat)) by rw [Int.toNat_natCast (j + 1), drop_rows]; rfl] at hI
  conv => whnf
  refine ⟨_, hI, ?_⟩
  conv => whnf
  exact fin_rdp (p := (⟨fs, (insQ (l.drop j).length (l.drop j) []).1⟩, (insQ (l.drop j).length (l.drop j) []).2)) hR.symm
end Go.Proofs.YtkpmlgpkmlhbjaaGreatDoor
namespace Go.Proofs.YtkpmlgpkmlhbjaaGreatDoor
open Go.RowKit
theorem gB_len {f : List Bs} (h : ∀ x ∈ f, x.length ≤ 4000) (i : Nat) : (gB f i).length ≤ 4000 := by
  unfold gB
  rw [List.getD_eq_getElem?_getD]
  cases hg : f[i]? with
  | none => simp
  | some x => exact h x (List.mem_of_getElem? hg)
theorem rdF_fld : ∀ (k : Nat) (n : Int) (l : List Bs) (bad : Bool) (acc : List Fn), (∀ f ∈ acc, f.nm.length ≤ 4000) → ∀ f ∈ (rdF k n l bad acc).1, f.nm.length ≤ 4000
  | 0, n, l, bad, acc, ha => ha
  | k + 1, n, l, bad, acc, ha => by
    by_cases h : 0 < n ∧ bad = false
    · rw [rdF_go h.1 h.2]
      refine rdF_fld k _ _ _ _ fun f hf => ?_
      rcases List.mem_append.1 hf with hf | hf
      · exact ha f hf
      · simp only [List.mem_singleton] at hf; subst hf; exact gB_len (next_fld 5 l bad) 0
    · rw [rdF_end (by cases bad <;> simp_all)]; exact ha
theorem rdK_fld : ∀ (k : Nat) (n : Int) (l : List Bs) (bad : Bool) (acc : List Bs), (∀ f ∈ acc, f.length ≤ 4000) → ∀ f ∈ (rdK k n l bad acc).1, f.length ≤ 4000
  | 0, n, l, bad, acc, ha => ha
  | k + 1, n, l, bad, acc, ha => by
    by_cases h : 0 < n ∧ bad = false
    · rw [rdK_go h.1 h.2]
      refine rdK_fld k _ _ _ _ fun f hf => ?_
      rcases List.mem_append.1 hf with hf | hf
      · exact ha f hf
      · simp only [List.mem_singleton] at hf; subst hf; exact gB_len (next_fld 1 l bad) 0
    · rw [rdK_end (by cases bad <;> simp_all)]; exact ha
def InF (M : Nat) (x : In) : Prop := x.s.length ≤ 4000 ∧ x.ks.length ≤ M ∧ ∀ b ∈ x.ks, b.length ≤ 4000
theorem rdI_fld (M : Nat) : ∀ (k : Nat) (n : Int) (l : List Bs) (bad : Bool) (acc : List In), l.length + 1 ≤ M → (∀ x ∈ acc, InF M x) → ∀ x ∈ (rdI k n l bad acc).1, InF M x
  | 0, n, l, bad, acc, _, ha => ha
  | k + 1, n, l, bad, acc, hl, ha => by
    by_cases h : 0 < n ∧ bad = false
    · obtain ⟨f, l1, b1, h3⟩ : ∃ f l1 b1, nextF 3 l bad = (f, l1, b1) := ⟨_, _, _, rfl⟩
      obtain ⟨ks, l2, b2, h4⟩ : ∃ ks l2 b2, rdX f l1 b1 = (ks, l2, b2) := ⟨_, _, _, rfl⟩
      have hf : ∀ x ∈ f, x.length ≤ 4000 := by have := next_fld 3 l bad; rw [h3] at this; exact this
      have hl1 : l1.length ≤ l.length := by have := next_le 3 l bad; rw [h3] at this; exact this
      have hk := rdK_le (l1.length + 1) (if nB (gB f 0) = 12 then nB (gB f 1) else 0) l1 (inE f b1) []
      have hkf := rdK_fld (l1.length + 1) (if nB (gB f 0) = 12 then nB (gB f 1) else 0) l1 (inE f b1) [] (by simp)
      unfold rdX at h4
      rw [h4] at hk hkf
      obtain ⟨k1, k2, _⟩ := hk
      dsimp only at k1 k2 hkf
      simp only [List.length_nil] at k2
      rw [rdI_go h.1 h.2 h3 (by unfold rdX; exact h4)]
      refine rdI_fld M k _ _ _ _ (by omega) fun x hx => ?_
      rcases List.mem_append.1 hx with hx | hx
      · exact ha x hx
      · simp only [List.mem_singleton] at hx; subst hx
        exact ⟨gB_len hf 2, by dsimp only; omega, hkf⟩
    · rw [rdI_end (by cases bad <;> simp_all)]; exact ha
theorem rdF_le : ∀ (k : Nat) (n : Int) (l : List Bs) (bad : Bool) (acc : List Fn), (rdF k n l bad acc).2.1.length ≤ l.length
  | 0, n, l, bad, acc => Nat.le_refl _
  | k + 1, n, l, bad, acc => by
    by_cases h : 0 < n ∧ bad = false
    · rw [rdF_go h.1 h.2]
      have h1 := rdF_le k (n - 1) (nextF 5 l bad).2.1 (fnE (nextF 5 l bad).1 (nextF 5 l bad).2.2) (acc ++ [fnOf (nextF 5 l bad).1])
      have h2 := next_le 5 l bad
      omega
    · rw [rdF_end (by cases bad <;> simp_all)]; exact Nat.le_refl _
theorem in_of {M : Nat} {x : In} (hM : M ≤ 8796093022207) (h : InF M x) : InOk x := ⟨by have := h.1; omega, by have := h.2.1; omega, fun b hb => by have := h.2.2 b hb; omega⟩
theorem rdC_in (l : List Bs) (bad : Bool) (hl : l.length ≤ 1000000000000) : CdIn (rdC l bad).1 := by
  constructor
  · intro f hf
    have : f.nm.length ≤ 4000 := rdF_fld _ _ _ _ _ (by simp) f hf
    omega
  · intro x hx
    have h1 : (rdFs l bad).2.1.length ≤ l.length := by
      have h1 := rdF_le (l.length + 1) (nB (gB (rdH l bad).1 0)) (rdH l bad).2.1 (rdH l bad).2.2 []
      have h2 : (rdH l bad).2.1.length ≤ l.length := next_le 2 l bad
      exact Nat.le_trans h1 h2
    exact in_of (M := l.length + 1) (by omega) (rdI_fld (l.length + 1) _ _ _ _ [] (by omega) (by simp) x hx)
theorem fnsQ_fld : ∀ (l : List (List Bs)) (acc fs : List Fn), (∀ r ∈ l, ∀ b ∈ r, b.length ≤ 4000) → (∀ f ∈ acc, f.nm.length ≤ 4000) → fnsQ l acc = some fs → ∀ f ∈ fs, f.nm.length ≤ 4000
  | [], acc, fs, _, ha, h => by cases h; exact ha
  | r :: l, acc, fs, hl, ha, h => by
    rw [fnsQ_cons] at h
    split at h
    · refine fnsQ_fld l _ fs (fun r' hr' => hl r' (by simp [hr'])) (fun f hf => ?_) h
      rcases List.mem_append.1 hf with hf | hf
      · exact ha f hf
      · simp only [List.mem_singleton] at hf; subst hf
        unfold fnP
        split
        · exact gB_len (hl r (by simp)) 0
        · simp
    · cases h
theorem keysQ_fld : ∀ (n : Nat) (l : List (List Bs)) (acc ks : List Bs) (l' : List (List Bs)), (∀ r ∈ l, ∀ b ∈ r, b.length ≤ 4000) → (∀ b ∈ acc, b.length ≤ 4000) → keysQ n l acc = some (ks, l') →
    (∀ b ∈ ks, b.length ≤ 4000) ∧ ks.length ≤ acc.length + l.length ∧ l'.length ≤ l.length ∧ ∀ r ∈ l', r ∈ l
  | 0, l, acc, ks, l', _, ha, h => by cases h; exact ⟨ha, by omega, Nat.le_refl _, fun r hr => hr⟩
  | n + 1, [], acc, ks, l', _, _, h => by cases h
  | n + 1, r :: l, acc, ks, l', hl, ha, h => by
    rw [keysQ_cons] at h
    split at h
    · obtain ⟨h1, h2, h3, h4⟩ := keysQ_fld n l _ ks l' (fun r' hr' => hl r' (by simp [hr'])) (fun f hf => by
        rcases List.mem_append.1 hf with hf | hf
        · exact ha f hf
        · simp only [List.mem_singleton] at hf; subst hf; exact gB_len (hl r (by simp)) 0) h
      simp only [List.length_append, List.length_singleton] at h2
      exact ⟨h1, by simp only [List.length_cons]; omega, by simp only [List.length_cons]; omega, fun r' hr' => List.mem_cons_of_mem _ (h4 r' hr')⟩
    · cases h
theorem insQ_fld (M : Nat) : ∀ (k : Nat) (l : List (List Bs)) (acc : List In), l.length ≤ M → (∀ r ∈ l, ∀ b ∈ r, b.length ≤ 4000) → (∀ x ∈ acc, InF M x) → ∀ x ∈ (insQ k l acc).1, InF M x
  | k, [], acc, _, _, ha => by rw [insQ_nil]; exact ha
  | 0, r :: l, acc, _, _, _ => by simp [insQ]
  | k + 1, r :: l, acc, hM, hl, ha => by
    simp only [List.length_cons] at hM
    by_cases h : r.length = 3 ∧ (numsP (r.take 2)).2 = true
    · rw [insQ_go h]
      cases hk : keysQ (kN r) l [] with
      | none => simp [insK]
      | some p =>
        obtain ⟨ks, l'⟩ := p
        obtain ⟨h1, h2, h3, h4⟩ := keysQ_fld _ _ _ _ _ (fun r' hr' => hl r' (by simp [hr'])) (by simp) hk
        show ∀ x ∈ (insQ k l' (acc ++ [⟨nB (gB r 0), nB (gB r 1), gB r 2, ks⟩])).1, InF M x
        refine insQ_fld M k l' _ (by omega) (fun r' hr' => hl r' (List.mem_cons_of_mem _ (h4 r' hr'))) fun x hx => ?_
        rcases List.mem_append.1 hx with hx | hx
        · exact ha x hx
        · simp only [List.mem_singleton] at hx; subst hx
          exact ⟨gB_len (hl r (by simp)) 2, by dsimp only; simp at h2; omega, h1⟩
    · rw [insQ_bad h]; simp
theorem zin : CdIn zCd := ⟨by simp [zCd], by simp [zCd]⟩
theorem readP_in (s : Bs) (hs : s.length ≤ 400000000000) : CdIn (readP s).1 := by
  obtain ⟨f1, _⟩ := split_facts s.length s (Nat.le_refl _)
  have hL : (readL s).length = (splitP s).1.length := List.length_map _
  have hF : ∀ r ∈ readL s, ∀ b ∈ r, b.length ≤ 4000 := by
    intro r hr
    unfold readL at hr
    obtain ⟨b, _, rfl⟩ := List.mem_map.1 hr
    exact unpack_mem b
  unfold readP
  split
  · exact zin
  split
  · exact zin
  split
  · exact zin
  cases hQ : fnsQ (((readL s).drop 1).take (readN s).toNat) [] with
  | none => exact zin
  | some fs =>
    constructor
    · intro f hf
      have : f.nm.length ≤ 4000 := fnsQ_fld _ _ _ (fun r hr => hF r (List.mem_of_mem_drop (List.mem_of_mem_take hr))) (by simp) hQ f hf
      omega
    · intro x hx
      exact in_of (M := (readL s).length) (by omega) (insQ_fld (readL s).length _ _ [] (by rw [List.length_drop]; omega) (fun r hr => hF r (List.mem_of_mem_drop hr)) (by simp) x hx)
abbrev decV (p : Cd × Int) : V := .tu [p.1.V, int p.2]
theorem fin_dec {p q : Cd × Int} (h : p = q) : decV p = decV q := by rw [h]
set_option maxHeartbeats 8000000 in
set_option maxRecDepth 100000 in
theorem x_rdecode (s : Bs) (hs : s.length ≤ 400000000000) : DCalls Tryz.prog 24 [bstr s] (decV (rdecP s)) := by
  refine sx Tryz.func24 (by kernel_rfl) ?_
  conv => whnf
  refine ⟨_, x_read s hs, ?_⟩
  have hin := readP_in s hs
  conv => whnf
  rintro (_ | _) h1
  rotate_left
  · have h1 : (readP s).2 = false := by simpa using h1
    conv => whnf
    exact fin_dec (p := (zCd, 13)) (by unfold rdecP; rw [if_pos h1])
  have h1 : (readP s).2 = true := by simpa using h1
  conv => whnf
  refine ⟨_, x_rencode (readP s).1 hin, ?_⟩
  conv => whnf
  rintro (_ | _) h2
  rotate_left
  · have h2 : (encP (readP s).1).2 ≠ 0 := by simpa using h2
    conv => whnf
    exact fin_dec (p := (zCd, 13)) (by unfold rdecP; rw [if_neg (by rw [h1]; simp), if_pos (.inl h2)])
  have h2 : (encP (readP s).1).2 = 0 := by simpa using h2
  conv => whnf
  rintro (_ | _) h3
  rotate_left
  · have h3 : (encP (readP s).1).1 ≠ s := fun h => by rw [h, beq_self_eq_true] at h3; cases h3
    conv => whnf
    exact fin_dec (p := (zCd, 13)) (by unfold rdecP; rw [if_neg (by rw [h1]; simp), if_pos (.inr h3)])
  have h3 : (encP (readP s).1).1 = s := Classical.byContradiction fun h => by rw [sne h] at h3; cases h3
  conv => whnf
  exact fin_dec (p := ((readP s).1, 0)) (by unfold rdecP; rw [if_neg (by rw [h1]; simp), if_neg (by rw [h2, h3]; simp)])
set_option maxHeartbeats 8000000 in
set_option maxRecDepth 100000 in
theorem x_decode (s : Bs) (hs : s.length ≤ 400000000000) : DCalls Tryz.prog 23 [bstr s] (decV (decP s)) := by
  obtain ⟨f1, f2⟩ := split_facts s.length s (Nat.le_refl _)
  refine sxm [(48, false)] Tryz.func23 (by kernel_rfl) ?_
  conv => whnf
  refine ⟨_, x_split s (by omega), ?_⟩
  conv => whnf
  refine mcall (T := TM [(48, false)]) (φ := []) (gf := true) (x_rcode (splitP s).1 false (fun b hb => by have := f2 b hb; omega) (by omega)) ?_
  have hin := rdC_in (splitP s).1 false (by omega)
  conv => whnf
  rintro (_ | _) h1
  rotate_left
  · conv => whnf
    exact fin_dec (p := (zCd, 13)) (by unfold decP; rw [if_pos h1])
  have h1 : (rdC (splitP s).1 false).2.2 = false := h1
  conv => whnf
  refine ⟨_, x_encode (rdC (splitP s).1 false).1 hin, ?_⟩
  conv => whnf
  rintro (_ | _) h2
  rotate_left
  · have h2 : (encP (rdC (splitP s).1 false).1).2 ≠ 0 := by simpa using h2
    conv => whnf
    exact fin_dec (p := (zCd, 13)) (by unfold decP; rw [if_neg (by rw [h1]; simp), if_pos (.inl h2)])
  have h2 : (encP (rdC (splitP s).1 false).1).2 = 0 := by simpa using h2
  conv => whnf
  rintro (_ | _) h3
  rotate_left
  · have h3 : (encP (rdC (splitP s).1 false).1).1 ≠ s := fun h => by rw [h, beq_self_eq_true] at h3; cases h3
    conv => whnf
    exact fin_dec (p := (zCd, 13)) (by unfold decP; rw [if_neg (by rw [h1]; simp), if_pos (.inr h3)])
  have h3 : (encP (rdC (splitP s).1 false).1).1 = s := Classical.byContradiction fun h => by rw [sne h] at h3; cases h3
  conv => whnf
  exact fin_dec (p := ((rdC (splitP s).1 false).1, 0)) (by unfold decP; rw [if_neg (by rw [h1]; simp), if_neg (by rw [h2, h3]; simp)])
end Go.Proofs.YtkpmlgpkmlhbjaaGreatDoor
namespace Go.Proofs.YtkpmlgpkmlhbjaaGreatDoor
open Go.RowKit
theorem big_of {c : Cd} (h : Sound c) (hc : CdIn c) : CdBig c := ⟨by have := h.f16; omega, by have := h.i4k; omega, fun x hx => (hc.ins x hx).n⟩
theorem sne_refl (a : Bs) : (!((mk a).toList == (mk a).toList)) = false := by rw [beq_self_eq_true]; rfl
set_option maxHeartbeats 4000000 in
set_option maxRecDepth 100000 in
theorem x_lawEncodes (haw : Awake) (c : Cd) (s : Bs) (hc : CdIn c) (hs : s.length ≤ 400000000000) : DCalls Tryz.prog 5 [c.V, bstr s] (boo true) := by
  have hb : CdBig (rdecP s).1 := by
    by_cases h : (rdecP s).2 = 0
    · have h2 := rdec_iff s h
      have h3 : (rdecP s).1 = (readP s).1 := by
        revert h
        unfold rdecP
        split
        · intro h; cases h
        · split
          · intro h; cases h
          · intro _; rfl
      refine big_of (enc_of h2).sound ?_
      rw [h3]; exact readP_in s hs
    · rw [rdec_err s h]; exact ⟨by simp [zCd], by simp [zCd], by simp [zCd]⟩
  refine sx Tryz.func5 (by kernel_rfl) ?_
  conv => whnf
  refine ⟨_, x_encode c hc, ?_⟩
  conv => whnf
  refine ⟨_, x_rencode c hc, ?_⟩
  conv => whnf
  refine known false (bne_self_eq_false _) ?_
  conv => whnf
  refine known false (sne_refl _) ?_
  conv => whnf
  refine ⟨_, x_decode s hs, ?_⟩
  rw [dec_same s]
  conv => whnf
  refine ⟨_, x_rdecode s hs, ?_⟩
  conv => whnf
  refine known true (beq_self_eq_true _) ?_
  conv => whnf
  refine ⟨_, x_rsameC (rdecP s).1 (rdecP s).1 hb, ?_⟩
  rw [same_refl]
  repeat ((conv => whnf); first | refine known true rfl ?_ | refine known false rfl ?_ | refine ⟨_, haw, ?_⟩)
  (conv => whnf) <;> rfl
end Go.Proofs.YtkpmlgpkmlhbjaaGreatDoor
namespace Go.Proofs.YtkpmlgpkmlhbjaaGreatDoor
open Go.RowKit
theorem encL_len : ∀ (l : List (List Bs)) (acc : List Bs), (encL l acc).1.length ≤ 262144
  | [], acc => by
    show (joinF acc).1.length ≤ _
    rw [joinF_eq]
    split
    · simp
    · show (frames acc).length ≤ _
      rw [frames_len]; omega
  | r :: l, acc => by
    rw [encL_cons]
    split
    · exact encL_len l _
    · simp
theorem enc_len (c : Cd) : (encP c).1.length ≤ 262144 := by
  unfold encP
  split
  · exact encL_len _ _
  · simp
theorem jump_reached {c : Cd} (h : (chkP c).2 = 0) {i : Nat} (hi : i < c.is.length) (hj : c.is[i].op = 13 ∨ c.is[i].op = 14) (hd : 0 ≤ dAt (verP c).1 i) :
    0 ≤ c.is[i].a ∧ c.is[i].a < c.is.length ∧ 0 ≤ dAt (verP c).1 c.is[i].a.toNat := by
  obtain ⟨hS, _⟩ := sound_of h
  obtain ⟨f, hf, f1, f2, f3, f4, hg, _⟩ := hS.cover hi
  obtain ⟨o1, o2⟩ := ((dep_facts h).2 f hf).2 i (by omega) (by omega) hd
  have hx : c.is.getD i noIn = c.is[i] := by simp [hi]
  have hab := after_bound (by rw [hx]; exact hg) hd o1
  have hm : c.is[i].a ∈ succs c.is[i] i := by
    unfold succs
    rcases hj with hj | hj <;> rw [hj] <;> simp
  have h6 := hg.h6 _ hm
  rw [hx] at o2
  exact ⟨by omega, by omega, by rw [o2 _ hm]; exact hab.1⟩
theorem dAt_get {d : List Int} {i : Nat} (h : i < d.length) : dAt d i = d[i] := by unfold dAt; simp [h]
set_option maxHeartbeats 16000000 in
set_option maxRecDepth 100000 in
theorem x_lawBack (haw : Awake) (c : Cd) (s : Bs) (hc : CdIn c) (hs : s.length ≤ 400000000000) : DCalls Tryz.prog 8 [c.V, bstr s] (boo true) := by
  have hel := enc_len c
  have hD : (decP s).2 = 0 → encP (decP s).1 = (s, 0) ∧ CdIn (decP s).1 := fun h => by
    refine ⟨dec_iff s h, ?_⟩
    revert h
    unfold decP
    split
    · intro h; cases h
    · split
      · intro h; cases h
      · intro _; exact rdC_in _ _ (by have := (split_facts s.length s (Nat.le_refl _)).1; omega)
  refine sx Tryz.func8 (by kernel_rfl) ?_
  conv => whnf
  refine ⟨_, x_encode c hc, ?_⟩
  conv => whnf
  rintro (_ | _) h1
  rotate_left
  have h1 : (encP c).2 = 0 := by simpa using h1
  have hE : decP (encP c).1 = (c, 0) := (dec_enc (t := (encP c).1) (Prod.ext rfl h1)).1
  have hb : CdBig c := big_of (enc_of (Prod.ext rfl h1)).sound hc
  conv => whnf
  refine ⟨_, x_decode (encP c).1 (by omega), ?_⟩
  rw [hE]
  conv => whnf
  refine known false rfl ?_
  conv => whnf
  refine ⟨_, x_sameC c c hb, ?_⟩
  rw [same_refl]
  conv => whnf
  refine known false rfl ?_
  all_goals ((conv => whnf); refine ⟨_, x_decode s hs, ?_⟩)
  all_goals ((conv => whnf); rintro (_ | _) h2)
  all_goals try (have h2 : (decP s).2 = 0 := by simpa using h2
                 (conv => whnf)
                 refine ⟨_, x_encode (decP s).1 (hD h2).2, ?_⟩
                 rw [(hD h2).1]
                 (conv => whnf)
                 refine known false rfl ?_
                 (conv => whnf)
                 refine known false (sne_refl _) ?_)
  all_goals ((conv => whnf); refine ⟨_, x_depth c hc, ?_⟩)
  all_goals ((conv => whnf); rintro (_ | _) h3)
  all_goals try (have h3 : ((chkP c).2 != 0) = true := h3
                 (conv => whnf)
                 refine ⟨_, haw, ?_⟩
                 (conv => whnf) <;> rfl)
  all_goals
    have h3 : (chkP c).2 = 0 := by simpa using (show ((chkP c).2 != 0) = false from h3)
    have hdl : (verP c).1.length = c.is.length := (dep_facts h3).1.len
    have hi4 := (sound_of h3).1.i4k
    have hJ : ∀ (i : Nat) (hi : i < c.is.length), c.is[i].op = 13 ∨ c.is[i].op = 14 → 0 ≤ (verP c).1[i]'(by omega) → ∃ n : Nat, c.is[i].a = n ∧ ∃ hn : n < c.is.length, 0 ≤ (verP c).1[n]'(by omega) := fun i hi hj hd => by
      obtain ⟨a1, a2, a3⟩ := jump_reached h3 hi hj (by rw [dAt_get (by omega)]; exact hd)
      obtain ⟨n, hn⟩ : ∃ n : Nat, c.is[i].a = n := ⟨c.is[i].a.toNat, by omega⟩
      rw [hn] at a2 a3
      rw [Int.toNat_natCast] at a3
      exact ⟨n, hn, by omega, by rw [dAt_get (by omega)] at a3; exact a3⟩
    have hli : (c.is.map inD).length = c.is.length := List.length_map _
    have hld : ((verP c).1.map intD).length = (verP c).1.length := List.length_map _
    (conv => whnf)
    refine ⟨[], Nat, fun k => [(13, int k)], fun _ => [], fun k => k ≤ c.is.length, fun k => c.is.length - k, 0, Nat.zero_le _, ?_, ?_⟩
    · refine ⟨rfl, ?_, ?_⟩ <;> repeat' (first | exact trivial | exact rfl | refine and_rfl ?_ | refine and_two ?_ ?_)
    rintro k hk
    (conv => whnf)
    rintro (_ | _) g0
    · (conv => whnf)
      refine ⟨_, haw, ?_⟩
      (conv => whnf) <;> rfl
    have g0 : k < c.is.length := by rw [hli] at g0; simpa using g0
    have hw : IntKind.i64.wrap (((k : Nat) : Int) + 1) = ((k + 1 : Nat) : Int) := wrap_succ (by omega)
    have hgi := get_map inD g0
    have hgd := get_map intD (l := (verP c).1) (k := k) (by omega)
    have hjk := hJ k g0
    generalize (verP c).1[k] = dk at hgd hjk
    generalize c.is[k] = x at hgi hjk
    obtain ⟨op, a, xs, ks⟩ := x
    dsimp only at hjk
    (conv => whnf)
    refine ⟨by omega, _, hgi, ?_⟩
    (conv => whnf)
    rintro (_ | _) g1
    · (conv => whnf)
      refine ⟨by omega, _, hgi, ?_⟩
      (conv => whnf)
      rintro (_ | _) g2
      · (conv => whnf)
        refine ⟨k + 1, g0, by dsimp only; omega, ?_⟩
        refine ⟨rfl, ?_, ?_⟩ <;> repeat' (first | exact trivial | exact rfl | refine and_rfl ?_ | refine and_val hw ?_ | refine and_two ?_ ?_)
      have g2 : op = 14 := by simpa using g2
      (conv => whnf)
      refine ⟨by omega, _, hgd, ?_⟩
      (conv => whnf)
      rintro (_ | _) g3
      · (conv => whnf)
        refine ⟨k + 1, g0, by dsimp only; omega, ?_⟩
        refine ⟨rfl, ?_, ?_⟩ <;> repeat' (first | exact trivial | exact rfl | refine and_rfl ?_ | refine and_val hw ?_ | refine and_two ?_ ?_)
      have g3 : 0 ≤ dk := of_decide_eq_true g3
      obtain ⟨n, hn, hn2, h0⟩ := hjk (.inr g2) g3
      have hn : a = n := hn
      subst hn
      have hgn := get_map intD (l := (verP c).1) (k := n) (by omega)
      (conv => whnf)
      refine ⟨by omega, _, hgi, ?_⟩
      (conv => whnf)
      refine ⟨Int.natCast_nonneg n, _, hgn, ?_⟩
      (conv => whnf)
      refine known false (decide_eq_false (by omega)) ?_
      (conv => whnf)
      refine ⟨k + 1, g0, by dsimp only; omega, ?_⟩
      refine ⟨rfl, ?_, ?_⟩ <;> repeat' (first | exact trivial | exact rfl | refine and_rfl ?_ | refine and_val hw ?_ | refine and_two ?_ ?_)
    have g1 : op = 13 := by simpa using g1
    (conv => whnf)
    refine ⟨by omega, _, hgd, ?_⟩
    (conv => whnf)
    rintro (_ | _) g3
    · (conv => whnf)
      refine ⟨k + 1, g0, by dsimp only; omega, ?_⟩
      refine ⟨rfl, ?_, ?_⟩ <;> repeat' (first | exact trivial | exact rfl | refine and_rfl ?_ | refine and_val hw ?_ | refine and_two ?_ ?_)
    have g3 : 0 ≤ dk := of_decide_eq_true g3
    obtain ⟨n, hn, hn2, h0⟩ := hjk (.inl g1) g3
    have hn : a = n := hn
    subst hn
    have hgn := get_map intD (l := (verP c).1) (k := n) (by omega)
    (conv => whnf)
    refine ⟨by omega, _, hgi, ?_⟩
    (conv => whnf)
    refine ⟨Int.natCast_nonneg n, _, hgn, ?_⟩
    (conv => whnf)
    refine known false (decide_eq_false (by omega)) ?_
    (conv => whnf)
    refine ⟨k + 1, g0, by dsimp only; omega, ?_⟩
    refine ⟨rfl, ?_, ?_⟩ <;> repeat' (first | exact trivial | exact rfl | refine and_rfl ?_ | refine and_val hw ?_ | refine and_two ?_ ?_)
end Go.Proofs.YtkpmlgpkmlhbjaaGreatDoor
namespace Go.Proofs.YtkpmlgpkmlhbjaaGreatDoor
open Go.RowKit
def iO (op : Int) : In := ⟨op, 0, [], []⟩
def exA : Cd := oneC [iO 5, iO 20]
def exB : Cd := oneC [iO 1, iO 1, iO 20]
def exC : Cd := oneC [iO 1, iO 14, iO 1, iO 20]
def exD : Cd := oneC [iO 1, iO 13]
def exF : Cd := oneC [⟨4, 0, [97], []⟩, ⟨12, 1, [], [[107]]⟩, ⟨8, 0, [45], []⟩, iO 20]
theorem depA : depP exA = ([0, 1], 0) := by kernel_rfl
theorem depC : depP exC = ([0, 1, 0, 1], 0) := by kernel_rfl
theorem chkA : (chkP exA).2 = 0 := by kernel_rfl
theorem chkB : chkP exB = (2, 21) := by kernel_rfl
theorem chkD : chkP exD = (0, 21) := by kernel_rfl
theorem chkC : (chkP exC).2 = 0 := by kernel_rfl
theorem fndA : findF [109, 97, 105, 110] exA.fs 0 = 0 := by kernel_rfl
theorem fndB : findF [102] exA.fs 0 = -1 := by kernel_rfl
theorem sameAB : sameC exA exB = false := by kernel_rfl
theorem tgtC : tgtP exC = [0] := by
  unfold tgtP
  rw [if_pos chkC, show jumps exC.is = [0] by kernel_rfl, List.mergeSort_singleton]
  kernel_rfl
theorem fmtF : fmtP exF = ([[102, 117, 110, 99, 32, 109, 97, 105, 110, 32, 49, 32, 49], [48, 32, 115, 116, 114, 32, 34, 97, 34], [49, 32, 109, 97, 112, 32, 49, 32, 34, 107, 34], [50, 32, 117, 110, 97, 114, 121, 32, 45], [51, 32, 114, 101, 116, 117, 114, 110]], 0) := by kernel_rfl
theorem encA : (encP exA).2 = 0 := by kernel_rfl
theorem split_frames_app : ∀ (l : List Bs) (r : Bs), (∀ b ∈ l, b.length ≤ 262136) → (openP r).2.2 ≠ 0 → splitP (frames l ++ r) = (l, (frames l).length)
  | [], r, _, hr => by
    show splitP r = ([], 0)
    exact split_err hr
  | b :: l, r, h, hr => by
    have hb := h b (by simp)
    have ho := open_frame (b := b) (r := frames l ++ r) hb
    have hs := split_frames_app l r (fun x hx => h x (by simp [hx])) hr
    rw [show frames (b :: l) ++ r = (four b.length ++ (four (crc b) ++ b)) ++ (frames l ++ r) by rw [← List.append_assoc]; rfl, split_ok (by rw [ho]), ho]
    have hd : ((four b.length ++ (four (crc b) ++ b)) ++ (frames l ++ r)).drop (8 + b.length) = frames l ++ r := List.drop_left' (frame_len b)
    simp only [hd, hs]
    rw [show frames (b :: l) = (four b.length ++ (four (crc b) ++ b)) ++ frames l from rfl, List.length_append, frame_len]
theorem decX : decP ((encP exA).1 ++ [120]) = (zCd, 13) := by
  refine dec_err _ fun h => ?_
  have h1 := (enc_of (dec_iff _ h)).split
  have hE : Enc exA (encP exA).1 := enc_of (Prod.ext rfl encA)
  rw [show (encP exA).1 ++ [120] = frames ((recsP exA).map packed) ++ [120] by rw [← hE.eq], split_frames_app _ [120] (fun b hb => by
    obtain ⟨r, hr, rfl⟩ := List.mem_map.1 hb
    exact (unpack_pack (hE.pk r hr)).2) (by decide)] at h1
  have h2 := congrArg Prod.snd h1
  simp at h2
theorem decA : decP (encP exA).1 = (exA, 0) := (dec_enc (t := (encP exA).1) (Prod.ext rfl encA)).1
end Go.Proofs.YtkpmlgpkmlhbjaaGreatDoor
namespace Go.Proofs.YtkpmlgpkmlhbjaaGreatDoor
open Go.RowKit
def awM : List (Nat × Bool) := [(31, false), (2000023, false)]
def opE (l : List (Nat × V)) : Operand → V
  | .tmp i => (l.lookup i).getD .un
  | .const v => V.ofConst v
  | _ => .un
abbrev iV (n : Int) : V := .ag [.cv (.int .i64 n), .cv (.int .i64 0), .cv (.string ⟨#[]⟩), .sl true 1 []]
theorem in1 (l : List In) (h : ∀ x ∈ l, x.s.length ≤ 1 ∧ x.ks.length ≤ 1 ∧ ∀ b ∈ x.ks, b.length ≤ 1) : CdIn (oneC l) := ⟨fun f hf => by simp [oneC] at hf; subst hf; simp, fun x hx => by
  obtain ⟨h1, h2, h3⟩ := h x hx
  exact ⟨by omega, by omega, fun b hb => by have := h3 b hb; omega⟩⟩
theorem inA : CdIn exA := in1 _ (by decide)
theorem inB' : CdIn exB := in1 _ (by decide)
theorem inC : CdIn exC := in1 _ (by decide)
theorem inDD : CdIn exD := in1 _ (by decide)
theorem inFF : CdIn exF := in1 _ (by decide)
set_option maxHeartbeats 16000000 in
set_option maxRecDepth 100000 in
theorem x_awakeC : Awake := by
  refine sxm awM Tryz.func14 (by kernel_rfl) ?_
  conv => whnf
  refine ⟨_, _, ot_buildN (tokM awM) (dss := [iO 5, iO 20].map inD) (g := true) (opE [(17, iV 5), (18, iV 20)]) rfl rfl rfl rfl rfl rfl (fun K h => h) rfl rfl, ?_⟩
  conv => whnf
  refine mcall (T := TM awM) (φ := []) (gf := true) (x_oneC [iO 5, iO 20]) ?_
  conv => whnf
  refine ⟨_, _, ot_buildN (tokM awM) (dss := [iO 1, iO 1, iO 20].map inD) (g := true) (opE [(21, iV 1), (22, iV 1), (23, iV 20)]) rfl rfl rfl rfl rfl rfl (fun K h => h) rfl rfl, ?_⟩
  conv => whnf
  refine mcall (T := TM awM) (φ := []) (gf := true) (x_oneC [iO 1, iO 1, iO 20]) ?_
  conv => whnf
  refine ⟨_, _, ot_buildN (tokM awM) (dss := [iO 1, iO 14, iO 1, iO 20].map inD) (g := true) (opE [(26, iV 1), (27, iV 14), (28, iV 1), (29, iV 20)]) rfl rfl rfl rfl rfl rfl (fun K h => h) rfl rfl, ?_⟩
  conv => whnf
  refine mcall (T := TM awM) (φ := []) (gf := true) (x_oneC [iO 1, iO 14, iO 1, iO 20]) ?_
  conv => whnf
  refine ⟨_, _, ot_buildN (tokM awM) (dss := [iO 1, iO 13].map inD) (g := true) (opE [(32, iV 1), (33, iV 13)]) rfl rfl rfl rfl rfl rfl (fun K h => h) rfl rfl, ?_⟩
  conv => whnf
  refine mcall (T := TM awM) (φ := []) (gf := true) (x_oneC [iO 1, iO 13]) ?_
  conv => whnf
  refine ⟨_, x_depth exA inA, ?_⟩
  rw [depA]
  conv => whnf
  refine ⟨_, x_depth exC inC, ?_⟩
  rw [depC]
  have i1 := x_ints [0, 1] [0, 1] (by decide)
  have i2 := x_ints [0, 1, 0, 1] [0, 1, 0, 1] (by decide)
  have i3 := x_ints [0] [0] (by decide)
  rw [show all2 intB [0, 1] [0, 1] = true from rfl] at i1
  rw [show all2 intB [0, 1, 0, 1] [0, 1, 0, 1] = true from rfl] at i2
  rw [show all2 intB [0] [0] = true from rfl] at i3
  have t1 := x_targets exC inC
  rw [tgtC] at t1
  have g1 := x_find exA [109, 97, 105, 110] (by decide)
  have g2 := x_find exA [102] (by decide)
  rw [fndA] at g1
  rw [fndB] at g2
  have k1 := x_check exB inB'
  rw [chkB] at k1
  have k2 := x_check exD inDD
  rw [chkD] at k2
  have k3 := x_check exA inA
  repeat ((conv => whnf); first | refine known true rfl ?_ | refine known false rfl ?_ | refine ⟨_, i1, ?_⟩ | refine ⟨_, i2, ?_⟩ | refine ⟨_, i3, ?_⟩ | refine ⟨_, t1, ?_⟩ | refine ⟨_, g1, ?_⟩ | refine ⟨_, g2, ?_⟩ | refine ⟨_, k1, ?_⟩ | refine ⟨_, k2, ?_⟩ | refine ⟨_, k3, ?_⟩)
  conv => whnf
  refine known false (by rw [chkA]; rfl) ?_
  have hlen := enc_len exA
  conv => whnf
  refine ⟨_, x_encode exA inA, ?_⟩
  conv => whnf
  refine ⟨_, x_decode (encP exA).1 (by omega), ?_⟩
  rw [decA]
  conv => whnf
  refine ⟨by rw [mk_size]; show (encP exA).1.length + 1 ≤ _; omega, ?_⟩
  have d1 := x_decode ((encP exA).1 ++ [120]) (by simp; omega)
  rw [decX] at d1
  rw [show bstr ((encP exA).1 ++ [120]) = .cv (.string (mk (encP exA).1 ++ ⟨#[120]⟩)) by rw [show (⟨#[120]⟩ : ByteArray) = mk [120] from rfl, mk_app]] at d1
  conv => whnf
  refine ⟨_, d1, ?_⟩
  conv => whnf
  refine ⟨_, _, ot_buildN (tokM awM) (dss := exF.is.map inD) (g := true) (opE [(131, .ag [.cv (.int .i64 4), .cv (.int .i64 0), .cv (.string ⟨#[97]⟩), .sl true 1 []]), (133, .ag [.cv (.int .i64 12), .cv (.int .i64 1), .cv (.string ⟨#[]⟩), .sl true 1 [[.cv (.string ⟨#[107]⟩)]]]), (134, .ag [.cv (.int .i64 8), .cv (.int .i64 0), .cv (.string ⟨#[45]⟩), .sl true 1 []]), (135, iV 20)]) rfl rfl rfl rfl rfl rfl (fun K h => h) rfl rfl, ?_⟩
  conv => whnf
  refine mcall (T := TM awM) (φ := []) (gf := true) (x_oneC exF.is) ?_
  conv => whnf
  refine ⟨_, x_cformat exF inFF, ?_⟩
  rw [fmtF]
  have s1 := x_sameC exA exA (big_of (sound_of chkA).1 inA)
  have s2 := x_sameC exA exB (big_of (sound_of chkA).1 inA)
  rw [same_refl] at s1
  rw [sameAB] at s2
  conv => whnf
  refine known true (by rw [encA]; rfl) ?_
  have s3 := x_same05 (fmtP exF).1 (fmtP exF).1 (by rw [fmtF]; decide)
  rw [strs_refl, fmtF] at s3
  repeat ((conv => whnf); first | refine known true rfl ?_ | refine known false rfl ?_ | refine ⟨_, s1, ?_⟩ | refine ⟨_, s2, ?_⟩ | refine ⟨_, s3, ?_⟩)
  (conv => whnf) <;> rfl
end Go.Proofs.YtkpmlgpkmlhbjaaGreatDoor
