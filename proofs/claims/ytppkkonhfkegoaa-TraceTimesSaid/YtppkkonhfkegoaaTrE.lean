/-
  Contracts of the packages trace and faasref51, part thirteen: Causes.
-/
import Derived.Test.YtppkkonhfkegoaaTrD
namespace Go.Proofs.Ytppkkonhfkegoaa
open Go.RowKit

abbrev strs (xs : List ByteArray) : V := .sl true 1 (xs.map strD)
abbrev strsE (p : List ByteArray × Int) : V := .tu [strs p.1, int p.2]

theorem idAt_eq {l : List Sp} {i : Nat} (h : i < l.length) : idAt l i = l[i].id := by simp [idAt, h]

set_option maxRecDepth 100000 in
theorem x_rcauses (l : List Sp) (x : ByteArray) (hl : l.length ≤ 8796093022207) (hok : okAll l) : DCalls Try.prog 17 [sps l, str x] (strsE (causesP l x)) := by
  refine sx Try.func17 (by kernel_rfl) ?_
  conv => whnf
  refine ⟨_, x_place l x hl hok, ?_⟩
  conv => whnf
  rintro (_ | _) h0
  rotate_left
  · simp at h0
    have : causesP l x = ([], (spanP l x).2) := by rw [causesP, if_neg h0]
    rw [this]; rfl
  simp at h0
  obtain ⟨hT, i, hi, e1, e2, e3⟩ := spanP_ok h0
  have hc : causesP l x = ((wayI l i).map (idAt l), 0) := by rw [causesP, if_pos h0, e1]; rfl
  rw [hc, e1]
  clear hc e1
  have hb : l.length ≤ 256 := hT.len
  conv => whnf
  refine ⟨[], Nat × Nat × List ByteArray, fun ⟨k, a, acc⟩ => [(6, int a), (8, .ow 19 0), (19, .un)], fun ⟨k, a, acc⟩ => [(19, some (.row 0 9 1 true (acc.map strD)))], fun ⟨k, a, acc⟩ => k < l.length ∧ a < l.length ∧ acc.length = k ∧ itr (stepI l leadS) k i = some a ∧ acc ++ (visits (stepI l leadS) (l.length - k) a).map (idAt l) = (wayI l i).map (idAt l),
    fun x => l.length - x.1, (0, i, []), ⟨by omega, hi, rfl, rfl, rfl⟩, ?_, ?_⟩
  · refine ⟨rfl, ?_, ?_⟩ <;> repeat' (first | exact trivial | exact rfl | refine and_rfl ?_ | refine and_two ?_ ?_)
  rintro ⟨k, a, acc⟩ ⟨hk, ha, hac, hit, hw⟩
  have ek : l.length - k = (l.length - k - 1) + 1 := by omega
  rw [ek] at hw
  simp only [visits, List.map_cons, idAt_eq ha] at hw
  conv => whnf
  refine ⟨by omega, _, get_map spD ha, ?_⟩
  conv => whnf
  refine ⟨by simp; omega, ?_⟩
  conv => whnf
  refine ⟨by omega, _, get_map spD ha, ?_⟩
  have stop : sEq (leadS l[a]) emp = true → acc ++ [l[a].id] = (wayI l i).map (idAt l) := fun h => by
    rw [← hw]
    have : stepI l leadS a = none := by simp [stepI, ha, h]
    rw [this]; rfl
  have go : sEq (leadS l[a]) emp = false → ∃ j, j < l.length ∧ findI l (leadS l[a]) = j ∧ k + 1 < l.length ∧ itr (stepI l leadS) (k + 1) i = some j ∧ (acc ++ [l[a].id]) ++ (visits (stepI l leadS) (l.length - (k + 1)) j).map (idAt l) = (wayI l i).map (idAt l) := fun h => by
    obtain ⟨j, hj, h1, h2⟩ := lead_some hT ha h
    have hi2 : itr (stepI l leadS) (k + 1) i = some j := by rw [itr_add, hit]; simp [itr, h2]
    refine ⟨j, hj, h1, ?_, hi2, ?_⟩
    · rcases Nat.lt_or_ge (k + 1) l.length with h | h
      · exact h
      · have e : k + 1 = l.length := by omega
        rw [e, lead_ends hT hi] at hi2
        cases hi2
    · rw [← hw, h2]
      simp [Nat.sub_sub]
  conv => whnf
  rintro (_ | _) h1
  · have h1 : sEq l[a].ca emp = false := h1
    have hlead : leadS l[a] = l[a].ca := by rw [leadS, orS, if_neg (by simp [h1])]
    rw [hlead] at stop go
    conv => whnf
    rintro (_ | _) h2
    · obtain ⟨j, hj, g1, g2, g3, g4⟩ := go h1
      conv => whnf
      refine ⟨_, x_rfind l l[a].ca hl, ?_⟩
      rw [g1]
      conv => whnf
      refine ⟨(k + 1, j, acc ++ [l[a].id]), ⟨g2, hj, by simp [hac], g3, g4⟩, by dsimp only; omega, ?_⟩
      refine ⟨rfl, ?_, ?_⟩ <;> repeat' (first | exact trivial | exact rfl | refine and_rfl ?_ | refine and_two ?_ ?_ | (simp [strD]; done))
    · have h2 : sEq l[a].ca emp = true := h2
      rw [h1] at h2; cases h2
  · have h1 : sEq l[a].ca emp = true := h1
    have hlead : leadS l[a] = l[a].pa := by rw [leadS, orS, if_pos h1]
    rw [hlead] at stop go
    conv => whnf
    refine ⟨by omega, _, get_map spD ha, ?_⟩
    conv => whnf
    rintro (_ | _) h2
    · have h2 : sEq l[a].pa emp = false := h2
      obtain ⟨j, hj, g1, g2, g3, g4⟩ := go h2
      conv => whnf
      refine ⟨_, x_rfind l l[a].pa hl, ?_⟩
      rw [g1]
      conv => whnf
      refine ⟨(k + 1, j, acc ++ [l[a].id]), ⟨g2, hj, by simp [hac], g3, g4⟩, by dsimp only; omega, ?_⟩
      refine ⟨rfl, ?_, ?_⟩ <;> repeat' (first | exact trivial | exact rfl | refine and_rfl ?_ | refine and_two ?_ ?_ | (simp [strD]; done))
    · have h2 : sEq l[a].pa emp = true := h2
      conv => whnf
      skip
      rw [← stop h2]
      simp [strD]

/-- The memory of the walk that collects. -/
abbrev cauM (l : List Sp) (ids : List ByteArray) (k : Nat) (ii : Int) : List (Option Bk) :=
  [none, none, some (.box [.sl false 6 (l.map spD)]), none, none, none, none, none, some (.box [.ow 30 0])] ++ List.replicate 13 none ++ [some (.box [.sl false 6 (l.map spD)]), some (.box [int ii]), some (.box [fnV 41])] ++ List.replicate 5 none ++
  [some (.row 0 9 1 true ((ids.take k).map strD)), none]

set_option maxRecDepth 100000 in
theorem x_causes (l : List Sp) (x : ByteArray) (hl : l.length ≤ 8796093022207) (hok : okAll l) : DCalls Try.prog 16 [sps l, str x] (strsE (causesP l x)) := by
  refine ⟨⟨_, Try.func16, by kernel_rfl, by kernel_rfl⟩, fun w vs hvs => (callsIn_wide (n := 5)).1 ?_⟩
  refine callsIn_of_wp_marks (F := fen none) Try.func16 rfl trivial ?_ rfl
  have hs := sat_enter hvs Try.f16.ntmps
  refine wpIn_seq (go_norm (t1 := [.un, str x, .bx 2 0, .un, .cv (.slice none 0 0), int 0] ++ List.replicate 26 .un) (m1 := [none, none, some (.box [.sl false 6 (l.map spD)])] ++ List.replicate 29 none) tok mixed hs ?_ ?_)
  · conv => whnf
    exact ⟨rfl, by simp [fgt, List.replicate] <;> rfl⟩
  clear hs
  intro N S a w hs
  refine wpIn_seq (go_norm (t1 := [.un, .un, .bx 2 0, .un, .cv (.slice none 0 0), int 0, int (spanP l x).1, int (spanP l x).2] ++ List.replicate 24 .un) (m1 := [none, none, some (.box [.sl false 6 (l.map spD)])] ++ List.replicate 29 none) tok mixed hs ?_ ?_)
  · conv => whnf
    refine ⟨_, x_span l x hl hok, ?_⟩
    conv => whnf
    exact ⟨rfl, by simp [fgt, List.replicate] <;> rfl⟩
  clear hs
  intro N S a w hs
  refine wpIn_seq (wpIn_seq (go_norm (t1 := [.un, .un, .bx 2 0, .un, .cv (.slice none 0 0), int 0, int (spanP l x).1, int (spanP l x).2] ++ List.replicate 9 .un ++ [boo ((spanP l x).2 != 0)] ++ List.replicate 14 .un) (m1 := [none, none, some (.box [.sl false 6 (l.map spD)])] ++ List.replicate 29 none) tok mixed hs ?_ ?_))
  · conv => whnf
    exact ⟨rfl, by simp [fgt, List.replicate] <;> rfl⟩
  clear hs
  intro N S a w hs
  refine wpIn_cond_split (ev_of hs rfl) ?_ ?_
  · intro h0
    simp at h0
    have : causesP l x = ([], (spanP l x).2) := by rw [causesP, if_neg h0]
    rw [this]
    refine wpIn_seq (go_norm (t1 := [.un, .un, .bx 2 0, .un, .cv (.slice none 0 0), int (spanP l x).2] ++ List.replicate 26 .un) (m1 := [none, none, some (.box [.sl false 6 (l.map spD)])] ++ List.replicate 29 none) tok mixed hs ?_ ?_)
    · conv => whnf
      exact ⟨rfl, by simp [fgt, List.replicate] <;> rfl⟩
    clear hs
    intro N S a w hs
    exact wpIn_ret (ends0 tok hs rfl)
  intro h0
  simp at h0
  refine wpIn_skip ?_
  obtain ⟨hT, i, hi, e1, e2, e3⟩ := spanP_ok h0
  have hc : causesP l x = ((wayI l i).map (idAt l), 0) := by rw [causesP, if_pos h0, e1]; rfl
  rw [hc]
  rw [e1] at hs
  clear hc e1
  have hb : l.length ≤ 256 := hT.len
  refine wpIn_seq (go_norm (t1 := [.un, .un, .bx 2 0, .un, .un, .un, int i, .un, .bx 8 0] ++ List.replicate 23 .un) (m1 := [none, none, some (.box [.sl false 6 (l.map spD)]), none, none, none, none, none, some (.box [.cv (.slice none 0 0)])] ++ List.replicate 23 none) tok mixed hs ?_ ?_)
  · conv => whnf
    exact ⟨rfl, by simp [fgt, List.replicate] <;> rfl⟩
  clear hs
  intro N S a w hs
  refine wpIn_seq (wpIn_seq (go_norm (t1 := [.un, .un, .bx 2 0, .un, .un, .un, int i, .un, .bx 8 0] ++ List.replicate 12 .un ++ [.fn 59 0 [.bx 22 0, .bx 23 0, .bx 24 0]] ++ List.replicate 10 .un)
    (m1 := [none, none, some (.box [.sl false 6 (l.map spD)]), none, none, none, none, none, some (.box [.cv (.slice none 0 0)])] ++ List.replicate 13 none ++ [some (.box [.sl false 6 (l.map spD)]), some (.box [int i]), some (.box [fnV 41])] ++ List.replicate 7 none) tok mixed hs ?_ ?_))
  · conv => whnf
    refine mcall (T := TT) (φ := [22, 23, 24]) (x_up l i 41) ?_
    conv => whnf
    exact ⟨rfl, by simp [fgt, List.replicate] <;> rfl⟩
  clear hs
  intro N S a w2 hs
  refine wpIn_block ?_
  obtain ⟨lb, hlb, hrl⟩ := fn_of hs (d := 21) rfl
  obtain ⟨u1, u2, u3, rfl⟩ : ∃ u1 u2 u3, lb = #[u1, u2, u3] := by
    have := hrl.1
    match h : lb.toList, this with
    | [a, b, c], _ => exact ⟨a, b, c, by rw [← Array.toArray_toList (xs := lb), h]⟩
  obtain ⟨ids, hids⟩ : ∃ ids, ids = (wayI l i).map (idAt l) := ⟨_, rfl⟩
  rw [← hids]
  have hln : ids.length = (wayI l i).length := by rw [hids]; simp
  have hxl : ∀ (k x : Nat), (wayI l i)[k]? = some x → x < l.length ∧ ids.take (k + 1) = ids.take k ++ [idAt l x] ∧ k < 256 := by
    have key : ∀ (n a : Nat), a < l.length → (visits (stepI l leadS) n a).length ≤ n ∧ ∀ x ∈ visits (stepI l leadS) n a, x < l.length := by
      intro n
      induction n with
      | zero => intro a _; exact ⟨by simp [visits], fun x h => by simp [visits] at h⟩
      | succ n ih =>
        intro a ha
        simp only [visits, List.length_cons, List.mem_cons]
        split
        · exact ⟨by simp, fun x hx => by rcases hx with rfl | hx; exact ha; simp at hx⟩
        · rename_i j hj
          have := ih j (stepI_lt hj)
          exact ⟨by omega, fun x hx => by rcases hx with rfl | hx; exact ha; exact this.2 x hx⟩
    intro k x hx
    have hk := lt_of_get hx
    have := (key l.length i hi).1
    refine ⟨(key _ _ hi).2 x (List.mem_of_getElem? hx), ?_, ?_⟩
    · rw [List.take_add_one, hids, List.getElem?_map, hx]; rfl
    · unfold wayI at hk; omega
  refine range_run (Kn := fun m' => ∃ ii, m' = cauM l ids (wayI l i).length ii ∧ True) (Kr := fun _ => False) hs rfl (fun g h => h) hlb (enters_fn Try.func59 (by kernel_rfl) (by kernel_rfl)) (Gx := List.zip [.bx 22 0, .bx 23 0, .bx 24 0] [u1, u2, u3]) (zip_of hrl) ?_ ?_
  · rintro fn W A D lp hA hAD hAl hne hBD hBl hM hWD hWl
    have hM2 := hM.adopt (n := 8) (d := 30) (j := 0) (e := 9) (sz := 1) (cs := [.cv (.slice none 0 0)]) rfl rfl rfl (by decide)
    refine up1_in l hl leadS 41 x_lead (by kernel_rfl) 22 23 24 (fun k ii => cauM l ids k ii) (fun _ _ => rfl) (fun _ _ => rfl) (fun _ _ => rfl) (fun _ _ _ => rfl) hAD hAl hne hBD hBl
      (fun _ => True) trivial (wayI l i) ?_ i hi rfl (List.mem_append_right _ (by simp)) (List.mem_append_right _ (by simp)) (List.mem_append_right _ (by simp)) hM2 hWD hWl
    intro G' k x W2 hG1 hG2 hok hx hM3 hl2
    obtain ⟨hxx, hkx, hk256⟩ := hxl k x hx
    refine YieldAt.mono (round_run (n := 5 - 1 - 1) tok mixed (a := a) (t := [.un, .un, .bx 2 0, .un, .un, .un, int i, .un, .bx 8 0] ++ List.replicate 12 .un ++ [.fn 59 0 [.bx 22 0, .bx 23 0, .bx 24 0]] ++ List.replicate 10 .un)
      (Kn := fun m' => m' = (((cauM l ids (k + 1) x).set 29 (some (.row 0 9 1 true [strD (idAt l x)]))).set 30 (some (.row 1 9 1 true ((ids.take (k + 1)).map strD)))).set 8 (some (.box [.ow 30 1]))) (Kr := fun _ => False)
      rfl rfl hAl hBl (fun q hq => hG1 q (List.mem_append_left _ hq)) hs.tmps.1 hM3 hl2 ?_) ?_
    · conv => whnf
      conv => whnf
      refine ⟨none, by kernel_rfl, ?_⟩
      conv => whnf
      refine ⟨by omega, _, get_map spD hxx, ?_⟩
      conv => whnf
      refine ⟨by have := lt_of_get hx; simp; omega, ?_⟩
      conv => whnf
      rw [hkx, idAt_eq hxx]
      simp [strD]
    · rintro e w' ⟨m', hM4, hA4, h⟩
      rcases h with ⟨rfl, rfl, hl4⟩ | ⟨_, h, _⟩
      · have hGn : ∀ d, d ≠ 22 → d ≠ 23 → d ≠ 24 → d ≠ 2 → d ≠ 8 → (G'.all fun p => p.1.noN d) = true := by
          intro d d1 d2 d3 d4 d5
          rw [List.all_eq_true]
          intro q hq
          have e1 := beq_no d1.symm
          have e2 := beq_no d2.symm
          have e3 := beq_no d3.symm
          have e4 := beq_no d4.symm
          have e5 := beq_no d5.symm
          rcases hG2 q hq with h | h
          · rcases List.mem_append.1 h with h | h
            · have : (([.un, .un, .bx 2 0, .un, .un, .un, int i, .un, .bx 8 0] ++ List.replicate 12 .un ++ [.fn 59 0 [.bx 22 0, .bx 23 0, .bx 24 0]] ++ List.replicate 10 .un : List V).all (V.noN d)) = true := by simp [V.noN, V.noN1, e1, e2, e3, e4, e5]
              exact List.all_eq_true.1 this _ (List.of_mem_zip h).1
            · have : (([.bx 22 0, .bx 23 0, .bx 24 0] : List V).all (V.noN d)) = true := by simp [V.noN, V.noN1, e1, e2, e3]
              exact List.all_eq_true.1 this _ (List.of_mem_zip h).1
          · exact h d d1 d2 d3
        have hM5 := hM4.drop (n := 29) rfl (hGn 29 (by decide) (by decide) (by decide) (by decide) (by decide))
        have hM6 := hM5.rever (n := 30) (b := 8) (j := 0) (k := 1) (cs := [.ow 30 1]) rfl rfl rfl rfl rfl (hGn 30 (by decide) (by decide) (by decide) (by decide) (by decide))
        exact ⟨_, hM6, hA4, .inl ⟨rfl, ⟨rfl, trivial⟩, hl4⟩⟩
      · exact h.elim
  · intro A D m' W hAD hBD hM hD
    have hda : a.defers = [] := hs.nodef
    have hlow := hM.low
    refine ⟨?_, fun h => h.elim⟩
    rintro ⟨ii, rfl, -⟩
    show Code.wpIn _ _ _ _ _ _ _
    obtain ⟨N2, S2, hs2⟩ := hM.frame (t := [.un, .un, .bx 2 0, .un, .un, .un, int i, .un, .bx 8 0] ++ List.replicate 12 .un ++ [.fn 59 0 [.bx 22 0, .bx 23 0, .bx 24 0]] ++ List.replicate 10 .un) (a := { a with defers := { target := .collected D, args := #[] } :: a.defers }) fun N S hG => of_zip hs.tmps.1 fun q hq => hG q (List.mem_append_left _ hq)
    simp only [hda] at hs2 ⊢
    refine wpIn_seq (go_norm (t1 := [.un, .un, .un, .un, .ow 30 0, int 0] ++ List.replicate 26 .un) (m1 := cauM l ids (wayI l i).length ii) tok mixed hs2 ?_ ?_)
    · conv => whnf
      exact ⟨rfl, by simp [fgt, List.replicate]⟩
    intro N3 S3 a3 w3 hs3
    refine wpIn_ret (ends1 tok hAD hBD hlow hs3 hD ?_)
    conv => whnf
    rw [← hln, List.take_length]

end Go.Proofs.Ytppkkonhfkegoaa
