/- Texts joined by pack.py: XCd35 XCd36 XCd37 -/
import Derived.Test.YtkpmlgpkmlhbjaaGreatDoorCp29
namespace Go.Proofs.YtkpmlgpkmlhbjaaGreatDoor
open Go.RowKit
theorem flat_int (d : List Int) : Flat (d.map intD) := by
  intro x hx e he
  obtain ⟨v, _, rfl⟩ := List.mem_map.1 hx
  simp [intD] at he
  exact ⟨_, he⟩
abbrev verV (p : List Int × Int × Int) : V := .tu [intsV p.1, int p.2.1, int p.2.2]
theorem fin_ver {p q : List Int × Int × Int} (h : p = q) : V.tu [.sl true 1 (p.1.map intD), int p.2.1, int p.2.2] = verV q := by rw [h]
structure CdIn (c : Cd) : Prop where
  nm : ∀ f ∈ c.fs, f.nm.length ≤ 281474976710656
  ins : ∀ x ∈ c.is, InOk x
theorem CdIn.ok {c : Cd} (h : CdIn c) (h1 : c.fs.length ≤ 16) (h2 : c.is.length ≤ 4000) : CdOk c := ⟨h1, h2, h.nm, h.ins⟩
theorem ver_big {c : Cd} (h : c.fs.length > 16 ∨ c.is.length > 4000) : verP c = ([], 0, 3) := by unfold verP; rw [if_pos h]
theorem ver_fns {c : Cd} (h : ¬ (c.fs.length > 16 ∨ c.is.length > 4000)) (h2 : (fnsP c).2 ≠ 0) : verP c = ([], (fnsP c).1, (fnsP c).2) := by unfold verP; rw [if_neg h, if_pos h2]
theorem ver_ins {c : Cd} (h : ¬ (c.fs.length > 16 ∨ c.is.length > 4000)) (h2 : (fnsP c).2 = 0) : verP c = verI c (insAll c c.fs) := by unfold verP; rw [if_neg h, if_neg (by simp [h2])]
theorem insAll_cons (c : Cd) (f : Fn) (r : List Fn) : insAll c (f :: r) = (match insF c f (f.ed - f.en).toNat f.en.toNat with | some e => some e | none => insAll c r) := rfl
theorem insF_bad {c : Cd} {f : Fn} {n i : Nat} (h : formedB c.fs.length f (c.is.getD i noIn) = false) : insF c f (n + 1) i = some ((i : Int), 1) := by unfold insF; rw [if_neg (by rw [h]; exact Bool.false_ne_true)]
theorem insF_end {c : Cd} {f : Fn} {i : Nat} (h : formedB c.fs.length f (c.is.getD i noIn) = true) (h1 : (c.is.getD i noIn).op ≠ 20) (h2 : (c.is.getD i noIn).op ≠ 13) : insF c f 1 i = some ((i : Int), 10) := by unfold insF; rw [if_pos h, if_pos (by generalize c.is.getD i noIn = x at *; simp [h1, h2])]
theorem insF_go {c : Cd} {f : Fn} {n i : Nat} (h : formedB c.fs.length f (c.is.getD i noIn) = true) (h1 : n ≠ 0 ∨ (c.is.getD i noIn).op = 20 ∨ (c.is.getD i noIn).op = 13) : insF c f (n + 1) i = insF c f n (i + 1) := by
  conv => lhs; unfold insF
  rw [if_pos h, if_neg]
  rcases h1 with h1 | h1 | h1
  · simp [h1]
  · rw [h1]; simp
  · rw [h1]; simp
theorem intInfo : ∃ i, Tryz.prog.info? 3 = some i ∧ i.zero = some (.int .i64 0) ∧ i.size = 1 ∧ i.bytes = 8 := by
  have h : (Tryz.prog.info? 3).map (fun i => (i.zero, i.size, i.bytes)) = some (some (.int .i64 0), 1, 8) := by kernel_rfl
  cases hi : Tryz.prog.info? 3 with
  | none => rw [hi] at h; cases h
  | some i =>
    rw [hi] at h
    simp only [Option.map_some, Option.some.injEq, Prod.mk.injEq] at h
    exact ⟨i, rfl, h.1, h.2.1, h.2.2⟩
theorem zI : Value.cells (.int .i64 0) = #[.int .i64 0] := rfl
theorem rep_int (n : Nat) : List.replicate n [D.cv (.int .i64 0)] = (List.replicate n 0).map intD := by rw [List.map_replicate]; rfl
theorem runF_rw {c : Cd} (h : Sound c) {f : Fn} (hf : f ∈ c.fs) {d : List Int} (hr : Rw c.is.length d) (hn : (runF c f d).1 < 0) : Rw c.is.length (runF c f d).2 := by
  obtain ⟨lo, ed, e1, e2, e3, e4, hg⟩ := h.good f hf
  have e1' : f.en.toNat = lo := by omega
  have e2' : f.ed.toNat = ed := by omega
  unfold runF at hn ⊢
  rw [e1', e2'] at hn ⊢
  exact (run_spec e4 hg c.is.length (d.set lo 0) (List.replicate c.is.length false) (by simp [nfol]) (by simp) (hr.set _ (by omega) (by omega)) (fun i i1 i2 i3 => by
    exfalso
    have : i < c.is.length := by omega
    simp [this] at i3) hn).1
theorem depAll_bad {c : Cd} {f : Fn} {r : List Fn} {d : List Int} (h : (runF c f d).1 ≥ 0) : depAll c (f :: r) d = (some (runF c f d).1, (runF c f d).2) := by unfold depAll; rw [if_pos h]
theorem depAll_go {c : Cd} {f : Fn} {r : List Fn} {d : List Int} (h : ¬ (runF c f d).1 ≥ 0) : depAll c (f :: r) d = depAll c r (runF c f d).2 := by conv => lhs; unfold depAll; rw [if_neg h]
theorem fill_end {n : Nat} {d : List Int} (h1 : d.length = n) (h2 : ∀ i (h : i < d.length), i < n → d[i] = -1) : d = List.replicate n (-1) := by
  refine List.ext_getElem (by simp [h1]) fun i i1 i2 => ?_
  rw [h2 i i1 (by omega)]; simp
theorem rw_rep (n : Nat) : Rw n (List.replicate n (-1)) := ⟨by simp, fun v hv => by rw [List.eq_of_mem_replicate hv]; omega⟩
structure InsS (c : Cd) (f : Fn) (r : List Fn) (R : Option (Int × Int)) (i : Nat) : Prop where
  ge : f.en ≤ i
  le : (i : Int) ≤ f.ed
  go : (match insF c f (f.ed - i).toNat i with | some e => some e | none => insAll c r) = R
set_option maxHeartbeats 8000000 in
set_option maxRecDepth 100000 in
theorem x_verify (c : Cd) (hc : CdIn c) : DCalls Tryz.prog 29 [c.V] (verV (verP c)) := by
  have hlf : (c.fs.map fnD).length = c.fs.length := List.length_map _
  have hli : (c.is.map inD).length = c.is.length := List.length_map _
  refine sxm [(56, false)] Tryz.func29 (by kernel_rfl) ?_
  conv => whnf
  rintro (_ | _) h1
  rotate_left
  · have h1 : c.fs.length > 16 := by rw [hlf] at h1; simp at h1; omega
    conv => whnf
    exact fin_ver (p := ([], 0, 3)) (ver_big (.inl h1)).symm
  have h1 : ¬ c.fs.length > 16 := by rw [hlf] at h1; simp at h1; omega
  conv => whnf
  rintro (_ | _) h2
  rotate_left
  · have h2 : c.is.length > 4000 := by rw [hli] at h2; simp at h2; omega
    conv => whnf
    exact fin_ver (p := ([], 0, 3)) (ver_big (.inr h2)).symm
  have h2 : ¬ c.is.length > 4000 := by rw [hli] at h2; simp at h2; omega
  have h12 : ¬ (c.fs.length > 16 ∨ c.is.length > 4000) := by omega
  have hok := hc.ok (by omega) (by omega)
  conv => whnf
  refine ⟨_, x_functions c hok, ?_⟩
  conv => whnf
  rintro (_ | _) h3
  rotate_left
  · have h3 : (fnsP c).2 ≠ 0 := by simpa using h3
    conv => whnf
    exact fin_ver (p := ([], (fnsP c).1, (fnsP c).2)) (ver_fns h12 h3).symm
  have h3 : (fnsP c).2 = 0 := by simpa using h3
  rw [ver_ins h12 h3]
  have hch := chain_of c.fs 0 0 h3
  have hmem := hch.mem (by omega)
  conv => whnf
  refine ⟨[], Nat, fun k => [(38, int k)], fun _ => [], fun k => k ≤ c.fs.length ∧ insAll c (c.fs.drop k) = insAll c c.fs, fun k => c.fs.length - k, 0, ⟨Nat.zero_le _, rfl⟩, ?_, ?_⟩
  · refine ⟨rfl, ?_, ?_⟩ <;> repeat' (first | exact trivial | exact rfl | refine and_rfl ?_ | refine and_two ?_ ?_)
  rintro k ⟨hk1, hk⟩
  conv => whnf
  rintro (_ | _) k1
  · have k1 : c.fs.length ≤ k := by rw [← hlf]; simpa using k1
    rw [List.drop_eq_nil_of_le k1] at hk
    have hin : insAll c c.fs = none := hk.symm
    clear hk
    rw [hin]
    have hS : Sound c := ⟨by omega, by omega, hch, hin⟩
    obtain ⟨ii, j1, j2, j3, j4⟩ := intInfo
    conv => whnf
    refine ⟨_, _, ot_makeZ (n := c.is.length) (z := .int .i64 0) (e := 3) (i := ii) rfl (by simp [evN, ev, V.nf, hli]) (by simp [evN, ev, V.nf, hli]) rfl rfl (by kernel_rfl) j1 j2 zI rfl j3 (by rw [j4]; omega) (by omega), ?_⟩
    rw [rep_int]
    conv => whnf
    refine ⟨[], Nat × List Int, fun ⟨j, d⟩ => [(84, int j)], fun ⟨j, d⟩ => [(81, some (.row 0 3 1 true (d.map intD)))], fun ⟨j, d⟩ => j ≤ c.is.length ∧ d.length = c.is.length ∧ ∀ i (h : i < d.length), i < j → d[i] = -1, fun x => c.is.length - x.1, (0, List.replicate c.is.length 0), ⟨Nat.zero_le _, by simp, fun i _ h => by omega⟩, ?_, ?_⟩
    · refine ⟨rfl, ?_, ?_⟩ <;> repeat' (first | exact trivial | exact rfl | refine and_rfl ?_ | refine and_two ?_ ?_)
    clear j1 j2 j3 j4
    rintro ⟨j, d⟩ ⟨g1, g2, g3⟩
    have hmd : (d.map intD).length = c.is.length := by rw [List.length_map]; exact g2
    have hz : ((List.replicate c.is.length (0 : Int)).map intD).length = c.is.length := by simp
    conv => whnf
    rintro (_ | _) k3
    · have k3 : c.is.length ≤ j := by rw [hz] at k3; simpa using k3
      have hd : d = List.replicate c.is.length (-1) := fill_end g2 fun i i1 i2 => g3 i i1 (by omega)
      subst hd
      clear g1 g2 g3 hmd
      conv => whnf
      refine ⟨[], Nat × List Int, fun ⟨k, d⟩ => [(94, int k)], fun ⟨k, d⟩ => [(81, some (.row 0 3 1 true (d.map intD)))], fun ⟨k, d⟩ => k ≤ c.fs.length ∧ Rw c.is.length d ∧ depAll c (c.fs.drop k) d = depAll c c.fs (List.replicate c.is.length (-1)), fun x => c.fs.length - x.1, (0, List.replicate c.is.length (-1)), ⟨Nat.zero_le _, rw_rep _, rfl⟩, ?_, ?_⟩
      · refine ⟨rfl, ?_, ?_⟩ <;> repeat' (first | exact trivial | exact rfl | refine and_rfl ?_ | refine and_two ?_ ?_)
      clear k1 k3 hk1
      rintro ⟨k, d⟩ ⟨g1, g2, g3⟩
      conv => whnf
      rintro (_ | _) k1
      · have k1 : c.fs.length ≤ k := by rw [← hlf]; simpa using k1
        rw [List.drop_eq_nil_of_le k1] at g3
        rw [show verI c none = verD c (depAll c c.fs (List.replicate c.is.length (-1))) from rfl, ← g3]
        conv => whnf
        exact fin_ver (p := (d, 0, 0)) rfl
      have k1 : k < c.fs.length := by rw [← hlf]; simpa using k1
      have hfm := List.getElem_mem k1
      have hm := hmem _ hfm
      rw [List.drop_eq_getElem_cons k1] at g3
      conv => whnf
      refine ⟨by omega, _, get_map fnD k1, ?_⟩
      generalize hf : c.fs[k] = f at *
      obtain ⟨m1, m2, m3, m4, m5⟩ := hm
      obtain ⟨lo, ed, e1, e2, e3, e4, hg⟩ := hS.good f hfm
      have hcon := x_depths c f d f.en.toNat f.ed.toNat (by omega) (by omega) (by omega) (by omega) (by omega) g2 (by rw [show f.en.toNat = lo by omega, show f.ed.toNat = ed by omega]; exact hg)
      have hrw := runF_rw hS hfm g2
      have hbad := depAll_bad (c := c) (f := f) (r := c.fs.drop (k + 1)) (d := d)
      have hgo := depAll_go (c := c) (f := f) (r := c.fs.drop (k + 1)) (d := d)
      unfold runF at hrw hbad hgo
      generalize YtkpmlgpkmlhbjaaGreatDoor.run c f.en.toNat f.ed.toNat c.is.length (d.set f.en.toNat 0) (List.replicate c.is.length false) = R at hcon hrw hbad hgo
      conv => whnf
      refine mcallF (T := TM [(56, false)]) (φ := []) (gf := false) 81 hcon (flat_int _) ?_ (ln := true)
      conv => whnf
      rintro (_ | _) k4
      rotate_left
      · have k4 : R.1 ≥ 0 := by simpa using k4
        rw [hbad k4] at g3
        rw [show verI c none = verD c (depAll c c.fs (List.replicate c.is.length (-1))) from rfl, ← g3]
        conv => whnf
        exact fin_ver (p := ([], R.1, 21)) rfl
      have k4 : ¬ R.1 ≥ 0 := by simpa using k4
      rw [hgo k4] at g3
      have hw : IntKind.i64.wrap (((k : Nat) : Int) + 1) = ((k + 1 : Nat) : Int) := wrap_succ (by omega)
      conv => whnf
      refine ⟨(k + 1, R.2), ⟨k1, hrw (by omega), g3⟩, by dsimp only; omega, ?_⟩
      refine ⟨rfl, ?_, ?_⟩ <;> repeat' (first | exact trivial | exact rfl | refine and_rfl ?_ | refine and_val hw ?_ | refine and_two ?_ ?_)
    have k3 : j < c.is.length := by rw [hz] at k3; simpa using k3
    have hjd : j < d.length := by omega
    conv => whnf
    refine ⟨by omega, by rw [hmd]; omega, ?_⟩
    conv => whnf
    refine ⟨_, get_map intD hjd, Nat.le_refl _, ?_⟩
    have hw : IntKind.i64.wrap (((j : Nat) : Int) + 1) = ((j + 1 : Nat) : Int) := wrap_succ (by omega)
    conv => whnf
    refine ⟨(j + 1, d.set j (-1)), ⟨k3, by rw [List.length_set]; exact g2, fun i i1 i2 => by
      rw [List.getElem_set]
      split
      · rfl
      · exact g3 i (by simpa using i1) (by omega)⟩, by dsimp only; omega, ?_⟩
    refine ⟨rfl, ?_, ?_⟩ <;> repeat' (first | exact trivial | exact rfl | refine and_rfl ?_ | refine and_val hw ?_ | exact st_int _ _ hjd _ | refine and_two ?_ ?_)
  have k1 : k < c.fs.length := by rw [← hlf]; simpa using k1
  have hm := hmem _ (List.getElem_mem k1)
  rw [List.drop_eq_getElem_cons k1, insAll_cons] at hk
  conv => whnf
  refine ⟨by omega, _, get_map fnD k1, ?_⟩
  generalize hf : c.fs[k] = f at *
  obtain ⟨m1, m2, m3, m4, m5⟩ := hm
  conv => whnf
  refine ⟨[], Nat, fun i => [(9, int i)], fun _ => [], fun i => InsS c f (c.fs.drop (k + 1)) (insAll c c.fs) i, fun i => f.ed.toNat - i, f.en.toNat, ⟨by omega, by omega, by rw [Int.toNat_of_nonneg m1]; exact hk⟩, ?_, ?_⟩
  · refine ⟨rfl, ?_, ?_⟩ <;> repeat' (first | exact trivial | exact rfl | refine and_rfl ?_ | refine and_val (show f.en = ((f.en.toNat : Nat) : Int) by omega) ?_ | refine and_two ?_ ?_)
  clear hk
  rintro i ⟨i1, i2, i3⟩
  conv => whnf
  rintro (_ | _) k2
  · have k2 : (i : Int) = f.ed := by simp at k2; omega
    rw [show (f.ed - (i : Int)).toNat = 0 by omega] at i3
    have hw : IntKind.i64.wrap (((k : Nat) : Int) + 1) = ((k + 1 : Nat) : Int) := wrap_succ (by omega)
    conv => whnf
    refine ⟨k + 1, ⟨k1, i3⟩, by dsimp only; omega, ?_⟩
    refine ⟨rfl, ?_, ?_⟩ <;> repeat' (first | exact trivial | exact rfl | refine and_rfl ?_ | refine and_val hw ?_ | refine and_two ?_ ?_)
  have k2 : (i : Int) < f.ed := by simpa using k2
  have hil : i < c.is.length := by omega
  have hxa : c.is.getD i noIn = c.is[i] := by simp [hil]
  obtain ⟨n, hn⟩ : ∃ n, (f.ed - (i : Int)).toNat = n + 1 := ⟨(f.ed - (i : Int)).toNat - 1, by omega⟩
  rw [hn] at i3
  conv => whnf
  refine ⟨by omega, _, get_map inD hil, ?_⟩
  conv => whnf
  refine ⟨_, x_formed c f c.is[i] (hok.ins _ (List.getElem_mem hil)) ⟨by unfold psB inB at m4; simp at m4; omega, by unfold psB inB at m4; simp at m4; omega, m1, m2, by omega⟩ (by omega), ?_⟩
  conv => whnf
  rintro (_ | _) k3
  rotate_left
  · have k3 : formedB c.fs.length f c.is[i] = false := by simpa using k3
    rw [insF_bad (by rw [hxa]; exact k3)] at i3
    rw [← i3]
    conv => whnf
    exact fin_ver (p := ([], (i : Int), 1)) rfl
  have k3 : formedB c.fs.length f c.is[i] = true := by simpa using k3
  have next : (n ≠ 0 ∨ c.is[i].op = 20 ∨ c.is[i].op = 13) → InsS c f (c.fs.drop (k + 1)) (insAll c c.fs) (i + 1) := fun h => ⟨by omega, by omega, by
    rw [insF_go (by rw [hxa]; exact k3) (by rw [hxa]; exact h)] at i3
    rw [show (f.ed - ((i + 1 : Nat) : Int)).toNat = n by omega]; exact i3⟩
  have hw : IntKind.i64.wrap (((i : Nat) : Int) + 1) = ((i + 1 : Nat) : Int) := wrap_succ (by omega)
  have hwe : IntKind.i64.wrap (f.ed - 1) = f.ed - 1 := IntWalk.i64_in _ (by omega)
  conv => whnf
  rw [hwe]
  rintro (_ | _) k4
  · have k4 : ¬ (i : Int) = f.ed - 1 := by simpa using k4
    conv => whnf
    refine ⟨i + 1, next (.inl (by omega)), by dsimp only; omega, ?_⟩
    refine ⟨rfl, ?_, ?_⟩ <;> repeat' (first | exact trivial | exact rfl | refine and_rfl ?_ | refine and_val hw ?_ | refine and_two ?_ ?_)
  have k4 : (i : Int) = f.ed - 1 := by simpa using k4
  conv => whnf
  rintro (_ | _) k5
  · have k5 : c.is[i].op = 20 := by simpa using k5
    conv => whnf
    refine ⟨i + 1, next (.inr (.inl k5)), by dsimp only; omega, ?_⟩
    refine ⟨rfl, ?_, ?_⟩ <;> repeat' (first | exact trivial | exact rfl | refine and_rfl ?_ | refine and_val hw ?_ | refine and_two ?_ ?_)
  have k5 : c.is[i].op ≠ 20 := by simpa using k5
  conv => whnf
  rintro (_ | _) k6
  · have k6 : c.is[i].op = 13 := by simpa using k6
    conv => whnf
    refine ⟨i + 1, next (.inr (.inr k6)), by dsimp only; omega, ?_⟩
    refine ⟨rfl, ?_, ?_⟩ <;> repeat' (first | exact trivial | exact rfl | refine and_rfl ?_ | refine and_val hw ?_ | refine and_two ?_ ?_)
  have k6 : c.is[i].op ≠ 13 := by simpa using k6
  obtain rfl : n = 0 := by omega
  rw [insF_end (by rw [hxa]; exact k3) (by rw [hxa]; exact k5) (by rw [hxa]; exact k6)] at i3
  rw [← i3]
  conv => whnf
  exact fin_ver (p := ([], (i : Int), 10)) rfl
end Go.Proofs.YtkpmlgpkmlhbjaaGreatDoor
namespace Go.Proofs.YtkpmlgpkmlhbjaaGreatDoor
open Go.RowKit
theorem rep_snoc (n : Nat) (v : Int) : (List.replicate n v).map intD ++ [[D.cv (.int .i64 v)]] = (List.replicate (n + 1) v).map intD := by
  rw [List.replicate_succ', List.map_append]; rfl
set_option maxHeartbeats 8000000 in
set_option maxRecDepth 100000 in
theorem x_checked (c : Cd) (hc : CdIn c) : DCalls Tryz.prog 30 [c.V] (verV (verP c)) := by
  have hlf : (c.fs.map fnD).length = c.fs.length := List.length_map _
  have hli : (c.is.map inD).length = c.is.length := List.length_map _
  refine sxm [(59, false)] Tryz.func30 (by kernel_rfl) ?_
  conv => whnf
  rintro (_ | _) h1
  rotate_left
  · have h1 : c.fs.length > 16 := by rw [hlf] at h1; simp at h1; omega
    conv => whnf
    exact fin_ver (p := ([], 0, 3)) (ver_big (.inl h1)).symm
  have h1 : ¬ c.fs.length > 16 := by rw [hlf] at h1; simp at h1; omega
  conv => whnf
  rintro (_ | _) h2
  rotate_left
  · have h2 : c.is.length > 4000 := by rw [hli] at h2; simp at h2; omega
    conv => whnf
    exact fin_ver (p := ([], 0, 3)) (ver_big (.inr h2)).symm
  have h2 : ¬ c.is.length > 4000 := by rw [hli] at h2; simp at h2; omega
  have h12 : ¬ (c.fs.length > 16 ∨ c.is.length > 4000) := by omega
  have hok := hc.ok (by omega) (by omega)
  conv => whnf
  refine ⟨_, x_rfunctions c hok, ?_⟩
  conv => whnf
  rintro (_ | _) h3
  rotate_left
  · have h3 : (fnsP c).2 ≠ 0 := by simpa using h3
    conv => whnf
    exact fin_ver (p := ([], (fnsP c).1, (fnsP c).2)) (ver_fns h12 h3).symm
  have h3 : (fnsP c).2 = 0 := by simpa using h3
  rw [ver_ins h12 h3]
  have hch := chain_of c.fs 0 0 h3
  have hmem := hch.mem (by omega)
  conv => whnf
  refine ⟨[], Nat × Nat, fun ⟨k, e⟩ => [(8, int k), (7, .ow 32 0), (32, .un)], fun ⟨k, e⟩ => [(32, some (.row 0 3 1 true ((List.replicate e (-1)).map intD)))], fun ⟨k, e⟩ => k ≤ c.fs.length ∧ Chain c.is.length (c.fs.drop k) e ∧ insAll c (c.fs.drop k) = insAll c c.fs, fun x => c.fs.length - x.1, (0, 0), ⟨Nat.zero_le _, hch, rfl⟩, ?_, ?_⟩
  · refine ⟨rfl, ?_, ?_⟩ <;> repeat' (first | exact trivial | exact rfl | refine and_rfl ?_ | refine and_two ?_ ?_)
  rintro ⟨k, e⟩ ⟨hk1, hke, hk⟩
  conv => whnf
  rintro (_ | _) k1
  · have k1 : c.fs.length ≤ k := by rw [← hlf]; simpa using k1
    rw [List.drop_eq_nil_of_le k1] at hk hke
    have hin : insAll c c.fs = none := hk.symm
    have he : e = c.is.length := by have hke : (e : Int) = c.is.length := hke; omega
    subst he
    clear hk hke
    rw [hin]
    have hS : Sound c := ⟨by omega, by omega, hch, hin⟩
    clear k1
    conv => whnf
    refine ⟨[], Nat × List Int, fun ⟨k, d⟩ => [(11, int k)], fun ⟨k, d⟩ => [(32, some (.row 0 3 1 true (d.map intD)))], fun ⟨k, d⟩ => k ≤ c.fs.length ∧ Rw c.is.length d ∧ depAll c (c.fs.drop k) d = depAll c c.fs (List.replicate c.is.length (-1)), fun x => c.fs.length - x.1, (0, List.replicate c.is.length (-1)), ⟨Nat.zero_le _, rw_rep _, rfl⟩, ?_, ?_⟩
    · refine ⟨rfl, ?_, ?_⟩ <;> repeat' (first | exact trivial | exact rfl | refine and_rfl ?_ | refine and_two ?_ ?_)
    clear hk1
    rintro ⟨k, d⟩ ⟨g1, g2, g3⟩
    conv => whnf
    rintro (_ | _) k1
    · have k1 : c.fs.length ≤ k := by rw [← hlf]; simpa using k1
      rw [List.drop_eq_nil_of_le k1] at g3
      rw [show verI c none = verD c (depAll c c.fs (List.replicate c.is.length (-1))) from rfl, ← g3]
      conv => whnf
      exact fin_ver (p := (d, 0, 0)) rfl
    have k1 : k < c.fs.length := by rw [← hlf]; simpa using k1
    have hfm := List.getElem_mem k1
    have hm := hmem _ hfm
    rw [List.drop_eq_getElem_cons k1] at g3
    conv => whnf
    refine ⟨none, by kernel_rfl, ?_⟩
    conv => whnf
    refine ⟨by omega, _, get_map fnD k1, ?_⟩
    generalize hf : c.fs[k] = f at *
    obtain ⟨m1, m2, m3, m4, m5⟩ := hm
    obtain ⟨lo, ed, e1, e2, e3, e4, hg⟩ := hS.good f hfm
    have hcon := x_follow c f d f.en.toNat f.ed.toNat (by omega) (by omega) (by omega) (by omega) (by omega) g2 (by rw [show f.en.toNat = lo by omega, show f.ed.toNat = ed by omega]; exact hg)
    have hrw := runF_rw hS hfm g2
    have hbad := depAll_bad (c := c) (f := f) (r := c.fs.drop (k + 1)) (d := d)
    have hgo := depAll_go (c := c) (f := f) (r := c.fs.drop (k + 1)) (d := d)
    unfold runF at hrw hbad hgo
    generalize YtkpmlgpkmlhbjaaGreatDoor.run c f.en.toNat f.ed.toNat c.is.length (d.set f.en.toNat 0) (List.replicate c.is.length false) = R at hcon hrw hbad hgo
    conv => whnf
    refine mcallF (T := TM [(59, false)]) (φ := []) (gf := false) 32 hcon (flat_int _) ?_ (ln := true)
    conv => whnf
    rintro (_ | _) k4
    rotate_left
    · have k4 : R.1 ≥ 0 := by simpa using k4
      rw [hbad k4] at g3
      rw [show verI c none = verD c (depAll c c.fs (List.replicate c.is.length (-1))) from rfl, ← g3]
      conv => whnf
      exact fin_ver (p := ([], R.1, 21)) rfl
    have k4 : ¬ R.1 ≥ 0 := by simpa using k4
    rw [hgo k4] at g3
    have hw : IntKind.i64.wrap (((k : Nat) : Int) + 1) = ((k + 1 : Nat) : Int) := wrap_succ (by omega)
    conv => whnf
    refine ⟨(k + 1, R.2), ⟨k1, hrw (by omega), g3⟩, by dsimp only; omega, ?_⟩
    refine ⟨rfl, ?_, ?_⟩ <;> repeat' (first | exact trivial | exact rfl | refine and_rfl ?_ | refine and_val hw ?_ | refine and_two ?_ ?_)
  have k1 : k < c.fs.length := by rw [← hlf]; simpa using k1
  have hm := hmem _ (List.getElem_mem k1)
  rw [List.drop_eq_getElem_cons k1] at hk hke
  rw [insAll_cons] at hk
  conv => whnf
  refine ⟨by omega, _, get_map fnD k1, ?_⟩
  generalize hf : c.fs[k] = f at *
  obtain ⟨m1, m2, m3, m4, m5⟩ := hm
  obtain ⟨q1, q2, q3, q4, q5, q6⟩ := hke
  conv => whnf
  refine ⟨[], Nat, fun i => [(10, int i), (7, .ow 32 0)], fun i => [(32, some (.row 0 3 1 true ((List.replicate i (-1)).map intD)))], fun i => InsS c f (c.fs.drop (k + 1)) (insAll c c.fs) i, fun i => f.ed.toNat - i, e, ⟨by omega, by omega, by rw [← q1, show e = f.en.toNat by omega]; exact hk⟩, ?_, ?_⟩
  · refine ⟨rfl, ?_, ?_⟩ <;> repeat' (first | exact trivial | exact rfl | refine and_rfl ?_ | refine and_val q1 ?_ | refine and_two ?_ ?_)
  clear hk
  rintro i ⟨i1, i2, i3⟩
  conv => whnf
  rintro (_ | _) k2
  · have k2 : (i : Int) = f.ed := by simp at k2; omega
    rw [show (f.ed - (i : Int)).toNat = 0 by omega] at i3
    have hw : IntKind.i64.wrap (((k : Nat) : Int) + 1) = ((k + 1 : Nat) : Int) := wrap_succ (by omega)
    conv => whnf
    refine ⟨(k + 1, i), ⟨k1, by rw [k2]; exact q6, i3⟩, by dsimp only; omega, ?_⟩
    refine ⟨rfl, ?_, ?_⟩ <;> repeat' (first | exact trivial | exact rfl | refine and_rfl ?_ | refine and_val hw ?_ | refine and_two ?_ ?_)
  have k2 : (i : Int) < f.ed := by simpa using k2
  have hil : i < c.is.length := by omega
  have hxa : c.is.getD i noIn = c.is[i] := by simp [hil]
  obtain ⟨n, hn⟩ : ∃ n, (f.ed - (i : Int)).toNat = n + 1 := ⟨(f.ed - (i : Int)).toNat - 1, by omega⟩
  rw [hn] at i3
  conv => whnf
  refine ⟨none, by kernel_rfl, ?_⟩
  conv => whnf
  refine ⟨by omega, _, get_map inD hil, ?_⟩
  conv => whnf
  refine ⟨_, x_rformed c f c.is[i] (hok.ins _ (List.getElem_mem hil)), ?_⟩
  conv => whnf
  rintro (_ | _) k3
  rotate_left
  · have k3 : formedB c.fs.length f c.is[i] = false := by simpa using k3
    rw [insF_bad (by rw [hxa]; exact k3)] at i3
    rw [← i3]
    conv => whnf
    exact fin_ver (p := ([], (i : Int), 1)) rfl
  have k3 : formedB c.fs.length f c.is[i] = true := by simpa using k3
  have next : (n ≠ 0 ∨ c.is[i].op = 20 ∨ c.is[i].op = 13) → InsS c f (c.fs.drop (k + 1)) (insAll c c.fs) (i + 1) := fun h => ⟨by omega, by omega, by
    rw [insF_go (by rw [hxa]; exact k3) (by rw [hxa]; exact h)] at i3
    rw [show (f.ed - ((i + 1 : Nat) : Int)).toNat = n by omega]; exact i3⟩
  have hw : IntKind.i64.wrap (((i : Nat) : Int) + 1) = ((i + 1 : Nat) : Int) := wrap_succ (by omega)
  have hwe : IntKind.i64.wrap (f.ed - 1) = f.ed - 1 := IntWalk.i64_in _ (by omega)
  have hlr : ((List.replicate i (-1 : Int)).map intD).length = i := by simp
  conv => whnf
  rw [hwe]
  rintro (_ | _) k4
  · have k4 : ¬ (i : Int) = f.ed - 1 := by simpa using k4
    have hnx := next (.inl (by omega))
    conv => whnf
    refine ⟨by rw [hlr]; simp; omega, ?_⟩
    conv => whnf
    refine ⟨i + 1, hnx, by dsimp only; omega, ?_⟩
    refine ⟨rfl, ?_, ?_⟩ <;> repeat' (first | exact trivial | exact rfl | refine and_rfl ?_ | refine and_val hw ?_ | exact rep_snoc _ _ | refine and_two ?_ ?_)
  have k4 : (i : Int) = f.ed - 1 := by simpa using k4
  conv => whnf
  refine ⟨by omega, _, get_map inD hil, ?_⟩
  conv => whnf
  rintro (_ | _) k5
  · have k5 : c.is[i].op = 20 := by simpa using k5
    have hnx := next (.inr (.inl k5))
    conv => whnf
    refine ⟨by rw [hlr]; simp; omega, ?_⟩
    conv => whnf
    refine ⟨i + 1, hnx, by dsimp only; omega, ?_⟩
    refine ⟨rfl, ?_, ?_⟩ <;> repeat' (first | exact trivial | exact rfl | refine and_rfl ?_ | refine and_val hw ?_ | exact rep_snoc _ _ | refine and_two ?_ ?_)
  have k5 : c.is[i].op ≠ 20 := by simpa using k5
  conv => whnf
  refine ⟨by omega, _, get_map inD hil, ?_⟩
  conv => whnf
  rintro (_ | _) k6
  · have k6 : c.is[i].op = 13 := by simpa using k6
    have hnx := next (.inr (.inr k6))
    conv => whnf
    refine ⟨by rw [hlr]; simp; omega, ?_⟩
    conv => whnf
    refine ⟨i + 1, hnx, by dsimp only; omega, ?_⟩
    refine ⟨rfl, ?_, ?_⟩ <;> repeat' (first | exact trivial | exact rfl | refine and_rfl ?_ | refine and_val hw ?_ | exact rep_snoc _ _ | refine and_two ?_ ?_)
  have k6 : c.is[i].op ≠ 13 := by simpa using k6
  obtain rfl : n = 0 := by omega
  rw [insF_end (by rw [hxa]; exact k3) (by rw [hxa]; exact k5) (by rw [hxa]; exact k6)] at i3
  rw [← i3]
  conv => whnf
  exact fin_ver (p := ([], (i : Int), 10)) rfl
end Go.Proofs.YtkpmlgpkmlhbjaaGreatDoor
namespace Go.Proofs.YtkpmlgpkmlhbjaaGreatDoor
open Go.RowKit
theorem ver_err {c : Cd} (h : (verP c).2.2 ≠ 0) : (verP c).1 = [] := by
  unfold verP at h ⊢
  split
  · rfl
  rename_i h1
  rw [if_neg h1] at h
  split
  · rfl
  rename_i h2
  rw [if_neg h2] at h
  unfold verI at h ⊢
  split
  · rfl
  · rename_i h3
    rw [h3] at h
    dsimp only at h
    unfold verD at h ⊢
    split
    · rfl
    · rename_i h4
      rw [h4] at h
      exact absurd rfl h
abbrev chkP (c : Cd) : Int × Int := ((verP c).2.1, (verP c).2.2)
abbrev depP (c : Cd) : List Int × Int := ((verP c).1, (verP c).2.2)
abbrev depV (p : List Int × Int) : V := .tu [intsV p.1, int p.2]
theorem fin_dep {p q : List Int × Int} (h : p = q) : depV p = depV q := by rw [h]
set_option maxHeartbeats 4000000 in
set_option maxRecDepth 100000 in
theorem x_check (c : Cd) (hc : CdIn c) : DCalls Tryz.prog 9 [c.V] (ieV (chkP c)) := by
  refine sx Tryz.func9 (by kernel_rfl) ?_
  conv => whnf
  refine ⟨_, x_verify c hc, ?_⟩
  (conv => whnf) <;> rfl
set_option maxHeartbeats 4000000 in
set_option maxRecDepth 100000 in
theorem x_rcheck (c : Cd) (hc : CdIn c) : DCalls Tryz.prog 10 [c.V] (ieV (chkP c)) := by
  refine sx Tryz.func10 (by kernel_rfl) ?_
  conv => whnf
  refine ⟨_, x_checked c hc, ?_⟩
  (conv => whnf) <;> rfl
set_option maxHeartbeats 4000000 in
set_option maxRecDepth 100000 in
theorem x_depth (c : Cd) (hc : CdIn c) : DCalls Tryz.prog 11 [c.V] (depV (depP c)) := by
  refine sx Tryz.func11 (by kernel_rfl) ?_
  conv => whnf
  refine ⟨_, x_verify c hc, ?_⟩
  conv => whnf
  rintro (_ | _) h
  rotate_left
  · have h : (verP c).2.2 ≠ 0 := by simpa using h
    conv => whnf
    exact fin_dep (p := ([], (verP c).2.2)) (by rw [← ver_err h])
  have h : (verP c).2.2 = 0 := by simpa using h
  conv => whnf
  exact fin_dep (p := ((verP c).1, 0)) (by rw [← h])
set_option maxHeartbeats 4000000 in
set_option maxRecDepth 100000 in
theorem x_rdepth (c : Cd) (hc : CdIn c) : DCalls Tryz.prog 12 [c.V] (depV (depP c)) := by
  refine sx Tryz.func12 (by kernel_rfl) ?_
  conv => whnf
  refine ⟨_, x_checked c hc, ?_⟩
  (conv => whnf) <;> rfl
end Go.Proofs.YtkpmlgpkmlhbjaaGreatDoor
