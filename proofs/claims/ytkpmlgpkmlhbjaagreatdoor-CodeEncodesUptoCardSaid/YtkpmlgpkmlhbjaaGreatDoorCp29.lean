/- Texts joined by pack.py: XCd31 XCd34 XCd32 XSxFl -/
import Derived.Test.YtkpmlgpkmlhbjaaGreatDoorCp28
import Derived.Test.YtkpmlgpkmlhbjaaGreatDoorCp11
namespace Go.Proofs.YtkpmlgpkmlhbjaaGreatDoor
open Go.RowKit
def insF (c : Cd) (f : Fn) : Nat → Nat → Option (Int × Int)
  | 0, _ => none
  | n + 1, i =>
    if formedB c.fs.length f (c.is.getD i noIn) then
      if n == 0 && (c.is.getD i noIn).op != 20 && (c.is.getD i noIn).op != 13 then some (i, 10) else insF c f n (i + 1)
    else some (i, 1)
def insAll (c : Cd) : List Fn → Option (Int × Int)
  | [] => none
  | f :: r => match insF c f (f.ed - f.en).toNat f.en.toNat with
    | some e => some e
    | none => insAll c r
abbrev runF (c : Cd) (f : Fn) (d : List Int) : Int × List Int := YtkpmlgpkmlhbjaaGreatDoor.run c f.en.toNat f.ed.toNat c.is.length (d.set f.en.toNat 0) (List.replicate c.is.length false)
def depAll (c : Cd) : List Fn → List Int → Option Int × List Int
  | [], d => (none, d)
  | f :: r, d => if (runF c f d).1 ≥ 0 then (some (runF c f d).1, (runF c f d).2) else depAll c r (runF c f d).2
def verD (_c : Cd) : Option Int × List Int → List Int × Int × Int
  | (some k, _) => ([], k, 21)
  | (none, d) => (d, 0, 0)
def verI (c : Cd) : Option (Int × Int) → List Int × Int × Int
  | some e => ([], e.1, e.2)
  | none => verD c (depAll c c.fs (List.replicate c.is.length (-1)))
def verP (c : Cd) : List Int × Int × Int :=
  if c.fs.length > 16 ∨ c.is.length > 4000 then ([], 0, 3)
  else if (fnsP c).2 ≠ 0 then ([], (fnsP c).1, (fnsP c).2)
  else verI c (insAll c c.fs)
def Chain (n : Nat) : List Fn → Int → Prop
  | [], e => e = n
  | f :: r, e => f.en = e ∧ f.en < f.ed ∧ f.ed ≤ n ∧ psB f = true ∧ nameB f.nm = true ∧ Chain n r f.ed
theorem chain_of {c : Cd} : ∀ (l : List Fn) (k : Nat) (e : Int), (fnsF c l k e).2 = 0 → Chain c.is.length l e
  | [], k, e, h => by
    unfold fnsF at h
    split at h
    · assumption
    · cases h
  | f :: r, k, e, h => by
    rw [fnsF_cons] at h
    split at h
    · rename_i h1
      split at h
      · rename_i h2
        split at h
        · rename_i h3
          unfold orB at h3
          simp only [Bool.and_eq_true, decide_eq_true_eq, beq_iff_eq] at h1 h3
          exact ⟨h3.1.1, h3.1.2, h3.2, h2, h1.1, chain_of r (k + 1) f.ed h⟩
        · cases h
      · cases h
    · cases h
theorem Chain.mem {n : Nat} : ∀ {l : List Fn} {e : Int}, Chain n l e → 0 ≤ e → ∀ f ∈ l, 0 ≤ f.en ∧ f.en < f.ed ∧ f.ed ≤ n ∧ psB f = true ∧ nameB f.nm = true
  | g :: r, e, h, he, f, hf => by
    obtain ⟨h1, h2, h3, h4, h5, h6⟩ := h
    rcases List.mem_cons.1 hf with rfl | hf
    · exact ⟨by omega, h2, h3, h4, h5⟩
    · exact Chain.mem h6 (by omega) f hf
theorem Chain.le {n : Nat} : ∀ {l : List Fn} {e : Int}, Chain n l e → e ≤ n
  | [], e, h => by have h : e = n := h; omega
  | f :: r, e, h => by obtain ⟨h1, h2, h3, _⟩ := h; omega
theorem insF_none {c : Cd} {f : Fn} : ∀ (n i : Nat), insF c f n i = none → ∀ j, i ≤ j → j < i + n → formedB c.fs.length f (c.is.getD j noIn) = true ∧ (j + 1 = i + n → (c.is.getD j noIn).op = 20 ∨ (c.is.getD j noIn).op = 13)
  | 0, i, _, j, h1, h2 => by omega
  | n + 1, i, h, j, h1, h2 => by
    unfold insF at h
    split at h
    · rename_i h3
      split at h
      · cases h
      · rename_i h4
        by_cases e : j = i
        · subst e
          refine ⟨h3, fun e => ?_⟩
          have hn : n = 0 := by omega
          subst hn
          simp at h4
          by_cases h5 : (c.is.getD j noIn).op = 20
          · exact .inl h5
          · exact .inr (by simpa using h4 (by simpa using h5))
        · have := insF_none n (i + 1) h j (by omega) (by omega)
          exact ⟨this.1, fun e => this.2 (by omega)⟩
    · cases h
theorem insAll_none {c : Cd} : ∀ (l : List Fn), insAll c l = none → ∀ f ∈ l, insF c f (f.ed - f.en).toNat f.en.toNat = none
  | g :: r, h, f, hf => by
    unfold insAll at h
    split at h
    · cases h
    · rename_i h1
      rcases List.mem_cons.1 hf with rfl | hf
      · exact h1
      · exact insAll_none r h f hf
theorem lookT_bound (s : Bs) : ∀ (l : List (Bs × Int)), (∀ p ∈ l, 0 ≤ p.2 ∧ p.2 ≤ 64) → 0 ≤ (lookT s l).1 ∧ (lookT s l).1 ≤ 64
  | [], _ => by unfold lookT; simp
  | (k, n) :: r, h => by
    unfold lookT
    split
    · exact h (k, n) (by simp)
    · exact lookT_bound s r fun p hp => h p (by simp [hp])
theorem built_bound (s : Bs) : 0 ≤ (lookT s builtT).1 ∧ (lookT s builtT).1 ≤ 64 := lookT_bound s _ (by unfold builtT; simp)
theorem host_bound (s : Bs) : 0 ≤ (lookT s hostT).1 ∧ (lookT s hostT).1 ≤ 64 := lookT_bound s _ (by unfold hostT; simp)
theorem formed_op {nf : Nat} {f : Fn} {x : In} (h : formedB nf f x = true) : 1 ≤ x.op ∧ x.op ≤ 20 ∧ opdB nf f x = true := by
  unfold formedB knownB at h
  simp only [Bool.and_eq_true, decide_eq_true_eq] at h
  exact ⟨h.1.1.1.1.1, h.1.1.1.1.2, h.1.1.1.2⟩
theorem good_of {c : Cd} {f : Fn} {lo ed i : Nat} {x : In} (hx : formedB c.fs.length f x = true) (hl : i + 1 = ed → x.op = 20 ∨ x.op = 13) (h1 : f.en = lo) (h2 : f.ed = ed) (hi : lo ≤ i) (hi2 : i < ed) (hps : ∀ g ∈ c.fs, psB g = true) : GoodI c lo ed i x := by
  obtain ⟨o1, o2, ho⟩ := formed_op hx
  obtain ⟨op, a, s, ks⟩ := x
  dsimp only at o1 o2 hl
  have hb := built_bound s
  have hh := host_bound s
  rcases op20 o1 o2 with h | h | h | h | h | h | h | h | h | h | h | h | h | h | h | h | h | h | h | h <;> subst h
  case inr.inr.inr.inr.inr.inr.inr.inr.inr.inr.inr.inr.inr.inr.inr.inr.inl =>
    simp [opdB, bareB] at ho
    have hlt : a.toNat < c.fs.length := by omega
    have hp := hps _ (List.getElem_mem hlt)
    unfold psB inB at hp
    simp at hp
    refine ⟨by dsimp only; omega, by dsimp only; omega, fun _ => ho, ?_, ?_, ?_⟩
    · simp [popsN, hlt]; omega
    · simp [popsN, hlt]; omega
    · simp [succs]; omega
  all_goals
    simp [opdB, bareB] at ho
    refine ⟨by dsimp only; omega, by dsimp only; omega, fun h => absurd h (by dsimp only; omega), ?_, ?_, ?_⟩
    · simp [popsN] <;> omega
    · simp [popsN] <;> omega
    · simp [succs] <;> omega
structure Sound (c : Cd) : Prop where
  f16 : c.fs.length ≤ 16
  i4k : c.is.length ≤ 4000
  chain : Chain c.is.length c.fs 0
  ins : insAll c c.fs = none
theorem Sound.good {c : Cd} (h : Sound c) (f : Fn) (hf : f ∈ c.fs) : ∃ lo ed : Nat, f.en = lo ∧ f.ed = ed ∧ lo < ed ∧ ed ≤ c.is.length ∧ Goods c lo ed := by
  obtain ⟨h1, h2, h3, h4, h5⟩ := h.chain.mem (by omega) f hf
  refine ⟨f.en.toNat, f.ed.toNat, by omega, by omega, by omega, by omega, fun i hi hi1 hi2 => ?_⟩
  obtain ⟨g1, g2⟩ := insF_none _ _ (insAll_none _ h.ins f hf) i hi1 (by omega)
  rw [show c.is.getD i noIn = c.is[i] by simp [hi]] at g1 g2
  exact good_of g1 (fun e => g2 (by omega)) (by omega) (by omega) hi1 hi2 fun g hg => (h.chain.mem (by omega) g hg).2.2.2.1
theorem Chain.cover {n : Nat} : ∀ {l : List Fn} {e : Int}, Chain n l e → ∀ i : Int, e ≤ i → i < n → ∃ f ∈ l, f.en ≤ i ∧ i < f.ed
  | [], e, h, i, h1, h2 => by have h : e = n := h; omega
  | f :: r, e, h, i, h1, h2 => by
    obtain ⟨q1, q2, q3, _, _, q6⟩ := h
    by_cases hi : i < f.ed
    · exact ⟨f, by simp, by omega, hi⟩
    · obtain ⟨g, hg, hg2⟩ := Chain.cover q6 i (by omega) h2
      exact ⟨g, by simp [hg], hg2⟩
theorem Sound.cover {c : Cd} (h : Sound c) {i : Nat} (hi : i < c.is.length) : ∃ f ∈ c.fs, f.en ≤ i ∧ (i : Int) < f.ed ∧ 0 ≤ f.en ∧ f.ed ≤ c.is.length ∧ GoodI c f.en.toNat f.ed.toNat i c.is[i] ∧ formedB c.fs.length f c.is[i] = true := by
  obtain ⟨f, hf, h1, h2⟩ := h.chain.cover i (by omega) (by omega)
  obtain ⟨q1, q2, q3, _⟩ := h.chain.mem (by omega) f hf
  obtain ⟨lo, ed, e1, e2, e3, e4, hg⟩ := h.good f hf
  have g1 := (insF_none _ _ (insAll_none _ h.ins f hf) i (by omega) (by omega)).1
  rw [show c.is.getD i noIn = c.is[i] by simp [hi]] at g1
  refine ⟨f, hf, h1, h2, q1, q3, ?_, g1⟩
  rw [show f.en.toNat = lo by omega, show f.ed.toNat = ed by omega]
  exact hg i hi (by omega) (by omega)
theorem Sound.jump {c : Cd} (h : Sound c) (i : Nat) (hi : i < c.is.length) (hj : (c.is[i].op == 13 || c.is[i].op == 14) = true) : 0 ≤ c.is[i].a ∧ c.is[i].a < c.is.length := by
  obtain ⟨f, _, h1, h2, h3, h4, hg, _⟩ := h.cover hi
  have h6 := hg.h6 c.is[i].a (by
    unfold succs
    simp only [Bool.or_eq_true, beq_iff_eq] at hj
    rcases hj with hj | hj
    · rw [hj]; simp
    · rw [hj]; simp)
  omega
end Go.Proofs.YtkpmlgpkmlhbjaaGreatDoor
namespace Go.Proofs.YtkpmlgpkmlhbjaaGreatDoor
open Go.RowKit
theorem Fol.lower {c : Cd} {lo ed : Nat} {R : Int × List Int} {n i j : Nat} {d : List Int} {fol : List Bool} (h : Fol c lo ed R n i d fol) (_ : Goods c lo ed) (_ : lo ≤ j) : Fol c lo ed R n lo d fol :=
  ⟨Nat.le_refl _, by have := h.ge; have := h.le; omega, h.rw, h.len, fun j h1 h2 => by omega, h.go, h.fuel⟩
set_option maxHeartbeats 8000000 in
set_option maxRecDepth 100000 in
theorem x_follow (c : Cd) (f : Fn) (d : List Int) (lo ed : Nat) (hn : f.en = lo) (he : f.ed = ed) (h3 : lo < ed) (h4 : ed ≤ c.is.length) (h5 : c.is.length ≤ 4000) (h6 : Rw c.is.length d) (hg : Goods c lo ed) :
    MCallsG true Tryz.prog 59 [cdV0 c, f.V, .ow 0 0] [.row 0 3 1 false (d.map intD)] (int (YtkpmlgpkmlhbjaaGreatDoor.run c lo ed c.is.length (d.set lo 0) (List.replicate c.is.length false)).1)
      [.row 0 3 1 false ((YtkpmlgpkmlhbjaaGreatDoor.run c lo ed c.is.length (d.set lo 0) (List.replicate c.is.length false)).2.map intD)] := by
  obtain ⟨bi, i1, i2, i3, i4⟩ := boolInfo
  obtain ⟨nm, ps, ls, en, ed_⟩ := f
  dsimp only at hn he
  subst hn he
  have hld : (d.map intD).length = c.is.length := by rw [List.length_map]; exact h6.len
  have hli : (c.is.map inD).length = c.is.length := List.length_map _
  have hF := Fol.start (c := c) (lo := lo) (ed := ed) (h6.set lo (v := 0) (by omega) (by omega)) (by omega)
  generalize hR : YtkpmlgpkmlhbjaaGreatDoor.run c lo ed c.is.length (d.set lo 0) (List.replicate c.is.length false) = R at *
  have hlo : lo < d.length := by rw [h6.len]; omega
  change MCallsG true Tryz.prog 59 [.ag [.sl false 5 (c.fs.map fnD), .sl false 4 (c.is.map inD)], .ag [bstr nm, int ps, int ls, int lo, int ed], .ow 0 0] _ _ _
  refine mcalls_fix (sd := fun vs => vs.flatMap V.nm3) tok mixed Tryz.func59 (by kernel_rfl) (by kernel_rfl) (by kernel_rfl) ?_
  conv => whnf
  rw [show Tryz.f59.ntmps = 139 from rfl]
  refine ⟨_, _, ot_makeZ (n := c.is.length) (z := .bool false) (e := 4) (i := bi) rfl (by simp [evN, ev, V.nf, hli]) (by simp [evN, ev, V.nf, hli]) rfl rfl (by kernel_rfl) i1 i2 zF rfl i3 (by rw [i4]; omega) (by omega), ?_⟩
  rw [rep_bool]
  conv => whnf
  refine ⟨by omega, by rw [hld]; omega, ?_⟩
  conv => whnf
  refine ⟨_, get_map intD hlo, Nat.le_refl _, ?_⟩
  conv => whnf
  refine ⟨[], Nat × List Int × List Bool, fun ⟨n, d, fol⟩ => [], fun ⟨n, d, fol⟩ => [(139, some (.row fixV 3 1 false (d.map intD))), (15, some (.row 0 4 1 true (fol.map boolD)))], fun ⟨n, d, fol⟩ => Fol c lo ed R n lo d fol, fun x => x.1, (c.is.length, d.set lo 0, List.replicate c.is.length false), hF, ?_, ?_⟩
  · refine ⟨rfl, ?_, ?_⟩ <;> repeat' (first | exact trivial | exact rfl | refine and_rfl ?_ | exact st_int _ _ hlo _ | refine and_two ?_ ?_)
  clear hF hR hld h6 i1 i2 i3 i4
  rintro ⟨n, dd, fol⟩ (hF : Fol c lo ed R n lo dd fol)
  have hdl := hF.rw.len
  have hfl := hF.len
  have hmd : (dd.map intD).length = c.is.length := by rw [List.length_map]; exact hdl
  have hmf : (fol.map boolD).length = c.is.length := by rw [List.length_map]; exact hfl
  conv => whnf
  refine ⟨[], Nat, fun i => [(8, int i)], fun _ => [], fun i => Fol c lo ed R n i dd fol, fun i => ed - i, lo, hF, ?_, ?_⟩
  · refine ⟨rfl, ?_, ?_⟩ <;> repeat' (first | exact trivial | exact rfl | refine and_rfl ?_ | refine and_two ?_ ?_)
  clear hF
  rintro i (hF : Fol c lo ed R n i dd fol)
  have q1 := hF.ge
  have q2 := hF.le
  have hw1 : IntKind.i64.wrap (((i : Nat) : Int) + 1) = ((i + 1 : Nat) : Int) := wrap_succ (by omega)
  conv => whnf
  rintro (_ | _) k1
  · have k1 : i = ed := by simp at k1; omega
    subst k1
    rw [hF.end_]
    conv => whnf
    refine known true (beq_self_eq_true _) ?_
    conv => whnf
    refine ⟨?_, rfl⟩
    conv => whnf
    exact ⟨rfl, rfl, rfl⟩
  have k1 : i < ed := by simpa using k1
  have hil : i < c.is.length := by omega
  have hid : i < dd.length := by omega
  have hif : i < fol.length := by omega
  have hgi := hg i hil q1 k1
  have hda := dAt_eq hid
  have hfa : fol.getD i true = fol[i] := by simp [hif]
  have hxa : c.is.getD i noIn = c.is[i] := by simp [hil]
  have skip : pen dd fol i = false → Fol c lo ed R n (i + 1) dd fol ∧ ed - (i + 1) < ed - i := fun h => ⟨hF.skip k1 h, by omega⟩
  conv => whnf
  refine ⟨by omega, by rw [hmf]; omega, ?_⟩
  conv => whnf
  refine ⟨_, get_map boolD hif, ?_⟩
  conv => whnf
  rintro (_ | _) k3
  rotate_left
  · have k3 : fol[i] = true := k3
    obtain ⟨s1, s2⟩ := skip (by unfold pen; rw [hfa, k3]; simp)
    conv => whnf
    refine ⟨i + 1, s1, s2, ?_⟩
    refine ⟨rfl, ?_, ?_⟩ <;> repeat' (first | exact trivial | exact rfl | refine and_rfl ?_ | refine and_val hw1 ?_ | refine and_two ?_ ?_)
  have k3 : fol[i] = false := k3
  conv => whnf
  refine ⟨by omega, by rw [hmd]; omega, ?_⟩
  conv => whnf
  refine ⟨_, get_map intD hid, ?_⟩
  conv => whnf
  rintro (_ | _) k2
  rotate_left
  · have k2 : dd[i] < 0 := by simpa using k2
    obtain ⟨s1, s2⟩ := skip (by unfold pen; rw [hda]; simp; intro; omega)
    conv => whnf
    refine ⟨i + 1, s1, s2, ?_⟩
    refine ⟨rfl, ?_, ?_⟩ <;> repeat' (first | exact trivial | exact rfl | refine and_rfl ?_ | refine and_val hw1 ?_ | refine and_two ?_ ?_)
  have k2 : 0 ≤ dd[i] := by simp at k2; omega
  clear skip
  have hp : pen dd fol i = true := by unfold pen; rw [hda, hfa, k3]; simpa using k2
  obtain ⟨m, rfl, hm⟩ := hF.pos hp
  conv => whnf
  refine known false (beq_false_of_ne (by omega)) ?_
  conv => whnf
  refine ⟨by omega, by rw [hmf]; omega, ?_⟩
  conv => whnf
  refine ⟨_, get_map boolD hif, Nat.le_refl _, ?_⟩
  conv => whnf
  refine ⟨none, by kernel_rfl, ?_⟩
  conv => whnf
  refine ⟨by omega, by rw [hmd]; omega, ?_⟩
  conv => whnf
  refine ⟨_, get_map intD hid, ?_⟩
  conv => whnf
  refine ⟨by omega, _, get_map inD hil, ?_⟩
  conv => whnf
  refine ⟨_, x_rpops c c.is[i] hgi.h1 hgi.h2 hgi.h3, ?_⟩
  conv => whnf
  refine ⟨by omega, _, get_map inD hil, ?_⟩
  conv => whnf
  refine ⟨_, x_rpushes c.is[i] hgi.h1 hgi.h2, ?_⟩
  have hpu := push_bound c.is[i]
  have hpo := hgi.h4
  have hpo2 := hgi.h5
  have hr0 := hF.rw.at i
  rw [hda] at hr0
  have haf : afterI c dd i = dd[i] - popsN c.fs c.is[i] + pushN c.is[i] := by unfold afterI; rw [hda, hxa]
  have hw2 : IntKind.i64.wrap (IntKind.i64.wrap (dd[i] - popsN c.fs c.is[i]) + pushN c.is[i]) = afterI c dd i := by
    rw [haf, IntWalk.i64_in (dd[i] - popsN c.fs c.is[i]) (by omega), IntWalk.i64_in _ (by omega)]
  have hbd : badI c dd i = (decide (popsN c.fs c.is[i] > dd[i]) || (c.is[i].op == 20 && dd[i] != 1) || decide (afterI c dd i > 64)) := by
    unfold badI; rw [hda, hxa]
  conv => whnf
  refine ⟨none, by kernel_rfl, ?_⟩
  conv => whnf
  refine ⟨by omega, by rw [hmd]; omega, ?_⟩
  conv => whnf
  refine ⟨_, get_map intD hid, ?_⟩
  conv => whnf
  refine ⟨by omega, _, get_map inD hil, ?_⟩
  conv => whnf
  refine ⟨_, x_rpops c c.is[i] hgi.h1 hgi.h2 hgi.h3, ?_⟩
  conv => whnf
  rintro (_ | _) k4
  rotate_left
  · have k4 : popsN c.fs c.is[i] > dd[i] := by simpa using k4
    have hR := hF.bad k1 hp (by rw [hbd]; simp [k4])
    subst hR
    conv => whnf
    refine ⟨?_, rfl⟩
    conv => whnf
    exact ⟨rfl, rfl, rfl⟩
  have k4 : ¬ popsN c.fs c.is[i] > dd[i] := by simp at k4; omega
  have last : (c.is[i].op == 20 && dd[i] != 1) = false → badI c dd i = decide (afterI c dd i > 64) := by
    intro h
    rw [hbd, h, show decide (popsN c.fs c.is[i] > dd[i]) = false from decide_eq_false k4]; rfl
  conv => whnf
  refine ⟨by omega, _, get_map inD hil, ?_⟩
  conv => whnf
  rintro (_ | _) k5
  have k8 := last (by rw [show (c.is[i].op == 20) = false from k5]; rfl)
  rotate_left
  have k5 : c.is[i].op = 20 := by simpa using k5
  conv => whnf
  refine ⟨by omega, by rw [hmd]; omega, ?_⟩
  conv => whnf
  refine ⟨_, get_map intD hid, ?_⟩
  conv => whnf
  rintro (_ | _) k6
  rotate_left
  · have k6 : (dd[i] != 1) = true := k6
    have hR := hF.bad k1 hp (by rw [hbd, k5, k6]; simp)
    subst hR
    conv => whnf
    refine ⟨?_, rfl⟩
    conv => whnf
    exact ⟨rfl, rfl, rfl⟩
  rotate_left
  have k8 := last (by rw [show (dd[i] != 1) = false from k6]; simp)
  clear k5
  all_goals
    clear last hbd
    conv => whnf
    rw [hw2]
    rintro (_ | _) k7
    rotate_left
    · have k7 : afterI c dd i > 64 := by simpa using k7
      have hR := hF.bad k1 hp (by rw [k8]; simpa using k7)
      subst hR
      conv => whnf
      refine ⟨?_, rfl⟩
      conv => whnf
      exact ⟨rfl, rfl, rfl⟩
    have k7 : ¬ afterI c dd i > 64 := by simpa using k7
    have hb : badI c dd i = false := by rw [k8]; exact decide_eq_false k7
    clear k8
    have hsuc : succs (c.is.getD i noIn) i = succs c.is[i] i := by rw [hxa]
    obtain ⟨ab1, ab2⟩ : 0 ≤ afterI c dd i ∧ afterI c dd i ≤ 64 := by omega
    conv => whnf
    refine ⟨_, x_rsucc c i hil h5 hgi.h1 hgi.h2, ?_⟩
    have hml : ((succs c.is[i] i).map intD).length = (succs c.is[i] i).length := List.length_map _
    have hS0 := Suc.start (c := c) (af := afterI c dd i) (ks := succs (c.is.getD i noIn) i) hF.rw q1
    conv => whnf
    refine ⟨[], Nat × Int × List Int, fun ⟨m, least, d⟩ => [(11, int m)], fun ⟨m, least, d⟩ => [(139, some (.row fixV 3 1 false (d.map intD)))],
      fun ⟨m, least, d⟩ => Suc c lo (setS (afterI c dd i) (succs (c.is.getD i noIn) i) dd) (afterI c dd i) i dd (succs (c.is.getD i noIn) i) m least d, fun x => (succs c.is[i] i).length - x.1, (0, (i : Int) + 1, dd), hS0, ?_, ?_⟩
    · refine ⟨rfl, ?_, ?_⟩ <;> repeat' (first | exact trivial | exact rfl | refine and_rfl ?_ | refine and_two ?_ ?_)
    rintro ⟨k, least, d2⟩ (hS : Suc c lo (setS (afterI c dd i) (succs (c.is.getD i noIn) i) dd) (afterI c dd i) i dd (succs (c.is.getD i noIn) i) k least d2)
    rw [hsuc] at hS
    have hd2 := hS.rw.len
    have hm2 : (d2.map intD).length = c.is.length := by rw [List.length_map]; exact hd2
    have hS1 := hS.ge
    have hS2 := hS.le
    conv => whnf
    rintro (_ | _) k9
    · have k9 : (succs c.is[i] i).length ≤ k := by rw [← hml]; simpa using k9
      have hl : least ≤ ed := by omega
      have hN := (hF.next k1 hp hb hm (by rw [hsuc]; exact hS) (by rw [hsuc]; exact k9) hl).lower hg q1
      conv => whnf
      refine ⟨(m, d2, fol.set i true), hN, Nat.lt_succ_self _, ?_⟩
      refine ⟨rfl, ?_, ?_⟩ <;> repeat' (first | exact trivial | exact rfl | refine and_rfl ?_ | exact st_bool _ _ hif _ | refine and_two ?_ ?_)
    have k9 : k < (succs c.is[i] i).length := by rw [← hml]; simpa using k9
    have hk6 := hgi.h6 _ (List.getElem_mem k9)
    have hkl : ((succs c.is[i] i)[k]).toNat < d2.length := by omega
    have hdk := dAt_eq hkl
    have hw3 : IntKind.i64.wrap (((k : Nat) : Int) + 1) = ((k + 1 : Nat) : Int) := wrap_succ (by
      have := succs_len c.is[i] i
      omega)
    conv => whnf
    refine ⟨by omega, _, get_map intD k9, ?_⟩
    conv => whnf
    refine ⟨by omega, by rw [hm2]; omega, ?_⟩
    conv => whnf
    refine ⟨_, get_map intD hkl, ?_⟩
    conv => whnf
    rintro (_ | _) kA
    rotate_left
    conv => whnf
    refine ⟨by omega, _, get_map intD k9, ?_⟩
    conv => whnf
    refine ⟨by omega, by rw [hm2]; omega, ?_⟩
    conv => whnf
    refine ⟨_, get_map intD hkl, ?_⟩
    conv => whnf
    rintro (_ | _) kB
    rotate_left
    · have kA : 0 ≤ d2[((succs c.is[i] i)[k]).toNat] := by simpa using kA
      have kB : d2[((succs c.is[i] i)[k]).toNat] ≠ afterI c dd i := by simpa using kB
      have hR := hF.conf k1 hp hb (by rw [hsuc]; exact hS) (m := k) (by rw [hsuc]; exact k9) (by simp only [hsuc]; rw [hdk]; exact ⟨kA, kB⟩)
      simp only [hsuc] at hR
      subst hR
      conv => whnf
      refine ⟨by omega, _, get_map intD k9, ?_⟩
      conv => whnf
      refine ⟨?_, rfl⟩
      conv => whnf
      exact ⟨rfl, rfl, rfl⟩
    have kC : ¬ (dAt d2 ((succs c.is[i] i)[k]).toNat ≥ 0 ∧ dAt d2 ((succs c.is[i] i)[k]).toNat ≠ afterI c dd i) := by rw [hdk]; simp at kA; omega
    rotate_left
    have kC : ¬ (dAt d2 ((succs c.is[i] i)[k]).toNat ≥ 0 ∧ dAt d2 ((succs c.is[i] i)[k]).toNat ≠ afterI c dd i) := by rw [hdk]; simp at kB; simp [kB]
    all_goals
      clear kA
      conv => whnf
      refine ⟨by omega, _, get_map intD k9, ?_⟩
      conv => whnf
      refine ⟨by omega, by rw [hm2]; omega, ?_⟩
      conv => whnf
      refine ⟨_, get_map intD hkl, Nat.le_refl _, ?_⟩
      conv => whnf
      refine ⟨(k + 1, _, d2.set ((succs c.is[i] i)[k]).toNat (afterI c dd i)), (by rw [hsuc]; exact hS.step k9 kC (by omega) ab2 hk6.1), by dsimp only; omega, ?_⟩
      refine ⟨rfl, ?_, ?_⟩ <;> repeat' (first | exact trivial | exact rfl | refine and_rfl ?_ | refine and_val hw3 ?_ | exact st_int _ _ hkl _ | refine and_two ?_ ?_)
end Go.Proofs.YtkpmlgpkmlhbjaaGreatDoor
namespace Go.Proofs.YtkpmlgpkmlhbjaaGreatDoor
open Go.RowKit
theorem setS_spec {N : Nat} {af : Int} (h1 : -1 ≤ af) (h2 : af ≤ 64) : ∀ (ks : List Int) (d d' : List Int), (∀ k ∈ ks, k.toNat < N) → Rw N d → setS af ks d = (none, d') →
    Rw N d' ∧ (∀ k ∈ ks, dAt d' k.toNat = af) ∧ (∀ j, dAt d j ≥ 0 → dAt d' j = dAt d j) ∧ (∀ j, (∀ k ∈ ks, k.toNat ≠ j) → dAt d' j = dAt d j)
  | [], d, d', _, hr, h => by
    unfold setS at h
    cases h
    exact ⟨hr, by simp, fun _ _ => rfl, fun _ _ => rfl⟩
  | k :: r, d, d', hk, hr, h => by
    unfold setS at h
    split at h
    · cases h
    · rename_i hc
      have hkl := hk k (by simp)
      have hc' : dAt d k.toNat ≥ 0 → dAt d k.toNat = af := by
        intro h0
        simp only [Bool.and_eq_true, decide_eq_true_eq, bne_iff_ne, ne_eq, not_and, Classical.not_not] at hc
        exact hc h0
      obtain ⟨e1, e2, e3, e4⟩ := setS_spec h1 h2 r (d.set k.toNat af) d' (fun k' hk' => hk k' (by simp [hk'])) (hr.set _ h1 h2) h
      have hset : ∀ j, dAt (d.set k.toNat af) j = if k.toNat = j then af else dAt d j := fun j => by
        rw [dAt_set]
        by_cases e : k.toNat = j
        · rw [if_pos ⟨e, by rw [hr.len]; omega⟩, if_pos e]
        · rw [if_neg (fun h => e h.1), if_neg e]
      refine ⟨e1, fun k' hk' => ?_, fun j hj => ?_, fun j hj => ?_⟩
      · rcases List.mem_cons.1 hk' with rfl | hk'
        · by_cases hex : ∃ q ∈ r, q.toNat = k'.toNat
          · obtain ⟨q, hq, e⟩ := hex
            rw [← e]; exact e2 q hq
          · rw [e4 k'.toNat (fun q hq e => hex ⟨q, hq, e⟩), hset, if_pos rfl]
        · exact e2 k' hk'
      · have e : dAt (d.set k.toNat af) j = dAt d j := by
          rw [hset]
          split
          · rename_i e; subst e; exact (hc' hj).symm
          · rfl
        rw [e3 j (by rw [e]; exact hj), e]
      · rw [e4 j (fun q hq => hj q (by simp [hq])), hset, if_neg (hj k (by simp))]
theorem nextP_get {d : List Int} {fol : List Bool} : ∀ (n i k : Nat), nextP d fol n i = some k → i ≤ k ∧ k < i + n ∧ pen d fol k = true ∧ ∀ j, i ≤ j → j < k → pen d fol j = false
  | 0, i, k, h => by cases h
  | n + 1, i, k, h => by
    unfold nextP at h
    split at h
    · rename_i h1; cases h; exact ⟨by omega, by omega, h1, fun j h2 h3 => by omega⟩
    · rename_i h1
      obtain ⟨e1, e2, e3, e4⟩ := nextP_get n (i + 1) k h
      refine ⟨by omega, by omega, e3, fun j h2 h3 => ?_⟩
      by_cases e : j = i
      · subst e; simpa using h1
      · exact e4 j (by omega) h3
theorem nextP_no {d : List Int} {fol : List Bool} : ∀ (n i : Nat), nextP d fol n i = none → ∀ j, i ≤ j → j < i + n → pen d fol j = false
  | 0, i, _, j, h1, h2 => by omega
  | n + 1, i, h, j, h1, h2 => by
    unfold nextP at h
    split at h
    · cases h
    · rename_i h3
      by_cases e : j = i
      · subst e; simpa using h3
      · exact nextP_no n (i + 1) h j (by omega) (by omega)
def Okd (c : Cd) (d : List Int) (i : Nat) : Prop := badI c d i = false ∧ ∀ k ∈ succs (c.is.getD i noIn) i, dAt d k.toNat = afterI c d i
theorem badI_eq {c : Cd} {d d' : List Int} {i : Nat} (h : dAt d' i = dAt d i) : badI c d' i = badI c d i ∧ afterI c d' i = afterI c d i := by
  unfold badI afterI
  rw [h]
  exact ⟨rfl, rfl⟩
theorem after_bound {c : Cd} {lo ed i : Nat} {d : List Int} (_hg : GoodI c lo ed i (c.is.getD i noIn)) (_h0 : 0 ≤ dAt d i) (hb : badI c d i = false) : 0 ≤ afterI c d i ∧ afterI c d i ≤ 64 := by
  unfold badI at hb
  simp only [Bool.or_eq_false_iff, decide_eq_false_iff_not] at hb
  have := push_bound (c.is.getD i noIn)
  have e : afterI c d i = dAt d i - popsN c.fs (c.is.getD i noIn) + pushN (c.is.getD i noIn) := rfl
  omega
theorem run_spec {c : Cd} {lo ed : Nat} (hed : ed ≤ c.is.length) (hg : Goods c lo ed) : ∀ (n : Nat) (d : List Int) (fol : List Bool), nfol fol = n → fol.length = c.is.length → Rw c.is.length d →
    (∀ i, lo ≤ i → i < ed → fol.getD i true = true → Okd c d i ∧ 0 ≤ dAt d i) → (YtkpmlgpkmlhbjaaGreatDoor.run c lo ed n d fol).1 < 0 →
    Rw c.is.length (YtkpmlgpkmlhbjaaGreatDoor.run c lo ed n d fol).2 ∧ (∀ i, lo ≤ i → i < ed → 0 ≤ dAt (YtkpmlgpkmlhbjaaGreatDoor.run c lo ed n d fol).2 i → Okd c (YtkpmlgpkmlhbjaaGreatDoor.run c lo ed n d fol).2 i) ∧
      (∀ j, 0 ≤ dAt d j → dAt (YtkpmlgpkmlhbjaaGreatDoor.run c lo ed n d fol).2 j = dAt d j) ∧ (∀ j, (j < lo ∨ ed ≤ j) → dAt (YtkpmlgpkmlhbjaaGreatDoor.run c lo ed n d fol).2 j = dAt d j)
  | 0, d, fol, hn, hl, hr, hi, _ => by
    refine ⟨hr, fun i h1 h2 h3 => (hi i h1 h2 ?_).1, fun _ _ => rfl, fun _ _ => rfl⟩
    cases hf : fol.getD i true with
    | true => rfl
    | false =>
      have := nfol_set hf
      omega
  | n + 1, d, fol, hn, hl, hr, hi, hneg => by
    unfold YtkpmlgpkmlhbjaaGreatDoor.run at hneg ⊢
    split at hneg
    · rename_i hnx
      have hno := nextP_no _ _ hnx
      refine ⟨hr, fun i h1 h2 h3 => (hi i h1 h2 ?_).1, fun _ _ => rfl, fun _ _ => rfl⟩
      have := hno i h1 (by omega)
      unfold pen at this
      have h3 : 0 ≤ dAt d i := h3
      simpa [h3] using this
    · rename_i i hnx
      obtain ⟨e1, e2, e3, e4⟩ := nextP_get _ _ _ hnx
      have hil : i < c.is.length := by omega
      have hpen := e3
      unfold pen at hpen
      simp only [Bool.and_eq_true, decide_eq_true_eq, Bool.not_eq_true'] at hpen
      obtain ⟨hp0, hpf⟩ := hpen
      split at hneg
      · have : ((i : Nat) : Int) < 0 := hneg
        omega
      · rename_i hb
        have hb : badI c d i = false := by simpa using hb
        rw [if_neg (by simp [hb])]
        have hgi : GoodI c lo ed i (c.is.getD i noIn) := by
          have := hg i hil e1 (by omega)
          rwa [show c.is.getD i noIn = c.is[i] by simp [hil]]
        obtain ⟨a1, a2⟩ := after_bound hgi hp0 hb
        generalize hS : setS (afterI c d i) (succs (c.is.getD i noIn) i) d = S at hneg ⊢
        obtain ⟨o, d'⟩ := S
        cases o with
        | some k =>
          have hneg : k < 0 := hneg
          exfalso
          have key : ∀ (ks : List Int) (d d' : List Int), (∀ q ∈ ks, 0 ≤ q) → setS (afterI c (d := d) i) ks d = setS (afterI c d i) ks d → True := fun _ _ _ _ _ => trivial
          have mem : ∀ (af : Int) (ks : List Int) (d d' : List Int) (k : Int), setS af ks d = (some k, d') → k ∈ ks := by
            intro af ks
            induction ks with
            | nil => intro d d' k h; unfold setS at h; cases h
            | cons q r ih =>
              intro d d' k h
              unfold setS at h
              split at h
              · cases h; simp
              · exact List.mem_cons_of_mem _ (ih _ _ _ h)
          have := hgi.h6 k (mem _ _ _ _ _ hS)
          omega
        | none =>
          dsimp only at hneg ⊢
          have hks : ∀ k ∈ succs (c.is.getD i noIn) i, k.toNat < c.is.length := fun k hk => by
            have := hgi.h6 k hk
            omega
          obtain ⟨s1, s2, s3, s4⟩ := setS_spec (by omega) a2 _ _ _ hks hr hS
          have hfs : nfol (fol.set i true) = n := by
            have := nfol_set hpf
            omega
          obtain ⟨r1, r2, r3, r4⟩ := run_spec hed hg n d' (fol.set i true) hfs (by rw [List.length_set]; exact hl) s1 (fun j j1 j2 j3 => by
            rw [fol_set] at j3
            by_cases e : i = j
            · subst e
              have e0 := s3 i hp0
              obtain ⟨q1, q2⟩ := badI_eq (c := c) e0
              exact ⟨⟨by rw [q1]; exact hb, fun k hk => by rw [q2]; exact s2 k hk⟩, by rw [e0]; exact hp0⟩
            · rw [show (i == j) = false by simpa using e, Bool.or_false] at j3
              obtain ⟨⟨o1, o2⟩, o3⟩ := hi j j1 j2 j3
              have e0 := s3 j o3
              obtain ⟨q1, q2⟩ := badI_eq (c := c) e0
              refine ⟨⟨by rw [q1]; exact o1, fun k hk => ?_⟩, by rw [e0]; exact o3⟩
              have hgj : GoodI c lo ed j (c.is.getD j noIn) := by
                have := hg j (by omega) j1 j2
                rwa [show c.is.getD j noIn = c.is[j] by simp [show j < c.is.length by omega]]
              have hab := after_bound hgj o3 o1
              have := o2 k hk
              rw [q2, s3 k.toNat (by rw [this]; exact hab.1), this]) hneg
          refine ⟨r1, r2, fun j hj => ?_, fun j hj => ?_⟩
          · have := s3 j hj
            rw [r3 j (by rw [this]; exact hj), this]
          · rw [r4 j hj, s4 j fun k hk e => by
              have := hgi.h6 k hk
              omega]
theorem depAll_spec {c : Cd} : ∀ (l : List Fn) (e : Nat) (d d' : List Int), Chain c.is.length l e → (∀ f ∈ l, Goods c f.en.toNat f.ed.toNat) → Rw c.is.length d → depAll c l d = (none, d') →
    Rw c.is.length d' ∧ (∀ f ∈ l, dAt d' f.en.toNat = 0 ∧ ∀ i, f.en.toNat ≤ i → i < f.ed.toNat → 0 ≤ dAt d' i → Okd c d' i) ∧ (∀ j, j < e → dAt d' j = dAt d j)
  | [], e, d, d', _, _, hr, h => by
    unfold depAll at h
    cases h
    exact ⟨hr, by simp, fun _ _ => rfl⟩
  | f :: r, e, d, d', hc, hg, hr, h => by
    obtain ⟨h1, h2, h3, _, _, h6⟩ := hc
    unfold depAll at h
    split at h
    · cases h
    · rename_i hn
      have hf0 := hg f (by simp)
      obtain ⟨r1, r2, r3, r4⟩ := run_spec (c := c) (lo := f.en.toNat) (ed := f.ed.toNat) (by omega) hf0 c.is.length (d.set f.en.toNat 0) (List.replicate c.is.length false) (by simp [nfol]) (by simp) (hr.set _ (by omega) (by omega))
        (fun i i1 i2 i3 => by
          exfalso
          have : i < c.is.length := by omega
          simp [this] at i3) (Int.not_le.1 hn)
      obtain ⟨q1, q2, q3⟩ := depAll_spec r f.ed.toNat _ d' (by rw [Int.toNat_of_nonneg (by omega)]; exact h6) (fun g hg' => hg g (by simp [hg'])) r1 h
      have hset : dAt (d.set f.en.toNat 0) f.en.toNat = 0 := by rw [dAt_set, if_pos ⟨rfl, by rw [hr.len]; omega⟩]
      refine ⟨q1, fun g hg' => ?_, fun j hj => ?_⟩
      · rcases List.mem_cons.1 hg' with rfl | hg'
        · refine ⟨by rw [q3 _ (by omega), r3 _ (by omega), hset], fun i i1 i2 i3 => ?_⟩
          rw [q3 i i2] at i3
          obtain ⟨o1, o2⟩ := r2 i i1 i2 i3
          obtain ⟨b1, b2⟩ := badI_eq (c := c) (q3 i i2)
          refine ⟨by rw [b1]; exact o1, fun k hk => ?_⟩
          have hgi : GoodI c g.en.toNat g.ed.toNat i (c.is.getD i noIn) := by
            have := hf0 i (by omega) i1 i2
            rwa [show c.is.getD i noIn = c.is[i] by simp [show i < c.is.length by omega]]
          have := hgi.h6 k hk
          rw [b2, q3 k.toNat (by omega)]
          exact o2 k hk
        · exact q2 g hg'
      · rw [q3 j (by omega), r4 j (by omega), dAt_set, if_neg (by omega)]
end Go.Proofs.YtkpmlgpkmlhbjaaGreatDoor
namespace Go.Proofs.YtkpmlgpkmlhbjaaGreatDoor
open Go.RowKit
section
variable {P : Program} {T : Tab}
theorem op_flag {o : Oper} {E : Operand → V} {m m' : List (Option Bk)} {v : V} {n k E1 sz1 E2 sz2 : Nat} {xs1 xs2 : List (List D)} (h : OpTr P o E m v m') (hm : m[n]? = some (some (.row k E1 sz1 true xs1)))
    (hm' : m'[n]? = some (some (.row k E2 sz2 false xs2))) (hf : Flat xs2) : OpTr P o E m v (m'.set n (some (.row k E2 sz2 true xs2))) := by
  intro B w0 N S t a w hs hx
  obtain ⟨v0, us, e1, e2, _⟩ := hs.blk n _ hm
  have hu : v0.oneCell' = true := by obtain ⟨A, c, h⟩ := own_parts e2; rw [h]; rfl
  let B' : Fr := { B with ghost := (.ow n k, v0) :: B.ghost }
  have hs' : Sat B' w0 N S t m a w := ⟨hs.low, hs.nodef, hs.tmps, hs.blk, hs.non, hs.apart, hs.data, hs.fresh, hs.own, hs.base, hs.old, hs.lent, ⟨hs.more.size, fun p hp => by
    rcases List.mem_cons.1 hp with rfl | hp
    · exact .ow n k v0 hu ⟨k, v0, e1, Nat.le_refl _, fun _ => rfl⟩
    · exact hs.more.ghost p hp, hs.more.aside, hs.more.inv⟩⟩
  intro Q
  refine Oper.wp_mono' (h B' w0 N S t a w hs' hx Q) ?_
  rintro a' w' ⟨u, he, N', S', h2, hr⟩
  refine ⟨u, he, N', S', ?_, hr⟩
  obtain ⟨v2, us2, f1, f2, f3, f4, f5, f6⟩ := h2.blk n _ hm'
  have hv : v2 = v0 := by
    have hg := h2.more.ghost (.ow n k, v0) List.mem_cons_self
    cases hg with
    | ow _ _ _ _ hn =>
      obtain ⟨k', v', g1, g2, g3⟩ := hn
      rw [f1] at g1; cases g1
      exact (g3 rfl).symm
  have hlt := lt_of_get hm'
  refine ⟨h2.low, h2.nodef, h2.tmps, fun j b hb => ?_, fun j hj => ?_, h2.apart, h2.data, h2.fresh, h2.own, h2.base, h2.old, h2.lent, ⟨h2.more.size, fun p hp => h2.more.ghost p (List.mem_cons_of_mem _ hp), h2.more.aside, h2.more.inv⟩⟩
  · by_cases hjn : j = n
    · subst hjn
      rw [List.getElem?_set_self hlt] at hb
      cases hb
      refine ⟨v2, us2, f1, f2, f3, f4, fun i q d hd => ?_, fun _ g hg => ?_⟩
      · obtain ⟨u, hu, hrel⟩ := f5 i q d hd
        refine ⟨u, hu, ?_⟩
        obtain ⟨x, hx1, hx2⟩ := Option.bind_eq_some_iff.1 hd
        obtain ⟨c, rfl⟩ := hf x (List.mem_of_getElem? hx1) d (List.mem_of_getElem? hx2)
        cases hrel
        exact .cv _ (by assumption)
      · rw [hv] at hg
        exact row_new hs hm e1 g hg
    · rw [List.getElem?_set_ne (Ne.symm hjn)] at hb
      exact h2.blk j b hb
  · by_cases hjn : j = n
    · subst hjn
      exact absurd (List.getElem?_set_self hlt) (hj _)
    · exact h2.non j fun b hb => hj b (by rw [List.getElem?_set_ne (Ne.symm hjn)]; exact hb)
theorem mcallF {st : Bool} {o : Oper} {E : Operand → V} {c : Call} {f : FuncId} {pre post av : List V} {m m1 : List (Option Bk)} {ρ φ : List Nat} {gf : Bool} {m0 m2 : List Bk} {args0 : List V} {res : V} {K : V → List (Option Bk) → Prop} {k E1 sz1 E2 sz2 : Nat} {xs1 xs2 : List (List D)} (n : Nat) (hM : MCallsG st P f args0 m0 res m2) (hf : Flat xs2)
    (hK : (res.co3 st (ρ ++ φ) m1 gf).k fun v => forceM ((putM (fun n b => b.co st (ρ ++ φ) m1 gf n) (ρ ++ φ) m2 m1).set n (some (.row k E2 sz2 true xs2))) fun m' => K v m')
    (ln : Bool := false) (ho : o.op = .call c := by exact rfl) (hc : calleeV E c = some (f, pre, post) := by exact rfl) (hz : frzB ln m (pre ++ zA T E c.args.toList c.argTypes.toList ++ post) = some (av, m1) := by exact rfl)
    (_hr : (reach m1 64 (av.flatMap V.nm3) []).reverse = ρ := by exact rfl) (hg : (av.all V.fl && flM m1 ρ) = gf := by exact rfl) (hab : abM ρ m1 ρ = some m0 := by exact rfl) (ha0 : av.map (V.ab ρ m1) = args0 := by exact rfl)
    (hchk : (distinctB (ρ ++ φ) && (freeB m1 φ && (kindB m1 ρ m2 && Nat.beq (ρ.length + φ.length) m2.length))) = true := by exact rfl)
    (hm : m[n]? = some (some (.row k E1 sz1 true xs1)) := by exact rfl) (hm' : (putM (fun n b => b.co st (ρ ++ φ) m1 gf n) (ρ ++ φ) m2 m1)[n]? = some (some (.row k E2 sz2 false xs2)) := by exact rfl) :
    ∃ v m', OpTr P o E m v m' ∧ v.k fun v => forceM m' fun m' => K v m' :=
  ⟨_, _, op_flag (op_mcall (T := T) ho hc hz hg hab ha0 hM hchk) hm hm' hf, hK⟩
end
end Go.Proofs.YtkpmlgpkmlhbjaaGreatDoor
