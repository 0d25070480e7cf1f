/- Texts joined by pack.py: XSxBz XSxBn XCd49 XCd47 -/
import Derived.Test.YtkpmlgpkmlhbjaaGreatDoorCp14
import Derived.Test.YtkpmlgpkmlhbjaaGreatDoorCp40
import Derived.Test.YtkpmlgpkmlhbjaaGreatDoorCp33
import Derived.Test.YtkpmlgpkmlhbjaaGreatDoorCp38
namespace Go.Proofs.YtkpmlgpkmlhbjaaGreatDoor
open Go.RowKit
theorem ot_build1z {P : Program} {o : Oper} {E : Operand → V} {m : List (Option Bk)} {x : Operand} {T : Tab} (hT : TOk P T) {ty e d sz by_ : Nat} {ag : Bool} {z : List Value} {i : TI} {v' : V} {m1 : List (Option Bk)} {ds : List D} {g : Bool} {ps : Array (Nat × Operand)}
    (ho : o.op = .buildSlice ty 1 ps) (hps : ps.toList = [(0, x)]) (hti : T ty = some ⟨sz, by_, ag, z, .slice e⟩) (hie : T e = some i) (h0 : (i.size != 0 && decide (i.size ≤ 16777216)) = true)
    (hf : frz m [E x] = some ([v'], m1)) (hds : toDs (v'.z (czs T 5 e)).cells = some (ds, g)) (hdl : ds.length = i.size) (hd : o.dst = some d) (hm : m1[d]? = some none) :
    OpTr P o E m (.ow d 0) (m1.set d (some (.row 0 e i.size g [ds]))) := by
  intro B w0 N S t a w hsat hr
  simp only [Bool.and_eq_true, bne_iff_ne, ne_eq, decide_eq_true_eq] at h0
  have hps' : ps = #[(0, x)] := by cases ps; simp at hps; rw [hps]
  subst hps'
  have hrx := hr x (by rw [ho]; simp [Op.operands])
  obtain ⟨N1, S1, h3, h4, _⟩ := frz_sound hsat (us := [a.eval x]) ⟨rfl, fun i v hv => by
    cases i with
    | zero => simp at hv; subst hv; simpa using hrx
    | succ i => simp at hv⟩ hf
  have hv' : RelV N1 S1 w (v'.z (czs T 5 e)) (a.eval x) := z_rel _ (by simpa using h4.2 0 v' rfl)
  have hok := ok_buildSliceE (E := fun _ => v'.z (czs T 5 e)) hT h3 ho (fun p hp => by simp at hp; subst hp; exact hv') (K := fun v m' => v = .ow d 0 ∧ m' = m1.set d (some (.row 0 e i.size g [ds]))) (by
    rw [hti]
    simp only [hie]
    rw [if_neg (by omega)]
    simp only [elemsD, hds, List.replicate, List.length_singleton, hdl]
    rw [if_pos ⟨by simp, trivial⟩]
    cases g <;> simp only [Bool.and_true, Bool.and_false, forceD_eq, setK_eq, List.set_cons_zero, newK, hd, hm, and_self])
  intro Q
  refine Oper.wp_mono' (hok Q) ?_
  rintro a' w' ⟨u, he, N', S', v, m', h5, h6, rfl, rfl⟩
  exact ⟨u, he, N', S', h5, h6⟩
end Go.Proofs.YtkpmlgpkmlhbjaaGreatDoor
namespace Go.Proofs.YtkpmlgpkmlhbjaaGreatDoor
open Go.RowKit
theorem ot_buildN {P : Program} {o : Oper} {E : Operand → V} {m : List (Option Bk)} {T : Tab} (hT : TOk P T) {ty e d n sz by_ : Nat} {ag : Bool} {z : List Value} {i : TI} {vs : List V} {m1 : List (Option Bk)} {dss : List (List D)} {g : Bool} {ps : Array (Nat × Operand)} (E' : Operand → V)
    (ho : o.op = .buildSlice ty n ps) (hti : T ty = some ⟨sz, by_, ag, z, .slice e⟩) (hie : T e = some i) (h0 : (i.size != 0 && decide (n * i.size ≤ 16777216)) = true)
    (hf : frz m (ps.toList.map fun p => E p.2) = some (vs, m1)) (hE : ps.toList.map (fun p => E' p.2) = vs.map (V.z (czs T 5 e)))
    (hK : ∀ K : List (List D) → Bool → Prop, K dss g → elemsD i.size E' (List.replicate n (i.zero.map .cv)) true ps.toList K) (hd : o.dst = some d) (hm : m1[d]? = some none) :
    OpTr P o E m (.ow d 0) (m1.set d (some (.row 0 e i.size g dss))) := by
  intro B w0 N S t a w hsat hr
  simp only [Bool.and_eq_true, bne_iff_ne, ne_eq, decide_eq_true_eq] at h0
  obtain ⟨N1, S1, h3, h4, _⟩ := frz_sound hsat (us := ps.toList.map fun p => a.eval p.2) ⟨by simp, fun j v hv => by
    rw [List.getElem?_map, Option.map_eq_some_iff] at hv
    obtain ⟨p, hp, rfl⟩ := hv
    rw [List.getD_eq_getElem?_getD, List.getElem?_map, hp]
    exact hr p.2 (by
      rw [ho]
      simp only [Op.operands, List.mem_map]
      exact ⟨p, List.mem_of_getElem? hp, rfl⟩)⟩ hf
  have hrel : ∀ p ∈ ps.toList, RelV N1 S1 w (E' p.2) (a.eval p.2) := by
    intro p hp'
    obtain ⟨j, hj, rfl⟩ := List.getElem_of_mem hp'
    have e1 := congrArg (fun l => l[j]?) hE
    simp only [List.getElem?_map] at e1
    rw [List.getElem?_eq_getElem hj] at e1
    obtain ⟨v, hv, hve⟩ := Option.map_eq_some_iff.1 e1.symm
    have h5 := h4.2 j v hv
    rw [List.getD_eq_getElem?_getD, List.getElem?_map, List.getElem?_eq_getElem hj] at h5
    have hve : V.z (czs T 5 e) v = E' ps.toList[j].2 := hve
    rw [← hve]
    exact z_rel _ h5
  have hok := ok_buildSliceE (E := E') hT h3 ho hrel (K := fun v m' => v = .ow d 0 ∧ m' = m1.set d (some (.row 0 e i.size g dss))) (by
    rw [hti]
    simp only [hie]
    rw [if_neg (by omega)]
    refine hK _ ?_
    simp only [newK, hd, hm, setK_eq, and_self])
  intro Q
  refine Oper.wp_mono' (hok Q) ?_
  rintro a' w' ⟨u, he, N', S', v, m', h5, h6, rfl, rfl⟩
  exact ⟨u, he, N', S', h5, h6⟩
end Go.Proofs.YtkpmlgpkmlhbjaaGreatDoor
namespace Go.Proofs.YtkpmlgpkmlhbjaaGreatDoor
open Go.RowKit
def numsP (l : List Bs) : List Int × Bool := if l.all (fun s => !eB s) then (l.map nB, true) else ([], false)
abbrev numsV (p : List Int × Bool) : V := .tu [intsV p.1, boo p.2]
theorem fin_nums {p q : List Int × Bool} (h : p = q) : V.tu [.sl true 1 (p.1.map intD), boo p.2] = numsV q := by rw [h]
set_option maxHeartbeats 4000000 in
set_option maxRecDepth 100000 in
theorem x_numbers (l : List Bs) (hn : l.length ≤ 1000000) (hl : ∀ b ∈ l, b.length ≤ 281474976710656) : DCalls Tryz.prog 69 [strsV l] (numsV (numsP l)) := by
  have hls : (l.map strD).length = l.length := List.length_map _
  refine sx Tryz.func69 (by kernel_rfl) ?_
  conv => whnf
  refine ⟨[], Nat × List Int, fun ⟨k, acc⟩ => [(5, int k), (4, .ow 8 0), (8, .un)], fun ⟨k, acc⟩ => [(8, some (.row 0 3 1 true (acc.map intD)))], fun ⟨k, acc⟩ => k ≤ l.length ∧ acc = (l.take k).map nB ∧ (l.take k).all (fun s => !eB s) = true, fun x => l.length - x.1, (0, []), ⟨Nat.zero_le _, by simp, by simp⟩, ?_, ?_⟩
  · refine ⟨rfl, ?_, ?_⟩ <;> repeat' (first | exact trivial | exact rfl | refine and_rfl ?_ | refine and_two ?_ ?_)
  rintro ⟨k, acc⟩ ⟨hk1, hk2, hk3⟩
  conv => whnf
  rintro (_ | _) h1
  · have h1 : l.length ≤ k := by rw [← hls]; simpa using h1
    rw [List.take_of_length_le h1] at hk2 hk3
    conv => whnf
    exact fin_nums (p := (acc, true)) (by unfold numsP; rw [if_pos hk3, hk2])
  have h1 : k < l.length := by rw [← hls]; simpa using h1
  have hw : IntKind.i64.wrap (((k : Nat) : Int) + 1) = ((k + 1 : Nat) : Int) := wrap_succ (by omega)
  have htk : l.take (k + 1) = l.take k ++ [l[k]] := by rw [List.take_add_one, List.getElem?_eq_getElem h1]; rfl
  have hal : acc.length ≤ k := by rw [hk2]; simp; omega
  have hla : (acc.map intD).length = acc.length := List.length_map _
  conv => whnf
  refine ⟨by omega, _, get_map strD h1, ?_⟩
  conv => whnf
  refine ⟨_, x_rparseG l[k] (hl _ (List.getElem_mem h1)), ?_⟩
  conv => whnf
  rintro (_ | _) h2
  rotate_left
  · have h2 : eB l[k] = true := h2
    conv => whnf
    exact fin_nums (p := ([], false)) (by
        unfold numsP
        rw [if_neg]
        intro h
        have := List.all_eq_true.1 h _ (List.getElem_mem h1)
        rw [h2] at this
        simp at this)
  have h2 : eB l[k] = false := h2
  conv => whnf
  refine ⟨by rw [hla]; simp; omega, ?_⟩
  conv => whnf
  refine ⟨(k + 1, acc ++ [nB l[k]]), ⟨h1, by rw [htk, List.map_append, hk2]; rfl, by rw [htk, List.all_append, hk3]; simp [h2]⟩, by dsimp only; omega, ?_⟩
  refine ⟨rfl, ?_, ?_⟩ <;> repeat' (first | exact trivial | exact rfl | refine and_rfl ?_ | refine and_val hw ?_ | (simp [intD, nB]; done) | refine and_two ?_ ?_)
def fnP (l : List Bs) : Fn × Bool := if l.length = 5 ∧ (numsP (l.drop 1)).2 = true then (fnOf l, true) else (⟨[], 0, 0, 0, 0⟩, false)
abbrev fnPV (p : Fn × Bool) : V := .tu [p.1.V, boo p.2]
theorem fin_fnp {p q : Fn × Bool} (h : p = q) : fnPV p = fnPV q := by rw [h]
set_option maxHeartbeats 4000000 in
set_option maxRecDepth 100000 in
theorem x_function (l : List Bs) (hn : l.length ≤ 1000000) (hl : ∀ b ∈ l, b.length ≤ 281474976710656) : DCalls Tryz.prog 70 [strsV l] (fnPV (fnP l)) := by
  have hls : (l.map strD).length = l.length := List.length_map _
  refine sx Tryz.func70 (by kernel_rfl) ?_
  conv => whnf
  rintro (_ | _) h1
  rotate_left
  · have h1 : l.length ≠ 5 := by rw [hls] at h1; simp at h1; omega
    conv => whnf
    exact fin_fnp (p := (⟨[], 0, 0, 0, 0⟩, false)) (by unfold fnP; rw [if_neg (by simp [h1])])
  have h1 : l.length = 5 := by rw [hls] at h1; simp at h1; omega
  obtain ⟨a, b, c, d, e, rfl⟩ := list5 h1
  conv => whnf
  refine ⟨of_decide_eq_true rfl, of_decide_eq_true rfl, of_decide_eq_true rfl, ?_⟩
  conv => whnf
  refine ⟨_, x_numbers [b, c, d, e] (by simp) (fun x hx => hl x (by simp at hx ⊢; right; exact hx)), ?_⟩
  conv => whnf
  rintro (_ | _) h2
  rotate_left
  · have h2 : (numsP [b, c, d, e]).2 = false := by simpa using h2
    conv => whnf
    exact fin_fnp (p := (⟨[], 0, 0, 0, 0⟩, false)) (by unfold fnP; rw [if_neg (by simp [h2])])
  have h2 : (numsP [b, c, d, e]).2 = true := by simpa using h2
  have h3 : (numsP [b, c, d, e]).1 = [nB b, nB c, nB d, nB e] := by
    unfold numsP at h2 ⊢
    split at h2
    · rename_i h; rw [if_pos h]; rfl
    · cases h2
  rw [show fnP [a, b, c, d, e] = (fnOf [a, b, c, d, e], true) by unfold fnP; rw [if_pos ⟨rfl, h2⟩]]
  rw [h3]
  conv => whnf
  refine ⟨none, by kernel_rfl, ?_⟩
  conv => whnf
  refine ⟨by decide, _, rfl, ?_⟩
  conv => whnf
  refine ⟨by decide, _, rfl, ?_⟩
  conv => whnf
  refine ⟨by decide, _, rfl, ?_⟩
  conv => whnf
  refine ⟨by decide, _, rfl, ?_⟩
  conv => whnf
  refine ⟨by decide, _, rfl, ?_⟩
  conv => whnf
  exact fin_fnp (p := (fnOf [a, b, c, d, e], true)) rfl
def keysQ : Nat → List (List Bs) → List Bs → Option (List Bs × List (List Bs))
  | 0, l, acc => some (acc, l)
  | _ + 1, [], _ => none
  | n + 1, r :: l, acc => if r.length = 1 then keysQ n l (acc ++ [gB r 0]) else none
def kN (r : List Bs) : Nat := if nB (gB r 0) = 12 then (nB (gB r 1)).toNat else 0
def insQ : Nat → List (List Bs) → List In → List In × Bool
  | _, [], acc => (acc, true)
  | 0, _ :: _, _ => ([], false)
  | k + 1, r :: l, acc => if r.length = 3 ∧ (numsP (r.take 2)).2 = true then
      (match keysQ (kN r) l [] with
      | none => ([], false)
      | some (ks, l') => insQ k l' (acc ++ [⟨nB (gB r 0), nB (gB r 1), gB r 2, ks⟩]))
    else ([], false)
abbrev inPV (p : List In × Bool) : V := .tu [.sl true 4 (p.1.map inD), boo p.2]
theorem fin_inp {p q : List In × Bool} (h : p = q) : inPV p = inPV q := by rw [h]
def insK (k : Nat) (r : List Bs) (acc : List In) : Option (List Bs × List (List Bs)) → List In × Bool
  | none => ([], false)
  | some (ks, l') => insQ k l' (acc ++ [⟨nB (gB r 0), nB (gB r 1), gB r 2, ks⟩])
theorem insQ_go {k : Nat} {r : List Bs} {l : List (List Bs)} {acc : List In} (h : r.length = 3 ∧ (numsP (r.take 2)).2 = true) : insQ (k + 1) (r :: l) acc = insK k r acc (keysQ (kN r) l []) := by
  conv => lhs; unfold insQ
  rw [if_pos h]
  unfold insK
  rfl
theorem insQ_bad {k : Nat} {r : List Bs} {l : List (List Bs)} {acc : List In} (h : ¬ (r.length = 3 ∧ (numsP (r.take 2)).2 = true)) : insQ (k + 1) (r :: l) acc = ([], false) := by
  unfold insQ
  rw [if_neg h]
theorem insQ_nil (k : Nat) (acc : List In) : insQ k [] acc = (acc, true) := by cases k <;> rfl
theorem keysQ_nil (n : Nat) (acc : List Bs) : keysQ (n + 1) [] acc = none := rfl
theorem keysQ_cons (n : Nat) (r : List Bs) (l : List (List Bs)) (acc : List Bs) : keysQ (n + 1) (r :: l) acc = if r.length = 1 then keysQ n l (acc ++ [gB r 0]) else none := rfl
def insM : List (Nat × Bool) := [(2000023, false)]
set_option maxHeartbeats 8000000 in
set_option maxRecDepth 100000 in
theorem x_instructions (l : List (List Bs)) (hn : l.length ≤ 100000000000) (hl : ∀ r ∈ l, r.length ≤ 1000000 ∧ ∀ b ∈ r, b.length ≤ 281474976710656) : DCalls Tryz.prog 71 [rowsV l] (inPV (insQ l.length l [])) := by
  have hll : (l.map rowD).length = l.length := List.length_map _
  generalize hR : insQ l.length l [] = R
  refine sxm insM Tryz.func71 (by kernel_rfl) ?_
  conv => whnf
  refine ⟨_, _, ot_buildN (tokM insM) (vs := []) (fun _ => .un) rfl rfl rfl rfl rfl rfl (fun K h => h) rfl rfl, ?_⟩
  conv => whnf
  refine ⟨[], Nat × List In × Nat, fun ⟨j, acc, fu⟩ => [(5, int j), (4, .ow 10 0), (10, .un)], fun ⟨j, acc, fu⟩ => [(10, some (.row 0 53 4 true (acc.map inD)))], fun ⟨j, acc, fu⟩ => j ≤ l.length ∧ acc.length ≤ j ∧ l.length - j ≤ fu ∧ insQ fu (l.drop j) acc = R, fun x => l.length - x.1, (0, [], l.length), ⟨Nat.zero_le _, Nat.le_refl _, Nat.le_refl _, hR⟩, ?_, ?_⟩
  · refine ⟨rfl, ?_, ?_⟩ <;> repeat' (first | exact trivial | exact rfl | refine and_rfl ?_ | refine and_two ?_ ?_)
  clear hR
  rintro ⟨j, acc, fu⟩ ⟨hj1, hj2, hj3, hj⟩
  conv => whnf
  rintro (_ | _) h1
  · have h1 : l.length ≤ j := by rw [← hll]; simpa using h1
    rw [List.drop_eq_nil_of_le h1, insQ_nil] at hj
    conv => whnf
    exact fin_inp (p := (acc, true)) hj
  have h1 : j < l.length := by rw [← hll]; simpa using h1
  obtain ⟨fu, rfl⟩ : ∃ f, fu = f + 1 := ⟨fu - 1, by omega⟩
  rw [List.drop_eq_getElem_cons h1] at hj
  have hw : IntKind.i64.wrap (((j : Nat) : Int) + 1) = ((j + 1 : Nat) : Int) := wrap_succ (by omega)
  have hgm := get_map rowD h1
  obtain ⟨hr1, hr2⟩ := hl _ (List.getElem_mem h1)
  generalize l[j] = r at *
  have hlr : (r.map strD).length = r.length := List.length_map _
  have hla : (acc.map inD).length = acc.length := List.length_map _
  conv => whnf
  refine ⟨by omega, _, hgm, ?_⟩
  conv => whnf
  rintro (_ | _) h2
  rotate_left
  · have h2 : r.length ≠ 3 := by rw [hlr] at h2; simp at h2; omega
    rw [insQ_bad (by simp [h2])] at hj
    conv => whnf
    exact fin_inp (p := ([], false)) hj
  have h2 : r.length = 3 := by rw [hlr] at h2; simp at h2; omega
  obtain ⟨a, b, s, rfl⟩ := list3 h2
  conv => whnf
  refine ⟨by omega, _, hgm, ?_⟩
  conv => whnf
  refine ⟨of_decide_eq_true rfl, of_decide_eq_true rfl, of_decide_eq_true rfl, ?_⟩
  conv => whnf
  refine ⟨_, x_numbers [a, b] (by simp) (fun x hx => hr2 x (by simp at hx ⊢; rcases hx with h | h <;> simp [h])), ?_⟩
  conv => whnf
  rintro (_ | _) h3
  rotate_left
  · have h3 : (numsP [a, b]).2 = false := by simpa using h3
    rw [insQ_bad (by simp [h3])] at hj
    conv => whnf
    exact fin_inp (p := ([], false)) hj
  have h3 : (numsP [a, b]).2 = true := by simpa using h3
  have h4 : (numsP [a, b]).1 = [nB a, nB b] := by
    unfold numsP at h3 ⊢
    split at h3
    · rename_i h; rw [if_pos h]; rfl
    · cases h3
  rw [insQ_go (r := [a, b, s]) ⟨rfl, h3⟩] at hj
  rw [h4]
  conv => whnf
  refine ⟨none, by kernel_rfl, ?_⟩
  conv => whnf
  refine ⟨by decide, _, rfl, ?_⟩
  conv => whnf
  refine ⟨by decide, _, rfl, ?_⟩
  conv => whnf
  refine ⟨by omega, _, hgm, ?_⟩
  conv => whnf
  refine ⟨by decide, _, rfl, ?_⟩
  conv => whnf
  rintro (_ | _) h5
  · have h5 : ¬ nB a = 12 := by simpa using h5
    rw [show kN [a, b, s] = 0 from (show (if nB a = 12 then (nB b).toNat else 0) = 0 from if_neg h5)] at hj
    have hj : insQ fu (l.drop (j + 1)) (acc ++ [⟨nB a, nB b, s, []⟩]) = R := hj
    conv => whnf
    refine ⟨_, _, ot_build1z (tokM insM) rfl rfl rfl rfl rfl rfl rfl rfl rfl rfl, ?_⟩
    conv => whnf
    refine ⟨by rw [hla]; simp; omega, ?_⟩
    conv => whnf
    refine ⟨(j + 1, acc ++ [⟨nB a, nB b, s, []⟩], fu), ⟨h1, by simp; omega, by omega, hj⟩, by dsimp only; omega, ?_⟩
    refine ⟨rfl, ?_, ?_⟩ <;> repeat' (first | exact trivial | exact rfl | refine and_rfl ?_ | refine and_val hw ?_ | (rw [List.map_append]; rfl) | (simp [inD]; done) | refine and_two ?_ ?_)
  have h5 : nB a = 12 := by simpa using h5
  rw [show kN [a, b, s] = (nB b).toNat from (show (if nB a = 12 then (nB b).toNat else 0) = (nB b).toNat from if_pos h5)] at hj
  generalize hQ : keysQ (nB b).toNat (l.drop (j + 1)) [] = Q at hj
  conv => whnf
  refine ⟨[(1008003, 79, 9, 1)], Nat × Nat × List Bs, fun ⟨k, j2, ks⟩ => [(9, int k), (5, int j2)], fun ⟨k, j2, ks⟩ => [(8, some (.box [int (nB a), int (nB b), bstr s, .ow 79 0])), (79, some (.row 0 9 1 true (ks.map strD)))],
    fun ⟨k, j2, ks⟩ => j + k = j2 ∧ j2 < l.length ∧ ks.length ≤ k ∧ k ≤ (nB b).toNat ∧ keysQ ((nB b).toNat - k) (l.drop (j2 + 1)) ks = Q, fun x => l.length - x.2.1, (0, j, []), ⟨by omega, h1, Nat.le_refl _, Nat.zero_le _, hQ⟩, ?_, ?_⟩
  · refine ⟨rfl, ?_, ?_⟩ <;> repeat' (first | exact trivial | exact rfl | refine and_rfl ?_ | refine and_two ?_ ?_)
  rintro ⟨k, j2, ks⟩ ⟨u1, u2, u3, u4, u5⟩
  have hlk : (ks.map strD).length = ks.length := List.length_map _
  have hw2 : IntKind.i64.wrap (((j2 : Nat) : Int) + 1) = ((j2 + 1 : Nat) : Int) := wrap_succ (by omega)
  have hw3 : IntKind.i64.wrap (((k : Nat) : Int) + 1) = ((k + 1 : Nat) : Int) := wrap_succ (by omega)
  conv => whnf
  rintro (_ | _) v1
  · have v1 : ¬ (k : Int) < nB b := of_decide_eq_false v1
    rw [show (nB b).toNat - k = 0 by omega] at u5
    have u5 : some (ks, l.drop (j2 + 1)) = Q := u5
    rw [← u5] at hj
    have hj : insQ fu (l.drop (j2 + 1)) (acc ++ [⟨nB a, nB b, s, ks⟩]) = R := hj
    conv => whnf
    refine ⟨_, _, ot_build1z (tokM insM) rfl rfl rfl rfl rfl rfl rfl rfl rfl rfl, ?_⟩
    conv => whnf
    refine ⟨by rw [hla]; simp; omega, ?_⟩
    conv => whnf
    refine ⟨(j2 + 1, acc ++ [⟨nB a, nB b, s, ks⟩], fu), ⟨u2, by simp; omega, by omega, hj⟩, by dsimp only; omega, ?_⟩
    refine ⟨rfl, ?_, ?_⟩ <;> repeat' (first | exact trivial | exact rfl | refine and_rfl ?_ | refine and_val hw2 ?_ | (rw [List.map_append]; rfl) | (simp [inD]; done) | refine and_two ?_ ?_)
  have v1 : (k : Int) < nB b := of_decide_eq_true v1
  obtain ⟨m, hm⟩ : ∃ m, (nB b).toNat - k = m + 1 := ⟨(nB b).toNat - k - 1, by omega⟩
  rw [hm] at u5
  conv => whnf
  rw [hw2]
  rintro (_ | _) v2
  rotate_left
  · have v2 : l.length ≤ j2 + 1 := by rw [hll] at v2; simp at v2; omega
    rw [List.drop_eq_nil_of_le v2, keysQ_nil] at u5
    rw [← u5] at hj
    conv => whnf
    exact fin_inp (p := ([], false)) hj
  have v2 : j2 + 1 < l.length := by rw [hll] at v2; simp at v2; omega
  have hgm2 := get_map rowD v2
  rw [List.drop_eq_getElem_cons v2, keysQ_cons] at u5
  obtain ⟨hs1, hs2⟩ := hl _ (List.getElem_mem v2)
  generalize l[j2 + 1] = r2 at *
  have hlr2 : (r2.map strD).length = r2.length := List.length_map _
  conv => whnf
  refine ⟨by omega, _, hgm2, ?_⟩
  conv => whnf
  rintro (_ | _) v3
  rotate_left
  · have v3 : r2.length ≠ 1 := by rw [hlr2] at v3; simp at v3; omega
    rw [if_neg v3] at u5
    rw [← u5] at hj
    conv => whnf
    exact fin_inp (p := ([], false)) hj
  have v3 : r2.length = 1 := by rw [hlr2] at v3; simp at v3; omega
  rw [if_pos v3] at u5
  obtain ⟨g0, rfl⟩ := list1 v3
  conv => whnf
  refine ⟨none, by kernel_rfl, ?_⟩
  conv => whnf
  refine ⟨by omega, _, hgm2, ?_⟩
  conv => whnf
  refine ⟨by decide, _, rfl, ?_⟩
  conv => whnf
  refine ⟨by rw [hlk]; simp; omega, ?_⟩
  conv => whnf
  refine ⟨(k + 1, j2 + 1, ks ++ [g0]), ⟨by omega, v2, by simp; omega, by omega, by rw [show (nB b).toNat - (k + 1) = m by omega]; exact u5⟩, by dsimp only; omega, ?_⟩
  refine ⟨rfl, ?_, ?_⟩ <;> repeat' (first | exact trivial | exact rfl | refine and_rfl ?_ | refine and_val hw3 ?_ | (simp [strD]; done) | refine and_two ?_ ?_)
end Go.Proofs.YtkpmlgpkmlhbjaaGreatDoor
namespace Go.Proofs.YtkpmlgpkmlhbjaaGreatDoor
open Go.RowKit
abbrev packed (r : List Bs) : Bs := (packP r).1
theorem encL_ok : ∀ (l : List (List Bs)) (acc : List Bs) (t : Bs), encL l acc = (t, 0) → (∀ r ∈ l, (packP r).2 = 0) ∧ t = frames (acc ++ l.map packed)
  | [], acc, t, h => by
    have h : joinF acc = (t, 0) := h
    rw [joinF_eq] at h
    split at h
    · cases h
    · cases h; simp
  | r :: l, acc, t, h => by
    rw [encL_cons] at h
    split at h
    · rename_i hp
      obtain ⟨h1, h2⟩ := encL_ok l _ t h
      refine ⟨fun x hx => ?_, by rw [h2]; simp⟩
      rcases List.mem_cons.1 hx with rfl | hx
      · exact hp
      · exact h1 x hx
    · cases h
structure Enc (c : Cd) (t : Bs) : Prop where
  ok : (chkP c).2 = 0
  pk : ∀ r ∈ recsP c, (packP r).2 = 0
  eq : t = frames ((recsP c).map packed)
theorem enc_of {c : Cd} {t : Bs} (h : encP c = (t, 0)) : Enc c t := by
  unfold encP at h
  split at h
  · rename_i hc
    obtain ⟨h1, h2⟩ := encL_ok _ _ _ h
    exact ⟨hc, h1, by simpa using h2⟩
  · rename_i hc; exact absurd (congrArg Prod.snd h) hc
theorem Enc.split {c : Cd} {t : Bs} (h : Enc c t) : splitP t = ((recsP c).map packed, t.length) := by
  rw [h.eq]
  refine split_frames _ fun b hb => ?_
  obtain ⟨r, hr, rfl⟩ := List.mem_map.1 hb
  exact (unpack_pack (h.pk r hr)).2
theorem nB_fmt {n : Int} (h : validB n = true) : nB (fmt n) = n := by unfold nB; rw [pnumG_itoa h]
theorem eB_fmt {n : Int} (h : validB n = true) : eB (fmt n) = false := by unfold eB; rw [pnumG_itoa h]; rfl
theorem next_ok {r : List Bs} {n : Nat} {rest : List Bs} (h : (packP r).2 = 0) (hn : r.length = n) : nextF n (packed r :: rest) false = (r, rest, false) := by
  have hu := (unpack_pack h).1
  rw [next_cons, hu, if_neg (by simp)]
  subst hn
  simp
structure InV (x : In) : Prop where
  op : validB x.op = true
  a : validB x.a = true
  k : (if x.op = 12 then x.a else 0) = (x.ks.length : Int)
theorem fn_of {f : Fn} (h : validB f.ps = true ∧ validB f.ls = true ∧ validB f.en = true ∧ validB f.ed = true) : fnOf (fnR f) = f ∧ ∀ b, fnE (fnR f) b = b := by
  obtain ⟨h1, h2, h3, h4⟩ := h
  obtain ⟨nm, ps, ls, en, ed⟩ := f
  dsimp only at h1 h2 h3 h4
  constructor
  · unfold fnOf fnR gB
    simp only [List.getD_cons_zero, List.getD_cons_succ]
    rw [nB_fmt h1, nB_fmt h2, nB_fmt h3, nB_fmt h4]
  · intro b
    unfold fnE fnR gB
    simp only [List.getD_cons_zero, List.getD_cons_succ]
    rw [eB_fmt h1, eB_fmt h2, eB_fmt h3, eB_fmt h4]; simp
theorem rdF_ok : ∀ (fs : List Fn) (k : Nat) (rest : List Bs) (acc : List Fn), fs.length ≤ k → (∀ f ∈ fs, (packP (fnR f)).2 = 0 ∧ validB f.ps = true ∧ validB f.ls = true ∧ validB f.en = true ∧ validB f.ed = true) →
    rdF k fs.length ((fs.map fnR).map packed ++ rest) false acc = (acc ++ fs, rest, false)
  | [], k, rest, acc, _, _ => by rw [rdF_end (.inl (by simp))]; simp
  | f :: fs, k, rest, acc, hk, h => by
    obtain ⟨hp, hv⟩ := h f (by simp)
    obtain ⟨e1, e2⟩ := fn_of hv
    obtain ⟨k, rfl⟩ : ∃ j, k = j + 1 := ⟨k - 1, by simp at hk; omega⟩
    have hn := next_ok (n := 5) (rest := (fs.map fnR).map packed ++ rest) hp rfl
    rw [rdF_go (by simp) rfl]
    simp only [List.map_cons, List.cons_append]
    rw [hn]
    dsimp only
    rw [e1, e2, show ((f :: fs).length : Int) - 1 = (fs.length : Int) by simp, rdF_ok fs k rest _ (by simp at hk; omega) fun g hg => h g (by simp [hg])]
    simp
theorem rdK_ok : ∀ (ks : List Bs) (k : Nat) (rest : List Bs) (acc : List Bs), ks.length ≤ k → (∀ f ∈ ks, (packP [f]).2 = 0) →
    rdK k ks.length ((ks.map fun k => [k]).map packed ++ rest) false acc = (acc ++ ks, rest, false)
  | [], k, rest, acc, _, _ => by rw [rdK_end (.inl (by simp))]; simp
  | f :: fs, k, rest, acc, hk, h => by
    have hp := h f (by simp)
    obtain ⟨k, rfl⟩ : ∃ j, k = j + 1 := ⟨k - 1, by simp at hk; omega⟩
    have hn := next_ok (n := 1) (rest := (fs.map fun k => [k]).map packed ++ rest) hp rfl
    rw [rdK_go (by simp) rfl]
    simp only [List.map_cons, List.cons_append]
    rw [hn]
    dsimp only
    rw [show gB [f] 0 = f from rfl, show ((f :: fs).length : Int) - 1 = (fs.length : Int) by simp, rdK_ok fs k rest _ (by simp at hk; omega) fun g hg => h g (by simp [hg])]
    simp
theorem rdX_ok {x : In} (hx : InV x) (rest : List Bs) (h : ∀ f ∈ x.ks, (packP [f]).2 = 0) : rdX [fmt x.op, fmt x.a, x.s] ((x.ks.map fun k => [k]).map packed ++ rest) false = (x.ks, rest, false) := by
  unfold rdX inE gB
  simp only [List.getD_cons_zero, List.getD_cons_succ]
  rw [nB_fmt hx.op, nB_fmt hx.a, eB_fmt hx.op, eB_fmt hx.a, hx.k]
  have := rdK_ok x.ks (((x.ks.map fun k => [k]).map packed ++ rest).length + 1) rest [] (by simp; omega) h
  simpa using this
theorem rdI_ok : ∀ (is : List In) (k : Nat) (rest : List Bs) (acc : List In), is.length ≤ k → (∀ x ∈ is, InV x ∧ ∀ r ∈ inR x, (packP r).2 = 0) →
    rdI k is.length ((is.flatMap inR).map packed ++ rest) false acc = (acc ++ is, rest, false)
  | [], k, rest, acc, _, _ => by rw [rdI_end (.inl (by simp))]; simp
  | x :: is, k, rest, acc, hk, h => by
    obtain ⟨hx, hp⟩ := h x (by simp)
    obtain ⟨k, rfl⟩ : ∃ j, k = j + 1 := ⟨k - 1, by simp at hk; omega⟩
    have e : ((x :: is).flatMap inR).map packed ++ rest = packed [fmt x.op, fmt x.a, x.s] :: ((x.ks.map fun k => [k]).map packed ++ ((is.flatMap inR).map packed ++ rest)) := by
      rw [List.flatMap_cons, show inR x = [fmt x.op, fmt x.a, x.s] :: x.ks.map fun k => [k] from rfl]
      simp
    rw [e]
    have hn := next_ok (n := 3) (rest := (x.ks.map fun k => [k]).map packed ++ ((is.flatMap inR).map packed ++ rest)) (hp [fmt x.op, fmt x.a, x.s] (by unfold inR; simp)) rfl
    have hX := rdX_ok hx ((is.flatMap inR).map packed ++ rest) fun f hf => hp [f] (by unfold inR; simp [hf])
    rw [rdI_go (by simp) rfl hn hX, show ((x :: is).length : Int) - 1 = (is.length : Int) by simp, rdI_ok is k rest _ (by simp at hk; omega) fun y hy => h y (by simp [hy])]
    have e2 : (⟨nB (gB [fmt x.op, fmt x.a, x.s] 0), nB (gB [fmt x.op, fmt x.a, x.s] 1), gB [fmt x.op, fmt x.a, x.s] 2, x.ks⟩ : In) = x := by
      show (⟨nB (fmt x.op), nB (fmt x.a), x.s, x.ks⟩ : In) = x
      rw [nB_fmt hx.op, nB_fmt hx.a]
    rw [e2]; simp
theorem Sound.inv {c : Cd} (h : Sound c) : ∀ x ∈ c.is, InV x := fun x hx => by
  obtain ⟨v1, v2⟩ := h.recOk.is x hx
  refine ⟨v1, v2, ?_⟩
  obtain ⟨i, hi, rfl⟩ := List.getElem_of_mem hx
  obtain ⟨f, hf, _, _, _, _, _, hfo⟩ := h.cover hi
  obtain ⟨_, k2, _, _⟩ := formed_ks hfo
  obtain ⟨_, _, ho⟩ := formed_op hfo
  split
  · rename_i h12
    unfold opdB at ho
    rw [h12] at ho
    simp [bareB] at ho
    exact ho.1
  · rename_i h12
    rw [k2 h12]; rfl
theorem Enc.sound {c : Cd} {t : Bs} (h : Enc c t) : Sound c := (sound_of h.ok).1
theorem rdC_ok {c : Cd} {t : Bs} (h : Enc c t) : rdC (splitP t).1 false = (c, [], false) := by
  have hS := h.sound
  have hr := hS.recOk
  rw [h.split]
  dsimp only
  have hrec : recsP c = hdR c :: (c.fs.map fnR ++ c.is.flatMap inR) := rfl
  have v1 : validB (c.fs.length : Int) = true := valid_nat (by have := hS.f16; omega)
  have v2 : validB (c.is.length : Int) = true := valid_nat (by have := hS.i4k; omega)
  have hn := next_ok (n := 2) (rest := (c.fs.map fnR ++ c.is.flatMap inR).map packed) (h.pk (hdR c) (by rw [hrec]; simp)) rfl
  have hH : rdH ((recsP c).map packed) false = (hdR c, (c.fs.map fnR ++ c.is.flatMap inR).map packed, false) := by
    unfold rdH
    rw [hrec, List.map_cons, hn]
    show (hdR c, _, false || eB (fmt c.fs.length) || eB (fmt c.is.length)) = _
    rw [eB_fmt v1, eB_fmt v2]; rfl
  have hF : rdFs ((recsP c).map packed) false = (c.fs, (c.is.flatMap inR).map packed, false) := by
    unfold rdFs
    rw [hH]
    dsimp only
    rw [show gB (hdR c) 0 = fmt c.fs.length from rfl, nB_fmt v1]
    have := rdF_ok c.fs (((recsP c).map packed).length + 1) ((c.is.flatMap inR).map packed) [] (by rw [List.length_map, recs_len]; omega) fun f hf => ⟨h.pk _ (by rw [hrec]; simp; exact .inr (.inl ⟨f, hf, rfl⟩)), hr.fs f hf⟩
    rw [List.map_append]; simpa using this
  unfold rdC rdIs
  rw [hF, hH]
  dsimp only
  rw [show gB (hdR c) 1 = fmt c.is.length from rfl, nB_fmt v2]
  have := rdI_ok c.is (((recsP c).map packed).length + 1) [] [] (by rw [List.length_map, recs_len]; have := flatR_len c.is; omega) fun x hx => ⟨hS.inv x hx, fun r hr' => h.pk _ (by rw [hrec]; simp; exact .inr (.inr ⟨x, hx, hr'⟩))⟩
  rw [List.append_nil] at this
  rw [this]; rfl
def zCd : Cd := ⟨[], []⟩
def fnsQ : List (List Bs) → List Fn → Option (List Fn)
  | [], acc => some acc
  | r :: l, acc => if (fnP r).2 = true then fnsQ l (acc ++ [(fnP r).1]) else none
def readL (s : Bs) : List (List Bs) := (splitP s).1.map fun b => (unpackP b).1
def readN (s : Bs) : Int := nB (gB ((readL s).getD 0 []) 0)
def readQ (l : List (List Bs)) : Option (List Fn) → Cd × Bool
  | none => (zCd, false)
  | some fs => (⟨fs, (insQ l.length l []).1⟩, (insQ l.length l []).2)
def readP (s : Bs) : Cd × Bool :=
  if (splitP s).1.all (fun b => (unpackP b).2 == 0) = false then (zCd, false)
  else if (splitP s).2 ≠ s.length ∨ (readL s).length < 1 ∨ ((readL s).getD 0 []).length ≠ 2 then (zCd, false)
  else if (numsP ((readL s).getD 0 [])).2 = false ∨ readN s < 0 ∨ readN s > (readL s).length - 1 then (zCd, false)
  else readQ ((readL s).drop (1 + (readN s).toNat)) (fnsQ (((readL s).drop 1).take (readN s).toNat) [])
theorem nums_ok {l : List Bs} (h : ∀ s ∈ l, eB s = false) : (numsP l).2 = true := by
  unfold numsP
  rw [if_pos]
  exact List.all_eq_true.2 fun s hs => by rw [h s hs]; rfl
theorem fnP_ok {f : Fn} (h : validB f.ps = true ∧ validB f.ls = true ∧ validB f.en = true ∧ validB f.ed = true) : fnP (fnR f) = (f, true) := by
  have e := (fn_of h).1
  obtain ⟨h1, h2, h3, h4⟩ := h
  unfold fnP
  rw [if_pos ⟨rfl, nums_ok fun s hs => by
    simp only [fnR, List.drop_succ_cons, List.drop_zero, List.mem_cons, List.not_mem_nil, or_false] at hs
    rcases hs with rfl | rfl | rfl | rfl
    · exact eB_fmt h1
    · exact eB_fmt h2
    · exact eB_fmt h3
    · exact eB_fmt h4⟩, e]
theorem fnsQ_ok : ∀ (fs acc : List Fn), (∀ f ∈ fs, validB f.ps = true ∧ validB f.ls = true ∧ validB f.en = true ∧ validB f.ed = true) → fnsQ (fs.map fnR) acc = some (acc ++ fs)
  | [], acc, _ => by simp [fnsQ]
  | f :: fs, acc, h => by
    have hf := fnP_ok (h f (by simp))
    rw [List.map_cons]
    unfold fnsQ
    rw [hf, if_pos rfl, fnsQ_ok fs _ fun g hg => h g (by simp [hg])]
    simp
theorem keysQ_ok : ∀ (ks : List Bs) (rest : List (List Bs)) (acc : List Bs), keysQ ks.length ((ks.map fun k => [k]) ++ rest) acc = some (acc ++ ks, rest)
  | [], rest, acc => by simp [keysQ]
  | k :: ks, rest, acc => by
    rw [List.length_cons, List.map_cons, List.cons_append, keysQ_cons, if_pos (show [k].length = 1 from rfl), show gB [k] 0 = k from rfl, keysQ_ok ks rest _]
    simp
theorem insQ_ok : ∀ (is : List In) (k : Nat) (acc : List In), (is.flatMap inR).length ≤ k → (∀ x ∈ is, InV x) → insQ k (is.flatMap inR) acc = (acc ++ is, true)
  | [], k, acc, _, _ => by rw [List.flatMap_nil, insQ_nil]; simp
  | x :: is, k, acc, hk, h => by
    have hx := h x (by simp)
    have e : (x :: is).flatMap inR = [fmt x.op, fmt x.a, x.s] :: ((x.ks.map fun k => [k]) ++ is.flatMap inR) := by
      rw [List.flatMap_cons]; rfl
    rw [e] at hk ⊢
    simp only [List.length_cons, List.length_append, List.length_map] at hk
    obtain ⟨k, rfl⟩ : ∃ j, k = j + 1 := ⟨k - 1, by omega⟩
    have hkn : kN [fmt x.op, fmt x.a, x.s] = x.ks.length := by
      show (if nB (fmt x.op) = 12 then (nB (fmt x.a)).toNat else 0) = x.ks.length
      rw [nB_fmt hx.op, nB_fmt hx.a]
      have := hx.k
      split at this
      · rename_i h12; rw [if_pos h12]; omega
      · rename_i h12; rw [if_neg h12]; omega
    rw [insQ_go ⟨rfl, nums_ok fun s hs => by
      simp only [List.take_succ_cons, List.take_zero, List.mem_cons, List.not_mem_nil, or_false] at hs
      rcases hs with rfl | rfl
      · exact eB_fmt hx.op
      · exact eB_fmt hx.a⟩, hkn, keysQ_ok x.ks (is.flatMap inR) []]
    show insQ k (is.flatMap inR) (acc ++ [(⟨nB (fmt x.op), nB (fmt x.a), x.s, [] ++ x.ks⟩ : In)]) = _
    rw [nB_fmt hx.op, nB_fmt hx.a, List.nil_append, insQ_ok is k _ (by omega) fun y hy => h y (by simp [hy])]
    simp
theorem readP_ok {c : Cd} {t : Bs} (h : Enc c t) : readP t = (c, true) := by
  have hS := h.sound
  have hr := hS.recOk
  have hrec : recsP c = hdR c :: (c.fs.map fnR ++ c.is.flatMap inR) := rfl
  have v1 : validB (c.fs.length : Int) = true := valid_nat (by have := hS.f16; omega)
  have v2 : validB (c.is.length : Int) = true := valid_nat (by have := hS.i4k; omega)
  have hL : readL t = recsP c := by
    unfold readL
    rw [h.split]
    dsimp only
    rw [List.map_map]
    conv => rhs; rw [← List.map_id (recsP c)]
    refine List.map_congr_left fun r hr' => ?_
    show (unpackP (packed r)).1 = r
    rw [(unpack_pack (h.pk r hr')).1]
  have hall : (splitP t).1.all (fun b => (unpackP b).2 == 0) = true := by
    rw [h.split]
    refine List.all_eq_true.2 fun b hb => ?_
    obtain ⟨r, hr', rfl⟩ := List.mem_map.1 hb
    rw [(unpack_pack (h.pk r hr')).1]; rfl
  have h0 : (readL t).getD 0 [] = hdR c := by rw [hL, hrec]; rfl
  have hN : readN t = c.fs.length := by unfold readN; rw [h0, show gB (hdR c) 0 = fmt c.fs.length from rfl, nB_fmt v1]
  unfold readP
  rw [hall, if_neg (by simp), h0, hN, if_neg, if_neg]
  rotate_left
  · rintro (h1 | h1 | h1)
    · rw [nums_ok] at h1
      · cases h1
      · intro s hs
        simp only [hdR, List.mem_cons, List.not_mem_nil, or_false] at hs
        rcases hs with rfl | rfl
        · exact eB_fmt v1
        · exact eB_fmt v2
    · omega
    · rw [hL, recs_len] at h1; omega
  · rintro (h1 | h1 | h1)
    · rw [h.split] at h1; exact h1 rfl
    · rw [hL, recs_len] at h1; omega
    · exact h1 rfl
  rw [hL, hrec, Int.toNat_natCast, Nat.add_comm 1, List.drop_succ_cons, List.drop_succ_cons, List.drop_zero, List.drop_left' (by simp), List.take_left' (by simp), fnsQ_ok c.fs [] hr.fs]
  show ((⟨[] ++ c.fs, (insQ _ (c.is.flatMap inR) []).1⟩ : Cd), (insQ _ (c.is.flatMap inR) []).2) = _
  rw [insQ_ok c.is _ [] (Nat.le_refl _) hS.inv]
  simp
def decP (s : Bs) : Cd × Int :=
  if (rdC (splitP s).1 false).2.2 = true then (zCd, 13)
  else if (encP (rdC (splitP s).1 false).1).2 ≠ 0 ∨ (encP (rdC (splitP s).1 false).1).1 ≠ s then (zCd, 13)
  else ((rdC (splitP s).1 false).1, 0)
def rdecP (s : Bs) : Cd × Int :=
  if (readP s).2 = false then (zCd, 13)
  else if (encP (readP s).1).2 ≠ 0 ∨ (encP (readP s).1).1 ≠ s then (zCd, 13)
  else ((readP s).1, 0)
theorem dec_enc {c : Cd} {t : Bs} (h : encP c = (t, 0)) : decP t = (c, 0) ∧ rdecP t = (c, 0) := by
  have hE := enc_of h
  constructor
  · unfold decP
    rw [rdC_ok hE, if_neg (by simp), h, if_neg (by simp)]
  · unfold rdecP
    rw [readP_ok hE, if_neg (by simp), h, if_neg (by simp)]
theorem dec_iff (s : Bs) : (decP s).2 = 0 → encP (decP s).1 = (s, 0) := by
  unfold decP
  split
  · intro h; cases h
  · split
    · intro h; cases h
    · rename_i h
      intro _
      simp only [not_or, Classical.not_not] at h
      exact Prod.ext h.2 h.1
theorem rdec_iff (s : Bs) : (rdecP s).2 = 0 → encP (rdecP s).1 = (s, 0) := by
  unfold rdecP
  split
  · intro h; cases h
  · split
    · intro h; cases h
    · rename_i h
      intro _
      simp only [not_or, Classical.not_not] at h
      exact Prod.ext h.2 h.1
theorem dec_err (s : Bs) : (decP s).2 ≠ 0 → decP s = (zCd, 13) := by
  unfold decP
  split
  · intro _; rfl
  · split
    · intro _; rfl
    · intro h; exact absurd rfl h
theorem rdec_err (s : Bs) : (rdecP s).2 ≠ 0 → rdecP s = (zCd, 13) := by
  unfold rdecP
  split
  · intro _; rfl
  · split
    · intro _; rfl
    · intro h; exact absurd rfl h
theorem dec_same (s : Bs) : decP s = rdecP s := by
  by_cases h : (decP s).2 = 0
  · have h1 := dec_enc (dec_iff s h)
    rw [h1.1, h1.2]
  · by_cases h2 : (rdecP s).2 = 0
    · have h1 := dec_enc (rdec_iff s h2)
      rw [h1.1, h1.2]
    · rw [dec_err s h, rdec_err s h2]
end Go.Proofs.YtkpmlgpkmlhbjaaGreatDoor
