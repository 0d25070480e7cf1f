/- Texts joined by pack.py: XFe8 -/
import Derived.Test.YtmlednjhemnncaaFs27
namespace Go.Proofs.Ytmlednjhemnncaa
open Go.RowKit
section
variable {o : Oper} {E : Operand → V} {m : List (Option Bk)} {n k d kd : Nat} {x y : Operand} {R : List Ac}
theorem bld0 {ps : Array (Nat × Operand)} (ho : o.op = .buildSlice 58 0 ps) (hps : ps.toList = []) (hdst : o.dst = some n) (hn : m[n]? = some none) : OpTr Try.prog o E m (.ow n 1) (m.set n (some (.asr 1 (rC []) []))) :=
  ot_buildC0 (P := Try.prog) (E := E) tok ho hps (by rfl) (by rfl) (by decide) hdst hn
theorem sl_rg {lo hi : Option Operand} {l h : Nat} {rs : List (List Cl)} {outs : List V} (ho : o.op = .slice 58 x lo hi none) (hx : E x = .ow n k) (hm : m[n]? = some (some (.asr k (rowC 64 3 rs) outs))) (hlo : optInt E 0 lo = some (l : Int)) (hhi : optInt E (rs.length : Nat) hi = some (h : Int)) (h1 : l ≤ h ∧ h ≤ rs.length) : OpRd Try.prog o E m (.vw n k 3 l h) :=
  rd_ct_slice (P := Try.prog) (it := (TT 58).get (by rfl)) (ie := (TT 64).get (by rfl)) tok ho (by rfl) (by rfl) (by rfl) (by rfl) hx hm hlo hhi (by omega) (by omega) (by omega)
end
abbrev ringD (R : List Ac) (p : Nat) (c : List Cl) : List (List Cl) := ((R.map acC).set p c).take 0 ++ (((((R.take p).drop 0).map acC).map fun r => r.map Cl.dead) ++ ((R.map acC).set p c).drop p)
theorem ringD_all {R : List Ac} {p : Nat} {a : Ac} {c : Cl} : ∀ r ∈ ringD R p ((acC a).set 1 c), r.length = 3 := by
  intro r hr
  simp only [ringD, List.take_zero, List.nil_append, List.mem_append, List.mem_map] at hr
  rcases hr with ⟨r', ⟨b, _, rfl⟩, rfl⟩ | hr
  · rfl
  · exact op_len r (List.mem_of_mem_drop hr)
theorem ringD_len {R : List Ac} {p : Nat} {c : List Cl} (h : p < R.length) : (ringD R p c).length = R.length := by
  simp [ringD]; omega
theorem ringD_part {R : List Ac} {p : Nat} {c : List Cl} (h : p < R.length) : ((ringD R p c).take R.length).drop (p + 1) = ((R.take R.length).drop (p + 1)).map acC := by
  rw [List.take_of_length_le (by rw [ringD_len h]; omega), List.take_of_length_le (Nat.le_refl _)]
  have h1 : ((((R.take p).drop 0).map acC).map fun r => r.map Cl.dead).length = p := by simp; omega
  have e : (ringD R p c).drop (p + 1) = ((R.map acC).set p c).drop (p + 1) := by
    show ([] ++ _ : List (List Cl)).drop (p + 1) = _
    rw [List.nil_append, List.drop_append, List.drop_of_length_le (by omega), List.nil_append, h1, Nat.add_sub_cancel_left, List.drop_drop]
  rw [e, List.drop_set, if_pos (by omega), List.map_drop]
theorem dropR_p : ∀ {R : List Ac} {p : Nat} {a : Ac} {t : ByteArray}, R[p]? = some a → a.tn = t → t ∉ (R.take p).map (·.tn) → dropR R t = R.take p ++ R.drop (p + 1)
  | [], _, _, _, h, _, _ => by simp at h
  | b :: l, 0, a, t, h, e, _ => by
    simp at h; subst h
    simp [dropR, e]
  | b :: l, p + 1, a, t, h, e, hn => by
    simp only [List.take_succ_cons, List.map_cons, List.mem_cons, not_or] at hn
    simp only [dropR, if_neg (Ne.symm hn.1), dropR_p (by simpa using h) e hn.2, List.take_succ_cons, List.drop_succ_cons, List.cons_append]
abbrev RDM : List (Nat × Bool) := [(33, false), (38, false), (4000040, false), (5000058, false), (2000058, false)]
set_option maxRecDepth 100000 in
set_option maxHeartbeats 4000000 in
theorem x_rdrop0 (q : Int) (hq : 0 < q) (tu : Bool) (W : List (ByteArray × Int)) (R : List Ac) (t : ByteArray) (hR : R.length ≤ 1000000) (hi : idxA R t 0 = -1) :
    MCallsG true Try.prog 16 [.bx 0 0, str t] (rM q tu W R) (.sl true 3 []) (rM q tu W R) := by
  refine msxx RDM Try.func16 (by kernel_rfl) (by kernel_rfl) (by rfl) ?_
  conv => whnf
  refine mcall (T := TT) (φ := []) (x_rmade q tu W R) ?_
  conv => whnf
  refine known false (by simp [hq]) ?_
  conv => whnf
  refine mcall (T := TT) (φ := []) (x_find q tu W R t (by omega)) ?_
  rw [hi]
  conv => whnf
  refine known true rfl ?_
  exact ⟨⟨rfl, rfl, rfl⟩, rfl⟩
set_option maxRecDepth 100000 in
set_option maxHeartbeats 8000000 in
theorem x_rdrop1 (q : Int) (hq : 0 < q) (tu : Bool) (W : List (ByteArray × Int)) (R : List Ac) (t : ByteArray) (hR : R.length ≤ 1000000) (p : Nat) (hp : p < R.length) (hi : idxA R t 0 = (p : Nat)) :
    MCalls Try.prog 16 [.bx 0 0, str t] (rM q tu W R) (.ow 3 0) (rM q (if p = 0 then false else tu) W (R.take p ++ R.drop (p + 1)) ++ [.row 0 34 3 false (R[p].js.map jobD)]) := by
  have hw : IntKind.i64.wrap ((p : Nat) + 1) = ((p + 1 : Nat) : Int) := wrap_succ (by omega)
  have hres : rM q (if p = 0 then false else tu) W (R.take p ++ R.drop (p + 1)) = [.box [int q, .ow 1 0, .ow 2 0, boo (if p = 0 then false else tu)], .row 0 66 2 false (W.map wD), .asr 0 (rC (([] ++ (R.take p).drop 0) ++ (R.take R.length).drop (p + 1))) []] := by simp
  rw [hres]
  refine msxgr RDM Try.func16 (by kernel_rfl) (by kernel_rfl) ?_
  conv => whnf
  refine mcall (T := TT) (φ := []) (x_rmade q tu W R) ?_
  conv => whnf
  refine known false (by simp [hq]) ?_
  conv => whnf
  refine mcall (T := TT) (φ := []) (x_find q tu W R t (by omega)) ?_
  rw [hi]
  conv => whnf
  refine known false (by simp) ?_
  conv => whnf
  refine mcall (T := TT) (φ := []) (x_find q tu W R t (by omega)) ?_
  rw [hi]
  conv => whnf
  refine at_rd (idx_rg rfl rfl rfl rfl ⟨by omega, by simp; omega⟩) ?_
  conv => whnf
  refine at_ex (open_rg (n := 57) (d := 28) (j := p) rfl rfl rfl rfl hp) ?_
  cases p with
  | zero =>
    conv => whnf
    refine known true rfl ?_
    conv => whnf
    refine at_tr (bld0 rfl rfl rfl rfl) ?_
    conv => whnf
    refine at_rd (sl_rg (l := 0) (h := 0) rfl rfl rfl rfl rfl ⟨by omega, by simp⟩) ?_
    conv => whnf
    refine at_ex (app_rg (R := []) (R2 := R) (lo := 0) (hi := 0) rfl rfl rfl rfl rfl (.inl rfl) rfl rfl op_len (by simp) (by decide) (by omega) (by omega) (by simp) (by simp)) ?_
    conv => whnf
    refine at_rd (sl_rg (l := 1) (h := R.length) rfl rfl rfl (congrArg some hw) (congrArg (fun i : Nat => some (i : Int)) (ringD_len hp)) ⟨by omega, by rw [ringD_len hp]; omega⟩) ?_
    conv => whnf
    refine at_ex (app_rg (R := [] ++ (R.take 0).drop 0) (R2 := R) (rs := ringD R 0 ((acC R[0]).set 1 (.o 0))) (lo := 1) (hi := R.length) rfl rfl rfl rfl rfl (.inl rfl) rfl rfl ringD_all (ringD_part hp) (by decide) (by omega) (by omega) (ringD_len hp) (by simp; omega)) ?_
    conv => whnf
    refine ⟨_, GhM.gh (gh_giveC (b := 55) (d := 34) (e := 57) (i := 2) rfl rfl rfl rfl (by decide)), ?_⟩
    exact ⟨rfl, rfl, rfl⟩
  | succ p =>
    rw [if_neg (by omega)]
    conv => whnf
    refine known false (by simp; omega) ?_
    conv => whnf
    refine at_tr (bld0 rfl rfl rfl rfl) ?_
    conv => whnf
    refine at_rd (sl_rg (l := 0) (h := p + 1) rfl rfl rfl rfl rfl ⟨by omega, by simp; omega⟩) ?_
    conv => whnf
    refine at_ex (app_rg (R := []) (R2 := R) (rs := (R.map acC).set (p + 1) ((acC R[p + 1]).set 1 (.o 0))) (lo := 0) (hi := p + 1) rfl rfl rfl rfl rfl (.inl rfl) rfl rfl op_len (by rw [List.take_set_of_le (Nat.le_refl _)]; simp) (by decide) (by omega) (by omega) (by simp) (by simp; omega)) ?_
    conv => whnf
    refine at_rd (sl_rg (l := p + 2) (h := R.length) rfl rfl rfl (congrArg some hw) (congrArg (fun i : Nat => some (i : Int)) (ringD_len hp)) ⟨by omega, by rw [ringD_len hp]; omega⟩) ?_
    conv => whnf
    refine at_ex (app_rg (R := [] ++ (R.take (p + 1)).drop 0) (R2 := R) (rs := ringD R (p + 1) ((acC R[p + 1]).set 1 (.o 0))) (lo := p + 2) (hi := R.length) rfl rfl rfl rfl rfl (.inl rfl) rfl rfl ringD_all (ringD_part hp) (by decide) (by omega) (by omega) (ringD_len hp) (by simp; omega)) ?_
    conv => whnf
    refine ⟨_, GhM.gh (gh_giveC (b := 55) (d := 34) (e := 57) (i := 2) rfl rfl rfl rfl (by decide)), ?_⟩
    exact ⟨rfl, rfl, rfl⟩
end Go.Proofs.Ytmlednjhemnncaa
