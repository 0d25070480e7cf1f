/- Texts joined by pack.py: XFd0 -/
import Derived.Test.YtmlednjhemnncaaFq26
import Derived.Test.YtmlednjhemnncaaFq27
namespace Go.Proofs.Ytmlednjhemnncaa
open Go.RowKit
abbrev FB : List (Nat × Bool) := [(7, false), (10, false), (12, false), (15, false), (17, false), (21, true), (7000033, false)]
theorem stepG {α : Type} {a : (α → Prop) → Prop} {K : α → Prop} (h : ∀ K', K' = K → a K') : a K := h K rfl
theorem cond_known {P : Program} {T : Tab} {d : Nat} {x y : Code} {t : List V} {m : List (Option Bk)} {K : Ex → St → Prop} {c : Bool} (b0 : Bool) (h : ev t (.tmp d) = .cv (.bool c)) (hc : c = b0) (g : setK t d (.kb b0) fun t => match b0 with | true => awp P T x ⟨t, m⟩ K | false => awp P T y ⟨t, m⟩ K) : awp P T (.cond (.tmp d) x y) ⟨t, m⟩ K := by
  unfold awp
  rw [h]
  intro b' hb'
  subst hb' hc
  cases c <;> exact g
theorem eqB' {A B : ByteArray} (h : A = B) : (A.toList == B.toList) = true := by subst h; simp
theorem neB' {A B : ByteArray} (h : A ≠ B) : (A.toList == B.toList) = false := by
  cases e : (A.toList == B.toList) with
  | false => rfl
  | true => exact absurd (sEq_iff.1 e) h
theorem and_boo {a b : Bool} {p : Prop} (e : a = b) (h : p) : V.cv (.bool a) = V.cv (.bool b) ∧ p := ⟨by rw [e], h⟩
theorem cutF {Q : Prop} {F I : Qs → Qm → Int → Int → Int → Bool → Int → Int → Int → Bool → Prop} (h1 : (∀ s M wa sa ma xa wb sb mb xb, I s M wa sa ma xa wb sb mb xb → F s M wa sa ma xa wb sb mb xb) → Q) (h2 : ∀ s M wa sa ma xa wb sb mb xb, I s M wa sa ma xa wb sb mb xb → F s M wa sa ma xa wb sb mb xb) : Q := h1 h2
theorem getD_cost (A : ByteArray) (o : Option Jb) : (o.getD Jb.zero).tn = A → costOf A o = (o.getD Jb.zero).co := by
  intro h
  cases o with
  | none => rfl
  | some j =>
    have h : j.tn = A := h
    simp [costOf, h]
theorem getD_nocost (A : ByteArray) (o : Option Jb) : (o.getD Jb.zero).tn ≠ A → costOf A o = 0 := by
  intro h
  cases o with
  | none => rfl
  | some j =>
    have h : j.tn ≠ A := h
    simp [costOf, h]
set_option maxRecDepth 100000 in
set_option maxHeartbeats 32000000 in
theorem x_bounds (q : Int) (L : List Opf) (A B : ByteArray) (hL : L.length ≤ 8796093022207) (hj : ∀ o ∈ L, o.j.id.size ≤ maxLen ∧ o.j.tn.size ≤ maxLen) : DCalls Try.prog 5 [.ag [int q, .sl false 5 (L.map opfD), str A, str B]] (boo true) := by
  refine sxm FB Try.func5 (by kernel_rfl) ?_
  by_cases hq : 1 ≤ q ∧ q ≤ 1000000
  rotate_left
  · conv => whnf
    refine mcallV (ln := true) (ρ := []) (gf := true) (T := TT) (φ := []) (x_new0 q hq) ?_
    repeat ((conv => whnf); first | refine known false rfl ?_ | refine known true rfl ?_)
    conv => whnf
    refine ⟨_, x_awake, ?_⟩
    (conv => whnf) <;> rfl
  conv => whnf
  refine mcallV (ln := true) (ρ := []) (gf := true) (T := TT) (φ := [18, 20, 21, 22, 23]) (x_new q hq) ?_
  conv => whnf
  refine known false rfl ?_
  by_cases hn : 300 < L.length
  · conv => whnf
    refine known true (by simp; omega) ?_
    repeat ((conv => whnf); first | refine known false rfl ?_ | refine known true rfl ?_)
    conv => whnf
    refine ⟨_, x_awake, ?_⟩
    (conv => whnf) <;> rfl
  conv => whnf
  refine known false (by simp; omega) ?_
  by_cases hAB : A = B
  · have hAB := eqB' hAB
    repeat ((conv => whnf); first | refine known false rfl ?_ | refine known true rfl ?_ | refine known true hAB ?_)
    conv => whnf
    refine ⟨_, x_awake, ?_⟩
    (conv => whnf) <;> rfl
  have nAB := neB' hAB
  repeat ((conv => whnf); first | refine known false rfl ?_ | refine known true rfl ?_ | refine known false nAB ?_)
  conv => whnf
  refine ⟨[], Nat × Qs × Qm × Int × Int × Int × Bool × Int × Int × Int × Bool × Int × Int, fun ⟨i, s, M, wa, sa, ma, xa, wb, sb, mb, xb, lo, hi⟩ => [(7, int lo), (8, int hi), (9, int i), (0, .un), (4, .un), (16, .un), (17, .un), (18, .un), (19, .un), (20, .un), (21, .un), (22, .un), (23, .un), (24, .un), (25, .un), (26, .un), (27, .un), (28, .un), (29, .un), (30, .un), (31, .un), (32, .un), (33, .un), (34, .un), (35, .un), (36, .un), (37, .un), (38, .un), (39, .un)], fun ⟨i, s, M, wa, sa, ma, xa, wb, sb, mb, xb, lo, hi⟩ => [(5, some (.box [int wa, int sa, int ma, boo xa])), (6, some (.box [int wb, int sb, int mb, boo xb])), (18, some (.box [int s.q, .ow 20 0, .ow 21 0, .ow 22 0, .ow 23 0, boo M.tu])), (20, some (.asr 0 (mapC (intM s.W)) [])), (21, some (.asr 0 (mapC (jobM M.J)) [])), (22, some (.asr 0 (mapC (intM M.De)) [])), (23, some (.row 0 9 1 false (M.R.map strD)))], fun ⟨i, s, M, wa, sa, ma, xa, wb, sb, mb, xb, lo, hi⟩ => i ≤ L.length ∧ s.q = q ∧ Fit s M ∧ s.fine ∧ Bn i s A B wa sa ma xa wb sb mb xb lo hi, fun ⟨i, _⟩ => L.length - i, (0, Qs.new q, ⟨[], [], false, []⟩, 1, 0, 0, false, 1, 0, 0, false, 0, 0), ⟨by simp, rfl, fit_new q, fine_new hq, Bn.new q⟩, ?_, ?_⟩
  · refine ⟨rfl, ?_, ?_⟩ <;> repeat' (first | exact trivial | exact rfl | refine and_rfl ?_ | refine and_two ?_ ?_)
  rintro ⟨i, s, M, wa, sa, ma, xa, wb, sb, mb, xb, lo, hi⟩ ⟨hi0, hsq, hfit, hf, hb⟩
  conv => whnf
  rintro (_ | _) h1
  · conv => whnf
    refine ⟨_, x_awake, ?_⟩
    (conv => whnf) <;> rfl
  simp at h1
  conv => whnf
  refine ⟨by omega, _, get_map opfD h1, ?_⟩
  have hjl := hj _ (List.getElem_mem h1)
  generalize L[i] = o at hjl ⊢
  obtain ⟨k, j, on⟩ := o
  dsimp only at hjl
  have hi1 : IntKind.i64.wrap ((i : Nat) + 1) = ((i + 1 : Nat) : Int) := wrap_succ (by omega)
  have hm0 := hb.a.m0
  have hm1 := hb.b.m0
  have hpj : pushE s j = 0 → 1 ≤ j.co ∧ j.co ≤ 1000000000 := fun h => by
    have h1 := push_ok h
    have h2 := hf.q2
    omega
  have hi2 : i + 1 ≤ 300 := by omega
  apply cutF (I := fun s' M' wa sa ma xa wb sb mb xb => s'.q = q ∧ Fit s' M' ∧ s'.fine ∧ MidS (i + 1) s' A B wa sa ma xa wb sb mb xb lo hi)
  · intro key
    conv => whnf
    rintro (_ | _) k0
    rotate_left
    · obtain ⟨M', hfit', cp⟩ := c_push hfit hf j hjl.1 hjl.2
      have hf' := hf.push j
      have hsq' : (s.push j).q = q := by rw [(push_keeps s j).1]; exact hsq
      obtain ⟨pe, hpe⟩ : ∃ x, pushE s j = x := ⟨_, rfl⟩
      rw [hpe] at cp
      conv => whnf
      refine mcallV (ln := true) (ρ := [18, 20, 21, 22, 23]) (gf := false) (T := TT) (φ := []) cp ?_
      by_cases k1 : pe = 0
      rotate_left
      · have k2 : (pe == 0) = false := by clear key; simpa using k1
        have hb' := hb.push hf hAB (j := j) (Int.le_refl ma) hm0.2 (fun h => absurd (hpe.symm.trans h) k1) (Int.le_refl mb) hm1.2 (fun h => absurd (hpe.symm.trans h) k1)
        conv => whnf
        refine known false k2 ?_
        repeat ((conv => whnf); first | refine known false rfl ?_ | refine known true rfl ?_ | refine known false k2 ?_)
        generalize s.push j = s' at hb' hf' hsq' hfit' ⊢
        obtain ⟨wa', ewa⟩ : ∃ x, wa = x := ⟨_, rfl⟩
        obtain ⟨sa', esa⟩ : ∃ x, sa = x := ⟨_, rfl⟩
        obtain ⟨ma', ema⟩ : ∃ x, ma = x := ⟨_, rfl⟩
        obtain ⟨xa', exa⟩ : ∃ x, xa = x := ⟨_, rfl⟩
        obtain ⟨wb', ewb⟩ : ∃ x, wb = x := ⟨_, rfl⟩
        obtain ⟨sb', esb⟩ : ∃ x, sb = x := ⟨_, rfl⟩
        obtain ⟨mb', emb⟩ : ∃ x, mb = x := ⟨_, rfl⟩
        obtain ⟨xb', exb⟩ : ∃ x, xb = x := ⟨_, rfl⟩
        rw [ewa, esa, ema, exa, ewb, esb, emb, exb] at hb'
        conv => whnf
        refine ⟨[(1, .bx 1 0), (3, .bx 18 0), (5, .bx 5 0), (6, .bx 6 0), (7, int lo), (8, int hi), (9, int i)], [(1, .box [int q, .sl false 5 (L.map opfD), str A, str B]), (5, .box [int wa', int sa', int ma', boo xa']), (6, .box [int wb', int sb', int mb', boo xb']), (18, .box [int s'.q, .ow 20 0, .ow 21 0, .ow 22 0, .ow 23 0, boo M'.tu]), (20, .asr 0 (mapC (intM s'.W)) []), (21, .asr 0 (mapC (jobM M'.J)) []), (22, .asr 0 (mapC (intM M'.De)) []), (23, .row 0 9 1 false (M'.R.map strD))], _, Gh.refl _, ?_⟩
        conv => whnf
        refine And.intro ?_ ?_
        · refine ⟨rfl, ?_, ?_⟩ <;> repeat' (first | exact trivial | exact rfl | refine and_rfl ?_ | refine and_val ewa ?_ | refine and_val esa ?_ | refine and_val ema ?_ | refine and_val ewb ?_ | refine and_val esb ?_ | refine and_val emb ?_ | refine and_boo exa ?_ | refine and_boo exb ?_ | exact and_boo exa trivial | exact and_boo exb trivial |  refine and_two ?_ ?_)
        conv => whnf
        exact key s' M' wa' sa' ma' xa' wb' sb' mb' xb' ⟨hsq', hfit', hf', hb'⟩
      have k2 : (pe == 0) = true := by clear key; simpa using k1
      have hc := hpj (hpe.trans k1)
      conv => whnf
      by_cases hjA : j.tn = A
      · have cA := eqB' hjA
        have cB := neB' (A := j.tn) (B := B) (by clear key; rw [hjA]; exact hAB)
        have hb' := hb.push hf hAB (j := j) (ma' := if j.co > ma then j.co else ma) (by clear key; split <;> omega) (by clear key; split <;> omega) (fun _ _ => by clear key; split <;> omega) (Int.le_refl mb) hm1.2 (fun _ h => absurd (hjA.symm.trans h) hAB)
        refine known true k2 ?_
        refine stepG fun K' hK' => ?_; (conv => whnf); subst hK'; (with_reducible conv => whnf)
        refine stepG fun K' hK' => ?_; (conv => whnf); subst hK'; (with_reducible conv => whnf)
        iterate 6 (rw [awpOps]; refine stepG fun K' hK' => ?_; (conv => whnf); subst hK'; (with_reducible conv => whnf))
        rw [awpOps]; (with_reducible conv => whnf)
        refine cond_known true rfl cA ?_
        conv => whnf
        refine known true k2 ?_
        refine stepG fun K' hK' => ?_; (conv => whnf); subst hK'; (with_reducible conv => whnf)
        refine stepG fun K' hK' => ?_; (conv => whnf); subst hK'; (with_reducible conv => whnf)
        iterate 6 (rw [awpOps]; refine stepG fun K' hK' => ?_; (conv => whnf); subst hK'; (with_reducible conv => whnf))
        rw [awpOps]; (with_reducible conv => whnf)
        refine cond_known false rfl cB ?_
        conv => whnf
        refine ⟨[(1, .bx 1 0), (3, .bx 18 0), (5, .bx 5 0), (6, .bx 6 0), (7, int lo), (8, int hi), (9, int i)], [(1, .box [int q, .sl false 5 (L.map opfD), str A, str B]), (5, .box [int wa, int sa, int (if j.co > ma then j.co else ma), boo xa]), (6, .box [int wb, int sb, int mb, boo xb]), (18, .box [int (s.push j).q, .ow 20 0, .ow 21 0, .ow 22 0, .ow 23 0, boo M'.tu]), (20, .asr 0 (mapC (intM (s.push j).W)) []), (21, .asr 0 (mapC (jobM M'.J)) []), (22, .asr 0 (mapC (intM M'.De)) []), (23, .row 0 9 1 false (M'.R.map strD))], _, Gh.refl _, ?_⟩
        conv => whnf
        refine And.intro ?_ ?_
        · refine ⟨rfl, ?_, ?_⟩ <;> repeat' (first | exact trivial | exact rfl | refine and_rfl ?_ | refine and_two ?_ ?_)
        conv => whnf
        exact key (s.push j) M' wa sa (if j.co > ma then j.co else ma) xa wb sb mb xb ⟨hsq', hfit', hf', hb'⟩
      by_cases hjB : j.tn = B
      · have cA := neB' hjA
        have cB := eqB' hjB
        have hb' := hb.push hf hAB (j := j) (mb' := if j.co > mb then j.co else mb) (Int.le_refl ma) hm0.2 (fun _ h => absurd h hjA) (by clear key; split <;> omega) (by clear key; split <;> omega) (fun _ _ => by clear key; split <;> omega)
        refine known true k2 ?_
        refine stepG fun K' hK' => ?_; (conv => whnf); subst hK'; (with_reducible conv => whnf)
        refine stepG fun K' hK' => ?_; (conv => whnf); subst hK'; (with_reducible conv => whnf)
        iterate 6 (rw [awpOps]; refine stepG fun K' hK' => ?_; (conv => whnf); subst hK'; (with_reducible conv => whnf))
        rw [awpOps]; (with_reducible conv => whnf)
        refine cond_known false rfl cA ?_
        conv => whnf
        refine known true k2 ?_
        refine stepG fun K' hK' => ?_; (conv => whnf); subst hK'; (with_reducible conv => whnf)
        refine stepG fun K' hK' => ?_; (conv => whnf); subst hK'; (with_reducible conv => whnf)
        iterate 6 (rw [awpOps]; refine stepG fun K' hK' => ?_; (conv => whnf); subst hK'; (with_reducible conv => whnf))
        rw [awpOps]; (with_reducible conv => whnf)
        refine cond_known true rfl cB ?_
        conv => whnf
        refine ⟨[(1, .bx 1 0), (3, .bx 18 0), (5, .bx 5 0), (6, .bx 6 0), (7, int lo), (8, int hi), (9, int i)], [(1, .box [int q, .sl false 5 (L.map opfD), str A, str B]), (5, .box [int wa, int sa, int ma, boo xa]), (6, .box [int wb, int sb, int (if j.co > mb then j.co else mb), boo xb]), (18, .box [int (s.push j).q, .ow 20 0, .ow 21 0, .ow 22 0, .ow 23 0, boo M'.tu]), (20, .asr 0 (mapC (intM (s.push j).W)) []), (21, .asr 0 (mapC (jobM M'.J)) []), (22, .asr 0 (mapC (intM M'.De)) []), (23, .row 0 9 1 false (M'.R.map strD))], _, Gh.refl _, ?_⟩
        conv => whnf
        refine And.intro ?_ ?_
        · refine ⟨rfl, ?_, ?_⟩ <;> repeat' (first | exact trivial | exact rfl | refine and_rfl ?_ | refine and_two ?_ ?_)
        conv => whnf
        exact key (s.push j) M' wa sa ma xa wb sb (if j.co > mb then j.co else mb) xb ⟨hsq', hfit', hf', hb'⟩
      have cA := neB' hjA
      have cB := neB' hjB
      have hb' := hb.push hf hAB (j := j) (Int.le_refl ma) hm0.2 (fun _ h => absurd h hjA) (Int.le_refl mb) hm1.2 (fun _ h => absurd h hjB)
      refine known true k2 ?_
      refine stepG fun K' hK' => ?_; (conv => whnf); subst hK'; (with_reducible conv => whnf)
      refine stepG fun K' hK' => ?_; (conv => whnf); subst hK'; (with_reducible conv => whnf)
      iterate 6 (rw [awpOps]; refine stepG fun K' hK' => ?_; (conv => whnf); subst hK'; (with_reducible conv => whnf))
      rw [awpOps]; (with_reducible conv => whnf)
      refine cond_known false rfl cA ?_
      conv => whnf
      refine known true k2 ?_
      refine stepG fun K' hK' => ?_; (conv => whnf); subst hK'; (with_reducible conv => whnf)
      refine stepG fun K' hK' => ?_; (conv => whnf); subst hK'; (with_reducible conv => whnf)
      iterate 6 (rw [awpOps]; refine stepG fun K' hK' => ?_; (conv => whnf); subst hK'; (with_reducible conv => whnf))
      rw [awpOps]; (with_reducible conv => whnf)
      refine cond_known false rfl cB ?_
      conv => whnf
      refine ⟨[(1, .bx 1 0), (3, .bx 18 0), (5, .bx 5 0), (6, .bx 6 0), (7, int lo), (8, int hi), (9, int i)], [(1, .box [int q, .sl false 5 (L.map opfD), str A, str B]), (5, .box [int wa, int sa, int ma, boo xa]), (6, .box [int wb, int sb, int mb, boo xb]), (18, .box [int (s.push j).q, .ow 20 0, .ow 21 0, .ow 22 0, .ow 23 0, boo M'.tu]), (20, .asr 0 (mapC (intM (s.push j).W)) []), (21, .asr 0 (mapC (jobM M'.J)) []), (22, .asr 0 (mapC (intM M'.De)) []), (23, .row 0 9 1 false (M'.R.map strD))], _, Gh.refl _, ?_⟩
      conv => whnf
      refine And.intro ?_ ?_
      · refine ⟨rfl, ?_, ?_⟩ <;> repeat' (first | exact trivial | exact rfl | refine and_rfl ?_ | refine and_two ?_ ?_)
      conv => whnf
      exact key (s.push j) M' wa sa ma xa wb sb mb xb ⟨hsq', hfit', hf', hb'⟩
    conv => whnf
    rintro (_ | _) k1
    rotate_left
    · have cw := c_weigh hfit hf j.tn on hjl.2
      have hf' := hf.weigh j.tn on
      have hfit' := hfit.weigh j.tn on
      have hsq' : (s.weigh j.tn on).q = q := by rw [(weigh_W s j.tn on).2]; exact hsq
      obtain ⟨pe, hpe⟩ : ∃ x, weighE s j.tn on = x := ⟨_, rfl⟩
      rw [hpe] at cw
      conv => whnf
      refine mcallV (ln := true) (ρ := [18, 20, 21, 22, 23]) (gf := false) (T := TT) (φ := []) cw ?_
      by_cases k1 : pe = 0
      rotate_left
      · have k2 : (pe == 0) = false := by clear key; simpa using k1
        have hb' := hb.weigh (u := j.tn) (k := on) (fun h => absurd (hpe.symm.trans h) k1) (fun h => absurd (hpe.symm.trans h) k1)
        conv => whnf
        refine known false k2 ?_
        repeat ((conv => whnf); first | refine known false rfl ?_ | refine known true rfl ?_ | refine known false k2 ?_)
        conv => whnf
        refine ⟨[(1, .bx 1 0), (3, .bx 18 0), (5, .bx 5 0), (6, .bx 6 0), (7, int lo), (8, int hi), (9, int i)], [(1, .box [int q, .sl false 5 (L.map opfD), str A, str B]), (5, .box [int wa, int sa, int ma, boo xa]), (6, .box [int wb, int sb, int mb, boo xb]), (18, .box [int (s.weigh j.tn on).q, .ow 20 0, .ow 21 0, .ow 22 0, .ow 23 0, boo M.tu]), (20, .asr 0 (mapC (intM (s.weigh j.tn on).W)) []), (21, .asr 0 (mapC (jobM M.J)) []), (22, .asr 0 (mapC (intM M.De)) []), (23, .row 0 9 1 false (M.R.map strD))], _, Gh.refl _, ?_⟩
        conv => whnf
        refine And.intro ?_ ?_
        · refine ⟨rfl, ?_, ?_⟩ <;> repeat' (first | exact trivial | exact rfl | refine and_rfl ?_ | refine and_two ?_ ?_)
        conv => whnf
        exact key (s.weigh j.tn on) M wa sa ma xa wb sb mb xb ⟨hsq', hfit', hf', hb'⟩
      have k2 : (pe == 0) = true := by clear key; simpa using k1
      conv => whnf
      by_cases hjA : j.tn = A
      · have cA := eqB' hjA
        have cB := neB' (A := j.tn) (B := B) (by clear key; rw [hjA]; exact hAB)
        have hb' : MidS (i + 1) (s.weigh j.tn on) A B on sa ma true wb sb mb xb lo hi := by
          have := hb.weighA hAB (k := on) (by rw [← hjA]; exact hpe.trans k1)
          rw [← hjA] at this ⊢
          exact this
        refine known true k2 ?_
        refine stepG fun K' hK' => ?_; (conv => whnf); subst hK'; (with_reducible conv => whnf)
        refine stepG fun K' hK' => ?_; (conv => whnf); subst hK'; (with_reducible conv => whnf)
        iterate 6 (rw [awpOps]; refine stepG fun K' hK' => ?_; (conv => whnf); subst hK'; (with_reducible conv => whnf))
        rw [awpOps]; (with_reducible conv => whnf)
        refine cond_known true rfl cA ?_
        conv => whnf
        refine known true k2 ?_
        refine stepG fun K' hK' => ?_; (conv => whnf); subst hK'; (with_reducible conv => whnf)
        refine stepG fun K' hK' => ?_; (conv => whnf); subst hK'; (with_reducible conv => whnf)
        iterate 6 (rw [awpOps]; refine stepG fun K' hK' => ?_; (conv => whnf); subst hK'; (with_reducible conv => whnf))
        rw [awpOps]; (with_reducible conv => whnf)
        refine cond_known false rfl cB ?_
        conv => whnf
        refine ⟨[(1, .bx 1 0), (3, .bx 18 0), (5, .bx 5 0), (6, .bx 6 0), (7, int lo), (8, int hi), (9, int i)], [(1, .box [int q, .sl false 5 (L.map opfD), str A, str B]), (5, .box [int on, int sa, int ma, boo true]), (6, .box [int wb, int sb, int mb, boo xb]), (18, .box [int (s.weigh j.tn on).q, .ow 20 0, .ow 21 0, .ow 22 0, .ow 23 0, boo M.tu]), (20, .asr 0 (mapC (intM (s.weigh j.tn on).W)) []), (21, .asr 0 (mapC (jobM M.J)) []), (22, .asr 0 (mapC (intM M.De)) []), (23, .row 0 9 1 false (M.R.map strD))], _, Gh.refl _, ?_⟩
        conv => whnf
        refine And.intro ?_ ?_
        · refine ⟨rfl, ?_, ?_⟩ <;> repeat' (first | exact trivial | exact rfl | refine and_rfl ?_ | refine and_two ?_ ?_)
        conv => whnf
        exact key (s.weigh j.tn on) M on sa ma true wb sb mb xb ⟨hsq', hfit', hf', hb'⟩
      by_cases hjB : j.tn = B
      · have cA := neB' hjA
        have cB := eqB' hjB
        have hb' : MidS (i + 1) (s.weigh j.tn on) A B wa sa ma xa on sb mb true lo hi := by
          have := hb.weighB hAB (k := on) (by rw [← hjB]; exact hpe.trans k1)
          rw [← hjB] at this ⊢
          exact this
        refine known true k2 ?_
        refine stepG fun K' hK' => ?_; (conv => whnf); subst hK'; (with_reducible conv => whnf)
        refine stepG fun K' hK' => ?_; (conv => whnf); subst hK'; (with_reducible conv => whnf)
        iterate 6 (rw [awpOps]; refine stepG fun K' hK' => ?_; (conv => whnf); subst hK'; (with_reducible conv => whnf))
        rw [awpOps]; (with_reducible conv => whnf)
        refine cond_known false rfl cA ?_
        conv => whnf
        refine known true k2 ?_
        refine stepG fun K' hK' => ?_; (conv => whnf); subst hK'; (with_reducible conv => whnf)
        refine stepG fun K' hK' => ?_; (conv => whnf); subst hK'; (with_reducible conv => whnf)
        iterate 6 (rw [awpOps]; refine stepG fun K' hK' => ?_; (conv => whnf); subst hK'; (with_reducible conv => whnf))
        rw [awpOps]; (with_reducible conv => whnf)
        refine cond_known true rfl cB ?_
        conv => whnf
        refine ⟨[(1, .bx 1 0), (3, .bx 18 0), (5, .bx 5 0), (6, .bx 6 0), (7, int lo), (8, int hi), (9, int i)], [(1, .box [int q, .sl false 5 (L.map opfD), str A, str B]), (5, .box [int wa, int sa, int ma, boo xa]), (6, .box [int on, int sb, int mb, boo true]), (18, .box [int (s.weigh j.tn on).q, .ow 20 0, .ow 21 0, .ow 22 0, .ow 23 0, boo M.tu]), (20, .asr 0 (mapC (intM (s.weigh j.tn on).W)) []), (21, .asr 0 (mapC (jobM M.J)) []), (22, .asr 0 (mapC (intM M.De)) []), (23, .row 0 9 1 false (M.R.map strD))], _, Gh.refl _, ?_⟩
        conv => whnf
        refine And.intro ?_ ?_
        · refine ⟨rfl, ?_, ?_⟩ <;> repeat' (first | exact trivial | exact rfl | refine and_rfl ?_ | refine and_two ?_ ?_)
        conv => whnf
        exact key (s.weigh j.tn on) M wa sa ma xa on sb mb true ⟨hsq', hfit', hf', hb'⟩
      have cA := neB' hjA
      have cB := neB' hjB
      have hb' := hb.weigh (u := j.tn) (k := on) (fun _ => hjA) (fun _ => hjB)
      refine known true k2 ?_
      refine stepG fun K' hK' => ?_; (conv => whnf); subst hK'; (with_reducible conv => whnf)
      refine stepG fun K' hK' => ?_; (conv => whnf); subst hK'; (with_reducible conv => whnf)
      iterate 6 (rw [awpOps]; refine stepG fun K' hK' => ?_; (conv => whnf); subst hK'; (with_reducible conv => whnf))
      rw [awpOps]; (with_reducible conv => whnf)
      refine cond_known false rfl cA ?_
      conv => whnf
      refine known true k2 ?_
      refine stepG fun K' hK' => ?_; (conv => whnf); subst hK'; (with_reducible conv => whnf)
      refine stepG fun K' hK' => ?_; (conv => whnf); subst hK'; (with_reducible conv => whnf)
      iterate 6 (rw [awpOps]; refine stepG fun K' hK' => ?_; (conv => whnf); subst hK'; (with_reducible conv => whnf))
      rw [awpOps]; (with_reducible conv => whnf)
      refine cond_known false rfl cB ?_
      conv => whnf
      refine ⟨[(1, .bx 1 0), (3, .bx 18 0), (5, .bx 5 0), (6, .bx 6 0), (7, int lo), (8, int hi), (9, int i)], [(1, .box [int q, .sl false 5 (L.map opfD), str A, str B]), (5, .box [int wa, int sa, int ma, boo xa]), (6, .box [int wb, int sb, int mb, boo xb]), (18, .box [int (s.weigh j.tn on).q, .ow 20 0, .ow 21 0, .ow 22 0, .ow 23 0, boo M.tu]), (20, .asr 0 (mapC (intM (s.weigh j.tn on).W)) []), (21, .asr 0 (mapC (jobM M.J)) []), (22, .asr 0 (mapC (intM M.De)) []), (23, .row 0 9 1 false (M.R.map strD))], _, Gh.refl _, ?_⟩
      conv => whnf
      refine And.intro ?_ ?_
      · refine ⟨rfl, ?_, ?_⟩ <;> repeat' (first | exact trivial | exact rfl | refine and_rfl ?_ | refine and_two ?_ ?_)
      conv => whnf
      exact key (s.weigh j.tn on) M wa sa ma xa wb sb mb xb ⟨hsq', hfit', hf', hb'⟩
    conv => whnf
    rintro (_ | _) k2
    rotate_left
    · have hb' := hb.drop hf j.tn
      have hsq' : (s.drop j.tn).q = q := by rw [(drop_keeps s j.tn).1]; exact hsq
      have hf' := hf.drop j.tn
      cases hg : getE M.J j.tn with
      | none =>
        obtain ⟨q1, q2, cd⟩ := c_drop0 hfit hf hg
        rw [q1] at hb'
        conv => whnf
        refine mcallV (ln := true) (ρ := [18, 20, 21, 22, 23]) (gf := false) (T := TT) (φ := []) cd ?_
        conv => whnf
        refine ⟨[(1, .bx 1 0), (3, .bx 18 0), (5, .bx 5 0), (6, .bx 6 0), (7, int lo), (8, int hi), (9, int i)], [(1, .box [int q, .sl false 5 (L.map opfD), str A, str B]), (5, .box [int wa, int sa, int ma, boo xa]), (6, .box [int wb, int sb, int mb, boo xb]), (18, .box [int s.q, .ow 20 0, .ow 21 0, .ow 22 0, .ow 23 0, boo M.tu]), (20, .asr 0 (mapC (intM s.W)) []), (21, .asr 0 (mapC (jobM M.J)) []), (22, .asr 0 (mapC (intM M.De)) []), (23, .row 0 9 1 false (M.R.map strD))], _, Gh.refl _, ?_⟩
        conv => whnf
        refine And.intro ?_ ?_
        · refine ⟨rfl, ?_, ?_⟩ <;> repeat' (first | exact trivial | exact rfl | refine and_rfl ?_ | refine and_two ?_ ?_)
        conv => whnf
        exact key s M wa sa ma xa wb sb mb xb ⟨hsq, hfit, hf, hb'⟩
      | some js =>
        obtain ⟨q2, M', hfit', cd⟩ := c_drop1 hfit hf hg
        conv => whnf
        refine mcallV (ln := true) (ρ := [18, 20, 21, 22, 23]) (gf := false) (T := TT) (φ := [138]) cd ?_
        conv => whnf
        refine ⟨[(1, .bx 1 0), (3, .bx 18 0), (5, .bx 5 0), (6, .bx 6 0), (7, int lo), (8, int hi), (9, int i)], [(1, .box [int q, .sl false 5 (L.map opfD), str A, str B]), (5, .box [int wa, int sa, int ma, boo xa]), (6, .box [int wb, int sb, int mb, boo xb]), (18, .box [int (s.drop j.tn).q, .ow 20 0, .ow 21 0, .ow 22 0, .ow 23 0, boo M'.tu]), (20, .asr 0 (mapC (intM (s.drop j.tn).W)) []), (21, .asr 0 (mapC (jobM M'.J)) []), (22, .asr 0 (mapC (intM M'.De)) []), (23, .row 0 9 1 false (M'.R.map strD))], _, Gh.refl _, ?_⟩
        conv => whnf
        refine And.intro ?_ ?_
        · refine ⟨rfl, ?_, ?_⟩ <;> repeat' (first | exact trivial | exact rfl | refine and_rfl ?_ | refine and_two ?_ ?_)
        conv => whnf
        exact key (s.drop j.tn) M' wa sa ma xa wb sb mb xb ⟨hsq', hfit', hf', hb'⟩
    obtain ⟨M', hfit', cp⟩ := c_pop hfit hf
    have hf' : s.pop.2.fine := popF_fine _ hf
    have hsq' : s.pop.2.q = q := by rw [show s.pop.2.q = s.q from (pop_keeps _ s).1]; exact hsq
    have hb' := hb.pop hf hAB
    have hcA : (s.pop.1.getD Jb.zero).tn = A → costOf A s.pop.1 = (s.pop.1.getD Jb.zero).co := getD_cost A s.pop.1
    have hcB : (s.pop.1.getD Jb.zero).tn = B → costOf B s.pop.1 = (s.pop.1.getD Jb.zero).co := getD_cost B s.pop.1
    have nA : (s.pop.1.getD Jb.zero).tn ≠ A → costOf A s.pop.1 = 0 := getD_nocost A s.pop.1
    have nB : (s.pop.1.getD Jb.zero).tn ≠ B → costOf B s.pop.1 = 0 := getD_nocost B s.pop.1
    have hsa := hb'.s1
    have hsb := hb'.s2
    conv => whnf
    refine mcallV (ln := true) (ρ := [18, 20, 21, 22, 23]) (gf := false) (T := TT) (φ := []) cp ?_
    generalize s.pop.1.getD Jb.zero = jj at hcA hcB nA nB ⊢
    by_cases hjA : jj.tn = A
    · have cA := eqB' hjA
      have hjB : jj.tn ≠ B := fun h => hAB (hjA.symm.trans h)
      have cB := neB' hjB
      rw [hcA hjA] at hb' hsa
      rw [nB hjB, Int.add_zero] at hb'
      have e1 : IntKind.i64.wrap (sa + jj.co) = sa + jj.co := wrap_in (by clear key; omega)
      refine known true cA ?_
      conv => whnf
      rw [e1]
      repeat ((conv => whnf); first | refine known false rfl ?_ | refine known true rfl ?_ | refine known false cB ?_)
      conv => whnf
      refine ⟨[(1, .bx 1 0), (3, .bx 18 0), (5, .bx 5 0), (6, .bx 6 0), (7, int lo), (8, int hi), (9, int i)], [(1, .box [int q, .sl false 5 (L.map opfD), str A, str B]), (5, .box [int wa, int (sa + jj.co), int ma, boo xa]), (6, .box [int wb, int sb, int mb, boo xb]), (18, .box [int s.pop.2.q, .ow 20 0, .ow 21 0, .ow 22 0, .ow 23 0, boo M'.tu]), (20, .asr 0 (mapC (intM s.pop.2.W)) []), (21, .asr 0 (mapC (jobM M'.J)) []), (22, .asr 0 (mapC (intM M'.De)) []), (23, .row 0 9 1 false (M'.R.map strD))], _, Gh.refl _, ?_⟩
      conv => whnf
      refine And.intro ?_ ?_
      · refine ⟨rfl, ?_, ?_⟩ <;> repeat' (first | exact trivial | exact rfl | refine and_rfl ?_ | refine and_two ?_ ?_)
      conv => whnf
      exact key s.pop.2 M' wa (sa + jj.co) ma xa wb sb mb xb ⟨hsq', hfit', hf', hb'⟩
    rw [nA hjA, Int.add_zero] at hb'
    have cA := neB' hjA
    refine known false cA ?_
    by_cases hjB : jj.tn = B
    · have cB := eqB' hjB
      rw [hcB hjB] at hb' hsb
      have e1 : IntKind.i64.wrap (sb + jj.co) = sb + jj.co := wrap_in (by clear key; omega)
      refine known true cB ?_
      conv => whnf
      rw [e1]
      conv => whnf
      refine ⟨[(1, .bx 1 0), (3, .bx 18 0), (5, .bx 5 0), (6, .bx 6 0), (7, int lo), (8, int hi), (9, int i)], [(1, .box [int q, .sl false 5 (L.map opfD), str A, str B]), (5, .box [int wa, int sa, int ma, boo xa]), (6, .box [int wb, int (sb + jj.co), int mb, boo xb]), (18, .box [int s.pop.2.q, .ow 20 0, .ow 21 0, .ow 22 0, .ow 23 0, boo M'.tu]), (20, .asr 0 (mapC (intM s.pop.2.W)) []), (21, .asr 0 (mapC (jobM M'.J)) []), (22, .asr 0 (mapC (intM M'.De)) []), (23, .row 0 9 1 false (M'.R.map strD))], _, Gh.refl _, ?_⟩
      conv => whnf
      refine And.intro ?_ ?_
      · refine ⟨rfl, ?_, ?_⟩ <;> repeat' (first | exact trivial | exact rfl | refine and_rfl ?_ | refine and_two ?_ ?_)
      conv => whnf
      exact key s.pop.2 M' wa sa ma xa wb (sb + jj.co) mb xb ⟨hsq', hfit', hf', hb'⟩
    rw [nB hjB, Int.add_zero] at hb'
    have cB := neB' hjB
    refine known false cB ?_
    conv => whnf
    refine ⟨[(1, .bx 1 0), (3, .bx 18 0), (5, .bx 5 0), (6, .bx 6 0), (7, int lo), (8, int hi), (9, int i)], [(1, .box [int q, .sl false 5 (L.map opfD), str A, str B]), (5, .box [int wa, int sa, int ma, boo xa]), (6, .box [int wb, int sb, int mb, boo xb]), (18, .box [int s.pop.2.q, .ow 20 0, .ow 21 0, .ow 22 0, .ow 23 0, boo M'.tu]), (20, .asr 0 (mapC (intM s.pop.2.W)) []), (21, .asr 0 (mapC (jobM M'.J)) []), (22, .asr 0 (mapC (intM M'.De)) []), (23, .row 0 9 1 false (M'.R.map strD))], _, Gh.refl _, ?_⟩
    conv => whnf
    refine And.intro ?_ ?_
    · refine ⟨rfl, ?_, ?_⟩ <;> repeat' (first | exact trivial | exact rfl | refine and_rfl ?_ | refine and_two ?_ ?_)
    conv => whnf
    exact key s.pop.2 M' wa sa ma xa wb sb mb xb ⟨hsq', hfit', hf', hb'⟩
  rintro s' M' wa sa ma xa wb sb mb xb ⟨hsq, hfit, hf, hb⟩
  have bA := c_backlog hfit hf A
  have bB := c_backlog hfit hf B
  by_cases hA : A ∈ tns s'
  rotate_left
  · have zA : (costs (jobsOf s' A) == 0) = true := by rw [(costs_nil hf A).2 hA]; rfl
    have hb := hb.offA hA
    by_cases hB : B ∈ tns s'
    rotate_left
    · have zB : (costs (jobsOf s' B) == 0) = true := by rw [(costs_nil hf B).2 hB]; rfl
      have hb := hb.offB hB
      conv => whnf
      refine mcallC (T := TT) (gf := false) (ρ := [18, 20, 21, 22, 23]) bA ?_
      conv => whnf
      refine known true zA ?_
      conv => whnf
      refine mcallC (T := TT) (gf := false) (ρ := [18, 20, 21, 22, 23]) bB ?_
      conv => whnf
      refine known true zB ?_
      repeat ((conv => whnf); first | refine known false rfl ?_ | refine known true rfl ?_ | refine mcallC (T := TT) (gf := false) (ρ := [18, 20, 21, 22, 23]) bA ?_ | refine mcallC (T := TT) (gf := false) (ρ := [18, 20, 21, 22, 23]) bB ?_ | refine known true zA ?_ | refine known true zB ?_)
      conv => whnf
      refine ⟨(i + 1, s', M', wa, 0, ma, false, wb, 0, mb, false, 0, 0), ⟨by omega, hsq, hfit, hf, (hb).reset (.inr (.inr (.inl hA)))⟩, by dsimp only; omega, ?_⟩
      refine ⟨rfl, ?_, ?_⟩ <;> repeat' (first | exact trivial | exact rfl | refine and_rfl ?_ | refine and_val hi1 ?_ | refine and_two ?_ ?_)
    have zB : (costs (jobsOf s' B) == 0) = false := by simpa using fun h => (costs_nil hf B).1 h hB
    cases xb with
    | false =>
      conv => whnf
      refine mcallC (T := TT) (gf := false) (ρ := [18, 20, 21, 22, 23]) bA ?_
      conv => whnf
      refine known true zA ?_
      conv => whnf
      refine mcallC (T := TT) (gf := false) (ρ := [18, 20, 21, 22, 23]) bB ?_
      conv => whnf
      refine known false zB ?_
      repeat ((conv => whnf); first | refine known false rfl ?_ | refine known true rfl ?_ | refine mcallC (T := TT) (gf := false) (ρ := [18, 20, 21, 22, 23]) bA ?_ | refine mcallC (T := TT) (gf := false) (ρ := [18, 20, 21, 22, 23]) bB ?_ | refine known true zA ?_ | refine known false zB ?_)
      conv => whnf
      refine ⟨(i + 1, s', M', wa, 0, ma, false, wb, 0, mb, false, 0, 0), ⟨by omega, hsq, hfit, hf, (hb).reset (.inr (.inr (.inl hA)))⟩, by dsimp only; omega, ?_⟩
      refine ⟨rfl, ?_, ?_⟩ <;> repeat' (first | exact trivial | exact rfl | refine and_rfl ?_ | refine and_val hi1 ?_ | refine and_two ?_ ?_)
    | true =>
      conv => whnf
      refine mcallC (T := TT) (gf := false) (ρ := [18, 20, 21, 22, 23]) bA ?_
      conv => whnf
      refine known true zA ?_
      conv => whnf
      refine mcallC (T := TT) (gf := false) (ρ := [18, 20, 21, 22, 23]) bB ?_
      conv => whnf
      refine known false zB ?_
      repeat ((conv => whnf); first | refine known false rfl ?_ | refine known true rfl ?_ | refine mcallC (T := TT) (gf := false) (ρ := [18, 20, 21, 22, 23]) bA ?_ | refine mcallC (T := TT) (gf := false) (ρ := [18, 20, 21, 22, 23]) bB ?_ | refine known true zA ?_ | refine known false zB ?_)
      conv => whnf
      refine ⟨(i + 1, s', M', wa, 0, ma, false, wb, 0, mb, true, 0, 0), ⟨by omega, hsq, hfit, hf, (hb).reset (.inr (.inr (.inl hA)))⟩, by dsimp only; omega, ?_⟩
      refine ⟨rfl, ?_, ?_⟩ <;> repeat' (first | exact trivial | exact rfl | refine and_rfl ?_ | refine and_val hi1 ?_ | refine and_two ?_ ?_)
  have zA : (costs (jobsOf s' A) == 0) = false := by simpa using fun h => (costs_nil hf A).1 h hA
  by_cases hB : B ∈ tns s'
  rotate_left
  · have zB : (costs (jobsOf s' B) == 0) = true := by rw [(costs_nil hf B).2 hB]; rfl
    have hb := hb.offB hB
    cases xa with
    | false =>
      conv => whnf
      refine mcallC (T := TT) (gf := false) (ρ := [18, 20, 21, 22, 23]) bA ?_
      conv => whnf
      refine known false zA ?_
      conv => whnf
      refine mcallC (T := TT) (gf := false) (ρ := [18, 20, 21, 22, 23]) bB ?_
      conv => whnf
      refine known true zB ?_
      repeat ((conv => whnf); first | refine known false rfl ?_ | refine known true rfl ?_ | refine mcallC (T := TT) (gf := false) (ρ := [18, 20, 21, 22, 23]) bA ?_ | refine mcallC (T := TT) (gf := false) (ρ := [18, 20, 21, 22, 23]) bB ?_ | refine known false zA ?_ | refine known true zB ?_)
      conv => whnf
      refine ⟨(i + 1, s', M', wa, 0, ma, false, wb, 0, mb, false, 0, 0), ⟨by omega, hsq, hfit, hf, (hb).reset (.inr (.inr (.inr hB)))⟩, by dsimp only; omega, ?_⟩
      refine ⟨rfl, ?_, ?_⟩ <;> repeat' (first | exact trivial | exact rfl | refine and_rfl ?_ | refine and_val hi1 ?_ | refine and_two ?_ ?_)
    | true =>
      conv => whnf
      refine mcallC (T := TT) (gf := false) (ρ := [18, 20, 21, 22, 23]) bA ?_
      conv => whnf
      refine known false zA ?_
      conv => whnf
      refine mcallC (T := TT) (gf := false) (ρ := [18, 20, 21, 22, 23]) bB ?_
      conv => whnf
      refine known true zB ?_
      repeat ((conv => whnf); first | refine known false rfl ?_ | refine known true rfl ?_ | refine mcallC (T := TT) (gf := false) (ρ := [18, 20, 21, 22, 23]) bA ?_ | refine mcallC (T := TT) (gf := false) (ρ := [18, 20, 21, 22, 23]) bB ?_ | refine known false zA ?_ | refine known true zB ?_)
      conv => whnf
      refine ⟨(i + 1, s', M', wa, 0, ma, true, wb, 0, mb, false, 0, 0), ⟨by omega, hsq, hfit, hf, (hb).reset (.inr (.inr (.inr hB)))⟩, by dsimp only; omega, ?_⟩
      refine ⟨rfl, ?_, ?_⟩ <;> repeat' (first | exact trivial | exact rfl | refine and_rfl ?_ | refine and_val hi1 ?_ | refine and_two ?_ ?_)
  have zB : (costs (jobsOf s' B) == 0) = false := by simpa using fun h => (costs_nil hf B).1 h hB
  cases xa with
  | true =>
    conv => whnf
    refine mcallC (T := TT) (gf := false) (ρ := [18, 20, 21, 22, 23]) bA ?_
    conv => whnf
    refine known false zA ?_
    conv => whnf
    refine mcallC (T := TT) (gf := false) (ρ := [18, 20, 21, 22, 23]) bB ?_
    conv => whnf
    refine known false zB ?_
    repeat ((conv => whnf); first | refine known false rfl ?_ | refine known true rfl ?_ | refine mcallC (T := TT) (gf := false) (ρ := [18, 20, 21, 22, 23]) bA ?_ | refine mcallC (T := TT) (gf := false) (ρ := [18, 20, 21, 22, 23]) bB ?_ | refine known false zA ?_ | refine known false zB ?_)
    conv => whnf
    refine ⟨(i + 1, s', M', wa, 0, ma, true, wb, 0, mb, xb, 0, 0), ⟨by omega, hsq, hfit, hf, (hb).reset (.inl rfl)⟩, by dsimp only; omega, ?_⟩
    refine ⟨rfl, ?_, ?_⟩ <;> repeat' (first | exact trivial | exact rfl | refine and_rfl ?_ | refine and_val hi1 ?_ | refine and_two ?_ ?_)
  | false =>
    cases xb with
    | true =>
      conv => whnf
      refine mcallC (T := TT) (gf := false) (ρ := [18, 20, 21, 22, 23]) bA ?_
      conv => whnf
      refine known false zA ?_
      conv => whnf
      refine mcallC (T := TT) (gf := false) (ρ := [18, 20, 21, 22, 23]) bB ?_
      conv => whnf
      refine known false zB ?_
      repeat ((conv => whnf); first | refine known false rfl ?_ | refine known true rfl ?_ | refine mcallC (T := TT) (gf := false) (ρ := [18, 20, 21, 22, 23]) bA ?_ | refine mcallC (T := TT) (gf := false) (ρ := [18, 20, 21, 22, 23]) bB ?_ | refine known false zA ?_ | refine known false zB ?_)
      conv => whnf
      refine ⟨(i + 1, s', M', wa, 0, ma, false, wb, 0, mb, true, 0, 0), ⟨by omega, hsq, hfit, hf, (hb).reset (.inr (.inl rfl))⟩, by dsimp only; omega, ?_⟩
      refine ⟨rfl, ?_, ?_⟩ <;> repeat' (first | exact trivial | exact rfl | refine and_rfl ?_ | refine and_val hi1 ?_ | refine and_two ?_ ?_)
    | false =>
      obtain ⟨hck, hbn⟩ := hb.check hf hi2 hAB hA hB
      obtain ⟨n1, n2, n3, n4, n5, n6, n7⟩ := hb.nums hf hi2
      have n8 := hbn.l1
      have n9 := hbn.l2
      rw [hsq] at hck n3 n4 n5
      have e1 : IntKind.i64.wrap (sa * wb) = sa * wb := wrap_in (by omega)
      have e2 : IntKind.i64.wrap (sb * wa) = sb * wa := wrap_in (by omega)
      have e3 : IntKind.i64.wrap (sa * wb - sb * wa) = sa * wb - sb * wa := wrap_in (by omega)
      have e4 : IntKind.i64.wrap (3 * q) = 3 * q := wrap_in (by omega)
      have e5 : IntKind.i64.wrap (3 * q * wa) = 3 * q * wa := wrap_in (by omega)
      have e6 : IntKind.i64.wrap (3 * q * wa * wb) = 3 * q * wa * wb := wrap_in (by omega)
      have e7 : IntKind.i64.wrap (ma * wb) = ma * wb := wrap_in (by omega)
      have e8 : IntKind.i64.wrap (3 * q * wa * wb + ma * wb) = 3 * q * wa * wb + ma * wb := wrap_in (by omega)
      have e9 : IntKind.i64.wrap (mb * wa) = mb * wa := wrap_in (by omega)
      have e10 : IntKind.i64.wrap (3 * q * wa * wb + ma * wb + mb * wa) = 3 * q * wa * wb + ma * wb + mb * wa := wrap_in (by omega)
      have e11 : IntKind.i64.wrap (maxI hi (sa * wb - sb * wa) - minI lo (sa * wb - sb * wa)) = maxI hi (sa * wb - sb * wa) - minI lo (sa * wb - sb * wa) := wrap_in (by omega)
      have hck' : decide (IntKind.i64.wrap (maxI hi (sa * wb - sb * wa) - minI lo (sa * wb - sb * wa)) > 3 * q * wa * wb + ma * wb + mb * wa) = false := by rw [e11]; exact decide_eq_false (by omega)
      conv => whnf
      refine mcallC (T := TT) (gf := false) (ρ := [18, 20, 21, 22, 23]) bA ?_
      conv => whnf
      refine known false zA ?_
      conv => whnf
      refine mcallC (T := TT) (gf := false) (ρ := [18, 20, 21, 22, 23]) bB ?_
      conv => whnf
      refine known false zB ?_
      repeat ((conv => whnf); first | refine known false rfl ?_ | refine known true rfl ?_ | refine mcallC (T := TT) (gf := false) (ρ := [18, 20, 21, 22, 23]) bA ?_ | refine mcallC (T := TT) (gf := false) (ρ := [18, 20, 21, 22, 23]) bB ?_ | refine known false zA ?_ | refine known false zB ?_)
      conv => whnf
      rw [e1, e2, e3, e4, e5, e6, e7, e8, e9, e10]
      conv => whnf
      refine known false hck' ?_
      conv => whnf
      refine ⟨(i + 1, s', M', wa, sa, ma, false, wb, sb, mb, false, minI lo (sa * wb - sb * wa), maxI hi (sa * wb - sb * wa)), ⟨by omega, hsq, hfit, hf, hbn⟩, by dsimp only; omega, ?_⟩
      refine ⟨rfl, ?_, ?_⟩ <;> repeat' (first | exact trivial | exact rfl | refine and_rfl ?_ | refine and_val hi1 ?_ | refine and_two ?_ ?_)
end Go.Proofs.Ytmlednjhemnncaa
