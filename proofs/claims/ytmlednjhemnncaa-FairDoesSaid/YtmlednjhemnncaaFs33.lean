/- Texts joined by pack.py: XFf1 -/
import Derived.Test.YtmlednjhemnncaaFs30
import Derived.Test.YtmlednjhemnncaaFs32
namespace Go.Proofs.Ytmlednjhemnncaa
open Go.RowKit
abbrev FD : List (Nat × Bool) := [(7, false), (8, false), (10, false), (12, false), (15, false), (17, false), (19, true), (21, true), (23, true),
  (11, false), (13, false), (16, false), (18, false), (20, true), (22, true), (24, true), (7000024, false)]
def planD12 : Plan := .one 0 (.one 1 (.one 2 (.one 4 (.pull 5 (.alt 3 (.one 6 (.one 7 (.one 8 (.done)))) (.alt 6 (.one 3 (.one 7 (.one 8 (.done)))) (.stop)))))))
def planD15 : Plan := .one 0 (.one 1 (.one 2 (.one 3 (.one 4 (.one 5 (.one 7 (.pull 8 (.pull 9 (.pull 11 (.alt 6 (.one 10 (.one 12 (.one 13 (.one 14 (.done))))) (.alt 10 (.alt 6 (.one 12 (.one 13 (.one 14 (.done)))) (.alt 12 (.one 6 (.one 13 (.one 14 (.done)))) (.stop))) (.alt 12 (.alt 6 (.one 10 (.one 13 (.one 14 (.done)))) (.alt 10 (.one 6 (.one 13 (.one 14 (.done)))) (.stop))) (.stop)))))))))))))
def planD18 : Plan := .one 0 (.one 1 (.one 2 (.one 3 (.one 5 (.pull 6 (.pull 7 (.alt 4 (.one 8 (.one 9 (.one 10 (.one 11 (.done))))) (.alt 8 (.one 4 (.one 9 (.one 10 (.one 11 (.done))))) (.stop)))))))))
theorem cutQ {Q : Prop} {F I : Qs → Qm → Prop} (h1 : (∀ s M, I s M → F s M) → Q) (h2 : ∀ s M, I s M → F s M) : Q := h1 h2
theorem ne_self (a : Int) : (a != a) = false := by simp
theorem ne_boo (a : Bool) : (a != a) = false := by simp
theorem ne_job (a : Jb) : (!eqPl [.string a.id, .string a.tn, .int .i64 a.co] [.string a.id, .string a.tn, .int .i64 a.co]) = false := by rw [eqPl_job]; rfl
set_option maxRecDepth 100000 in
set_option maxHeartbeats 32000000 in
theorem x_does (q : Int) (L : List Opf) (A B : ByteArray) (hL : L.length ≤ 8796093022207) (hj : ∀ o ∈ L, o.j.id.size ≤ maxLen ∧ o.j.tn.size ≤ maxLen) : DCalls Try.prog 3 [.ag [int q, .sl false 5 (L.map opfD), str A, str B]] (boo true) := by
  refine sxm FD Try.func3 (by kernel_rfl) ?_
  by_cases hq : 1 ≤ q ∧ q ≤ 1000000
  rotate_left
  · conv => whnf
    refine mcallV (ln := true) (ρ := []) (gf := true) (T := TT) (φ := []) (x_new0 q hq) ?_
    conv => whnf
    refine mcallV (ln := true) (ρ := []) (gf := true) (T := TT) (φ := []) (x_rnew0 q hq) ?_
    repeat ((conv => whnf); first | refine known false rfl ?_ | refine known true rfl ?_)
    conv => whnf
    refine ⟨_, x_awake, ?_⟩
    (conv => whnf) <;> rfl
  conv => whnf
  refine mcallV (ln := true) (ρ := []) (gf := true) (T := TT) (φ := [18, 20, 21, 22, 23]) (x_new q hq) ?_
  conv => whnf
  refine mcallV (ln := true) (ρ := []) (gf := true) (T := TT) (φ := [24, 25, 26]) (x_rnew q hq) ?_
  conv => whnf
  refine known false rfl ?_
  conv => whnf
  refine known false rfl ?_
  by_cases hn : 300 < L.length
  · conv => whnf
    refine known true (by simp; omega) ?_
    conv => whnf
    refine ⟨_, x_awake, ?_⟩
    (conv => whnf) <;> rfl
  conv => whnf
  refine known false (by simp; omega) ?_
  conv => whnf
  refine ⟨[], Nat × Qs × Qm, fun ⟨i, s, M⟩ => [(7, int i), (0, .un), (4, .un), (6, .un), (13, .un), (14, .un), (15, .un), (16, .un), (17, .un), (18, .un), (19, .un), (20, .un), (21, .un), (22, .un), (23, .un), (24, .un), (25, .un), (26, .un), (27, .un), (28, .un), (29, .un), (30, .un), (31, .un), (32, .un), (33, .un), (34, .un), (35, .un), (36, .un)], fun ⟨i, s, M⟩ => [(18, some (.box [int s.q, .ow 20 0, .ow 21 0, .ow 22 0, .ow 23 0, boo M.tu])), (20, some (.asr 0 (mapC (intM s.W)) [])), (21, some (.asr 0 (mapC (jobM M.J)) [])), (22, some (.asr 0 (mapC (intM M.De)) [])), (23, some (.row 0 9 1 false (M.R.map strD))), (24, some (.box [int s.q, .ow 25 0, .ow 26 0, boo s.tu])), (25, some (.row 0 66 2 false (s.W.map wD))), (26, some (.asr 0 (rC s.R) []))], fun ⟨i, s, M⟩ => i ≤ L.length ∧ s.q = q ∧ Fit s M ∧ s.fine, fun ⟨i, _⟩ => L.length - i, (0, Qs.new q, ⟨[], [], false, []⟩), ⟨by simp, rfl, fit_new q, fine_new hq⟩, ?_, ?_⟩
  · refine ⟨rfl, ?_, ?_⟩ <;> repeat' (first | exact trivial | exact rfl | refine and_rfl ?_ | refine and_two ?_ ?_)
  rintro ⟨i, s, M⟩ ⟨hi0, hsq, hfit, hf⟩
  conv => whnf
  rintro (_ | _) h1
  · conv => whnf
    refine ⟨_, x_awake, ?_⟩
    (conv => whnf) <;> rfl
  simp at h1
  conv => whnf
  refine ⟨by omega, _, get_map opfD h1, ?_⟩
  have hjl := hj _ (List.getElem_mem h1)
  generalize L[i] = o at hjl ⊢
  obtain ⟨k, j, on⟩ := o
  dsimp only at hjl
  have hi1 : IntKind.i64.wrap ((i : Nat) + 1) = ((i + 1 : Nat) : Int) := wrap_succ (by omega)
  apply cutQ (I := fun s' M' => s'.q = q ∧ Fit s' M' ∧ s'.fine)
  · intro key
    conv => whnf
    rintro (_ | _) k0
    rotate_left
    · obtain ⟨M', hfit', cp⟩ := c_push hfit hf j hjl.1 hjl.2
      have crp := c_rpush hf j hjl.1 hjl.2
      have hf' := hf.push j
      have hsq' : (s.push j).q = q := by rw [(push_keeps s j).1]; exact hsq
      obtain ⟨pe, hpe⟩ : ∃ x, pushE s j = x := ⟨_, rfl⟩
      rw [hpe] at cp crp
      conv => whnf
      refine ⟨some planD12, by kernel_rfl, ?_⟩
      conv => whnf
      refine ⟨.bx 8 1, fun m2 K2 hK => hK, ?_⟩
      apply cut
      · intro key2
        conv => whnf
        refine And.intro ?_ ?_
        conv => whnf
        refine mcallV (ln := true) (ρ := [18, 20, 21, 22, 23]) (gf := false) (T := TT) (φ := []) cp ?_
        conv => whnf
        refine mcallV (ln := true) (ρ := [24, 25, 26]) (gf := false) (T := TT) (φ := []) crp ?_
        conv => whnf
        exact key2
        all_goals repeat' ((conv => whnf); first
          | exact trivial
          | refine And.intro ?_ ?_
          | refine mcallV (ln := true) (ρ := [18, 20, 21, 22, 23]) (gf := false) (T := TT) (φ := []) cp ?_
          | refine mcallV (ln := true) (ρ := [24, 25, 26]) (gf := false) (T := TT) (φ := []) crp ?_
          | exact key2)
      refine known false (ne_self pe) ?_
      conv => whnf
      generalize s.push j = s' at hf' hsq' hfit' ⊢
      conv => whnf
      refine ⟨[(1, .bx 1 0), (3, .bx 18 0), (5, .bx 24 0), (7, int i)], [(1, .box [int q, .sl false 5 (L.map opfD), str A, str B]), (18, .box [int s'.q, .ow 20 0, .ow 21 0, .ow 22 0, .ow 23 0, boo M'.tu]), (20, .asr 0 (mapC (intM s'.W)) []), (21, .asr 0 (mapC (jobM M'.J)) []), (22, .asr 0 (mapC (intM M'.De)) []), (23, .row 0 9 1 false (M'.R.map strD)), (24, .box [int s'.q, .ow 25 0, .ow 26 0, boo s'.tu]), (25, .row 0 66 2 false (s'.W.map wD)), (26, .asr 0 (rC s'.R) [])], _, Gh.refl _, ?_⟩
      conv => whnf
      refine And.intro ?_ ?_
      · refine ⟨rfl, ?_, ?_⟩ <;> repeat' (first | exact trivial | exact rfl | refine and_rfl ?_ | refine and_two ?_ ?_)
      conv => whnf
      exact key s' M' ⟨hsq', hfit', hf'⟩
    conv => whnf
    rintro (_ | _) k1
    rotate_left
    · have cw := c_weigh hfit hf j.tn on hjl.2
      have crw := c_rweigh hf j.tn on hjl.2
      have hf' := hf.weigh j.tn on
      have hfit' := hfit.weigh j.tn on
      have hsq' : (s.weigh j.tn on).q = q := by rw [(weigh_W s j.tn on).2]; exact hsq
      obtain ⟨pe, hpe⟩ : ∃ x, weighE s j.tn on = x := ⟨_, rfl⟩
      rw [hpe] at cw crw
      conv => whnf
      refine ⟨some planD15, by kernel_rfl, ?_⟩
      conv => whnf
      refine ⟨.bx 8 1, fun m2 K2 hK => hK, ?_⟩
      conv => whnf
      refine ⟨.bx 8 2, fun m2 K2 hK => hK, ?_⟩
      conv => whnf
      refine ⟨.bx 8 4, fun m2 K2 hK => hK, ?_⟩
      apply cut
      · intro key2
        conv => whnf
        refine And.intro ?_ ?_
        conv => whnf
        refine mcallV (ln := true) (ρ := [18, 20, 21, 22, 23]) (gf := false) (T := TT) (φ := []) cw ?_
        conv => whnf
        refine mcallV (ln := true) (ρ := [24, 25, 26]) (gf := false) (T := TT) (φ := []) crw ?_
        conv => whnf
        exact key2
        all_goals repeat' ((conv => whnf); first
          | exact trivial
          | refine And.intro ?_ ?_
          | refine mcallV (ln := true) (ρ := [18, 20, 21, 22, 23]) (gf := false) (T := TT) (φ := []) cw ?_
          | refine mcallV (ln := true) (ρ := [24, 25, 26]) (gf := false) (T := TT) (φ := []) crw ?_
          | exact key2)
      refine known false (ne_self pe) ?_
      conv => whnf
      conv => whnf
      refine ⟨[(1, .bx 1 0), (3, .bx 18 0), (5, .bx 24 0), (7, int i)], [(1, .box [int q, .sl false 5 (L.map opfD), str A, str B]), (18, .box [int (s.weigh j.tn on).q, .ow 20 0, .ow 21 0, .ow 22 0, .ow 23 0, boo M.tu]), (20, .asr 0 (mapC (intM (s.weigh j.tn on).W)) []), (21, .asr 0 (mapC (jobM M.J)) []), (22, .asr 0 (mapC (intM M.De)) []), (23, .row 0 9 1 false (M.R.map strD)), (24, .box [int (s.weigh j.tn on).q, .ow 25 0, .ow 26 0, boo (s.weigh j.tn on).tu]), (25, .row 0 66 2 false ((s.weigh j.tn on).W.map wD)), (26, .asr 0 (rC (s.weigh j.tn on).R) [])], _, Gh.refl _, ?_⟩
      conv => whnf
      refine And.intro ?_ ?_
      · refine ⟨rfl, ?_, ?_⟩ <;> repeat' (first | exact trivial | exact rfl | refine and_rfl ?_ | refine and_two ?_ ?_)
      conv => whnf
      exact key (s.weigh j.tn on) M ⟨hsq', hfit', hf'⟩
    conv => whnf
    rintro (_ | _) k2
    rotate_left
    · have hsq' : (s.drop j.tn).q = q := by rw [(drop_keeps s j.tn).1]; exact hsq
      have hf' := hf.drop j.tn
      cases hg : findA s.R j.tn with
      | none =>
        obtain ⟨q1, q2, cd⟩ := c_drop0 hfit hf (hfit.jn j.tn (findA_none.1 hg))
        have crd := c_rdrop0 hf hg
        have hsame := x_same [] (by clear key; simp)
        conv => whnf
        refine ⟨some planD18, by kernel_rfl, ?_⟩
        conv => whnf
        refine ⟨.bx 8 1, fun m2 K2 hK => hK, ?_⟩
        conv => whnf
        refine ⟨.bx 8 2, fun m2 K2 hK => hK, ?_⟩
        apply cut
        · intro key2
          conv => whnf
          refine And.intro ?_ ?_
          conv => whnf
          refine mcallV (ln := true) (ρ := [18, 20, 21, 22, 23]) (gf := false) (T := TT) (φ := []) cd ?_
          conv => whnf
          refine mcallV (ln := true) (ρ := [24, 25, 26]) (gf := false) (T := TT) (φ := []) crd ?_
          conv => whnf
          refine ⟨_, hsame, ?_⟩
          conv => whnf
          exact key2
          all_goals repeat' ((conv => whnf); first
            | exact trivial
            | refine And.intro ?_ ?_
            | refine mcallV (ln := true) (ρ := [18, 20, 21, 22, 23]) (gf := false) (T := TT) (φ := []) cd ?_
            | refine mcallV (ln := true) (ρ := [24, 25, 26]) (gf := false) (T := TT) (φ := []) crd ?_
            | refine ⟨_, hsame, ?_⟩
            | exact key2)
        refine known false rfl ?_
        conv => whnf
        conv => whnf
        refine ⟨[(1, .bx 1 0), (3, .bx 18 0), (5, .bx 24 0), (7, int i)], [(1, .box [int q, .sl false 5 (L.map opfD), str A, str B]), (18, .box [int s.q, .ow 20 0, .ow 21 0, .ow 22 0, .ow 23 0, boo M.tu]), (20, .asr 0 (mapC (intM s.W)) []), (21, .asr 0 (mapC (jobM M.J)) []), (22, .asr 0 (mapC (intM M.De)) []), (23, .row 0 9 1 false (M.R.map strD)), (24, .box [int s.q, .ow 25 0, .ow 26 0, boo s.tu]), (25, .row 0 66 2 false (s.W.map wD)), (26, .asr 0 (rC s.R) [])], _, Gh.refl _, ?_⟩
        conv => whnf
        refine And.intro ?_ ?_
        · refine ⟨rfl, ?_, ?_⟩ <;> repeat' (first | exact trivial | exact rfl | refine and_rfl ?_ | refine and_two ?_ ?_)
        conv => whnf
        exact key s M ⟨hsq, hfit, hf⟩
      | some a =>
        have hga : getE M.J j.tn = some a.js := by
          obtain ⟨h3, h4⟩ := findA_some hg
          rw [← h4]; exact hfit.jb a h3
        have hal := hf.jsize (findA_some hg).1
        obtain ⟨q2, M', hfit', cd⟩ := c_drop1 hfit hf hga
        have crd := c_rdrop1 hf hg
        have hsame := x_same a.js (by clear key; omega)
        conv => whnf
        refine ⟨some planD18, by kernel_rfl, ?_⟩
        conv => whnf
        refine ⟨.bx 8 1, fun m2 K2 hK => hK, ?_⟩
        conv => whnf
        refine ⟨.bx 8 2, fun m2 K2 hK => hK, ?_⟩
        apply cut
        · intro key2
          conv => whnf
          refine And.intro ?_ ?_
          conv => whnf
          refine mcallV (ln := true) (ρ := [18, 20, 21, 22, 23]) (gf := false) (T := TT) (φ := [138]) cd ?_
          conv => whnf
          refine mcallV (ln := true) (ρ := [24, 25, 26]) (gf := false) (T := TT) (φ := [139]) crd ?_
          conv => whnf
          refine ⟨_, hsame, ?_⟩
          conv => whnf
          exact key2
          all_goals repeat' ((conv => whnf); first
            | exact trivial
            | refine And.intro ?_ ?_
            | refine mcallV (ln := true) (ρ := [18, 20, 21, 22, 23]) (gf := false) (T := TT) (φ := [138]) cd ?_
            | refine mcallV (ln := true) (ρ := [24, 25, 26]) (gf := false) (T := TT) (φ := [139]) crd ?_
            | refine ⟨_, hsame, ?_⟩
            | exact key2)
        refine known false rfl ?_
        conv => whnf
        conv => whnf
        refine ⟨[(1, .bx 1 0), (3, .bx 18 0), (5, .bx 24 0), (7, int i)], [(1, .box [int q, .sl false 5 (L.map opfD), str A, str B]), (18, .box [int (s.drop j.tn).q, .ow 20 0, .ow 21 0, .ow 22 0, .ow 23 0, boo M'.tu]), (20, .asr 0 (mapC (intM (s.drop j.tn).W)) []), (21, .asr 0 (mapC (jobM M'.J)) []), (22, .asr 0 (mapC (intM M'.De)) []), (23, .row 0 9 1 false (M'.R.map strD)), (24, .box [int (s.drop j.tn).q, .ow 25 0, .ow 26 0, boo (s.drop j.tn).tu]), (25, .row 0 66 2 false ((s.drop j.tn).W.map wD)), (26, .asr 0 (rC (s.drop j.tn).R) [])], _, Gh.refl _, ?_⟩
        conv => whnf
        refine And.intro ?_ ?_
        · refine ⟨rfl, ?_, ?_⟩ <;> repeat' (first | exact trivial | exact rfl | refine and_rfl ?_ | refine and_two ?_ ?_)
        conv => whnf
        exact key (s.drop j.tn) M' ⟨hsq', hfit', hf'⟩
    obtain ⟨M', hfit', cp⟩ := c_pop hfit hf
    have crp := c_rpop hf
    have hf' : s.pop.2.fine := popF_fine _ hf
    have hsq' : s.pop.2.q = q := by rw [show s.pop.2.q = s.q from (pop_keeps _ s).1]; exact hsq
    conv => whnf
    refine mcallV (ln := true) (ρ := [18, 20, 21, 22, 23]) (gf := false) (T := TT) (φ := []) cp ?_
    conv => whnf
    refine mcallV (ln := true) (ρ := [24, 25, 26]) (gf := false) (T := TT) (φ := []) crp ?_
    generalize s.pop.1.getD Jb.zero = jj
    generalize s.pop.1.isSome = bb
    refine known false (ne_boo bb) ?_
    conv => whnf
    refine ⟨_, eq_jobs jj jj, ?_⟩
    conv => whnf
    refine known false (ne_job jj) ?_
    conv => whnf
    conv => whnf
    refine ⟨[(1, .bx 1 0), (3, .bx 18 0), (5, .bx 24 0), (7, int i)], [(1, .box [int q, .sl false 5 (L.map opfD), str A, str B]), (18, .box [int s.pop.2.q, .ow 20 0, .ow 21 0, .ow 22 0, .ow 23 0, boo M'.tu]), (20, .asr 0 (mapC (intM s.pop.2.W)) []), (21, .asr 0 (mapC (jobM M'.J)) []), (22, .asr 0 (mapC (intM M'.De)) []), (23, .row 0 9 1 false (M'.R.map strD)), (24, .box [int s.pop.2.q, .ow 25 0, .ow 26 0, boo s.pop.2.tu]), (25, .row 0 66 2 false (s.pop.2.W.map wD)), (26, .asr 0 (rC s.pop.2.R) [])], _, Gh.refl _, ?_⟩
    conv => whnf
    refine And.intro ?_ ?_
    · refine ⟨rfl, ?_, ?_⟩ <;> repeat' (first | exact trivial | exact rfl | refine and_rfl ?_ | refine and_two ?_ ?_)
    conv => whnf
    exact key s.pop.2 M' ⟨hsq', hfit', hf'⟩
  rintro s' M' ⟨hsq, hfit, hf⟩
  conv => whnf
  refine ⟨none, by kernel_rfl, ?_⟩
  conv => whnf
  refine mcallC (T := TT) (gf := false) (ρ := [18, 20, 21, 22, 23]) (c_len hfit hf) ?_
  conv => whnf
  refine mcallC (T := TT) (gf := false) (ρ := [24, 25, 26]) (c_rlen hf) ?_
  conv => whnf
  refine known false (ne_self (lenR s'.R)) ?_
  conv => whnf
  refine mcallC (T := TT) (gf := false) (ρ := [18, 20, 21, 22, 23]) (c_backlog hfit hf A) ?_
  conv => whnf
  refine mcallC (T := TT) (gf := false) (ρ := [24, 25, 26]) (c_rbacklog hf A) ?_
  conv => whnf
  refine known false (ne_self (costs (jobsOf s' A))) ?_
  conv => whnf
  refine mcallC (T := TT) (gf := false) (ρ := [18, 20, 21, 22, 23]) (c_backlog hfit hf B) ?_
  conv => whnf
  refine mcallC (T := TT) (gf := false) (ρ := [24, 25, 26]) (c_rbacklog hf B) ?_
  conv => whnf
  refine known false (ne_self (costs (jobsOf s' B))) ?_
  conv => whnf
  refine mcallC (T := TT) (gf := false) (ρ := [18, 20, 21, 22, 23]) (c_deficit hfit hf A) ?_
  conv => whnf
  refine mcallC (T := TT) (gf := false) (ρ := [24, 25, 26]) (c_rdeficit hf A) ?_
  conv => whnf
  refine known false (ne_self (dfOf s' A)) ?_
  conv => whnf
  refine mcallC (T := TT) (gf := false) (ρ := [18, 20, 21, 22, 23]) (c_deficit hfit hf B) ?_
  conv => whnf
  refine mcallC (T := TT) (gf := false) (ρ := [24, 25, 26]) (c_rdeficit hf B) ?_
  conv => whnf
  refine known false (ne_self (dfOf s' B)) ?_
  conv => whnf
  refine ⟨(i + 1, s', M'), ⟨by omega, hsq, hfit, hf⟩, by dsimp only; omega, ?_⟩
  refine ⟨rfl, ?_, ?_⟩ <;> repeat' (first | exact trivial | exact rfl | refine and_rfl ?_ | refine and_val hi1 ?_ | refine and_two ?_ ?_)
end Go.Proofs.Ytmlednjhemnncaa
