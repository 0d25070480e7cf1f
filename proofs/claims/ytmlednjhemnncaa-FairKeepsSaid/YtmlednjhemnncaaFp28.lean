/- Texts joined by pack.py: XFc7 -/
import Derived.Test.YtmlednjhemnncaaFp26
import Derived.Test.YtmlednjhemnncaaFp27
namespace Go.Proofs.Ytmlednjhemnncaa
open Go.RowKit
abbrev FR : List (Nat × Bool) := [(7, false), (10, false), (12, false), (14, true), (15, false), (17, false), (19, true), (21, true), (23, true), (25, true), (26, false)]
theorem eqB {A B : ByteArray} (h : A = B) : (!(A.toList == B.toList)) = false := by subst h; simp
theorem neB {A B : ByteArray} (h : A ≠ B) : (!(A.toList == B.toList)) = true := by
  cases e : (A.toList == B.toList) with
  | false => rfl
  | true => exact absurd (sEq_iff.1 e) h
theorem job_get {l : List Jb} {k : Nat} {j : Jb} (h : l[k]? = some j) : (l.map jobD)[(k : Int).toNat]? = some (jobD j) := by
  rw [Int.toNat_natCast, List.getElem?_map, h]; rfl
theorem two_not {s : Qs} (hf : s.fine) {A B : ByteArray} (hAB : A ≠ B) {ja jb : Jb} {ra rb : List Jb} (ha : jobsOf s A = ja :: ra) (hb : jobsOf s B = jb :: rb) (h : decide (dfOf s A ≥ ja.co) = true) : decide (dfOf s B ≥ jb.co) = false := by
  rcases df_two hf hAB ha hb with h1 | h1
  · simp at h; omega
  · simp; omega
theorem eq_job (a b : Jb) : EqOk Try.prog 34 [str a.id, str a.tn, int a.co] [str b.id, str b.tn, int b.co] (eqPl [.string a.id, .string a.tn, .int .i64 a.co] [.string b.id, .string b.tn, .int .i64 b.co]) :=
  eq_ok rfl rfl (by kernel_rfl) (by kernel_rfl) (by kernel_rfl) (sp := [("ID", 9, 0), ("Tenant", 9, 1), ("Cost", 3, 2)]) (by kernel_rfl) rfl
theorem eqP_job (a : Jb) : eqPl [.string a.id, .string a.tn, .int .i64 a.co] [.string a.id, .string a.tn, .int .i64 a.co] = true := by simp [eqPl]
set_option maxRecDepth 100000 in
set_option maxHeartbeats 32000000 in
theorem x_keeps (q : Int) (L : List Opf) (A B : ByteArray) (hL : L.length ≤ 8796093022207) (hj : ∀ o ∈ L, o.j.id.size ≤ maxLen ∧ o.j.tn.size ≤ maxLen) : DCalls Try.prog 6 [.ag [int q, .sl false 5 (L.map opfD), str A, str B]] (boo true) := by
  refine sxm FR Try.func6 (by kernel_rfl) ?_
  by_cases hq : 1 ≤ q ∧ q ≤ 1000000
  rotate_left
  · conv => whnf
    refine mcallV (ln := true) (ρ := []) (gf := true) (T := TT) (φ := []) (x_new0 q hq) ?_
    repeat ((conv => whnf); first | refine known false rfl ?_ | refine known true rfl ?_)
    conv => whnf
    refine ⟨_, x_awake, ?_⟩
    (conv => whnf) <;> rfl
  conv => whnf
  refine mcallV (ln := true) (ρ := []) (gf := true) (T := TT) (φ := [18, 20, 21, 22, 23]) (x_new q hq) ?_
  conv => whnf
  refine known false rfl ?_
  by_cases hn : 300 < L.length
  · conv => whnf
    refine known true (by simp; omega) ?_
    conv => whnf
    refine ⟨_, x_awake, ?_⟩
    (conv => whnf) <;> rfl
  conv => whnf
  refine known false (by simp; omega) ?_
  conv => whnf
  refine ⟨[(3000001, 0, 0, 0)], Nat × Qs × Qm × List Jb, fun ⟨i, _, _, _⟩ => [(5, .ow 31 0), (6, int i), (16, .un), (19, .un), (31, .un)], fun ⟨_, s, M, l⟩ => [(18, some (.box [int s.q, .ow 20 0, .ow 21 0, .ow 22 0, .ow 23 0, boo M.tu])), (20, some (.asr 0 (mapC (intM s.W)) [])), (21, some (.asr 0 (mapC (jobM M.J)) [])), (22, some (.asr 0 (mapC (intM M.De)) [])), (23, some (.row 0 9 1 false (M.R.map strD))), (31, some (.row 0 34 3 true (l.map jobD)))], fun ⟨i, s, M, l⟩ => i ≤ L.length ∧ Fit s M ∧ s.fine ∧ Kp l s, fun ⟨i, _⟩ => L.length - i, (0, Qs.new q, ⟨[], [], false, []⟩, []), ⟨by simp, fit_new q, fine_new hq, Kp.new q⟩, ?_, ?_⟩
  · refine ⟨rfl, ?_, ?_⟩ <;> repeat' (first | exact trivial | exact rfl | refine and_rfl ?_ | refine and_two ?_ ?_)
  rintro ⟨i, s, M, l⟩ ⟨hi, hfit, hf, hk⟩
  conv => whnf
  rintro (_ | _) h1
  · conv => whnf
    refine ⟨_, x_awake, ?_⟩
    (conv => whnf) <;> rfl
  simp at h1
  conv => whnf
  refine ⟨by omega, _, get_map opfD h1, ?_⟩
  have hjl := hj _ (List.getElem_mem h1)
  generalize L[i] = o at hjl ⊢
  obtain ⟨k, j, on⟩ := o
  dsimp only at hjl
  conv => whnf
  rintro (_ | _) k0
  · conv => whnf
    rintro (_ | _) k1
    · conv => whnf
      rintro (_ | _) k2
      · obtain ⟨M', hfit', cp⟩ := c_pop hfit hf
        have hf' : s.pop.2.fine := popF_fine _ hf
        have hlk := hk.le hf
        rcases hk.pop hf with ⟨g1, rfl, hk'⟩ | ⟨jj, n, g1, g2, g3, g4, hk'⟩
        · rw [g1] at cp
          conv => whnf
          refine mcallV (ln := true) (ρ := [18, 20, 21, 22, 23]) (gf := false) (T := TT) (φ := []) cp ?_
          conv => whnf
          refine known false rfl ?_
          conv => whnf
          refine known false rfl ?_
          have hX : ([] : List Jb).map jobD = ([] : List Jb).map jobD := rfl
          clear hk hf cp hfit g1
          generalize s.pop.2 = s' at *
          have hll := hk'.le hf'
          have cA := x_first ([] : List Jb) A (by omega)
          have cB := x_first ([] : List Jb) B (by omega)
          have nl := nlen hk'
          have hXl := congrArg List.length hX
          unfold jRow at cA cB
          rw [hX] at cA cB nl
          rw [List.length_map] at hXl
          have dA := c_deficit hfit' hf' A
          have dB := c_deficit hfit' hf' B
          rcases hk'.judge hf' A with ⟨eA, zA⟩ | ⟨ka, ja, ra, hka, eA, gA, qA⟩
          · rw [eA] at cA
            rw [zA] at dA
            by_cases hAB : A = B
            · have hAB := eqB hAB
              conv => whnf
              refine mcallC (T := TT) (gf := false) (ρ := [18, 20, 21, 22, 23]) (c_len hfit' hf') ?_
              conv => whnf
              refine known false nl ?_
              conv => whnf
              refine mcallC (T := TT) (gf := true) (ρ := [31]) cA ?_
              conv => whnf
              refine mcallC (T := TT) (gf := true) (ρ := [31]) cB ?_
              conv => whnf
              refine ⟨none, by kernel_rfl, ?_⟩
              repeat ((conv => whnf); first | refine known false rfl ?_ | refine known true rfl ?_ | refine known true hAB ?_ | refine known false hAB ?_ | refine known true (by simp; done) ?_ | refine known false (by simp; done) ?_ | refine mcallC (T := TT) (gf := false) (ρ := [18, 20, 21, 22, 23]) dA ?_)
              conv => whnf
              refine ⟨(i + 1, s', M', ([] : List Jb)), ⟨by omega, hfit', hf', hk'⟩, by dsimp only; omega, ?_⟩
              conv => whnf
              refine ⟨_, Gh.refl _, ?_⟩
              refine ⟨rfl, ?_, ?_⟩ <;> repeat' (first | exact trivial | exact rfl | exact hX.symm | refine and_rfl ?_ | refine and_val (wrap_succ (by omega)) ?_ | refine and_two ?_ ?_)
            · have hAB := neB hAB
              conv => whnf
              refine mcallC (T := TT) (gf := false) (ρ := [18, 20, 21, 22, 23]) (c_len hfit' hf') ?_
              conv => whnf
              refine known false nl ?_
              conv => whnf
              refine mcallC (T := TT) (gf := true) (ρ := [31]) cA ?_
              conv => whnf
              refine mcallC (T := TT) (gf := true) (ρ := [31]) cB ?_
              conv => whnf
              refine ⟨none, by kernel_rfl, ?_⟩
              repeat ((conv => whnf); first | refine known false rfl ?_ | refine known true rfl ?_ | refine known true hAB ?_ | refine known false hAB ?_ | refine known true (by simp; done) ?_ | refine known false (by simp; done) ?_ | refine mcallC (T := TT) (gf := false) (ρ := [18, 20, 21, 22, 23]) dA ?_)
              conv => whnf
              refine ⟨(i + 1, s', M', ([] : List Jb)), ⟨by omega, hfit', hf', hk'⟩, by dsimp only; omega, ?_⟩
              conv => whnf
              refine ⟨_, Gh.refl _, ?_⟩
              refine ⟨rfl, ?_, ?_⟩ <;> repeat' (first | exact trivial | exact rfl | exact hX.symm | refine and_rfl ?_ | refine and_val (wrap_succ (by omega)) ?_ | refine and_two ?_ ?_)
          rw [eA] at cA
          have getA := job_get gA
          rw [hX] at getA
          by_cases hAB0 : A = B
          · have hAB := eqB hAB0
            conv => whnf
            refine mcallC (T := TT) (gf := false) (ρ := [18, 20, 21, 22, 23]) (c_len hfit' hf') ?_
            conv => whnf
            refine known false nl ?_
            conv => whnf
            refine mcallC (T := TT) (gf := true) (ρ := [31]) cA ?_
            conv => whnf
            refine mcallC (T := TT) (gf := true) (ρ := [31]) cB ?_
            conv => whnf
            refine ⟨none, by kernel_rfl, ?_⟩
            repeat ((conv => whnf); first | refine known false rfl ?_ | refine known true rfl ?_ | refine known true hAB ?_ | refine known false hAB ?_ | refine known true (by simp; done) ?_ | refine known false (by simp; done) ?_ | refine mcallC (T := TT) (gf := false) (ρ := [18, 20, 21, 22, 23]) dA ?_)
            conv => whnf
            refine ⟨(i + 1, s', M', ([] : List Jb)), ⟨by omega, hfit', hf', hk'⟩, by dsimp only; omega, ?_⟩
            conv => whnf
            refine ⟨_, Gh.refl _, ?_⟩
            refine ⟨rfl, ?_, ?_⟩ <;> repeat' (first | exact trivial | exact rfl | exact hX.symm | refine and_rfl ?_ | refine and_val (wrap_succ (by omega)) ?_ | refine and_two ?_ ?_)
          have hAB := neB hAB0
          rcases hk'.judge hf' B with ⟨eB, zB⟩ | ⟨kb, jb, rb, hkb, eB, gB, qB⟩
          · rw [eB] at cB
            conv => whnf
            refine mcallC (T := TT) (gf := false) (ρ := [18, 20, 21, 22, 23]) (c_len hfit' hf') ?_
            conv => whnf
            refine known false nl ?_
            conv => whnf
            refine mcallC (T := TT) (gf := true) (ρ := [31]) cA ?_
            conv => whnf
            refine mcallC (T := TT) (gf := true) (ρ := [31]) cB ?_
            conv => whnf
            refine ⟨none, by kernel_rfl, ?_⟩
            repeat ((conv => whnf); first | refine known false rfl ?_ | refine known true rfl ?_ | refine known true hAB ?_ | refine known false hAB ?_ | refine known true (by simp; done) ?_ | refine known false (by simp; done) ?_ | refine mcallC (T := TT) (gf := false) (ρ := [18, 20, 21, 22, 23]) dA ?_)
            conv => whnf
            refine ⟨(i + 1, s', M', ([] : List Jb)), ⟨by omega, hfit', hf', hk'⟩, by dsimp only; omega, ?_⟩
            conv => whnf
            refine ⟨_, Gh.refl _, ?_⟩
            refine ⟨rfl, ?_, ?_⟩ <;> repeat' (first | exact trivial | exact rfl | exact hX.symm | refine and_rfl ?_ | refine and_val (wrap_succ (by omega)) ?_ | refine and_two ?_ ?_)
          rw [eB] at cB
          have getB := job_get gB
          rw [hX] at getB
          have no2 := two_not hf' hAB0 qA qB
          conv => whnf
          refine mcallC (T := TT) (gf := false) (ρ := [18, 20, 21, 22, 23]) (c_len hfit' hf') ?_
          conv => whnf
          refine known false nl ?_
          conv => whnf
          refine mcallC (T := TT) (gf := true) (ρ := [31]) cA ?_
          conv => whnf
          refine mcallC (T := TT) (gf := true) (ρ := [31]) cB ?_
          conv => whnf
          refine ⟨none, by kernel_rfl, ?_⟩
          repeat ((conv => whnf); first | refine known false rfl ?_ | refine known true rfl ?_ | refine known true hAB ?_ | refine known true (by simp; done) ?_)
          conv => whnf
          refine mcallC (T := TT) (gf := false) (ρ := [18, 20, 21, 22, 23]) dA ?_
          conv => whnf
          refine ⟨by omega, by first | exact (Int.toNat_natCast _ ▸ hXl ▸ hka) | simpa using hka, ?_⟩
          conv => whnf
          refine ⟨_, getA, ?_⟩
          conv => whnf
          rintro (_ | _) c1
          · repeat ((conv => whnf); first | refine known false rfl ?_ | refine known true rfl ?_ | refine known true (by simp; done) ?_ | refine known false (by simp; done) ?_)
            conv => whnf
            refine ⟨(i + 1, s', M', ([] : List Jb)), ⟨by omega, hfit', hf', hk'⟩, by dsimp only; omega, ?_⟩
            conv => whnf
            refine ⟨_, Gh.refl _, ?_⟩
            refine ⟨rfl, ?_, ?_⟩ <;> repeat' (first | exact trivial | exact rfl | exact hX.symm | refine and_rfl ?_ | refine and_val (wrap_succ (by omega)) ?_ | refine and_two ?_ ?_)
          · conv => whnf
            refine mcallC (T := TT) (gf := false) (ρ := [18, 20, 21, 22, 23]) dB ?_
            conv => whnf
            refine ⟨by omega, by first | exact (Int.toNat_natCast _ ▸ hXl ▸ hkb) | simpa using hkb, ?_⟩
            conv => whnf
            refine ⟨_, getB, ?_⟩
            conv => whnf
            refine known false (no2 c1) ?_
            repeat ((conv => whnf); first | refine known false rfl ?_ | refine known true rfl ?_ | refine known true (by simp; done) ?_ | refine known false (by simp; done) ?_)
            conv => whnf
            refine ⟨(i + 1, s', M', ([] : List Jb)), ⟨by omega, hfit', hf', hk'⟩, by dsimp only; omega, ?_⟩
            conv => whnf
            refine ⟨_, Gh.refl _, ?_⟩
            refine ⟨rfl, ?_, ?_⟩ <;> repeat' (first | exact trivial | exact rfl | exact hX.symm | refine and_rfl ?_ | refine and_val (wrap_succ (by omega)) ?_ | refine and_two ?_ ?_)
        rw [g1] at cp
        conv => whnf
        refine mcallV (ln := true) (ρ := [18, 20, 21, 22, 23]) (gf := false) (T := TT) (φ := []) cp ?_
        conv => whnf
        refine known false (by simp; omega) ?_
        conv => whnf
        refine known true rfl ?_
        have cf := x_first l jj.tn (by omega)
        rw [g3] at cf
        conv => whnf
        refine mcallC (T := TT) (gf := true) (ρ := [31]) cf ?_
        conv => whnf
        refine ⟨none, by kernel_rfl, ?_⟩
        conv => whnf
        refine known false (by simp; done) ?_
        conv => whnf
        refine ⟨by omega, by simpa using g2, ?_⟩
        conv => whnf
        refine ⟨_, job_get g4, ?_⟩
        conv => whnf
        refine ⟨_, eq_job jj jj, ?_⟩
        conv => whnf
        rw [eqP_job]
        conv => whnf
        refine known false rfl ?_
        conv => whnf
        refine mcallV (ln := true) (ρ := [31]) (gf := true) (T := TT) (φ := [135]) (x_without l n g2 (by omega)) ?_
        have hX : (l.take n ++ l.drop (n + 1)).map jobD = (l.take n ++ l.drop (n + 1)).map jobD := rfl
        clear hk hf cp hfit g1 cf
        generalize s.pop.2 = s' at *
        generalize l.take n ++ l.drop (n + 1) = l' at *
        conv => whnf
        have hll := hk'.le hf'
        have cA := x_first l' A (by omega)
        have cB := x_first l' B (by omega)
        have nl := nlen hk'
        have hXl := congrArg List.length hX
        unfold jRow at cA cB
        rw [hX] at cA cB nl
        rw [List.length_map] at hXl
        have dA := c_deficit hfit' hf' A
        have dB := c_deficit hfit' hf' B
        rcases hk'.judge hf' A with ⟨eA, zA⟩ | ⟨ka, ja, ra, hka, eA, gA, qA⟩
        · rw [eA] at cA
          rw [zA] at dA
          by_cases hAB : A = B
          · have hAB := eqB hAB
            conv => whnf
            refine mcallC (T := TT) (gf := false) (ρ := [18, 20, 21, 22, 23]) (c_len hfit' hf') ?_
            conv => whnf
            refine known false nl ?_
            conv => whnf
            refine mcallC (T := TT) (gf := true) (ρ := [135]) cA ?_
            conv => whnf
            refine mcallC (T := TT) (gf := true) (ρ := [135]) cB ?_
            conv => whnf
            refine ⟨none, by kernel_rfl, ?_⟩
            repeat ((conv => whnf); first | refine known false rfl ?_ | refine known true rfl ?_ | refine known true hAB ?_ | refine known false hAB ?_ | refine known true (by simp; done) ?_ | refine known false (by simp; done) ?_ | refine mcallC (T := TT) (gf := false) (ρ := [18, 20, 21, 22, 23]) dA ?_)
            conv => whnf
            refine ⟨(i + 1, s', M', l'), ⟨by omega, hfit', hf', hk'⟩, by dsimp only; omega, ?_⟩
            conv => whnf
            refine ⟨_, gh_slot (i := 5) (d := 135) (e := 31) rfl rfl rfl (by decide), ?_⟩
            refine ⟨rfl, ?_, ?_⟩ <;> repeat' (first | exact trivial | exact rfl | exact hX.symm | refine and_rfl ?_ | refine and_val (wrap_succ (by omega)) ?_ | refine and_two ?_ ?_)
          · have hAB := neB hAB
            conv => whnf
            refine mcallC (T := TT) (gf := false) (ρ := [18, 20, 21, 22, 23]) (c_len hfit' hf') ?_
            conv => whnf
            refine known false nl ?_
            conv => whnf
            refine mcallC (T := TT) (gf := true) (ρ := [135]) cA ?_
            conv => whnf
            refine mcallC (T := TT) (gf := true) (ρ := [135]) cB ?_
            conv => whnf
            refine ⟨none, by kernel_rfl, ?_⟩
            repeat ((conv => whnf); first | refine known false rfl ?_ | refine known true rfl ?_ | refine known true hAB ?_ | refine known false hAB ?_ | refine known true (by simp; done) ?_ | refine known false (by simp; done) ?_ | refine mcallC (T := TT) (gf := false) (ρ := [18, 20, 21, 22, 23]) dA ?_)
            conv => whnf
            refine ⟨(i + 1, s', M', l'), ⟨by omega, hfit', hf', hk'⟩, by dsimp only; omega, ?_⟩
            conv => whnf
            refine ⟨_, gh_slot (i := 5) (d := 135) (e := 31) rfl rfl rfl (by decide), ?_⟩
            refine ⟨rfl, ?_, ?_⟩ <;> repeat' (first | exact trivial | exact rfl | exact hX.symm | refine and_rfl ?_ | refine and_val (wrap_succ (by omega)) ?_ | refine and_two ?_ ?_)
        rw [eA] at cA
        have getA := job_get gA
        rw [hX] at getA
        by_cases hAB0 : A = B
        · have hAB := eqB hAB0
          conv => whnf
          refine mcallC (T := TT) (gf := false) (ρ := [18, 20, 21, 22, 23]) (c_len hfit' hf') ?_
          conv => whnf
          refine known false nl ?_
          conv => whnf
          refine mcallC (T := TT) (gf := true) (ρ := [135]) cA ?_
          conv => whnf
          refine mcallC (T := TT) (gf := true) (ρ := [135]) cB ?_
          conv => whnf
          refine ⟨none, by kernel_rfl, ?_⟩
          repeat ((conv => whnf); first | refine known false rfl ?_ | refine known true rfl ?_ | refine known true hAB ?_ | refine known false hAB ?_ | refine known true (by simp; done) ?_ | refine known false (by simp; done) ?_ | refine mcallC (T := TT) (gf := false) (ρ := [18, 20, 21, 22, 23]) dA ?_)
          conv => whnf
          refine ⟨(i + 1, s', M', l'), ⟨by omega, hfit', hf', hk'⟩, by dsimp only; omega, ?_⟩
          conv => whnf
          refine ⟨_, gh_slot (i := 5) (d := 135) (e := 31) rfl rfl rfl (by decide), ?_⟩
          refine ⟨rfl, ?_, ?_⟩ <;> repeat' (first | exact trivial | exact rfl | exact hX.symm | refine and_rfl ?_ | refine and_val (wrap_succ (by omega)) ?_ | refine and_two ?_ ?_)
        have hAB := neB hAB0
        rcases hk'.judge hf' B with ⟨eB, zB⟩ | ⟨kb, jb, rb, hkb, eB, gB, qB⟩
        · rw [eB] at cB
          conv => whnf
          refine mcallC (T := TT) (gf := false) (ρ := [18, 20, 21, 22, 23]) (c_len hfit' hf') ?_
          conv => whnf
          refine known false nl ?_
          conv => whnf
          refine mcallC (T := TT) (gf := true) (ρ := [135]) cA ?_
          conv => whnf
          refine mcallC (T := TT) (gf := true) (ρ := [135]) cB ?_
          conv => whnf
          refine ⟨none, by kernel_rfl, ?_⟩
          repeat ((conv => whnf); first | refine known false rfl ?_ | refine known true rfl ?_ | refine known true hAB ?_ | refine known false hAB ?_ | refine known true (by simp; done) ?_ | refine known false (by simp; done) ?_ | refine mcallC (T := TT) (gf := false) (ρ := [18, 20, 21, 22, 23]) dA ?_)
          conv => whnf
          refine ⟨(i + 1, s', M', l'), ⟨by omega, hfit', hf', hk'⟩, by dsimp only; omega, ?_⟩
          conv => whnf
          refine ⟨_, gh_slot (i := 5) (d := 135) (e := 31) rfl rfl rfl (by decide), ?_⟩
          refine ⟨rfl, ?_, ?_⟩ <;> repeat' (first | exact trivial | exact rfl | exact hX.symm | refine and_rfl ?_ | refine and_val (wrap_succ (by omega)) ?_ | refine and_two ?_ ?_)
        rw [eB] at cB
        have getB := job_get gB
        rw [hX] at getB
        have no2 := two_not hf' hAB0 qA qB
        conv => whnf
        refine mcallC (T := TT) (gf := false) (ρ := [18, 20, 21, 22, 23]) (c_len hfit' hf') ?_
        conv => whnf
        refine known false nl ?_
        conv => whnf
        refine mcallC (T := TT) (gf := true) (ρ := [135]) cA ?_
        conv => whnf
        refine mcallC (T := TT) (gf := true) (ρ := [135]) cB ?_
        conv => whnf
        refine ⟨none, by kernel_rfl, ?_⟩
        repeat ((conv => whnf); first | refine known false rfl ?_ | refine known true rfl ?_ | refine known true hAB ?_ | refine known true (by simp; done) ?_)
        conv => whnf
        refine mcallC (T := TT) (gf := false) (ρ := [18, 20, 21, 22, 23]) dA ?_
        conv => whnf
        refine ⟨by omega, by first | exact (Int.toNat_natCast _ ▸ hXl ▸ hka) | simpa using hka, ?_⟩
        conv => whnf
        refine ⟨_, getA, ?_⟩
        conv => whnf
        rintro (_ | _) c1
        · repeat ((conv => whnf); first | refine known false rfl ?_ | refine known true rfl ?_ | refine known true (by simp; done) ?_ | refine known false (by simp; done) ?_)
          conv => whnf
          refine ⟨(i + 1, s', M', l'), ⟨by omega, hfit', hf', hk'⟩, by dsimp only; omega, ?_⟩
          conv => whnf
          refine ⟨_, gh_slot (i := 5) (d := 135) (e := 31) rfl rfl rfl (by decide), ?_⟩
          refine ⟨rfl, ?_, ?_⟩ <;> repeat' (first | exact trivial | exact rfl | exact hX.symm | refine and_rfl ?_ | refine and_val (wrap_succ (by omega)) ?_ | refine and_two ?_ ?_)
        · conv => whnf
          refine mcallC (T := TT) (gf := false) (ρ := [18, 20, 21, 22, 23]) dB ?_
          conv => whnf
          refine ⟨by omega, by first | exact (Int.toNat_natCast _ ▸ hXl ▸ hkb) | simpa using hkb, ?_⟩
          conv => whnf
          refine ⟨_, getB, ?_⟩
          conv => whnf
          refine known false (no2 c1) ?_
          repeat ((conv => whnf); first | refine known false rfl ?_ | refine known true rfl ?_ | refine known true (by simp; done) ?_ | refine known false (by simp; done) ?_)
          conv => whnf
          refine ⟨(i + 1, s', M', l'), ⟨by omega, hfit', hf', hk'⟩, by dsimp only; omega, ?_⟩
          conv => whnf
          refine ⟨_, gh_slot (i := 5) (d := 135) (e := 31) rfl rfl rfl (by decide), ?_⟩
          refine ⟨rfl, ?_, ?_⟩ <;> repeat' (first | exact trivial | exact rfl | exact hX.symm | refine and_rfl ?_ | refine and_val (wrap_succ (by omega)) ?_ | refine and_two ?_ ?_)
      · have hlk := hk.le hf
        cases hg : getE M.J j.tn with
        | none =>
          obtain ⟨q1, q2, cd⟩ := c_drop0 hfit hf hg
          conv => whnf
          refine mcallV (ln := true) (ρ := [18, 20, 21, 22, 23]) (gf := false) (T := TT) (φ := []) cd ?_
          conv => whnf
          refine ⟨[], Nat, fun k => [(5, .ow 31 0), (9, int k)], fun _ => [(31, some (.row 0 34 3 true (l.map jobD)))], fun k => k = 0, fun _ => 0, 0, rfl, ?_, ?_⟩
          · refine ⟨rfl, ?_, ?_⟩ <;> repeat' (first | exact trivial | exact rfl | refine and_rfl ?_ | refine and_val (wrap_succ (by omega)) ?_ | refine and_two ?_ ?_)
          rintro k rfl
          conv => whnf
          refine known false rfl ?_
          have cf := x_first l j.tn (by omega)
          rw [first_no 0 ((hk.of j.tn).trans q2)] at cf
          conv => whnf
          refine mcallC (T := TT) (gf := true) (ρ := [31]) cf ?_
          conv => whnf
          refine known false rfl ?_
          have hX : l.map jobD = l.map jobD := rfl
          have hk' := hk
          have hf' := hf
          have hfit' := hfit
          clear cd cf q1 q2 hg hk hf hfit
          have hll := hk'.le hf'
          have cA := x_first l A (by omega)
          have cB := x_first l B (by omega)
          have nl := nlen hk'
          have hXl := congrArg List.length hX
          unfold jRow at cA cB
          rw [hX] at cA cB nl
          rw [List.length_map] at hXl
          have dA := c_deficit hfit' hf' A
          have dB := c_deficit hfit' hf' B
          rcases hk'.judge hf' A with ⟨eA, zA⟩ | ⟨ka, ja, ra, hka, eA, gA, qA⟩
          · rw [eA] at cA
            rw [zA] at dA
            by_cases hAB : A = B
            · have hAB := eqB hAB
              conv => whnf
              refine mcallC (T := TT) (gf := false) (ρ := [18, 20, 21, 22, 23]) (c_len hfit' hf') ?_
              conv => whnf
              refine known false nl ?_
              conv => whnf
              refine mcallC (T := TT) (gf := true) (ρ := [31]) cA ?_
              conv => whnf
              refine mcallC (T := TT) (gf := true) (ρ := [31]) cB ?_
              conv => whnf
              refine ⟨none, by kernel_rfl, ?_⟩
              repeat ((conv => whnf); first | refine known false rfl ?_ | refine known true rfl ?_ | refine known true hAB ?_ | refine known false hAB ?_ | refine known true (by simp; done) ?_ | refine known false (by simp; done) ?_ | refine mcallC (T := TT) (gf := false) (ρ := [18, 20, 21, 22, 23]) dA ?_)
              conv => whnf
              refine ⟨(i + 1, s, M, l), ⟨by omega, hfit', hf', hk'⟩, by dsimp only; omega, ?_⟩
              conv => whnf
              refine ⟨_, Gh.refl _, ?_⟩
              refine ⟨rfl, ?_, ?_⟩ <;> repeat' (first | exact trivial | exact rfl | exact hX.symm | refine and_rfl ?_ | refine and_val (wrap_succ (by omega)) ?_ | refine and_two ?_ ?_)
            · have hAB := neB hAB
              conv => whnf
              refine mcallC (T := TT) (gf := false) (ρ := [18, 20, 21, 22, 23]) (c_len hfit' hf') ?_
              conv => whnf
              refine known false nl ?_
              conv => whnf
              refine mcallC (T := TT) (gf := true) (ρ := [31]) cA ?_
              conv => whnf
              refine mcallC (T := TT) (gf := true) (ρ := [31]) cB ?_
              conv => whnf
              refine ⟨none, by kernel_rfl, ?_⟩
              repeat ((conv => whnf); first | refine known false rfl ?_ | refine known true rfl ?_ | refine known true hAB ?_ | refine known false hAB ?_ | refine known true (by simp; done) ?_ | refine known false (by simp; done) ?_ | refine mcallC (T := TT) (gf := false) (ρ := [18, 20, 21, 22, 23]) dA ?_)
              conv => whnf
              refine ⟨(i + 1, s, M, l), ⟨by omega, hfit', hf', hk'⟩, by dsimp only; omega, ?_⟩
              conv => whnf
              refine ⟨_, Gh.refl _, ?_⟩
              refine ⟨rfl, ?_, ?_⟩ <;> repeat' (first | exact trivial | exact rfl | exact hX.symm | refine and_rfl ?_ | refine and_val (wrap_succ (by omega)) ?_ | refine and_two ?_ ?_)
          rw [eA] at cA
          have getA := job_get gA
          rw [hX] at getA
          by_cases hAB0 : A = B
          · have hAB := eqB hAB0
            conv => whnf
            refine mcallC (T := TT) (gf := false) (ρ := [18, 20, 21, 22, 23]) (c_len hfit' hf') ?_
            conv => whnf
            refine known false nl ?_
            conv => whnf
            refine mcallC (T := TT) (gf := true) (ρ := [31]) cA ?_
            conv => whnf
            refine mcallC (T := TT) (gf := true) (ρ := [31]) cB ?_
            conv => whnf
            refine ⟨none, by kernel_rfl, ?_⟩
            repeat ((conv => whnf); first | refine known false rfl ?_ | refine known true rfl ?_ | refine known true hAB ?_ | refine known false hAB ?_ | refine known true (by simp; done) ?_ | refine known false (by simp; done) ?_ | refine mcallC (T := TT) (gf := false) (ρ := [18, 20, 21, 22, 23]) dA ?_)
            conv => whnf
            refine ⟨(i + 1, s, M, l), ⟨by omega, hfit', hf', hk'⟩, by dsimp only; omega, ?_⟩
            conv => whnf
            refine ⟨_, Gh.refl _, ?_⟩
            refine ⟨rfl, ?_, ?_⟩ <;> repeat' (first | exact trivial | exact rfl | exact hX.symm | refine and_rfl ?_ | refine and_val (wrap_succ (by omega)) ?_ | refine and_two ?_ ?_)
          have hAB := neB hAB0
          rcases hk'.judge hf' B with ⟨eB, zB⟩ | ⟨kb, jb, rb, hkb, eB, gB, qB⟩
          · rw [eB] at cB
            conv => whnf
            refine mcallC (T := TT) (gf := false) (ρ := [18, 20, 21, 22, 23]) (c_len hfit' hf') ?_
            conv => whnf
            refine known false nl ?_
            conv => whnf
            refine mcallC (T := TT) (gf := true) (ρ := [31]) cA ?_
            conv => whnf
            refine mcallC (T := TT) (gf := true) (ρ := [31]) cB ?_
            conv => whnf
            refine ⟨none, by kernel_rfl, ?_⟩
            repeat ((conv => whnf); first | refine known false rfl ?_ | refine known true rfl ?_ | refine known true hAB ?_ | refine known false hAB ?_ | refine known true (by simp; done) ?_ | refine known false (by simp; done) ?_ | refine mcallC (T := TT) (gf := false) (ρ := [18, 20, 21, 22, 23]) dA ?_)
            conv => whnf
            refine ⟨(i + 1, s, M, l), ⟨by omega, hfit', hf', hk'⟩, by dsimp only; omega, ?_⟩
            conv => whnf
            refine ⟨_, Gh.refl _, ?_⟩
            refine ⟨rfl, ?_, ?_⟩ <;> repeat' (first | exact trivial | exact rfl | exact hX.symm | refine and_rfl ?_ | refine and_val (wrap_succ (by omega)) ?_ | refine and_two ?_ ?_)
          rw [eB] at cB
          have getB := job_get gB
          rw [hX] at getB
          have no2 := two_not hf' hAB0 qA qB
          conv => whnf
          refine mcallC (T := TT) (gf := false) (ρ := [18, 20, 21, 22, 23]) (c_len hfit' hf') ?_
          conv => whnf
          refine known false nl ?_
          conv => whnf
          refine mcallC (T := TT) (gf := true) (ρ := [31]) cA ?_
          conv => whnf
          refine mcallC (T := TT) (gf := true) (ρ := [31]) cB ?_
          conv => whnf
          refine ⟨none, by kernel_rfl, ?_⟩
          repeat ((conv => whnf); first | refine known false rfl ?_ | refine known true rfl ?_ | refine known true hAB ?_ | refine known true (by simp; done) ?_)
          conv => whnf
          refine mcallC (T := TT) (gf := false) (ρ := [18, 20, 21, 22, 23]) dA ?_
          conv => whnf
          refine ⟨by omega, by first | exact (Int.toNat_natCast _ ▸ hXl ▸ hka) | simpa using hka, ?_⟩
          conv => whnf
          refine ⟨_, getA, ?_⟩
          conv => whnf
          rintro (_ | _) c1
          · repeat ((conv => whnf); first | refine known false rfl ?_ | refine known true rfl ?_ | refine known true (by simp; done) ?_ | refine known false (by simp; done) ?_)
            conv => whnf
            refine ⟨(i + 1, s, M, l), ⟨by omega, hfit', hf', hk'⟩, by dsimp only; omega, ?_⟩
            conv => whnf
            refine ⟨_, Gh.refl _, ?_⟩
            refine ⟨rfl, ?_, ?_⟩ <;> repeat' (first | exact trivial | exact rfl | exact hX.symm | refine and_rfl ?_ | refine and_val (wrap_succ (by omega)) ?_ | refine and_two ?_ ?_)
          · conv => whnf
            refine mcallC (T := TT) (gf := false) (ρ := [18, 20, 21, 22, 23]) dB ?_
            conv => whnf
            refine ⟨by omega, by first | exact (Int.toNat_natCast _ ▸ hXl ▸ hkb) | simpa using hkb, ?_⟩
            conv => whnf
            refine ⟨_, getB, ?_⟩
            conv => whnf
            refine known false (no2 c1) ?_
            repeat ((conv => whnf); first | refine known false rfl ?_ | refine known true rfl ?_ | refine known true (by simp; done) ?_ | refine known false (by simp; done) ?_)
            conv => whnf
            refine ⟨(i + 1, s, M, l), ⟨by omega, hfit', hf', hk'⟩, by dsimp only; omega, ?_⟩
            conv => whnf
            refine ⟨_, Gh.refl _, ?_⟩
            refine ⟨rfl, ?_, ?_⟩ <;> repeat' (first | exact trivial | exact rfl | exact hX.symm | refine and_rfl ?_ | refine and_val (wrap_succ (by omega)) ?_ | refine and_two ?_ ?_)
        | some js =>
          obtain ⟨q2, M', hfit', cd⟩ := c_drop1 hfit hf hg
          conv => whnf
          refine mcallV (ln := true) (ρ := [18, 20, 21, 22, 23]) (gf := false) (T := TT) (φ := [74]) cd ?_
          conv => whnf
          refine ⟨[(3000001, 0, 0, 0)], Nat × List Jb, fun ⟨k, _⟩ => [(5, .ow 31 0), (9, int k)], fun ⟨_, l2⟩ => [(31, some (.row 0 34 3 true (l2.map jobD)))], fun ⟨k, l2⟩ => k ≤ js.length ∧ Kd j.tn s k l2, fun ⟨k, _⟩ => js.length - k, (0, l), ⟨by omega, hk.drop j.tn⟩, ?_, ?_⟩
          · refine ⟨rfl, ?_, ?_⟩ <;> repeat' (first | exact trivial | exact rfl | refine and_rfl ?_ | refine and_val (wrap_succ (by omega)) ?_ | refine and_two ?_ ?_)
          rintro ⟨k, l2⟩ ⟨hkk, hd⟩
          have hl2 : l2.length ≤ 256 ∧ k ≤ 256 := by
            have := hd.ln
            have := hf.ln
            omega
          conv => whnf
          rintro (_ | _) k3
          · simp at k3
            obtain rfl : k = js.length := by omega
            have hd : Kd j.tn s (jobsOf s j.tn).length l2 := by rw [q2]; exact hd
            obtain ⟨e1, hk'⟩ := hd.done hf
            have cf := x_first l2 j.tn (by omega)
            rw [e1] at cf
            conv => whnf
            refine mcallC (T := TT) (gf := true) (ρ := [31]) cf ?_
            conv => whnf
            refine known false rfl ?_
            have hX : l2.map jobD = l2.map jobD := rfl
            have hf' := hf.drop j.tn
            clear cd cf q2 hg hk hf hfit hd e1
            generalize s.drop j.tn = s' at *
            have hll := hk'.le hf'
            have cA := x_first l2 A (by omega)
            have cB := x_first l2 B (by omega)
            have nl := nlen hk'
            have hXl := congrArg List.length hX
            unfold jRow at cA cB
            rw [hX] at cA cB nl
            rw [List.length_map] at hXl
            have dA := c_deficit hfit' hf' A
            have dB := c_deficit hfit' hf' B
            rcases hk'.judge hf' A with ⟨eA, zA⟩ | ⟨ka, ja, ra, hka, eA, gA, qA⟩
            · rw [eA] at cA
              rw [zA] at dA
              by_cases hAB : A = B
              · have hAB := eqB hAB
                conv => whnf
                refine mcallC (T := TT) (gf := false) (ρ := [18, 20, 21, 22, 23]) (c_len hfit' hf') ?_
                conv => whnf
                refine known false nl ?_
                conv => whnf
                refine mcallC (T := TT) (gf := true) (ρ := [31]) cA ?_
                conv => whnf
                refine mcallC (T := TT) (gf := true) (ρ := [31]) cB ?_
                conv => whnf
                refine ⟨none, by kernel_rfl, ?_⟩
                repeat ((conv => whnf); first | refine known false rfl ?_ | refine known true rfl ?_ | refine known true hAB ?_ | refine known false hAB ?_ | refine known true (by simp; done) ?_ | refine known false (by simp; done) ?_ | refine mcallC (T := TT) (gf := false) (ρ := [18, 20, 21, 22, 23]) dA ?_)
                conv => whnf
                refine ⟨(i + 1, s', M', l2), ⟨by omega, hfit', hf', hk'⟩, by dsimp only; omega, ?_⟩
                conv => whnf
                refine ⟨_, Gh.refl _, ?_⟩
                refine ⟨rfl, ?_, ?_⟩ <;> repeat' (first | exact trivial | exact rfl | exact hX.symm | refine and_rfl ?_ | refine and_val (wrap_succ (by omega)) ?_ | refine and_two ?_ ?_)
              · have hAB := neB hAB
                conv => whnf
                refine mcallC (T := TT) (gf := false) (ρ := [18, 20, 21, 22, 23]) (c_len hfit' hf') ?_
                conv => whnf
                refine known false nl ?_
                conv => whnf
                refine mcallC (T := TT) (gf := true) (ρ := [31]) cA ?_
                conv => whnf
                refine mcallC (T := TT) (gf := true) (ρ := [31]) cB ?_
                conv => whnf
                refine ⟨none, by kernel_rfl, ?_⟩
                repeat ((conv => whnf); first | refine known false rfl ?_ | refine known true rfl ?_ | refine known true hAB ?_ | refine known false hAB ?_ | refine known true (by simp; done) ?_ | refine known false (by simp; done) ?_ | refine mcallC (T := TT) (gf := false) (ρ := [18, 20, 21, 22, 23]) dA ?_)
                conv => whnf
                refine ⟨(i + 1, s', M', l2), ⟨by omega, hfit', hf', hk'⟩, by dsimp only; omega, ?_⟩
                conv => whnf
                refine ⟨_, Gh.refl _, ?_⟩
                refine ⟨rfl, ?_, ?_⟩ <;> repeat' (first | exact trivial | exact rfl | exact hX.symm | refine and_rfl ?_ | refine and_val (wrap_succ (by omega)) ?_ | refine and_two ?_ ?_)
            rw [eA] at cA
            have getA := job_get gA
            rw [hX] at getA
            by_cases hAB0 : A = B
            · have hAB := eqB hAB0
              conv => whnf
              refine mcallC (T := TT) (gf := false) (ρ := [18, 20, 21, 22, 23]) (c_len hfit' hf') ?_
              conv => whnf
              refine known false nl ?_
              conv => whnf
              refine mcallC (T := TT) (gf := true) (ρ := [31]) cA ?_
              conv => whnf
              refine mcallC (T := TT) (gf := true) (ρ := [31]) cB ?_
              conv => whnf
              refine ⟨none, by kernel_rfl, ?_⟩
              repeat ((conv => whnf); first | refine known false rfl ?_ | refine known true rfl ?_ | refine known true hAB ?_ | refine known false hAB ?_ | refine known true (by simp; done) ?_ | refine known false (by simp; done) ?_ | refine mcallC (T := TT) (gf := false) (ρ := [18, 20, 21, 22, 23]) dA ?_)
              conv => whnf
              refine ⟨(i + 1, s', M', l2), ⟨by omega, hfit', hf', hk'⟩, by dsimp only; omega, ?_⟩
              conv => whnf
              refine ⟨_, Gh.refl _, ?_⟩
              refine ⟨rfl, ?_, ?_⟩ <;> repeat' (first | exact trivial | exact rfl | exact hX.symm | refine and_rfl ?_ | refine and_val (wrap_succ (by omega)) ?_ | refine and_two ?_ ?_)
            have hAB := neB hAB0
            rcases hk'.judge hf' B with ⟨eB, zB⟩ | ⟨kb, jb, rb, hkb, eB, gB, qB⟩
            · rw [eB] at cB
              conv => whnf
              refine mcallC (T := TT) (gf := false) (ρ := [18, 20, 21, 22, 23]) (c_len hfit' hf') ?_
              conv => whnf
              refine known false nl ?_
              conv => whnf
              refine mcallC (T := TT) (gf := true) (ρ := [31]) cA ?_
              conv => whnf
              refine mcallC (T := TT) (gf := true) (ρ := [31]) cB ?_
              conv => whnf
              refine ⟨none, by kernel_rfl, ?_⟩
              repeat ((conv => whnf); first | refine known false rfl ?_ | refine known true rfl ?_ | refine known true hAB ?_ | refine known false hAB ?_ | refine known true (by simp; done) ?_ | refine known false (by simp; done) ?_ | refine mcallC (T := TT) (gf := false) (ρ := [18, 20, 21, 22, 23]) dA ?_)
              conv => whnf
              refine ⟨(i + 1, s', M', l2), ⟨by omega, hfit', hf', hk'⟩, by dsimp only; omega, ?_⟩
              conv => whnf
              refine ⟨_, Gh.refl _, ?_⟩
              refine ⟨rfl, ?_, ?_⟩ <;> repeat' (first | exact trivial | exact rfl | exact hX.symm | refine and_rfl ?_ | refine and_val (wrap_succ (by omega)) ?_ | refine and_two ?_ ?_)
            rw [eB] at cB
            have getB := job_get gB
            rw [hX] at getB
            have no2 := two_not hf' hAB0 qA qB
            conv => whnf
            refine mcallC (T := TT) (gf := false) (ρ := [18, 20, 21, 22, 23]) (c_len hfit' hf') ?_
            conv => whnf
            refine known false nl ?_
            conv => whnf
            refine mcallC (T := TT) (gf := true) (ρ := [31]) cA ?_
            conv => whnf
            refine mcallC (T := TT) (gf := true) (ρ := [31]) cB ?_
            conv => whnf
            refine ⟨none, by kernel_rfl, ?_⟩
            repeat ((conv => whnf); first | refine known false rfl ?_ | refine known true rfl ?_ | refine known true hAB ?_ | refine known true (by simp; done) ?_)
            conv => whnf
            refine mcallC (T := TT) (gf := false) (ρ := [18, 20, 21, 22, 23]) dA ?_
            conv => whnf
            refine ⟨by omega, by first | exact (Int.toNat_natCast _ ▸ hXl ▸ hka) | simpa using hka, ?_⟩
            conv => whnf
            refine ⟨_, getA, ?_⟩
            conv => whnf
            rintro (_ | _) c1
            · repeat ((conv => whnf); first | refine known false rfl ?_ | refine known true rfl ?_ | refine known true (by simp; done) ?_ | refine known false (by simp; done) ?_)
              conv => whnf
              refine ⟨(i + 1, s', M', l2), ⟨by omega, hfit', hf', hk'⟩, by dsimp only; omega, ?_⟩
              conv => whnf
              refine ⟨_, Gh.refl _, ?_⟩
              refine ⟨rfl, ?_, ?_⟩ <;> repeat' (first | exact trivial | exact rfl | exact hX.symm | refine and_rfl ?_ | refine and_val (wrap_succ (by omega)) ?_ | refine and_two ?_ ?_)
            · conv => whnf
              refine mcallC (T := TT) (gf := false) (ρ := [18, 20, 21, 22, 23]) dB ?_
              conv => whnf
              refine ⟨by omega, by first | exact (Int.toNat_natCast _ ▸ hXl ▸ hkb) | simpa using hkb, ?_⟩
              conv => whnf
              refine ⟨_, getB, ?_⟩
              conv => whnf
              refine known false (no2 c1) ?_
              repeat ((conv => whnf); first | refine known false rfl ?_ | refine known true rfl ?_ | refine known true (by simp; done) ?_ | refine known false (by simp; done) ?_)
              conv => whnf
              refine ⟨(i + 1, s', M', l2), ⟨by omega, hfit', hf', hk'⟩, by dsimp only; omega, ?_⟩
              conv => whnf
              refine ⟨_, Gh.refl _, ?_⟩
              refine ⟨rfl, ?_, ?_⟩ <;> repeat' (first | exact trivial | exact rfl | exact hX.symm | refine and_rfl ?_ | refine and_val (wrap_succ (by omega)) ?_ | refine and_two ?_ ?_)
          simp at k3
          have hkj : k < (jobsOf s j.tn).length := by rw [q2]; exact k3
          obtain ⟨n, g2, g3, g4, hd'⟩ := hd.next hkj
          have g4 : l2[n]? = some js[k] := by rw [g4]; simp only [q2]
          have cf := x_first l2 j.tn (by omega)
          rw [g3] at cf
          conv => whnf
          refine mcallC (T := TT) (gf := true) (ρ := [31]) cf ?_
          conv => whnf
          refine ⟨none, by kernel_rfl, ?_⟩
          conv => whnf
          refine known false (by simp; done) ?_
          conv => whnf
          refine ⟨by omega, by simpa using g2, ?_⟩
          conv => whnf
          refine ⟨_, job_get g4, ?_⟩
          conv => whnf
          refine ⟨by omega, by simpa using k3, ?_⟩
          conv => whnf
          refine ⟨_, get_map jobD k3, ?_⟩
          conv => whnf
          refine ⟨_, eq_job js[k] js[k], ?_⟩
          conv => whnf
          rw [eqP_job]
          conv => whnf
          refine known false rfl ?_
          conv => whnf
          refine mcallV (ln := true) (ρ := [31]) (gf := true) (T := TT) (φ := [101]) (x_without l2 n g2 (by omega)) ?_
          conv => whnf
          refine ⟨(k + 1, l2.take n ++ l2.drop (n + 1)), ⟨by omega, hd'⟩, by dsimp only; omega, ?_⟩
          conv => whnf
          refine ⟨_, gh_slot (i := 5) (d := 101) (e := 31) rfl rfl rfl (by decide), ?_⟩
          refine ⟨rfl, ?_, ?_⟩ <;> repeat' (first | exact trivial | exact rfl | refine and_rfl ?_ | refine and_val (wrap_succ (by omega)) ?_ | refine and_two ?_ ?_)
    · have cw := c_weigh hfit hf j.tn on hjl.2
      conv => whnf
      refine mcallV (ln := true) (ρ := [18, 20, 21, 22, 23]) (gf := false) (T := TT) (φ := []) cw ?_
      have hf' := hf.weigh j.tn on
      have hfit' := hfit.weigh j.tn on
      have hk' := hk.weigh j.tn on
      have hX : l.map jobD = l.map jobD := rfl
      clear hk hf cw hfit
      generalize s.weigh j.tn on = s' at *
      have hll := hk'.le hf'
      have cA := x_first l A (by omega)
      have cB := x_first l B (by omega)
      have nl := nlen hk'
      have hXl := congrArg List.length hX
      unfold jRow at cA cB
      rw [hX] at cA cB nl
      rw [List.length_map] at hXl
      have dA := c_deficit hfit' hf' A
      have dB := c_deficit hfit' hf' B
      rcases hk'.judge hf' A with ⟨eA, zA⟩ | ⟨ka, ja, ra, hka, eA, gA, qA⟩
      · rw [eA] at cA
        rw [zA] at dA
        by_cases hAB : A = B
        · have hAB := eqB hAB
          conv => whnf
          refine mcallC (T := TT) (gf := false) (ρ := [18, 20, 21, 22, 23]) (c_len hfit' hf') ?_
          conv => whnf
          refine known false nl ?_
          conv => whnf
          refine mcallC (T := TT) (gf := true) (ρ := [31]) cA ?_
          conv => whnf
          refine mcallC (T := TT) (gf := true) (ρ := [31]) cB ?_
          conv => whnf
          refine ⟨none, by kernel_rfl, ?_⟩
          repeat ((conv => whnf); first | refine known false rfl ?_ | refine known true rfl ?_ | refine known true hAB ?_ | refine known false hAB ?_ | refine known true (by simp; done) ?_ | refine known false (by simp; done) ?_ | refine mcallC (T := TT) (gf := false) (ρ := [18, 20, 21, 22, 23]) dA ?_)
          conv => whnf
          refine ⟨(i + 1, s', M, l), ⟨by omega, hfit', hf', hk'⟩, by dsimp only; omega, ?_⟩
          conv => whnf
          refine ⟨_, Gh.refl _, ?_⟩
          refine ⟨rfl, ?_, ?_⟩ <;> repeat' (first | exact trivial | exact rfl | exact hX.symm | refine and_rfl ?_ | refine and_val (wrap_succ (by omega)) ?_ | refine and_two ?_ ?_)
        · have hAB := neB hAB
          conv => whnf
          refine mcallC (T := TT) (gf := false) (ρ := [18, 20, 21, 22, 23]) (c_len hfit' hf') ?_
          conv => whnf
          refine known false nl ?_
          conv => whnf
          refine mcallC (T := TT) (gf := true) (ρ := [31]) cA ?_
          conv => whnf
          refine mcallC (T := TT) (gf := true) (ρ := [31]) cB ?_
          conv => whnf
          refine ⟨none, by kernel_rfl, ?_⟩
          repeat ((conv => whnf); first | refine known false rfl ?_ | refine known true rfl ?_ | refine known true hAB ?_ | refine known false hAB ?_ | refine known true (by simp; done) ?_ | refine known false (by simp; done) ?_ | refine mcallC (T := TT) (gf := false) (ρ := [18, 20, 21, 22, 23]) dA ?_)
          conv => whnf
          refine ⟨(i + 1, s', M, l), ⟨by omega, hfit', hf', hk'⟩, by dsimp only; omega, ?_⟩
          conv => whnf
          refine ⟨_, Gh.refl _, ?_⟩
          refine ⟨rfl, ?_, ?_⟩ <;> repeat' (first | exact trivial | exact rfl | exact hX.symm | refine and_rfl ?_ | refine and_val (wrap_succ (by omega)) ?_ | refine and_two ?_ ?_)
      rw [eA] at cA
      have getA := job_get gA
      rw [hX] at getA
      by_cases hAB0 : A = B
      · have hAB := eqB hAB0
        conv => whnf
        refine mcallC (T := TT) (gf := false) (ρ := [18, 20, 21, 22, 23]) (c_len hfit' hf') ?_
        conv => whnf
        refine known false nl ?_
        conv => whnf
        refine mcallC (T := TT) (gf := true) (ρ := [31]) cA ?_
        conv => whnf
        refine mcallC (T := TT) (gf := true) (ρ := [31]) cB ?_
        conv => whnf
        refine ⟨none, by kernel_rfl, ?_⟩
        repeat ((conv => whnf); first | refine known false rfl ?_ | refine known true rfl ?_ | refine known true hAB ?_ | refine known false hAB ?_ | refine known true (by simp; done) ?_ | refine known false (by simp; done) ?_ | refine mcallC (T := TT) (gf := false) (ρ := [18, 20, 21, 22, 23]) dA ?_)
        conv => whnf
        refine ⟨(i + 1, s', M, l), ⟨by omega, hfit', hf', hk'⟩, by dsimp only; omega, ?_⟩
        conv => whnf
        refine ⟨_, Gh.refl _, ?_⟩
        refine ⟨rfl, ?_, ?_⟩ <;> repeat' (first | exact trivial | exact rfl | exact hX.symm | refine and_rfl ?_ | refine and_val (wrap_succ (by omega)) ?_ | refine and_two ?_ ?_)
      have hAB := neB hAB0
      rcases hk'.judge hf' B with ⟨eB, zB⟩ | ⟨kb, jb, rb, hkb, eB, gB, qB⟩
      · rw [eB] at cB
        conv => whnf
        refine mcallC (T := TT) (gf := false) (ρ := [18, 20, 21, 22, 23]) (c_len hfit' hf') ?_
        conv => whnf
        refine known false nl ?_
        conv => whnf
        refine mcallC (T := TT) (gf := true) (ρ := [31]) cA ?_
        conv => whnf
        refine mcallC (T := TT) (gf := true) (ρ := [31]) cB ?_
        conv => whnf
        refine ⟨none, by kernel_rfl, ?_⟩
        repeat ((conv => whnf); first | refine known false rfl ?_ | refine known true rfl ?_ | refine known true hAB ?_ | refine known false hAB ?_ | refine known true (by simp; done) ?_ | refine known false (by simp; done) ?_ | refine mcallC (T := TT) (gf := false) (ρ := [18, 20, 21, 22, 23]) dA ?_)
        conv => whnf
        refine ⟨(i + 1, s', M, l), ⟨by omega, hfit', hf', hk'⟩, by dsimp only; omega, ?_⟩
        conv => whnf
        refine ⟨_, Gh.refl _, ?_⟩
        refine ⟨rfl, ?_, ?_⟩ <;> repeat' (first | exact trivial | exact rfl | exact hX.symm | refine and_rfl ?_ | refine and_val (wrap_succ (by omega)) ?_ | refine and_two ?_ ?_)
      rw [eB] at cB
      have getB := job_get gB
      rw [hX] at getB
      have no2 := two_not hf' hAB0 qA qB
      conv => whnf
      refine mcallC (T := TT) (gf := false) (ρ := [18, 20, 21, 22, 23]) (c_len hfit' hf') ?_
      conv => whnf
      refine known false nl ?_
      conv => whnf
      refine mcallC (T := TT) (gf := true) (ρ := [31]) cA ?_
      conv => whnf
      refine mcallC (T := TT) (gf := true) (ρ := [31]) cB ?_
      conv => whnf
      refine ⟨none, by kernel_rfl, ?_⟩
      repeat ((conv => whnf); first | refine known false rfl ?_ | refine known true rfl ?_ | refine known true hAB ?_ | refine known true (by simp; done) ?_)
      conv => whnf
      refine mcallC (T := TT) (gf := false) (ρ := [18, 20, 21, 22, 23]) dA ?_
      conv => whnf
      refine ⟨by omega, by first | exact (Int.toNat_natCast _ ▸ hXl ▸ hka) | simpa using hka, ?_⟩
      conv => whnf
      refine ⟨_, getA, ?_⟩
      conv => whnf
      rintro (_ | _) c1
      · repeat ((conv => whnf); first | refine known false rfl ?_ | refine known true rfl ?_ | refine known true (by simp; done) ?_ | refine known false (by simp; done) ?_)
        conv => whnf
        refine ⟨(i + 1, s', M, l), ⟨by omega, hfit', hf', hk'⟩, by dsimp only; omega, ?_⟩
        conv => whnf
        refine ⟨_, Gh.refl _, ?_⟩
        refine ⟨rfl, ?_, ?_⟩ <;> repeat' (first | exact trivial | exact rfl | exact hX.symm | refine and_rfl ?_ | refine and_val (wrap_succ (by omega)) ?_ | refine and_two ?_ ?_)
      · conv => whnf
        refine mcallC (T := TT) (gf := false) (ρ := [18, 20, 21, 22, 23]) dB ?_
        conv => whnf
        refine ⟨by omega, by first | exact (Int.toNat_natCast _ ▸ hXl ▸ hkb) | simpa using hkb, ?_⟩
        conv => whnf
        refine ⟨_, getB, ?_⟩
        conv => whnf
        refine known false (no2 c1) ?_
        repeat ((conv => whnf); first | refine known false rfl ?_ | refine known true rfl ?_ | refine known true (by simp; done) ?_ | refine known false (by simp; done) ?_)
        conv => whnf
        refine ⟨(i + 1, s', M, l), ⟨by omega, hfit', hf', hk'⟩, by dsimp only; omega, ?_⟩
        conv => whnf
        refine ⟨_, Gh.refl _, ?_⟩
        refine ⟨rfl, ?_, ?_⟩ <;> repeat' (first | exact trivial | exact rfl | exact hX.symm | refine and_rfl ?_ | refine and_val (wrap_succ (by omega)) ?_ | refine and_two ?_ ?_)
  · obtain ⟨M', hfit', cp⟩ := c_push hfit hf j hjl.1 hjl.2
    conv => whnf
    refine mcallV (ln := true) (ρ := [18, 20, 21, 22, 23]) (gf := false) (T := TT) (φ := []) cp ?_
    have hf' := hf.push j
    have hlk := hk.le hf
    conv => whnf
    rintro (_ | _) k1
    · have hk1 : pushE s j ≠ 0 := by simpa using k1
      have hk' : Kp l (s.push j) := by rw [push_no hk1]; exact hk
      have hX : l.map jobD = l.map jobD := rfl
      clear hk hf cp k1 hk1 hfit
      generalize s.push j = s' at *
      have hll := hk'.le hf'
      have cA := x_first l A (by omega)
      have cB := x_first l B (by omega)
      have nl := nlen hk'
      have hXl := congrArg List.length hX
      unfold jRow at cA cB
      rw [hX] at cA cB nl
      rw [List.length_map] at hXl
      have dA := c_deficit hfit' hf' A
      have dB := c_deficit hfit' hf' B
      rcases hk'.judge hf' A with ⟨eA, zA⟩ | ⟨ka, ja, ra, hka, eA, gA, qA⟩
      · rw [eA] at cA
        rw [zA] at dA
        by_cases hAB : A = B
        · have hAB := eqB hAB
          conv => whnf
          refine mcallC (T := TT) (gf := false) (ρ := [18, 20, 21, 22, 23]) (c_len hfit' hf') ?_
          conv => whnf
          refine known false nl ?_
          conv => whnf
          refine mcallC (T := TT) (gf := true) (ρ := [31]) cA ?_
          conv => whnf
          refine mcallC (T := TT) (gf := true) (ρ := [31]) cB ?_
          conv => whnf
          refine ⟨none, by kernel_rfl, ?_⟩
          repeat ((conv => whnf); first | refine known false rfl ?_ | refine known true rfl ?_ | refine known true hAB ?_ | refine known false hAB ?_ | refine known true (by simp; done) ?_ | refine known false (by simp; done) ?_ | refine mcallC (T := TT) (gf := false) (ρ := [18, 20, 21, 22, 23]) dA ?_)
          conv => whnf
          refine ⟨(i + 1, s', M', l), ⟨by omega, hfit', hf', hk'⟩, by dsimp only; omega, ?_⟩
          conv => whnf
          refine ⟨_, Gh.refl _, ?_⟩
          refine ⟨rfl, ?_, ?_⟩ <;> repeat' (first | exact trivial | exact rfl | exact hX.symm | refine and_rfl ?_ | refine and_val (wrap_succ (by omega)) ?_ | refine and_two ?_ ?_)
        · have hAB := neB hAB
          conv => whnf
          refine mcallC (T := TT) (gf := false) (ρ := [18, 20, 21, 22, 23]) (c_len hfit' hf') ?_
          conv => whnf
          refine known false nl ?_
          conv => whnf
          refine mcallC (T := TT) (gf := true) (ρ := [31]) cA ?_
          conv => whnf
          refine mcallC (T := TT) (gf := true) (ρ := [31]) cB ?_
          conv => whnf
          refine ⟨none, by kernel_rfl, ?_⟩
          repeat ((conv => whnf); first | refine known false rfl ?_ | refine known true rfl ?_ | refine known true hAB ?_ | refine known false hAB ?_ | refine known true (by simp; done) ?_ | refine known false (by simp; done) ?_ | refine mcallC (T := TT) (gf := false) (ρ := [18, 20, 21, 22, 23]) dA ?_)
          conv => whnf
          refine ⟨(i + 1, s', M', l), ⟨by omega, hfit', hf', hk'⟩, by dsimp only; omega, ?_⟩
          conv => whnf
          refine ⟨_, Gh.refl _, ?_⟩
          refine ⟨rfl, ?_, ?_⟩ <;> repeat' (first | exact trivial | exact rfl | exact hX.symm | refine and_rfl ?_ | refine and_val (wrap_succ (by omega)) ?_ | refine and_two ?_ ?_)
      rw [eA] at cA
      have getA := job_get gA
      rw [hX] at getA
      by_cases hAB0 : A = B
      · have hAB := eqB hAB0
        conv => whnf
        refine mcallC (T := TT) (gf := false) (ρ := [18, 20, 21, 22, 23]) (c_len hfit' hf') ?_
        conv => whnf
        refine known false nl ?_
        conv => whnf
        refine mcallC (T := TT) (gf := true) (ρ := [31]) cA ?_
        conv => whnf
        refine mcallC (T := TT) (gf := true) (ρ := [31]) cB ?_
        conv => whnf
        refine ⟨none, by kernel_rfl, ?_⟩
        repeat ((conv => whnf); first | refine known false rfl ?_ | refine known true rfl ?_ | refine known true hAB ?_ | refine known false hAB ?_ | refine known true (by simp; done) ?_ | refine known false (by simp; done) ?_ | refine mcallC (T := TT) (gf := false) (ρ := [18, 20, 21, 22, 23]) dA ?_)
        conv => whnf
        refine ⟨(i + 1, s', M', l), ⟨by omega, hfit', hf', hk'⟩, by dsimp only; omega, ?_⟩
        conv => whnf
        refine ⟨_, Gh.refl _, ?_⟩
        refine ⟨rfl, ?_, ?_⟩ <;> repeat' (first | exact trivial | exact rfl | exact hX.symm | refine and_rfl ?_ | refine and_val (wrap_succ (by omega)) ?_ | refine and_two ?_ ?_)
      have hAB := neB hAB0
      rcases hk'.judge hf' B with ⟨eB, zB⟩ | ⟨kb, jb, rb, hkb, eB, gB, qB⟩
      · rw [eB] at cB
        conv => whnf
        refine mcallC (T := TT) (gf := false) (ρ := [18, 20, 21, 22, 23]) (c_len hfit' hf') ?_
        conv => whnf
        refine known false nl ?_
        conv => whnf
        refine mcallC (T := TT) (gf := true) (ρ := [31]) cA ?_
        conv => whnf
        refine mcallC (T := TT) (gf := true) (ρ := [31]) cB ?_
        conv => whnf
        refine ⟨none, by kernel_rfl, ?_⟩
        repeat ((conv => whnf); first | refine known false rfl ?_ | refine known true rfl ?_ | refine known true hAB ?_ | refine known false hAB ?_ | refine known true (by simp; done) ?_ | refine known false (by simp; done) ?_ | refine mcallC (T := TT) (gf := false) (ρ := [18, 20, 21, 22, 23]) dA ?_)
        conv => whnf
        refine ⟨(i + 1, s', M', l), ⟨by omega, hfit', hf', hk'⟩, by dsimp only; omega, ?_⟩
        conv => whnf
        refine ⟨_, Gh.refl _, ?_⟩
        refine ⟨rfl, ?_, ?_⟩ <;> repeat' (first | exact trivial | exact rfl | exact hX.symm | refine and_rfl ?_ | refine and_val (wrap_succ (by omega)) ?_ | refine and_two ?_ ?_)
      rw [eB] at cB
      have getB := job_get gB
      rw [hX] at getB
      have no2 := two_not hf' hAB0 qA qB
      conv => whnf
      refine mcallC (T := TT) (gf := false) (ρ := [18, 20, 21, 22, 23]) (c_len hfit' hf') ?_
      conv => whnf
      refine known false nl ?_
      conv => whnf
      refine mcallC (T := TT) (gf := true) (ρ := [31]) cA ?_
      conv => whnf
      refine mcallC (T := TT) (gf := true) (ρ := [31]) cB ?_
      conv => whnf
      refine ⟨none, by kernel_rfl, ?_⟩
      repeat ((conv => whnf); first | refine known false rfl ?_ | refine known true rfl ?_ | refine known true hAB ?_ | refine known true (by simp; done) ?_)
      conv => whnf
      refine mcallC (T := TT) (gf := false) (ρ := [18, 20, 21, 22, 23]) dA ?_
      conv => whnf
      refine ⟨by omega, by first | exact (Int.toNat_natCast _ ▸ hXl ▸ hka) | simpa using hka, ?_⟩
      conv => whnf
      refine ⟨_, getA, ?_⟩
      conv => whnf
      rintro (_ | _) c1
      · repeat ((conv => whnf); first | refine known false rfl ?_ | refine known true rfl ?_ | refine known true (by simp; done) ?_ | refine known false (by simp; done) ?_)
        conv => whnf
        refine ⟨(i + 1, s', M', l), ⟨by omega, hfit', hf', hk'⟩, by dsimp only; omega, ?_⟩
        conv => whnf
        refine ⟨_, Gh.refl _, ?_⟩
        refine ⟨rfl, ?_, ?_⟩ <;> repeat' (first | exact trivial | exact rfl | exact hX.symm | refine and_rfl ?_ | refine and_val (wrap_succ (by omega)) ?_ | refine and_two ?_ ?_)
      · conv => whnf
        refine mcallC (T := TT) (gf := false) (ρ := [18, 20, 21, 22, 23]) dB ?_
        conv => whnf
        refine ⟨by omega, by first | exact (Int.toNat_natCast _ ▸ hXl ▸ hkb) | simpa using hkb, ?_⟩
        conv => whnf
        refine ⟨_, getB, ?_⟩
        conv => whnf
        refine known false (no2 c1) ?_
        repeat ((conv => whnf); first | refine known false rfl ?_ | refine known true rfl ?_ | refine known true (by simp; done) ?_ | refine known false (by simp; done) ?_)
        conv => whnf
        refine ⟨(i + 1, s', M', l), ⟨by omega, hfit', hf', hk'⟩, by dsimp only; omega, ?_⟩
        conv => whnf
        refine ⟨_, Gh.refl _, ?_⟩
        refine ⟨rfl, ?_, ?_⟩ <;> repeat' (first | exact trivial | exact rfl | exact hX.symm | refine and_rfl ?_ | refine and_val (wrap_succ (by omega)) ?_ | refine and_two ?_ ?_)
    have hk1 : pushE s j = 0 := by simpa using k1
    have hk' := hk.push hk1
    conv => whnf
    refine ⟨by simp; omega, ?_⟩
    have hX : (l ++ [j]).map jobD = l.map jobD ++ [jobD j] := by simp
    conv => whnf
    clear hk hf cp k1 hk1 hfit
    generalize s.push j = s' at *
    generalize l ++ [j] = l' at *
    have hll := hk'.le hf'
    have cA := x_first l' A (by omega)
    have cB := x_first l' B (by omega)
    have nl := nlen hk'
    have hXl := congrArg List.length hX
    unfold jRow at cA cB
    rw [hX] at cA cB nl
    rw [List.length_map] at hXl
    have dA := c_deficit hfit' hf' A
    have dB := c_deficit hfit' hf' B
    rcases hk'.judge hf' A with ⟨eA, zA⟩ | ⟨ka, ja, ra, hka, eA, gA, qA⟩
    · rw [eA] at cA
      rw [zA] at dA
      by_cases hAB : A = B
      · have hAB := eqB hAB
        conv => whnf
        refine mcallC (T := TT) (gf := false) (ρ := [18, 20, 21, 22, 23]) (c_len hfit' hf') ?_
        conv => whnf
        refine known false nl ?_
        conv => whnf
        refine mcallC (T := TT) (gf := true) (ρ := [31]) cA ?_
        conv => whnf
        refine mcallC (T := TT) (gf := true) (ρ := [31]) cB ?_
        conv => whnf
        refine ⟨none, by kernel_rfl, ?_⟩
        repeat ((conv => whnf); first | refine known false rfl ?_ | refine known true rfl ?_ | refine known true hAB ?_ | refine known false hAB ?_ | refine known true (by simp; done) ?_ | refine known false (by simp; done) ?_ | refine mcallC (T := TT) (gf := false) (ρ := [18, 20, 21, 22, 23]) dA ?_)
        conv => whnf
        refine ⟨(i + 1, s', M', l'), ⟨by omega, hfit', hf', hk'⟩, by dsimp only; omega, ?_⟩
        conv => whnf
        refine ⟨_, Gh.refl _, ?_⟩
        refine ⟨rfl, ?_, ?_⟩ <;> repeat' (first | exact trivial | exact rfl | exact hX.symm | refine and_rfl ?_ | refine and_val (wrap_succ (by omega)) ?_ | refine and_two ?_ ?_)
      · have hAB := neB hAB
        conv => whnf
        refine mcallC (T := TT) (gf := false) (ρ := [18, 20, 21, 22, 23]) (c_len hfit' hf') ?_
        conv => whnf
        refine known false nl ?_
        conv => whnf
        refine mcallC (T := TT) (gf := true) (ρ := [31]) cA ?_
        conv => whnf
        refine mcallC (T := TT) (gf := true) (ρ := [31]) cB ?_
        conv => whnf
        refine ⟨none, by kernel_rfl, ?_⟩
        repeat ((conv => whnf); first | refine known false rfl ?_ | refine known true rfl ?_ | refine known true hAB ?_ | refine known false hAB ?_ | refine known true (by simp; done) ?_ | refine known false (by simp; done) ?_ | refine mcallC (T := TT) (gf := false) (ρ := [18, 20, 21, 22, 23]) dA ?_)
        conv => whnf
        refine ⟨(i + 1, s', M', l'), ⟨by omega, hfit', hf', hk'⟩, by dsimp only; omega, ?_⟩
        conv => whnf
        refine ⟨_, Gh.refl _, ?_⟩
        refine ⟨rfl, ?_, ?_⟩ <;> repeat' (first | exact trivial | exact rfl | exact hX.symm | refine and_rfl ?_ | refine and_val (wrap_succ (by omega)) ?_ | refine and_two ?_ ?_)
    rw [eA] at cA
    have getA := job_get gA
    rw [hX] at getA
    by_cases hAB0 : A = B
    · have hAB := eqB hAB0
      conv => whnf
      refine mcallC (T := TT) (gf := false) (ρ := [18, 20, 21, 22, 23]) (c_len hfit' hf') ?_
      conv => whnf
      refine known false nl ?_
      conv => whnf
      refine mcallC (T := TT) (gf := true) (ρ := [31]) cA ?_
      conv => whnf
      refine mcallC (T := TT) (gf := true) (ρ := [31]) cB ?_
      conv => whnf
      refine ⟨none, by kernel_rfl, ?_⟩
      repeat ((conv => whnf); first | refine known false rfl ?_ | refine known true rfl ?_ | refine known true hAB ?_ | refine known false hAB ?_ | refine known true (by simp; done) ?_ | refine known false (by simp; done) ?_ | refine mcallC (T := TT) (gf := false) (ρ := [18, 20, 21, 22, 23]) dA ?_)
      conv => whnf
      refine ⟨(i + 1, s', M', l'), ⟨by omega, hfit', hf', hk'⟩, by dsimp only; omega, ?_⟩
      conv => whnf
      refine ⟨_, Gh.refl _, ?_⟩
      refine ⟨rfl, ?_, ?_⟩ <;> repeat' (first | exact trivial | exact rfl | exact hX.symm | refine and_rfl ?_ | refine and_val (wrap_succ (by omega)) ?_ | refine and_two ?_ ?_)
    have hAB := neB hAB0
    rcases hk'.judge hf' B with ⟨eB, zB⟩ | ⟨kb, jb, rb, hkb, eB, gB, qB⟩
    · rw [eB] at cB
      conv => whnf
      refine mcallC (T := TT) (gf := false) (ρ := [18, 20, 21, 22, 23]) (c_len hfit' hf') ?_
      conv => whnf
      refine known false nl ?_
      conv => whnf
      refine mcallC (T := TT) (gf := true) (ρ := [31]) cA ?_
      conv => whnf
      refine mcallC (T := TT) (gf := true) (ρ := [31]) cB ?_
      conv => whnf
      refine ⟨none, by kernel_rfl, ?_⟩
      repeat ((conv => whnf); first | refine known false rfl ?_ | refine known true rfl ?_ | refine known true hAB ?_ | refine known false hAB ?_ | refine known true (by simp; done) ?_ | refine known false (by simp; done) ?_ | refine mcallC (T := TT) (gf := false) (ρ := [18, 20, 21, 22, 23]) dA ?_)
      conv => whnf
      refine ⟨(i + 1, s', M', l'), ⟨by omega, hfit', hf', hk'⟩, by dsimp only; omega, ?_⟩
      conv => whnf
      refine ⟨_, Gh.refl _, ?_⟩
      refine ⟨rfl, ?_, ?_⟩ <;> repeat' (first | exact trivial | exact rfl | exact hX.symm | refine and_rfl ?_ | refine and_val (wrap_succ (by omega)) ?_ | refine and_two ?_ ?_)
    rw [eB] at cB
    have getB := job_get gB
    rw [hX] at getB
    have no2 := two_not hf' hAB0 qA qB
    conv => whnf
    refine mcallC (T := TT) (gf := false) (ρ := [18, 20, 21, 22, 23]) (c_len hfit' hf') ?_
    conv => whnf
    refine known false nl ?_
    conv => whnf
    refine mcallC (T := TT) (gf := true) (ρ := [31]) cA ?_
    conv => whnf
    refine mcallC (T := TT) (gf := true) (ρ := [31]) cB ?_
    conv => whnf
    refine ⟨none, by kernel_rfl, ?_⟩
    repeat ((conv => whnf); first | refine known false rfl ?_ | refine known true rfl ?_ | refine known true hAB ?_ | refine known true (by simp; done) ?_)
    conv => whnf
    refine mcallC (T := TT) (gf := false) (ρ := [18, 20, 21, 22, 23]) dA ?_
    conv => whnf
    refine ⟨by omega, by first | exact (Int.toNat_natCast _ ▸ hXl ▸ hka) | simpa using hka, ?_⟩
    conv => whnf
    refine ⟨_, getA, ?_⟩
    conv => whnf
    rintro (_ | _) c1
    · repeat ((conv => whnf); first | refine known false rfl ?_ | refine known true rfl ?_ | refine known true (by simp; done) ?_ | refine known false (by simp; done) ?_)
      conv => whnf
      refine ⟨(i + 1, s', M', l'), ⟨by omega, hfit', hf', hk'⟩, by dsimp only; omega, ?_⟩
      conv => whnf
      refine ⟨_, Gh.refl _, ?_⟩
      refine ⟨rfl, ?_, ?_⟩ <;> repeat' (first | exact trivial | exact rfl | exact hX.symm | refine and_rfl ?_ | refine and_val (wrap_succ (by omega)) ?_ | refine and_two ?_ ?_)
    · conv => whnf
      refine mcallC (T := TT) (gf := false) (ρ := [18, 20, 21, 22, 23]) dB ?_
      conv => whnf
      refine ⟨by omega, by first | exact (Int.toNat_natCast _ ▸ hXl ▸ hkb) | simpa using hkb, ?_⟩
      conv => whnf
      refine ⟨_, getB, ?_⟩
      conv => whnf
      refine known false (no2 c1) ?_
      repeat ((conv => whnf); first | refine known false rfl ?_ | refine known true rfl ?_ | refine known true (by simp; done) ?_ | refine known false (by simp; done) ?_)
      conv => whnf
      refine ⟨(i + 1, s', M', l'), ⟨by omega, hfit', hf', hk'⟩, by dsimp only; omega, ?_⟩
      conv => whnf
      refine ⟨_, Gh.refl _, ?_⟩
      refine ⟨rfl, ?_, ?_⟩ <;> repeat' (first | exact trivial | exact rfl | exact hX.symm | refine and_rfl ?_ | refine and_val (wrap_succ (by omega)) ?_ | refine and_two ?_ ?_)
end Go.Proofs.Ytmlednjhemnncaa
