/- Texts joined by pack.py: XFe9 -/
import Derived.Test.YtmlednjhemnncaaFs28
namespace Go.Proofs.Ytmlednjhemnncaa
open Go.RowKit
section
variable {o : Oper} {E : Operand → V} {m : List (Option Bk)} {n k : Nat} {x y : Operand} {R : List Ac} {j : Nat} {outs : List V}
theorem st_df {v : Int} (h : j < R.length) (ho : o.op = .store 3 x y) (hx : E x = .oq n k 3 j 2) (hy : E y = int v) (hm : m[n]? = some (some (.asr k (rC R) outs))) :
    OpTr Try.prog o E m .un (m.set n (some (.asr k (rC (R.set j { R[j] with df := v })) outs))) := by
  have h1 := ot_ctD (P := Try.prog) (E := E) tok ho (by rfl) hx hm ac_len (cells := acC R[j]) (get_ac h) (ds := [.cv (.int .i64 v)]) (f := true) (by rw [hy]; rfl) (by rfl) (Nat.le_refl 3)
  have e : (R.map acC).set j ((acC R[j]).take 2 ++ [D.cv (.int .i64 v)].map Cl.d ++ (acC R[j]).drop (2 + [D.cv (.int .i64 v)].length)) = (R.set j { R[j] with df := v }).map acC := by
    rw [List.map_set]; rfl
  rw [e] at h1
  exact h1
theorem open_gh {d : Nat} (hd : m[d]? = some none) (hm : m[n]? = some (some (.asr k (rC R) []))) (h : j < R.length) :
    GhM m ((m.set n (some (.asr k (rO R j R[j]) [.ow d 0]))).set d (some (.row 0 34 3 false (R[j].js.map jobD)))) :=
  gh_openC (outs := []) hm (get_ac h) (off := 1) rfl hd
theorem ld_el {d kd : Nat} (h : j < R.length) (ho : o.op = .load 64 x) (hx : E x = .oq n k 3 j 0) (hm : m[n]? = some (some (.asr k (rO R j R[j]) [.ow d kd]))) :
    OpRd Try.prog o E m (.ag [str R[j].tn, .ow d kd, int R[j].df]) :=
  rd_ct_load tok ho rfl hx hm op_len (cells := (acC R[j]).set 1 (.o 0)) (by rw [List.getElem?_set_self (by simpa using h)]) rfl
end
theorem rpop_none {q : Int} {W : List (ByteArray × Int)} {tu : Bool} {a a1 : Ac} {l : List Ac} {n : Nat} {j : Jb} {js : List Jb} (hf : (⟨q, W, a :: l, tu⟩ : Qs).fine) (hmu : (⟨q, W, a :: l, tu⟩ : Qs).mu < n + 1)
    (ht : Qs.turn ⟨q, W, a :: l, tu⟩ = ⟨q, W, a1 :: l, true⟩) (hj : a1.js = j :: js) (hc : a1.df < j.co) :
    (⟨q, W, l ++ [a1], false⟩ : Qs).fine ∧ (⟨q, W, l ++ [a1], false⟩ : Qs).mu < n ∧ popF (n + 1) ⟨q, W, a :: l, tu⟩ = popF n ⟨q, W, l ++ [a1], false⟩ := by
  have hsv : Qs.serve (Qs.turn ⟨q, W, a :: l, tu⟩) = (none, ⟨q, W, l ++ [a1], false⟩) := by
    rw [ht]
    unfold Qs.serve
    simp only [hj]
    rw [if_neg (by omega)]
  have h1 := hf.turn.serve fun _ => turn_tu (s := ⟨q, W, a :: l, tu⟩) (by simp)
  have h2 := mu_less hf (by simp) (by rw [hsv])
  rw [hsv] at h1 h2
  refine ⟨h1, by dsimp only at h2; omega, ?_⟩
  conv => lhs; unfold popF
  simp only [hsv]
theorem rpop_one {q : Int} {W : List (ByteArray × Int)} {tu : Bool} {a a1 : Ac} {l : List Ac} {n : Nat} {j : Jb} {js : List Jb}
    (ht : Qs.turn ⟨q, W, a :: l, tu⟩ = ⟨q, W, a1 :: l, true⟩) (hj : a1.js = j :: js) (hc : j.co ≤ a1.df) :
    popF (n + 1) ⟨q, W, a :: l, tu⟩ = (some j, if js = [] then ⟨q, W, l, false⟩ else ⟨q, W, { a1 with js := js, df := a1.df - j.co } :: l, true⟩) := by
  have hsv : Qs.serve (Qs.turn ⟨q, W, a :: l, tu⟩) = (some j, if js = [] then ⟨q, W, l, false⟩ else ⟨q, W, { a1 with js := js, df := a1.df - j.co } :: l, true⟩) := by
    rw [ht]
    unfold Qs.serve
    simp only [hj]
    rw [if_pos hc]
  conv => lhs; unfold popF
  simp only [hsv]
theorem and_boo {a b : Bool} {p : Prop} (e : a = b) (h : p) : V.cv (.bool a) = V.cv (.bool b) ∧ p := ⟨by rw [e], h⟩
theorem cutP {Q : Prop} {F I : Ac → Prop} (h1 : (∀ a, I a → F a) → Q) (h2 : ∀ a, I a → F a) : Q := h1 h2
abbrev RQM : List (Nat × Bool) := [(33, false), (44, true), (4000040, false), (5000058, false), (2000058, false), (7000008, false), (7000015, false)]
def planR10 : Plan := .one 0 (.one 1 (.one 5 (.one 6 (.one 7 (.one 8 (.one 9 (.one 10 (.pull 2 (.alt 3 (.alt 4 (.one 11 (.one 12 (.one 13 (.one 14 (.one 15 (.one 16 (.done))))))) (.alt 11 (.one 12 (.one 4 (.one 13 (.one 14 (.one 15 (.one 16 (.done))))))) (.stop))) (.alt 4 (.alt 3 (.one 11 (.one 12 (.one 13 (.one 14 (.one 15 (.one 16 (.done))))))) (.alt 11 (.one 12 (.alt 3 (.one 13 (.one 14 (.one 15 (.one 16 (.done))))) (.alt 13 (.one 3 (.one 14 (.one 15 (.one 16 (.done))))) (.stop)))) (.stop))) (.alt 11 (.one 12 (.alt 3 (.one 4 (.one 13 (.one 14 (.one 15 (.one 16 (.done)))))) (.alt 4 (.alt 3 (.one 13 (.one 14 (.one 15 (.one 16 (.done))))) (.alt 13 (.one 3 (.one 14 (.one 15 (.one 16 (.done))))) (.stop))) (.stop)))) (.stop))))))))))))
def planR16 : Plan := .one 0 (.one 2 (.one 3 (.pull 4 (.alt 1 (.alt 5 (.alt 6 (.alt 7 (.one 8 (.one 9 (.one 10 (.one 11 (.one 12 (.one 13 (.done))))))) (.alt 8 (.alt 7 (.one 9 (.one 10 (.one 11 (.one 12 (.one 13 (.done)))))) (.alt 9 (.one 7 (.one 10 (.one 11 (.one 12 (.one 13 (.done)))))) (.stop))) (.stop))) (.alt 8 (.alt 6 (.alt 7 (.one 9 (.one 10 (.one 11 (.one 12 (.one 13 (.done)))))) (.alt 9 (.one 7 (.one 10 (.one 11 (.one 12 (.one 13 (.done)))))) (.stop))) (.alt 9 (.one 6 (.one 7 (.one 10 (.one 11 (.one 12 (.one 13 (.done))))))) (.stop))) (.stop))) (.alt 8 (.alt 5 (.alt 6 (.alt 7 (.one 9 (.one 10 (.one 11 (.one 12 (.one 13 (.done)))))) (.alt 9 (.one 7 (.one 10 (.one 11 (.one 12 (.one 13 (.done)))))) (.stop))) (.alt 9 (.one 6 (.one 7 (.one 10 (.one 11 (.one 12 (.one 13 (.done))))))) (.stop))) (.alt 9 (.one 5 (.one 6 (.one 7 (.one 10 (.one 11 (.one 12 (.one 13 (.done)))))))) (.stop))) (.stop))) (.alt 5 (.alt 1 (.alt 6 (.alt 7 (.one 8 (.one 9 (.one 10 (.one 11 (.one 12 (.one 13 (.done))))))) (.alt 8 (.alt 7 (.one 9 (.one 10 (.one 11 (.one 12 (.one 13 (.done)))))) (.alt 9 (.one 7 (.one 10 (.one 11 (.one 12 (.one 13 (.done)))))) (.stop))) (.stop))) (.alt 8 (.alt 6 (.alt 7 (.one 9 (.one 10 (.one 11 (.one 12 (.one 13 (.done)))))) (.alt 9 (.one 7 (.one 10 (.one 11 (.one 12 (.one 13 (.done)))))) (.stop))) (.alt 9 (.one 6 (.one 7 (.one 10 (.one 11 (.one 12 (.one 13 (.done))))))) (.stop))) (.stop))) (.alt 6 (.alt 1 (.alt 7 (.one 8 (.one 9 (.one 10 (.one 11 (.one 12 (.one 13 (.done))))))) (.alt 8 (.alt 7 (.one 9 (.one 10 (.one 11 (.one 12 (.one 13 (.done)))))) (.alt 9 (.one 7 (.one 10 (.one 11 (.one 12 (.one 13 (.done)))))) (.stop))) (.stop))) (.alt 8 (.alt 1 (.alt 7 (.one 9 (.one 10 (.one 11 (.one 12 (.one 13 (.done)))))) (.alt 9 (.one 7 (.one 10 (.one 11 (.one 12 (.one 13 (.done)))))) (.stop))) (.alt 9 (.one 1 (.one 7 (.one 10 (.one 11 (.one 12 (.one 13 (.done))))))) (.stop))) (.stop))) (.alt 8 (.alt 1 (.alt 6 (.alt 7 (.one 9 (.one 10 (.one 11 (.one 12 (.one 13 (.done)))))) (.alt 9 (.one 7 (.one 10 (.one 11 (.one 12 (.one 13 (.done)))))) (.stop))) (.alt 9 (.one 6 (.one 7 (.one 10 (.one 11 (.one 12 (.one 13 (.done))))))) (.stop))) (.alt 6 (.alt 1 (.alt 7 (.one 9 (.one 10 (.one 11 (.one 12 (.one 13 (.done)))))) (.alt 9 (.one 7 (.one 10 (.one 11 (.one 12 (.one 13 (.done)))))) (.stop))) (.alt 9 (.one 1 (.one 7 (.one 10 (.one 11 (.one 12 (.one 13 (.done))))))) (.stop))) (.alt 9 (.alt 1 (.one 6 (.one 7 (.one 10 (.one 11 (.one 12 (.one 13 (.done))))))) (.alt 6 (.one 1 (.one 7 (.one 10 (.one 11 (.one 12 (.one 13 (.done))))))) (.stop))) (.stop)))) (.stop)))) (.alt 8 (.alt 1 (.alt 5 (.alt 6 (.alt 7 (.one 9 (.one 10 (.one 11 (.one 12 (.one 13 (.done)))))) (.alt 9 (.one 7 (.one 10 (.one 11 (.one 12 (.one 13 (.done)))))) (.stop))) (.alt 9 (.one 6 (.one 7 (.one 10 (.one 11 (.one 12 (.one 13 (.done))))))) (.stop))) (.alt 9 (.one 5 (.one 6 (.one 7 (.one 10 (.one 11 (.one 12 (.one 13 (.done)))))))) (.stop))) (.alt 5 (.alt 1 (.alt 6 (.alt 7 (.one 9 (.one 10 (.one 11 (.one 12 (.one 13 (.done)))))) (.alt 9 (.one 7 (.one 10 (.one 11 (.one 12 (.one 13 (.done)))))) (.stop))) (.alt 9 (.one 6 (.one 7 (.one 10 (.one 11 (.one 12 (.one 13 (.done))))))) (.stop))) (.alt 6 (.alt 1 (.alt 7 (.one 9 (.one 10 (.one 11 (.one 12 (.one 13 (.done)))))) (.alt 9 (.one 7 (.one 10 (.one 11 (.one 12 (.one 13 (.done)))))) (.stop))) (.alt 9 (.one 1 (.one 7 (.one 10 (.one 11 (.one 12 (.one 13 (.done))))))) (.stop))) (.alt 9 (.alt 1 (.one 6 (.one 7 (.one 10 (.one 11 (.one 12 (.one 13 (.done))))))) (.alt 6 (.one 1 (.one 7 (.one 10 (.one 11 (.one 12 (.one 13 (.done))))))) (.stop))) (.stop)))) (.alt 9 (.alt 1 (.one 5 (.one 6 (.one 7 (.one 10 (.one 11 (.one 12 (.one 13 (.done)))))))) (.alt 5 (.alt 1 (.one 6 (.one 7 (.one 10 (.one 11 (.one 12 (.one 13 (.done))))))) (.alt 6 (.one 1 (.one 7 (.one 10 (.one 11 (.one 12 (.one 13 (.done))))))) (.stop))) (.stop))) (.stop)))) (.stop)))))))
set_option maxRecDepth 100000 in
set_option maxHeartbeats 16000000 in
theorem x_rpop {s : Qs} (hf : s.fine) {P : Option Jb × Qs} (hP : popF (s.mu + 1) s = P) :
    MCalls Try.prog 18 [.bx 0 0] (rM s.q s.tu s.W s.R) (.tu [(P.1.getD Jb.zero).V, boo P.1.isSome]) (rM s.q P.2.tu s.W P.2.R) := by
  obtain ⟨q, W, R, tu⟩ := s
  dsimp only
  have hq1 := hf.q1
  have hq2 := hf.q2
  have hWl := hf.wl
  have hWn := hf.Wn
  dsimp only at hq1 hq2 hWl hWn
  refine msxg RQM Try.func18 (by kernel_rfl) (by kernel_rfl) ?_
  conv => whnf
  refine mcall (T := TT) (φ := []) (x_rmade q tu W R) ?_
  conv => whnf
  refine known false (by simp; omega) ?_
  conv => whnf
  refine ⟨[(3000001, 0, 0, 0)], Nat × Bool × List Ac, fun _ => [(6, .un), (7, .un), (8, .un)], fun ⟨_, tu, R⟩ => [(144, some (.box [int q, .ow 145 0, .ow 146 0, boo tu])), (146, some (.asr 0 (rC R) []))], fun ⟨n, tu, R⟩ => (⟨q, W, R, tu⟩ : Qs).fine ∧ (⟨q, W, R, tu⟩ : Qs).mu < n ∧ popF n ⟨q, W, R, tu⟩ = P, fun ⟨n, _⟩ => n, ((⟨q, W, R, tu⟩ : Qs).mu + 1, tu, R), ⟨hf, by omega, hP⟩, ?_, ?_⟩
  · refine ⟨rfl, ?_, ?_⟩ <;> repeat' (first | exact trivial | exact rfl | refine and_rfl ?_ | refine and_two ?_ ?_)
  clear hf hP
  rintro ⟨n, tu, R⟩ ⟨hf, hmu, hP⟩
  conv => whnf
  refine at_rd (len_rg rfl rfl rfl) ?_
  cases R with
  | nil =>
    obtain rfl : (none, (⟨q, W, [], tu⟩ : Qs)) = P := by cases n <;> exact hP
    conv => whnf
    refine known false rfl ?_
    conv => whnf
    refine ⟨_, Gh.refl _, ?_⟩
    exact ⟨rfl, rfl, rfl⟩
  | cons a l =>
    obtain ⟨n, rfl⟩ : ∃ n', n = n' + 1 := ⟨n - 1, by omega⟩
    obtain ⟨j, js, hj⟩ : ∃ j js, a.js = j :: js := by
      cases hj : a.js with
      | nil => exact absurd hj (hf.js a List.mem_cons_self)
      | cons j js => exact ⟨j, js, rfl⟩
    have hjl := hf.jsize (a := a) List.mem_cons_self
    have hown := (hf.own a List.mem_cons_self j (by rw [hj]; exact List.mem_cons_self)).2
    have hup := hf.turn.up
    have hdn := hf.turn.df
    have hsz := hf.size
    have hup0 := hf.up a List.mem_cons_self
    have hdf0 := hf.df a List.mem_cons_self
    have hsh := hf.took.share a.tn
    dsimp only at hown hsz hup0 hsh
    rw [hj] at hjl
    refine known true (by simp) ?_
    have h0 : ∀ a1 : Ac, 0 < (a1 :: l).length := fun _ => by simp
    have hk : ((0 : Int)).toNat < (a.js.map jobD).length := by rw [hj]; simp
    have hg0 : (a.js.map jobD)[((0 : Int)).toNat]? = some (jobD j) := by rw [hj]; rfl
    have hpa : (0 : Int) ≤ 0 ∧ ((0 : Int)).toNat < ((a :: l).map acC).length := ⟨by omega, by simp⟩
    obtain ⟨vv, hvv⟩ : ∃ v, v = a.df + shareOf ⟨q, W, a :: l, tu⟩ a.tn := ⟨_, rfl⟩
    have hwr : IntKind.i64.wrap (a.df + shareOf ⟨q, W, a :: l, tu⟩ a.tn) = vv := by rw [hvv]; exact wrap_in (by omega)
    have hshare := x_share q ⟨by omega, hq2⟩ true W (a :: l) a.tn (by omega) hWn
    have hpa2 : (0 : Int) ≤ 0 ∧ ((0 : Int)).toNat < ((⟨a.tn, a.js, vv⟩ :: l : List Ac).map acC).length := ⟨by omega, by simp⟩
    apply cutP (I := fun a1 => Qs.turn ⟨q, W, a :: l, tu⟩ = ⟨q, W, a1 :: l, true⟩ ∧ a1.js = j :: js)
    · intro key
      rcases Bool.eq_false_or_eq_true tu with htu | htu
      · have htn : Qs.turn ⟨q, W, a :: l, tu⟩ = ⟨q, W, a :: l, true⟩ := by simp [Qs.turn, htu]
        obtain ⟨a', ea⟩ : ∃ x, x = a := ⟨_, rfl⟩
        conv => whnf
        refine known false (by rw [htu]; rfl) ?_
        conv => whnf
        refine at_rd (idx_rg rfl rfl rfl rfl hpa) ?_
        conv => whnf
        refine at_ex (open_rg (n := 146) (d := 53) (R := a :: l) (j := 0) rfl rfl rfl rfl (h0 a)) ?_
        conv => whnf
        refine ⟨Int.le_refl 0, hk, ?_⟩
        conv => whnf
        refine ⟨_, hg0, ?_⟩
        conv => whnf
        refine ⟨[(0, .bx 144 0), (2, .bx 2 0), (4, .bx 4 0)], [(2, .box [str Jb.zero.id, str Jb.zero.tn, int 0]), (4, .box [str j.id, str j.tn, int j.co]), (144, .box [int q, .ow 145 0, .ow 146 0, boo true]), (145, .row 0 66 2 false (W.map wD)), (146, .asr 0 (rC (a' :: l)) [])], _, GhM.gh (close_rg (n := 146) (d := 53) (R := a :: l) (j := 0) (h0 a) rfl rfl), ?_⟩
        conv => whnf
        refine And.intro ?_ ?_
        · refine ⟨rfl, ?_, ?_⟩ <;> repeat' (first | exact trivial | exact rfl | refine and_rfl ?_ | refine and_boo htu ?_ | exact and_boo htu trivial | refine And.intro (by subst ea; exact rfl) ?_ | refine and_two ?_ ?_ | exact (by rw [ea]))
        conv => whnf
        exact key a' ⟨by rw [ea]; exact htn, by rw [ea]; exact hj⟩
      · have htn : Qs.turn ⟨q, W, a :: l, tu⟩ = ⟨q, W, ⟨a.tn, a.js, vv⟩ :: l, true⟩ := by simp [Qs.turn, htu, hvv]
        conv => whnf
        refine known true (by rw [htu]; rfl) ?_
        conv => whnf
        refine ⟨none, by kernel_rfl, ?_⟩
        conv => whnf
        refine at_rd (idx_rg rfl rfl rfl rfl hpa) ?_
        conv => whnf
        refine at_rd (ld_df (j := 0) (R := a :: l) rfl rfl rfl (h0 a)) ?_
        conv => whnf
        refine at_rd (idx_rg rfl rfl rfl rfl hpa) ?_
        conv => whnf
        refine at_rd (ld_tn (j := 0) (R := a :: l) rfl rfl rfl (h0 a)) ?_
        conv => whnf
        refine mcallC (T := TT) (gf := false) (ρ := [144, 145, 146]) hshare ?_
        conv => whnf
        refine at_rd (idx_rg rfl rfl rfl rfl hpa) ?_
        conv => whnf
        refine at_ex (st_df (R := a :: l) (j := 0) (v := vv) (h0 a) rfl rfl (fin_int hwr) rfl) ?_
        conv => whnf
        refine at_rd (idx_rg rfl rfl rfl rfl hpa2) ?_
        conv => whnf
        refine at_ex (open_rg (n := 146) (d := 53) (R := ⟨a.tn, a.js, vv⟩ :: l) (j := 0) rfl rfl rfl rfl (h0 _)) ?_
        conv => whnf
        refine ⟨Int.le_refl 0, hk, ?_⟩
        conv => whnf
        refine ⟨_, hg0, ?_⟩
        conv => whnf
        refine ⟨[(0, .bx 144 0), (2, .bx 2 0), (4, .bx 4 0)], [(2, .box [str Jb.zero.id, str Jb.zero.tn, int 0]), (4, .box [str j.id, str j.tn, int j.co]), (144, .box [int q, .ow 145 0, .ow 146 0, boo true]), (145, .row 0 66 2 false (W.map wD)), (146, .asr 0 (rC (⟨a.tn, a.js, vv⟩ :: l)) [])], _, GhM.gh (close_rg (n := 146) (d := 53) (R := ⟨a.tn, a.js, vv⟩ :: l) (j := 0) (h0 _) rfl rfl), ?_⟩
        conv => whnf
        refine And.intro ?_ ?_
        · refine ⟨rfl, ?_, ?_⟩ <;> repeat' (first | exact trivial | exact rfl | refine and_rfl ?_ | refine and_two ?_ ?_)
        conv => whnf
        exact key ⟨a.tn, a.js, vv⟩ ⟨htn, hj⟩
    rintro a1 ⟨ht, hj1⟩
    clear hk hg0 hpa hpa2 hshare hwr hvv vv
    rw [ht] at hup hdn
    have hup1 := hup a1 List.mem_cons_self
    have hdn1 := hdn a1 List.mem_cons_self
    dsimp only at hup1
    have h1 := h0 a1
    have hll : l.length ≤ 256 := by simp at hsz; omega
    have hpa : (0 : Int) ≤ 0 ∧ ((0 : Int)).toNat < ((a1 :: l).map acC).length := ⟨by omega, by simp⟩
    conv => whnf
    refine ⟨none, by kernel_rfl, ?_⟩
    conv => whnf
    refine at_rd (idx_rg rfl rfl rfl rfl hpa) ?_
    conv => whnf
    refine at_rd (ld_df (j := 0) (R := a1 :: l) rfl rfl rfl h1) ?_
    rcases Int.lt_or_le a1.df j.co with hc | hc
    · obtain ⟨p1, p2, p3⟩ := rpop_none hf hmu ht hj1 hc
      rw [p3] at hP
      conv => whnf
      refine known false (by simp; omega) ?_
      conv => whnf
      refine ⟨[(0, .bx 144 0), (2, .bx 2 0), (4, .bx 4 0)], [(2, .box [str Jb.zero.id, str Jb.zero.tn, int 0]), (4, .box [str j.id, str j.tn, int j.co]), (126, .row 0 34 3 false (a1.js.map jobD)), (144, .box [int q, .ow 145 0, .ow 146 0, boo true]), (145, .row 0 66 2 false (W.map wD)), (146, .asr 0 (rO (a1 :: l) 0 a1) [.ow 126 0])], _, GhM.gh (open_gh (n := 146) (d := 126) (R := a1 :: l) (j := 0) rfl rfl h1), ?_⟩
      conv => whnf
      refine And.intro ?_ ?_
      · refine ⟨rfl, ?_, ?_⟩ <;> repeat' (first | exact trivial | exact rfl | refine and_rfl ?_ | refine and_two ?_ ?_)
      have hpd : (0 : Int) ≤ 0 ∧ ((0 : Int)).toNat < (((a1 :: l).map acC).set 0 ((acC a1).set 1 (.o 0))).length := ⟨by omega, by simp⟩
      conv => whnf
      refine at_rd (idx_rg rfl rfl rfl rfl hpd) ?_
      conv => whnf
      refine at_rd (ld_el (R := a1 :: l) (j := 0) h1 rfl rfl rfl) ?_
      have hs1 : 1 ≤ (a1 :: l).length ∧ (a1 :: l).length ≤ (((a1 :: l).map acC).set 0 ((acC a1).set 1 (.o 0))).length := by simp
      have hpt : ((((a1 :: l).map acC).set 0 ((acC a1).set 1 (.o 0))).take (a1 :: l).length).drop 1 = (((a1 :: l).take (a1 :: l).length).drop 1).map acC := by rw [List.take_of_length_le (by simp), List.take_of_length_le (Nat.le_refl _)]; rfl
      have hle : 1 ≤ (a1 :: l).length := by simp
      have hb1 : ([] : List Ac).length + ((a1 :: l).length - 1) ≤ 2000000 := by simp; omega
      have hb2 : ([] ++ ((a1 :: l).take (a1 :: l).length).drop 1 : List Ac).length + (1 - 0) ≤ 2000000 := by simp; omega
      have hr1 : ∀ r ∈ [acC a1], r.length = 3 := by simp [acC]
      have hl1 : (((a1 :: l).map acC).set 0 ((acC a1).set 1 (.o 0))).length = (a1 :: l).length := by simp
      conv => whnf
      refine ⟨some planR16, by kernel_rfl, ?_⟩
      conv => whnf
      refine ⟨.bx 144 2, fun m2 K2 hK => hK, ?_⟩
      apply cut
      · intro key
        conv => whnf
        refine And.intro ?_ ?_
        conv => whnf
        refine at_tr (bld0 rfl rfl rfl rfl) ?_
        conv => whnf
        refine And.intro ?_ ?_
        conv => whnf
        refine And.intro ?_ ?_
        conv => whnf
        refine at_rd (sl_rg (l := 1) (h := (a1 :: l).length) rfl rfl rfl rfl (congrArg (fun i : Nat => some (i : Int)) hl1) hs1) ?_
        conv => whnf
        refine And.intro ?_ ?_
        conv => whnf
        refine at_ex (app_rg (n := 128) (n2 := 146) (R := []) (R2 := a1 :: l) (rs := ((a1 :: l).map acC).set 0 ((acC a1).set 1 (.o 0))) (lo := 1) (hi := (a1 :: l).length) rfl rfl rfl rfl rfl (.inl rfl) rfl rfl op_len hpt (by decide) hle (Nat.le_refl _) hl1 hb1) ?_
        conv => whnf
        refine at_tr (bld_el (n := 136) (d := 126) (js := a1.js) (tn := a1.tn) (df := a1.df) rfl rfl rfl rfl rfl rfl rfl) ?_
        conv => whnf
        refine at_ex (app_rg (n := 128) (n2 := 136) (R := [] ++ ((a1 :: l).take (a1 :: l).length).drop 1) (R2 := [a1]) (rs := [acC a1]) (lo := 0) (hi := 1) rfl rfl rfl rfl rfl (.inr ⟨rfl, rfl, rfl⟩) rfl rfl hr1 rfl (by decide) (Nat.zero_le 1) (Nat.le_refl _) rfl hb2) ?_
        conv => whnf
        exact key
        all_goals repeat' ((conv => whnf); first
          | exact trivial
          | refine And.intro ?_ ?_
          | refine at_tr (bld0 rfl rfl rfl rfl) ?_
          | refine at_rd (sl_rg (l := 1) (h := (a1 :: l).length) rfl rfl rfl rfl (congrArg (fun i : Nat => some (i : Int)) hl1) hs1) ?_
          | refine at_ex (app_rg (n := 128) (n2 := 146) (R := []) (R2 := a1 :: l) (rs := ((a1 :: l).map acC).set 0 ((acC a1).set 1 (.o 0))) (lo := 1) (hi := (a1 :: l).length) rfl rfl rfl rfl rfl (.inl rfl) rfl rfl op_len hpt (by decide) hle (Nat.le_refl _) hl1 hb1) ?_
          | refine at_tr (bld_el (n := 136) (d := 126) (js := a1.js) (tn := a1.tn) (df := a1.df) rfl rfl rfl rfl rfl rfl rfl) ?_
          | refine at_ex (app_rg (n := 128) (n2 := 136) (R := [] ++ ((a1 :: l).take (a1 :: l).length).drop 1) (R2 := [a1]) (rs := [acC a1]) (lo := 0) (hi := 1) rfl rfl rfl rfl rfl (.inr ⟨rfl, rfl, rfl⟩) rfl rfl hr1 rfl (by decide) (Nat.zero_le 1) (Nat.le_refl _) rfl hb2) ?_
          | exact key)
      conv => whnf
      refine ⟨(n, false, l ++ [a1]), ⟨p1, p2, hP⟩, by dsimp only; omega, ?_⟩
      conv => whnf
      refine ⟨_, GhM.gh (gh_giveC (b := 144) (d := 128) (e := 146) (i := 2) rfl rfl rfl rfl (by decide)), ?_⟩
      have hset : rC (([] ++ ((a1 :: l).take (a1 :: l).length).drop 1) ++ ([a1].take 1).drop 0) = rC (l ++ [a1]) := by simp
      refine ⟨rfl, ?_, ?_⟩ <;> repeat' (first | exact trivial | exact rfl | exact hset | refine and_rfl ?_ | refine and_two ?_ ?_)
    · rw [rpop_one ht hj1 hc] at hP
      obtain ⟨w2, hw2⟩ : ∃ v, v = a1.df - j.co := ⟨_, rfl⟩
      have hwr : IntKind.i64.wrap (a1.df - j.co) = w2 := by rw [hw2]; exact wrap_in (by omega)
      have hpb : (0 : Int) ≤ 0 ∧ ((0 : Int)).toNat < ((⟨a1.tn, a1.js, w2⟩ :: l : List Ac).map acC).length := ⟨by omega, by simp⟩
      conv => whnf
      refine known true (by simp; omega) ?_
      conv => whnf
      refine ⟨none, by kernel_rfl, ?_⟩
      conv => whnf
      refine at_rd (idx_rg rfl rfl rfl rfl hpa) ?_
      conv => whnf
      refine at_rd (ld_df (j := 0) (R := a1 :: l) rfl rfl rfl h1) ?_
      conv => whnf
      refine at_rd (idx_rg rfl rfl rfl rfl hpa) ?_
      conv => whnf
      refine at_ex (st_df (R := a1 :: l) (j := 0) (v := w2) h1 rfl rfl (fin_int hwr) rfl) ?_
      have h2 := h0 (⟨a1.tn, a1.js, w2⟩ : Ac)
      have hpc : (0 : Int) ≤ 0 ∧ ((0 : Int)).toNat < (((⟨a1.tn, a1.js, w2⟩ :: l : List Ac).map acC).set 0 ((acC ⟨a1.tn, a1.js, w2⟩).set 1 (.o 0))).length := ⟨by omega, by simp⟩
      have hset : [] ++ ((a1.js.map jobD).take (a1.js.map jobD).length).drop 1 = js.map jobD := by rw [List.take_of_length_le (Nat.le_refl _), hj1]; rfl
      conv => whnf
      refine ⟨some planR10, by kernel_rfl, ?_⟩
      conv => whnf
      refine at_rd (idx_rg rfl rfl rfl rfl hpb) ?_
      conv => whnf
      refine ⟨.bx 144 2, fun m2 K2 hK => hK, ?_⟩
      have hsz1 : 1 ≤ (a1.js.map jobD).length := by rw [hj1]; simp
      have hwf : Flat (((a1.js.map jobD).take (a1.js.map jobD).length).drop 1) := by rw [show ((a1.js.map jobD).take (a1.js.map jobD).length).drop 1 = js.map jobD from hset]; exact job_flat js
      have hz0 : (0 : Int) ≤ 1 := by decide
      have hz1 : (1 : Int) ≤ (((a1.js.map jobD).length : Nat) : Int) := by omega
      have hszb : (([] : List (List D)).length + (((a1.js.map jobD).take (a1.js.map jobD).length).drop 1).length) * 40 ≤ 140737488355328 := by rw [show ((a1.js.map jobD).take (a1.js.map jobD).length).drop 1 = js.map jobD from hset]; simp at hjl ⊢; omega
      apply cut
      · intro key
        conv => whnf
        refine And.intro ?_ ?_
        conv => whnf
        refine And.intro ?_ ?_
        conv => whnf
        refine at_ex (open_rg (n := 146) (d := 93) (R := ⟨a1.tn, a1.js, w2⟩ :: l) (j := 0) rfl rfl rfl rfl h2) ?_
        conv => whnf
        refine ⟨hz0, hz1, Int.le_refl _, ?_⟩
        conv => whnf
        refine ⟨hwf, hszb, ?_⟩
        conv => whnf
        refine at_rd (idx_rg rfl rfl rfl rfl hpc) ?_
        conv => whnf
        refine at_ex (st_rg (n := 146) (R := ⟨a1.tn, a1.js, w2⟩ :: l) (j := 0) (js := js) h2 rfl rfl rfl rfl rfl hset) ?_
        conv => whnf
        exact key
        all_goals repeat' ((conv => whnf); first
          | exact trivial
          | with_reducible exact key
          | refine And.intro ?_ ?_
          | refine at_ex (open_rg (n := 146) (d := 93) (R := ⟨a1.tn, a1.js, w2⟩ :: l) (j := 0) rfl rfl rfl rfl h2) ?_
          | refine at_rd (idx_rg rfl rfl rfl rfl hpc) ?_
          | refine at_rd (idx_rg rfl rfl rfl rfl hpb) ?_
          | refine at_ex (st_rg (n := 146) (R := ⟨a1.tn, a1.js, w2⟩ :: l) (j := 0) (js := js) h2 rfl rfl rfl rfl rfl hset) ?_
          | exact hz0
          | exact hz1
          | exact Int.le_refl _
          | exact hwf
          | exact hszb
          | exact key)
      have h3 := h0 (⟨a1.tn, js, w2⟩ : Ac)
      have hpe : (0 : Int) ≤ 0 ∧ ((0 : Int)).toNat < ((⟨a1.tn, js, w2⟩ :: l : List Ac).map acC).length := ⟨by omega, by simp⟩
      conv => whnf
      refine at_rd (idx_rg rfl rfl rfl rfl hpe) ?_
      conv => whnf
      refine at_ex (open_rg (n := 146) (d := 104) (R := ⟨a1.tn, js, w2⟩ :: l) (j := 0) rfl rfl rfl rfl h3) ?_
      rw [← hw2] at hP
      cases js with
      | nil =>
        rw [if_pos rfl] at hP
        subst hP
        conv => whnf
        refine known true rfl ?_
        conv => whnf
        refine at_tr (bld0 rfl rfl rfl rfl) ?_
        have hl1 : (((⟨a1.tn, [], w2⟩ :: l : List Ac).map acC).set 0 ((acC ⟨a1.tn, [], w2⟩).set 1 (.o 0))).length = (⟨a1.tn, [], w2⟩ :: l : List Ac).length := by simp
        conv => whnf
        refine at_rd (sl_rg (l := 1) (h := (⟨a1.tn, [], w2⟩ :: l : List Ac).length) rfl rfl rfl rfl (congrArg (fun i : Nat => some (i : Int)) hl1) ⟨by simp, by simp⟩) ?_
        conv => whnf
        refine at_ex (app_rg (n := 108) (n2 := 146) (R := []) (R2 := ⟨a1.tn, [], w2⟩ :: l) (rs := ((⟨a1.tn, [], w2⟩ :: l : List Ac).map acC).set 0 ((acC ⟨a1.tn, [], w2⟩).set 1 (.o 0))) (lo := 1) (hi := (⟨a1.tn, [], w2⟩ :: l : List Ac).length) rfl rfl rfl rfl rfl (.inl rfl) rfl rfl op_len (by rw [List.take_of_length_le (by simp), List.take_of_length_le (Nat.le_refl _)]; rfl) (by decide) (by simp) (Nat.le_refl _) hl1 (by simp; omega)) ?_
        conv => whnf
        refine ⟨_, GhM.gh (gh_giveC (b := 144) (d := 108) (e := 146) (i := 2) rfl rfl rfl rfl (by decide)), ?_⟩
        have hset3 : rC ([] ++ ((⟨a1.tn, [], w2⟩ :: l : List Ac).take (⟨a1.tn, [], w2⟩ :: l : List Ac).length).drop 1) = rC l := by simp
        refine ⟨rfl, ?_, rfl⟩
        show _ = some [Bk.box [int q, .ow 1 0, .ow 2 0, boo false], .row 0 66 2 false (W.map wD), .asr 0 (rC l) []]
        rw [← hset3]
        rfl
      | cons j2 js =>
        rw [if_neg (by simp)] at hP
        subst hP
        conv => whnf
        refine known false (by simp; omega) ?_
        conv => whnf
        refine ⟨_, GhM.gh (close_rg (n := 146) (d := 104) (R := ⟨a1.tn, j2 :: js, w2⟩ :: l) (j := 0) h3 rfl rfl), ?_⟩
        exact ⟨rfl, rfl, rfl⟩
end Go.Proofs.Ytmlednjhemnncaa
