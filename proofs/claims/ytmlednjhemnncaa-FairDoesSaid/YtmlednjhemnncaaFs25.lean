/- Texts joined by pack.py: XFb3 -/
import Derived.Test.YtmlednjhemnncaaFs23
import Derived.Test.YtmlednjhemnncaaFs24
namespace Go.Proofs.Ytmlednjhemnncaa
open Go.RowKit
theorem serve_keeps (s : Qs) : s.turn.serve.2.q = s.q ∧ s.turn.serve.2.W = s.W := by
  unfold Qs.serve Qs.turn
  cases hR : s.R with
  | nil => simp [hR]
  | cons a l =>
    dsimp only
    repeat' (first | split | exact ⟨rfl, rfl⟩ | (rename_i h; simp_all; done))
theorem mul_wt {q n : Int} (h1 : 1 ≤ q) (h2 : q ≤ 1000000) (h3 : 1 ≤ n) (h4 : n ≤ 1000) : 1 ≤ q * n ∧ q * n ≤ 1000000000 := by
  have a1 := Int.mul_le_mul_of_nonneg_left h3 (by omega : 0 ≤ q)
  have a2 := Int.mul_le_mul_of_nonneg_left h4 (by omega : 0 ≤ q)
  constructor <;> omega
theorem pop_facts {s : Qs} {J : List (ByteArray × List Jb)} {De : List (ByteArray × Int)} {tu : Bool} {t : ByteArray} {l : List ByteArray} (h : Fit s ⟨J, De, tu, t :: l⟩) (hf : s.fine) :
    (∃ j js, getE J t = some (j :: js) ∧ 1 ≤ j.co ∧ j.co ≤ 1000000000 ∧ js.length < 1000) ∧ t ∉ l ∧ l.length ≤ 1000 ∧ 0 ≤ (getE De t).getD 0 ∧ (getE De t).getD 0 ≤ 2000000000 ∧ 1 ≤ s.q * wtOf s.W t ∧ s.q * wtOf s.W t ≤ 1000000000 := by
  have hr := h.r
  unfold tns at hr
  cases hR : s.R with
  | nil => rw [hR] at hr; cases hr
  | cons a l' =>
    rw [hR] at hr
    injection hr with e1 e2
    have e1 : t = a.tn := e1
    have ha : a ∈ s.R := by rw [hR]; exact List.mem_cons_self
    have h1 := h.jb a ha
    have h2 := h.df a ha
    have hnd := hf.Rk
    rw [hR, List.map_cons, List.nodup_cons, ← e1, ← e2] at hnd
    have hs := hf.size
    rw [hR] at hs
    have hjs := hf.jsize ha
    dsimp only at h1 h2
    rw [← e1] at h1 h2
    refine ⟨?_, hnd.1, by rw [e2, List.length_map]; simp at hs; omega, by rw [h2]; exact hf.df a ha, by rw [h2]; have := hf.up a ha; have := hf.q2; omega, mul_wt hf.q1 hf.q2 (hf.took.wt t).1 (hf.took.wt t).2⟩
    cases hj : a.js with
    | nil => exact absurd hj (hf.js a ha)
    | cons j js =>
      have h3 := hf.own a ha j (by rw [hj]; exact List.mem_cons_self)
      have := hf.q2
      rw [hj] at hjs
      exact ⟨j, js, by rw [h1, hj], h3.2.1, by omega, by simp at hjs; omega⟩
theorem pop_none {s : Qs} {q : Int} {W : List (ByteArray × Int)} {J : List (ByteArray × List Jb)} {De De1 : List (ByteArray × Int)} {tu : Bool} {t : ByteArray} {l : List ByteArray} {n : Nat} {j : Jb} {js : List Jb} (h : Fit s ⟨J, De, tu, t :: l⟩) (hf : s.fine) (hq : s.q = q) (hW : s.W = W) (hmu : s.mu < n + 1)
    (ht : turnQ q W ⟨J, De, tu, t :: l⟩ = ⟨J, De1, true, t :: l⟩) (hg : getE J t = some (j :: js)) (hc : (getE De1 t).getD 0 < j.co) :
    (∃ s', Fit s' ⟨J, De1, false, l ++ [t]⟩ ∧ s'.fine ∧ s'.q = q ∧ s'.W = W ∧ s'.mu < n) ∧ popQ q W (n + 1) ⟨J, De, tu, t :: l⟩ = popQ q W n ⟨J, De1, false, l ++ [t]⟩ := by
  subst hq hW
  have hsv : serveQ (turnQ s.q s.W ⟨J, De, tu, t :: l⟩) = (none, ⟨J, De1, false, l ++ [t]⟩) := by
    rw [ht]
    unfold serveQ
    have hj : jOf J t = j :: js := by simp [jOf, hg]
    simp only [hj]
    rw [if_neg (by omega)]
  have hne : s.R ≠ [] := by
    intro e
    have := h.r
    rw [tns, e] at this; cases this
  obtain ⟨h1, h2⟩ := (h.turn hf.took).serve hf.turn.took
  rw [hsv] at h1 h2
  have h3 := serve_keeps s
  refine ⟨⟨s.turn.serve.2, h2, hf.turn.serve fun _ => turn_tu hne, h3.1, h3.2, by have := mu_less hf hne h1.symm; omega⟩, ?_⟩
  conv => lhs; unfold popQ
  simp only [hsv]
theorem pop_one {q : Int} {W : List (ByteArray × Int)} {J : List (ByteArray × List Jb)} {De De1 : List (ByteArray × Int)} {tu : Bool} {t : ByteArray} {l : List ByteArray} {n : Nat} {j : Jb} {js : List Jb}
    (ht : turnQ q W ⟨J, De, tu, t :: l⟩ = ⟨J, De1, true, t :: l⟩) (hg : getE J t = some (j :: js)) (hc : j.co ≤ (getE De1 t).getD 0) :
    popQ q W (n + 1) ⟨J, De, tu, t :: l⟩ = (some j, if js = [] then ⟨delE J t, delE De1 t, false, l⟩ else ⟨putE J t js, putE De1 t ((getE De1 t).getD 0 - j.co), true, t :: l⟩) := by
  have hsv : serveQ (turnQ q W ⟨J, De, tu, t :: l⟩) = (some j, if js = [] then ⟨delE J t, delE De1 t, false, l⟩ else ⟨putE J t js, putE De1 t ((getE De1 t).getD 0 - j.co), true, t :: l⟩) := by
    rw [ht]
    unfold serveQ
    have hj : jOf J t = j :: js := by simp [jOf, hg]
    simp only [hj]
    rw [if_pos hc]
  unfold popQ
  simp only [hsv]
def planP8 : Plan := .one 0 (.one 1 (.one 4 (.one 6 (.one 7 (.one 10 (.one 11 (.pull 2 (.pull 8 (.alt 3 (.alt 5 (.alt 9 (.one 12 (.one 13 (.one 14 (.one 15 (.done))))) (.alt 12 (.one 9 (.one 13 (.one 14 (.one 15 (.done))))) (.stop))) (.alt 9 (.alt 5 (.one 12 (.one 13 (.one 14 (.one 15 (.done))))) (.alt 12 (.one 5 (.one 13 (.one 14 (.one 15 (.done))))) (.stop))) (.alt 12 (.one 5 (.one 9 (.one 13 (.one 14 (.one 15 (.done)))))) (.stop)))) (.alt 9 (.alt 3 (.alt 5 (.one 12 (.one 13 (.one 14 (.one 15 (.done))))) (.alt 12 (.one 5 (.one 13 (.one 14 (.one 15 (.done))))) (.stop))) (.alt 12 (.one 3 (.one 5 (.one 13 (.one 14 (.one 15 (.done)))))) (.stop))) (.alt 12 (.one 3 (.one 5 (.one 9 (.one 13 (.one 14 (.one 15 (.done))))))) (.stop))))))))))))
abbrev popM : List (Nat × Bool) := [(28, false), (41, false), (42, false), (43, false), (6000039, false)]
theorem cut {G Q : Prop} (h1 : G → Q) (h2 : G) : Q := h1 h2
set_option maxRecDepth 100000 in
set_option maxHeartbeats 8000000 in
theorem x_popM {s : Qs} {q : Int} {W : List (ByteArray × Int)} {J : List (ByteArray × List Jb)} {De : List (ByteArray × Int)} {tu : Bool} {R : List ByteArray} (hfit : Fit s ⟨J, De, tu, R⟩) (hf : s.fine) (hq : s.q = q) (hW : s.W = W) {P : Option Jb × Qm} (hP : popQ q W (s.mu + 1) ⟨J, De, tu, R⟩ = P) :
    MCalls Try.prog 17 [.bx 0 0] (qM q tu W J De R) (.tu [(P.1.getD Jb.zero).V, boo P.1.isSome]) (qM q P.2.tu W P.2.J P.2.De P.2.R) := by
  have hq1 : 1 ≤ q := hq ▸ hf.q1
  refine msxg popM Try.func17 (by kernel_rfl) (by kernel_rfl) ?_
  conv => whnf
  refine mcall (T := TT) (φ := []) (x_made q tu W J De R) ?_
  conv => whnf
  refine known false (by simp; omega) ?_
  conv => whnf
  refine ⟨[(3000001, 0, 0, 0)], Nat × Bool × List (ByteArray × Int) × List ByteArray, fun _ => [], fun ⟨_, tu, De, R⟩ => [(72, some (.box [int q, .ow 73 0, .ow 74 0, .ow 75 0, .ow 76 0, boo tu])), (75, some (.asr 0 (mapC (intM De)) [])), (76, some (.row 0 9 1 false (R.map strD)))], fun ⟨n, tu, De, R⟩ => (∃ s, Fit s ⟨J, De, tu, R⟩ ∧ s.fine ∧ s.q = q ∧ s.W = W ∧ s.mu < n) ∧ popQ q W n ⟨J, De, tu, R⟩ = P, fun ⟨n, _⟩ => n, (s.mu + 1, tu, De, R), ⟨⟨s, hfit, hf, hq, hW, by omega⟩, hP⟩, ?_, ?_⟩
  · refine ⟨rfl, ?_, ?_⟩ <;> repeat' (first | exact trivial | exact rfl | refine and_rfl ?_ | refine and_two ?_ ?_)
  clear hfit hf hq hW hP s
  rintro ⟨n, tu, De, R⟩ ⟨⟨s, hfit, hf, hq, hW, hmu⟩, hP⟩
  cases R with
  | nil =>
    obtain rfl : (none, (⟨J, De, tu, []⟩ : Qm)) = P := by cases n <;> exact hP
    conv => whnf
    refine known false rfl ?_
    conv => whnf
    refine ⟨_, Gh.refl _, ?_⟩
    exact ⟨rfl, rfl, rfl⟩
  | cons t l =>
    obtain ⟨n, rfl⟩ : ∃ n', n = n' + 1 := ⟨n - 1, by omega⟩
    obtain ⟨⟨j, js, hg, hj1, hj2, hjl⟩, hnl, hl, hd0, hd1, hw1, hw2⟩ := pop_facts hfit hf
    rw [hq, hW] at hw1 hw2
    refine known true (by simp) ?_
    conv => whnf
    refine ⟨by omega, by simp, ?_⟩
    conv => whnf
    refine ⟨_, rfl, ?_⟩
    cases tu with
    | true =>
      conv => whnf
      refine known false rfl ?_
      rcases Int.lt_or_le ((getE De t).getD 0) j.co with hc | hc
      · obtain ⟨hnx, hpp⟩ := pop_none (De1 := De) hfit hf hq hW hmu rfl hg hc
        rw [hpp] at hP
        conv => whnf
        refine mcall (T := TT) (φ := []) (x_serve0 q true W J De l t hg hc) ?_
        conv => whnf
        refine known false rfl ?_
        conv => whnf
        refine ⟨by omega, by simp; omega, by omega, ?_⟩
        conv => whnf
        refine mcall (T := TT) (φ := [8]) (x_clones' t l (by omega)) ?_ (ln := true)
        conv => whnf
        refine ⟨by simp; omega, ?_⟩
        conv => whnf
        refine ⟨(n, false, De, l ++ [t]), ⟨hnx, hP⟩, by dsimp only; omega, ?_⟩
        conv => whnf
        refine ⟨_, GhM.gh (gh_give (b := 72) (d := 8) (e := 76) (i := 4) rfl rfl rfl rfl (by decide)), ?_⟩
        have hset : l.map strD ++ [strD t] = (l ++ [t]).map strD := by simp
        refine ⟨rfl, ?_, ?_⟩ <;> repeat' (first | exact trivial | exact rfl | exact hset | refine and_rfl ?_ | refine and_val hset ?_ | refine and_two ?_ ?_)
      · rw [pop_one (De1 := De) rfl hg hc] at hP
        cases js with
        | nil =>
          rw [if_pos rfl] at hP
          subst hP
          conv => whnf
          refine mcall (T := TT) (φ := []) (x_serve2 q true W J De l t hg hc (by omega) hj1 hnl (by simp; omega)) ?_
          conv => whnf
          refine known true rfl ?_
          conv => whnf
          refine ⟨_, Gh.refl _, ?_⟩
          exact ⟨rfl, rfl, rfl⟩
        | cons j' js =>
          rw [if_neg (by simp)] at hP
          subst hP
          conv => whnf
          refine mcall (T := TT) (φ := []) (x_serve1 q true W J De l t hg hc (by omega) hj1 (by simp at hjl; omega)) ?_
          conv => whnf
          refine known true rfl ?_
          conv => whnf
          refine ⟨_, Gh.refl _, ?_⟩
          exact ⟨rfl, rfl, rfl⟩
    | false =>
      have hE : (getE (putE De t ((getE De t).getD 0 + q * wtOf W t)) t).getD 0 = (getE De t).getD 0 + q * wtOf W t := by rw [getE_put]; rfl
      conv => whnf
      refine known true rfl ?_
      conv => whnf
      refine ⟨some planP8, by kernel_rfl, ?_⟩
      have hwr : IntKind.i64.wrap ((getE De t).getD 0 + IntKind.i64.wrap (q * wtOf W t)) = (getE De t).getD 0 + q * wtOf W t := by rw [wrap_in (n := q * wtOf W t) (by omega), wrap_in (by omega)]
      apply cut
      · intro key
        conv => whnf
        refine ⟨.bx 72 3, fun m2 K2 hK => hK, ?_⟩
        conv => whnf
        refine ⟨.bx 72 0, fun m2 K2 hK => hK, ?_⟩
        conv => whnf
        refine And.intro ?_ ?_
        conv => whnf
        refine And.intro ?_ ?_
        conv => whnf
        refine at_rd (look_int rfl rfl rfl rfl) ?_
        conv => whnf
        refine And.intro ?_ ?_
        conv => whnf
        refine mcall (T := TT) (φ := []) (x_weight q true W J De (t :: l) t) ?_
        conv => whnf
        refine at_tr (upd_int (v := (getE De t).getD 0 + q * wtOf W t) rfl rfl rfl (fin_int hwr) rfl) ?_
        conv => whnf
        exact key
        all_goals repeat' ((conv => whnf); first
          | exact trivial
          | refine And.intro ?_ ?_
          | refine at_rd (look_int rfl rfl rfl rfl) ?_
          | refine at_tr (upd_int (v := (getE De t).getD 0 + q * wtOf W t) rfl rfl rfl (fin_int hwr) rfl) ?_
          | refine mcall (T := TT) (φ := []) (x_weight q true W J De (t :: l) t) ?_
          | exact key)
      rcases Int.lt_or_le ((getE (putE De t ((getE De t).getD 0 + q * wtOf W t)) t).getD 0) j.co with hc | hc
      · obtain ⟨hnx, hpp⟩ := pop_none (De1 := (putE De t ((getE De t).getD 0 + q * wtOf W t))) hfit hf hq hW hmu rfl hg hc
        rw [hpp] at hP
        conv => whnf
        refine mcall (T := TT) (φ := []) (x_serve0 q true W J (putE De t ((getE De t).getD 0 + q * wtOf W t)) l t hg hc) ?_
        conv => whnf
        refine known false rfl ?_
        conv => whnf
        refine ⟨by omega, by simp; omega, by omega, ?_⟩
        conv => whnf
        refine mcall (T := TT) (φ := [8]) (x_clones' t l (by omega)) ?_ (ln := true)
        conv => whnf
        refine ⟨by simp; omega, ?_⟩
        conv => whnf
        refine ⟨(n, false, (putE De t ((getE De t).getD 0 + q * wtOf W t)), l ++ [t]), ⟨hnx, hP⟩, by dsimp only; omega, ?_⟩
        conv => whnf
        refine ⟨_, GhM.gh (gh_give (b := 72) (d := 8) (e := 76) (i := 4) rfl rfl rfl rfl (by decide)), ?_⟩
        have hset : l.map strD ++ [strD t] = (l ++ [t]).map strD := by simp
        refine ⟨rfl, ?_, ?_⟩ <;> repeat' (first | exact trivial | exact rfl | exact hset | refine and_rfl ?_ | refine and_val hset ?_ | refine and_two ?_ ?_)
      · rw [pop_one (De1 := (putE De t ((getE De t).getD 0 + q * wtOf W t))) rfl hg hc] at hP
        cases js with
        | nil =>
          rw [if_pos rfl] at hP
          subst hP
          conv => whnf
          refine mcall (T := TT) (φ := []) (x_serve2 q true W J (putE De t ((getE De t).getD 0 + q * wtOf W t)) l t hg hc (by rw [hE]; omega) hj1 hnl (by simp; omega)) ?_
          conv => whnf
          refine known true rfl ?_
          conv => whnf
          refine ⟨_, Gh.refl _, ?_⟩
          exact ⟨rfl, rfl, rfl⟩
        | cons j' js =>
          rw [if_neg (by simp)] at hP
          subst hP
          conv => whnf
          refine mcall (T := TT) (φ := []) (x_serve1 q true W J (putE De t ((getE De t).getD 0 + q * wtOf W t)) l t hg hc (by rw [hE]; omega) hj1 (by simp at hjl; omega)) ?_
          conv => whnf
          refine known true rfl ?_
          conv => whnf
          refine ⟨_, Gh.refl _, ?_⟩
          exact ⟨rfl, rfl, rfl⟩
end Go.Proofs.Ytmlednjhemnncaa
