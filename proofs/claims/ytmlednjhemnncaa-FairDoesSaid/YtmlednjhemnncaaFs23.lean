/- Texts joined by pack.py: XFb2 XFa5 XFa6 XFb5 XFb6 -/
import Derived.Test.YtmlednjhemnncaaFs22
import Derived.Test.YtmlednjhemnncaaFs20
namespace Go.Proofs.Ytmlednjhemnncaa
open Go.RowKit
theorem Qs.fine.size {s : Qs} (h : s.fine) : s.R.length ≤ 256 := by
  have h1 := lenR_len s.R h.js
  have h2 := h.ln
  omega
theorem Qs.fine.jsize {s : Qs} (h : s.fine) {a : Ac} (ha : a ∈ s.R) : a.js.length ≤ 256 := by
  have h1 := lenR_one ha
  have h2 := h.ln
  omega
theorem turn_tu {s : Qs} (h : s.R ≠ []) : s.turn.tu = true := by
  unfold Qs.turn
  cases hR : s.R with
  | nil => exact absurd hR h
  | cons a l => dsimp only; split <;> simp_all
theorem Qs.fine.turn {s : Qs} (h : s.fine) : s.turn.fine := by
  unfold Qs.turn
  cases hR : s.R with
  | nil => exact h
  | cons a l =>
    dsimp only
    split
    · exact h
    · rename_i htu
      obtain ⟨⟨q1, q2, Wk, Rk, Wn, js, own, df, tu⟩, lo, up, ln, wl⟩ := h
      have hsh := Qs.ok.share ⟨q1, q2, Wk, Rk, Wn, js, own, df, tu⟩ a.tn
      have ha : a ∈ s.R := by rw [hR]; exact List.mem_cons_self
      have hl : ∀ b ∈ l, b ∈ s.R := fun b hb => by rw [hR]; exact List.mem_cons_of_mem _ hb
      have htu : s.tu = false := by simpa using htu
      rw [htu] at lo
      have hlo : ∀ j js, a.js = j :: js → a.df < j.co := fun j js h => lo a (by simpa using ha) j js h
      have hco : a.df < 1000 * s.q := by
        cases hj : a.js with
        | nil => exact absurd hj (js a ha)
        | cons j js' =>
          have h1 := hlo j js' hj
          have h2 := (own a ha j (by rw [hj]; exact List.mem_cons_self)).2.2
          omega
      have h0 := df a ha
      rw [hR] at Rk ln
      refine ⟨⟨q1, q2, Wk, Rk, Wn, fun b hb => ?_, fun b hb => ?_, fun b hb => ?_, fun _ => by simp⟩, fun b hb => ?_, fun b hb => ?_, ln, wl⟩
      · rcases List.mem_cons.1 hb with rfl | hb
        · exact js a ha
        · exact js b (hl b hb)
      · rcases List.mem_cons.1 hb with rfl | hb
        · exact own a ha
        · exact own b (hl b hb)
      · rcases List.mem_cons.1 hb with rfl | hb
        · dsimp only; omega
        · exact df b (hl b hb)
      · simp only [if_true, List.tail_cons] at hb
        exact lo b (by simpa using hl b hb)
      · rcases List.mem_cons.1 hb with rfl | hb
        · dsimp only; omega
        · exact up b (hl b hb)
theorem Qs.fine.serve {s : Qs} (h : s.fine) (ht : s.R ≠ [] → s.tu = true) : s.serve.2.fine := by
  unfold Qs.serve
  cases hR : s.R with
  | nil => exact h
  | cons a l =>
    have h0 := h
    obtain ⟨⟨q1, q2, Wk, Rk, Wn, js, own, df, tu⟩, lo, up, ln, wl⟩ := h
    have ha : a ∈ s.R := by rw [hR]; exact List.mem_cons_self
    have hl : ∀ b ∈ l, b ∈ s.R := fun b hb => by rw [hR]; exact List.mem_cons_of_mem _ hb
    have htu := ht (by rw [hR]; simp)
    rw [htu, hR] at lo
    simp only [if_true, List.tail_cons] at lo
    rw [hR] at Rk ln
    rw [List.map_cons, List.nodup_cons] at Rk
    cases hjs : a.js with
    | nil => simp only [hjs]; exact h0
    | cons j js' =>
      have hj := own a ha j (by rw [hjs]; exact List.mem_cons_self)
      simp only [hjs]
      split
      · rename_i hc
        dsimp only
        split
        · exact ⟨⟨q1, q2, Wk, Rk.2, Wn, fun b hb => js b (hl b hb), fun b hb => own b (hl b hb), fun b hb => df b (hl b hb), fun h => by cases h⟩, fun b hb => lo b (by simpa using hb), fun b hb => up b (hl b hb), by simp only [lenR] at ln; dsimp only; omega, wl⟩
        · rename_i hne
          refine ⟨⟨q1, q2, Wk, by rw [List.map_cons, List.nodup_cons]; exact Rk, Wn, fun b hb => ?_, fun b hb => ?_, fun b hb => ?_, fun _ => by simp⟩, fun b hb => ?_, fun b hb => ?_, ?_, wl⟩
          · rcases List.mem_cons.1 hb with rfl | hb
            · exact hne
            · exact js b (hl b hb)
          · rcases List.mem_cons.1 hb with rfl | hb
            · exact fun x hx => own a ha x (by rw [hjs]; exact List.mem_cons_of_mem _ hx)
            · exact own b (hl b hb)
          · rcases List.mem_cons.1 hb with rfl | hb
            · dsimp only; omega
            · exact df b (hl b hb)
          · dsimp only at hb
            rw [htu] at hb
            exact lo b (by simpa using hb)
          · rcases List.mem_cons.1 hb with rfl | hb
            · have := up a ha; dsimp only; omega
            · exact up b (hl b hb)
          · simp only [lenR, hjs, List.length_cons] at ln ⊢; omega
      · rename_i hc
        have hm : ∀ b, b ∈ l ++ [a] → b ∈ s.R := fun b hb => by rw [hR]; simp at hb ⊢; exact hb.symm
        refine ⟨⟨q1, q2, Wk, ?_, Wn, fun b hb => js b (hm b hb), fun b hb => own b (hm b hb), fun b hb => df b (hm b hb), fun h => by cases h⟩, fun b hb => ?_, fun b hb => up b (hm b hb), ?_, wl⟩
        · dsimp only
          rw [List.map_append, List.nodup_append]
          exact ⟨Rk.2, by simp, fun x hx y hy => by simp at hy; subst hy; rintro rfl; exact Rk.1 hx⟩
        · simp only [Bool.false_eq_true, if_false, List.mem_append, List.mem_singleton] at hb
          rcases hb with hb | rfl
          · exact lo b hb
          · intro j2 js2 h2
            rw [hjs] at h2; cases h2
            omega
        · dsimp only
          rw [lenR_app]
          simp only [lenR] at ln ⊢; omega
theorem lack_app : ∀ l l', lack (l ++ l') = lack l + lack l'
  | [], l' => by simp [lack]
  | a :: l, l' => by simp only [List.cons_append, lack, lack_app l l']; omega
theorem mu_less {s : Qs} (h : s.fine) (hR0 : s.R ≠ []) (hn : s.turn.serve.1 = none) : s.turn.serve.2.mu < s.mu := by
  cases hR : s.R with
  | nil => exact absurd hR hR0
  | cons a l =>
    have ha : a ∈ s.R := by rw [hR]; exact List.mem_cons_self
    have hsh := h.took.share a.tn
    have hq := h.q1
    cases hjs : a.js with
    | nil => exact absurd hjs (h.js a ha)
    | cons j js =>
      cases htu : s.tu with
      | true =>
        have ht : s.turn = s := by unfold Qs.turn; rw [hR]; simp [htu]
        rw [ht] at hn ⊢
        unfold Qs.serve at hn ⊢
        rw [hR] at hn ⊢
        simp only [hjs] at hn ⊢
        split at hn
        · cases hn
        · rename_i hc
          rw [if_neg hc]
          unfold Qs.mu
          simp only [hR, htu, lack_app, lack, hjs]
          simp
          omega
      | false =>
        have ht : s.turn = { s with R := { a with df := a.df + shareOf s a.tn } :: l, tu := true } := by unfold Qs.turn; rw [hR]; simp [htu]
        have hlo := h.lo a (by rw [htu]; simpa using ha) j js hjs
        rw [ht] at hn ⊢
        unfold Qs.serve at hn ⊢
        simp only [hjs] at hn ⊢
        split at hn
        · cases hn
        · rename_i hc
          rw [if_neg hc]
          unfold Qs.mu
          simp only [hR, htu, lack_app, lack, hjs]
          simp
          omega
theorem popF_fine : ∀ (n : Nat) {s : Qs}, s.fine → (popF n s).2.fine
  | 0, s, h => h
  | n + 1, s, h => by
    unfold popF
    cases hR : s.R with
    | nil => exact h
    | cons a l =>
      have hne : s.R ≠ [] := by rw [hR]; simp
      have h1 := h.turn.serve (fun _ => turn_tu hne)
      dsimp only
      split
      · rename_i j s' e; rw [e] at h1; exact h1
      · rename_i s' e; rw [e] at h1; exact popF_fine n h1
theorem Fit.pop : ∀ (n : Nat) {s : Qs} {M : Qm}, Fit s M → s.fine → (popQ s.q s.W n M).1 = (popF n s).1 ∧ Fit (popF n s).2 (popQ s.q s.W n M).2
  | 0, s, M, h, _ => ⟨rfl, h⟩
  | n + 1, s, M, h, hf => by
    unfold popQ popF
    cases hR : s.R with
    | nil =>
      have hr : M.R = [] := by rw [h.r, tns, hR]; rfl
      rw [hr]
      exact ⟨rfl, h⟩
    | cons a l =>
      have hr : M.R = a.tn :: l.map (·.tn) := by rw [h.r, tns, hR]; rfl
      have hne : s.R ≠ [] := by rw [hR]; simp
      have h1 := hf.turn.serve (fun _ => turn_tu hne)
      obtain ⟨h2, h3⟩ := (h.turn hf.took).serve hf.turn.took
      rw [hr]
      dsimp only
      have hq : s.turn.serve.2.q = s.q ∧ s.turn.serve.2.W = s.W := by
        unfold Qs.serve Qs.turn
        rw [hR]
        dsimp only
        repeat' (first | split | exact ⟨rfl, rfl⟩ | (rename_i h; simp_all; done))
      generalize hp : serveQ (turnQ s.q s.W M) = p at h2 h3
      generalize hz : s.turn.serve = z at h1 h2 h3 hq
      obtain ⟨p1, p2⟩ := p
      obtain ⟨z1, z2⟩ := z
      dsimp only at h1 h2 h3 hq
      subst h2
      cases p1 with
      | some j => exact ⟨rfl, h3⟩
      | none =>
        have := Fit.pop n h3 h1
        rw [hq.1, hq.2] at this
        exact this
end Go.Proofs.Ytmlednjhemnncaa
namespace Go.Proofs.Ytmlednjhemnncaa
open Go.RowKit
def pushP (q : Int) (W : List (ByteArray × Int)) (J : List (ByteArray × List Jb)) (R : List ByteArray) (j : Jb) : Int :=
  if idB j.id = false ∨ nameB j.tn = false then 4 else if j.co < 1 ∨ j.co > 1000 * q then 2 else if hasK J j.id R then 6 else if sumK J R ≥ 256 ∨ crowdB W J R j.tn then 3 else 0
def planP13 : Plan := .one 0 (.one 1 (.one 6 (.one 7 (.one 8 (.one 9 (.one 10 (.one 11 (.one 12 (.one 13 (.pull 2 (.pull 4 (.alt 3 (.alt 5 (.one 14 (.one 15 (.one 16 (.done)))) (.alt 14 (.alt 5 (.one 15 (.one 16 (.done))) (.alt 15 (.one 5 (.one 16 (.done))) (.stop))) (.stop))) (.alt 5 (.alt 3 (.one 14 (.one 15 (.one 16 (.done)))) (.alt 14 (.alt 3 (.one 15 (.one 16 (.done))) (.alt 15 (.one 3 (.one 16 (.done))) (.stop))) (.stop))) (.alt 14 (.alt 3 (.alt 5 (.one 15 (.one 16 (.done))) (.alt 15 (.one 5 (.one 16 (.done))) (.stop))) (.alt 5 (.alt 3 (.one 15 (.one 16 (.done))) (.alt 15 (.one 3 (.one 16 (.done))) (.stop))) (.alt 15 (.one 3 (.one 5 (.one 16 (.done)))) (.stop)))) (.stop)))))))))))))))
def pushM : List (Nat × Bool) := [(28, false), (31, false), (32, false), (19, false), (6000081, false)]
set_option maxRecDepth 100000 in
set_option maxHeartbeats 8000000 in
theorem x_push0 (q : Int) (hq : 0 < q ∧ q ≤ 1000000) (tu : Bool) (W : List (ByteArray × Int)) (J : List (ByteArray × List Jb)) (De : List (ByteArray × Int)) (R : List ByteArray) (j : Jb) (h1 : j.id.size ≤ maxLen) (h2 : j.tn.size ≤ maxLen) (hW : W.length ≤ 1099511627776) (hR : R.length ≤ 1000000) (hJ : InJ J R) (hne : pushP q W J R j ≠ 0) :
    MCallsG true Try.prog 10 [.bx 0 0, j.V] (qM q tu W J De R) (int (pushP q W J R j)) (qM q tu W J De R) := by
  refine msxx pushM Try.func10 (by kernel_rfl) (by kernel_rfl) (by rfl) ?_
  conv => whnf
  refine mcall (T := TT) (φ := []) (x_made q tu W J De R) ?_
  conv => whnf
  refine known false (by simp [hq.1]) ?_
  conv => whnf
  refine ⟨_, x_id j.id h1, ?_⟩
  conv => whnf
  rintro (_ | _) e1
  rotate_left
  · have e : pushP q W J R j = 4 := by simp at e1; simp [pushP, e1]
    rw [e]
    exact ⟨⟨rfl, rfl, rfl⟩, rfl⟩
  simp at e1
  conv => whnf
  refine ⟨_, x_name j.tn h2, ?_⟩
  conv => whnf
  rintro (_ | _) e2
  rotate_left
  · have e : pushP q W J R j = 4 := by simp at e2; simp [pushP, e2]
    rw [e]
    exact ⟨⟨rfl, rfl, rfl⟩, rfl⟩
  simp at e2
  conv => whnf
  refine ⟨none, by kernel_rfl, ?_⟩
  conv => whnf
  rintro (_ | _) e3
  rotate_left
  · have e : pushP q W J R j = 2 := by simp at e3; simp [pushP, e1, e2, e3]
    rw [e]
    exact ⟨⟨rfl, rfl, rfl⟩, rfl⟩
  simp at e3
  conv => whnf
  rintro (_ | _) e4
  rotate_left
  · have e : pushP q W J R j = 2 := by
      rw [wrap_in (by omega)] at e4
      simp at e4; simp [pushP, e1, e2]; omega
    rw [e]
    exact ⟨⟨rfl, rfl, rfl⟩, rfl⟩
  rw [wrap_in (by omega)] at e4
  simp at e4
  conv => whnf
  refine mcall (T := TT) (φ := []) (x_has q tu W J De R j.id (by omega) hJ) ?_
  conv => whnf
  rintro (_ | _) e5
  rotate_left
  · have e : pushP q W J R j = 6 := by
      simp only [pushP, e1, e2, e5]
      rw [if_neg (by simp), if_neg (by omega), if_pos trivial]
    rw [e]
    exact ⟨⟨rfl, rfl, rfl⟩, rfl⟩
  conv => whnf
  refine mcall (T := TT) (φ := []) (x_len q hq.1 tu W J De R hR hJ) ?_
  conv => whnf
  rintro (_ | _) e6
  rotate_left
  · have e : pushP q W J R j = 3 := by
      simp only [pushP, e1, e2, e5]
      simp at e6
      rw [if_neg (by simp), if_neg (by omega), if_neg (by simp), if_pos (.inl (by omega))]
    rw [e]
    exact ⟨⟨rfl, rfl, rfl⟩, rfl⟩
  simp at e6
  conv => whnf
  refine mcall (T := TT) (φ := []) (x_crowded q tu W J De R j.tn hW (by omega)) ?_
  conv => whnf
  rintro (_ | _) e7
  rotate_left
  · have e : pushP q W J R j = 3 := by
      simp only [pushP, e1, e2, e5, e7]
      rw [if_neg (by simp), if_neg (by omega), if_neg (by simp), if_pos (.inr trivial)]
    rw [e]
    exact ⟨⟨rfl, rfl, rfl⟩, rfl⟩
  refine absurd ?_ hne
  unfold pushP
  rw [if_neg (by simp [e1, e2]), if_neg (by omega), if_neg (by simp [e5]), if_neg (by simp [e7]; omega)]
theorem look_j0 {o : Oper} {E : Operand → V} {m : List (Option Bk)} {n k : Nat} {x i : Operand} {J : List (ByteArray × List Jb)} {t : ByteArray} (hg : getE J t = none) (ho : o.op = .lookup 48 x i false) (hx : E x = .ow n k) (hi : E i = str t) (hm : m[n]? = some (some (.asr k (mapC (jobM J)) []))) :
    OpRd Try.prog o E m (.cv (.slice none 0 0)) :=
  rd_look (z := .slice none 0 0) ho Try.underlying48 Try.underlying9 (by kernel_rfl) hx hi hm (by rw [getE_map, hg]; rfl)
theorem pushP0 {q : Int} {W : List (ByteArray × Int)} {J : List (ByteArray × List Jb)} {R : List ByteArray} {j : Jb} (hne : pushP q W J R j = 0) : idB j.id = true ∧ nameB j.tn = true ∧ 1 ≤ j.co ∧ j.co ≤ 1000 * q ∧ hasK J j.id R = false ∧ sumK J R < 256 ∧ crowdB W J R j.tn = false := by
  unfold pushP at hne
  split at hne
  · cases hne
  split at hne
  · cases hne
  split at hne
  · cases hne
  split at hne
  · cases hne
  rename_i a1 a2 a3 a4
  simp only [not_or, Bool.not_eq_true, Bool.not_eq_false] at a1 a2 a3 a4
  exact ⟨a1.1, a1.2, by omega, by omega, a3, by omega, a4.2⟩
end Go.Proofs.Ytmlednjhemnncaa
namespace Go.Proofs.Ytmlednjhemnncaa
open Go.RowKit
theorem qM_snoc (q : Int) (tu : Bool) (W : List (ByteArray × Int)) (J : List (ByteArray × List Jb)) (De : List (ByteArray × Int)) (R : List ByteArray) (t : ByteArray) : qM q tu W J De (R ++ [t]) =
    [.box [int q, .ow 1 0, .ow 2 0, .ow 3 0, .ow 4 0, boo tu], .asr 0 (mapC (intM W)) [], .asr 0 (mapC (jobM J)) [], .asr 0 (mapC (intM De)) [], .row 0 9 1 false (R.map strD ++ [strD t])] := by simp [qM]
set_option maxRecDepth 100000 in
set_option maxHeartbeats 8000000 in
theorem x_push1 (q : Int) (hq : 0 < q ∧ q ≤ 1000000) (tu : Bool) (W : List (ByteArray × Int)) (J : List (ByteArray × List Jb)) (De : List (ByteArray × Int)) (R : List ByteArray) (j : Jb) (h1 : j.id.size ≤ maxLen) (h2 : j.tn.size ≤ maxLen) (hW : W.length ≤ 1099511627776) (hR : R.length ≤ 1000000) (hJ : InJ J R) (hne : pushP q W J R j = 0) (hg : getE J j.tn = none) :
    MCalls Try.prog 10 [.bx 0 0, j.V] (qM q tu W J De R) (int 0) (qM q tu W (putE J j.tn [j]) De (R ++ [j.tn])) := by
  obtain ⟨e1, e2, e3, e4, e5, e6, e7⟩ := pushP0 hne
  rw [qM_snoc]
  refine msxm pushM Try.func10 (by kernel_rfl) (by kernel_rfl) ?_
  conv => whnf
  refine mcall (T := TT) (φ := []) (x_made q tu W J De R) ?_
  conv => whnf
  refine known false (by simp [hq.1]) ?_
  conv => whnf
  refine ⟨_, x_id j.id h1, ?_⟩
  conv => whnf
  refine known false (by simp [e1]) ?_
  conv => whnf
  refine ⟨_, x_name j.tn h2, ?_⟩
  conv => whnf
  refine known false (by simp [e2]) ?_
  conv => whnf
  refine ⟨none, by kernel_rfl, ?_⟩
  conv => whnf
  refine known false (by simp; omega) ?_
  conv => whnf
  refine known false (by rw [wrap_in (by omega)]; simp; omega) ?_
  conv => whnf
  refine mcall (T := TT) (φ := []) (x_has q tu W J De R j.id (by omega) hJ) ?_
  conv => whnf
  refine known false e5 ?_
  conv => whnf
  refine mcall (T := TT) (φ := []) (x_len q hq.1 tu W J De R hR hJ) ?_
  conv => whnf
  refine known false (by simp; omega) ?_
  conv => whnf
  refine mcall (T := TT) (φ := []) (x_crowded q tu W J De R j.tn hW (by omega)) ?_
  conv => whnf
  refine known false e7 ?_
  conv => whnf
  refine ⟨none, by kernel_rfl, ?_⟩
  conv => whnf
  refine at_tr (open_j0 (n := 87) (d := 55) rfl rfl rfl rfl rfl hg) ?_
  conv => whnf
  refine known true rfl ?_
  conv => whnf
  refine ⟨none, by kernel_rfl, ?_⟩
  have hs1 : ((R.map strD).length + [[D.cv (Value.string j.tn)]].length) * 16 ≤ 140737488355328 := by simp; omega
  conv => whnf
  refine ⟨hs1, ?_⟩
  conv => whnf
  refine ⟨some planP13, by kernel_rfl, ?_⟩
  conv => whnf
  refine at_rd (look_j0 hg rfl rfl rfl rfl) ?_
  conv => whnf
  refine ⟨.bx 85 2, fun m2 K2 hK => hK, ?_⟩
  conv => whnf
  refine ⟨.bx 3 1, fun m2 K2 hK => hK, ?_⟩
  repeat' ((conv => whnf); first
    | exact trivial
    | refine ⟨Nat.le_of_ble_eq_true (by exact rfl), ?_⟩
    | refine at_tr (upd_job (n := 87) (d := 84) (js := [j]) rfl rfl rfl rfl rfl rfl rfl) ?_
    | exact ⟨rfl, rfl, rfl⟩
    | refine And.intro ?_ ?_)
set_option maxRecDepth 100000 in
set_option maxHeartbeats 8000000 in
theorem x_push2 (q : Int) (hq : 0 < q ∧ q ≤ 1000000) (tu : Bool) (W : List (ByteArray × Int)) (J : List (ByteArray × List Jb)) (De : List (ByteArray × Int)) (R : List ByteArray) (j : Jb) (h1 : j.id.size ≤ maxLen) (h2 : j.tn.size ≤ maxLen) (hW : W.length ≤ 1099511627776) (hR : R.length ≤ 1000000) (hJ : InJ J R) (hne : pushP q W J R j = 0) {js : List Jb} (hg : getE J j.tn = some js) (h0 : js ≠ []) (hl : js.length ≤ 1000000) :
    MCalls Try.prog 10 [.bx 0 0, j.V] (qM q tu W J De R) (int 0) (qM q tu W (putE J j.tn (js ++ [j])) De R) := by
  obtain ⟨e1, e2, e3, e4, e5, e6, e7⟩ := pushP0 hne
  refine msxm pushM Try.func10 (by kernel_rfl) (by kernel_rfl) ?_
  conv => whnf
  refine mcall (T := TT) (φ := []) (x_made q tu W J De R) ?_
  conv => whnf
  refine known false (by simp [hq.1]) ?_
  conv => whnf
  refine ⟨_, x_id j.id h1, ?_⟩
  conv => whnf
  refine known false (by simp [e1]) ?_
  conv => whnf
  refine ⟨_, x_name j.tn h2, ?_⟩
  conv => whnf
  refine known false (by simp [e2]) ?_
  conv => whnf
  refine ⟨none, by kernel_rfl, ?_⟩
  conv => whnf
  refine known false (by simp; omega) ?_
  conv => whnf
  refine known false (by rw [wrap_in (by omega)]; simp; omega) ?_
  conv => whnf
  refine mcall (T := TT) (φ := []) (x_has q tu W J De R j.id (by omega) hJ) ?_
  conv => whnf
  refine known false e5 ?_
  conv => whnf
  refine mcall (T := TT) (φ := []) (x_len q hq.1 tu W J De R hR hJ) ?_
  conv => whnf
  refine known false (by simp; omega) ?_
  conv => whnf
  refine mcall (T := TT) (φ := []) (x_crowded q tu W J De R j.tn hW (by omega)) ?_
  conv => whnf
  refine known false e7 ?_
  conv => whnf
  refine ⟨none, by kernel_rfl, ?_⟩
  conv => whnf
  refine at_tr (open_j (n := 87) (d := 55) rfl rfl rfl rfl rfl hg) ?_
  conv => whnf
  refine known false (by simp; cases js <;> simp_all) ?_
  conv => whnf
  refine ⟨some planP13, by kernel_rfl, ?_⟩
  conv => whnf
  refine at_rd (again_j (n := 87) (d := 55) (kd := 0) hg rfl rfl rfl rfl) ?_
  conv => whnf
  refine ⟨.bx 85 2, fun m2 K2 hK => hK, ?_⟩
  conv => whnf
  refine ⟨.bx 3 1, fun m2 K2 hK => hK, ?_⟩
  have hsz : ((js.map jobD).length + 1) * 40 ≤ 140737488355328 := by simp; omega
  repeat' ((conv => whnf); first
    | exact trivial
    | refine ⟨hsz, ?_⟩
    | refine at_tr (upd_job1 (n := 87) (d := 55) (js := js ++ [j]) rfl rfl rfl rfl rfl rfl (by rw [List.map_append]; rfl)) ?_
    | exact ⟨rfl, rfl, rfl⟩
    | refine And.intro ?_ ?_)
end Go.Proofs.Ytmlednjhemnncaa
namespace Go.Proofs.Ytmlednjhemnncaa
open Go.RowKit
theorem getE_isSome {α : Type} {l : List (ByteArray × α)} {t : ByteArray} : (getE l t).isSome = true ↔ t ∈ l.map (·.1) := by
  have h := getE_none (l := l) (x := t)
  cases hg : getE l t with
  | none => simp only [Option.isSome_none, Bool.false_eq_true, false_iff]; exact h.1 hg
  | some x =>
    simp only [Option.isSome_some, true_iff]
    rcases Classical.em (t ∈ l.map (·.1)) with h2 | h2
    · exact h2
    · rw [h.2 h2] at hg; cases hg
theorem othersW_all : ∀ {W : List (ByteArray × Int)} {t : ByteArray}, t ∉ W.map (·.1) → othersW W t = W.length
  | [], _, _ => rfl
  | x :: l, t, h => by
    simp only [List.map_cons, List.mem_cons, not_or] at h
    simp only [othersW, if_neg (Ne.symm h.1), othersW_all h.2, List.length_cons]; omega
theorem othersW_in : ∀ {W : List (ByteArray × Int)} {t : ByteArray}, (W.map (·.1)).Nodup → t ∈ W.map (·.1) → othersW W t + 1 = W.length
  | [], _, _, h => by simp at h
  | x :: l, t, hn, h => by
    simp only [List.map_cons, List.nodup_cons] at hn
    by_cases e : x.1 = t
    · subst e
      simp only [othersW, if_true, othersW_all hn.1, List.length_cons]; omega
    · have h2 : t ∈ l.map (·.1) := by
        rw [List.map_cons, List.mem_cons] at h
        rcases h with h3 | h3
        · exact absurd h3.symm e
        · exact h3
      have := othersW_in hn.2 h2
      simp only [othersW, if_neg e, List.length_cons]; omega
theorem othersR_all {W : List (ByteArray × Int)} : ∀ {R : List Ac} {t : ByteArray}, ((getE W t).isSome ∨ t ∉ R.map (·.tn)) → othersR W R t = notIn W (R.map (·.tn))
  | [], _, _ => rfl
  | a :: l, t, h => by
    have h2 : (getE W t).isSome ∨ t ∉ l.map (·.tn) := h.imp id fun h => by
      simp only [List.map_cons, List.mem_cons, not_or] at h; exact h.2
    have h3 : (a.tn = t ∨ (getE W a.tn).isSome) ↔ (getE W a.tn).isSome = true := by
      constructor
      · rintro (e | e)
        · rcases h with h | h
          · rw [e]; exact h
          · simp [e] at h
        · exact e
      · exact .inr
    simp only [othersR, List.map_cons, notIn, othersR_all h2]
    by_cases e : (getE W a.tn).isSome = true
    · rw [if_pos (h3.2 e), if_pos e]
    · rw [if_neg (fun h => e (h3.1 h)), if_neg e]
theorem othersR_in {W : List (ByteArray × Int)} : ∀ {R : List Ac} {t : ByteArray}, (R.map (·.tn)).Nodup → (getE W t).isSome = false → t ∈ R.map (·.tn) → othersR W R t + 1 = notIn W (R.map (·.tn))
  | [], _, _, _, h => by simp at h
  | a :: l, t, hn, hw, h => by
    simp only [List.map_cons, List.nodup_cons] at hn
    by_cases e : a.tn = t
    · subst e
      have := othersR_all (W := W) (R := l) (t := a.tn) (.inr hn.1)
      simp only [othersR, true_or, if_true, this, List.map_cons, notIn, hw]; simp; omega
    · have h2 : t ∈ l.map (·.tn) := by
        rw [List.map_cons, List.mem_cons] at h
        rcases h with h3 | h3
        · exact absurd h3.symm e
        · exact h3
      have := othersR_in (W := W) hn.2 hw h2
      simp only [othersR, e, false_or, List.map_cons, notIn]
      split <;> omega
section
variable {s : Qs} {M : Qm}
theorem findA_some : ∀ {l : List Ac} {t : ByteArray} {a : Ac}, findA l t = some a → a ∈ l ∧ a.tn = t
  | [], _, _, h => by simp [findA] at h
  | b :: l, t, a, h => by
    simp only [findA] at h
    split at h
    · cases h; exact ⟨List.mem_cons_self, by assumption⟩
    · obtain ⟨h1, h2⟩ := findA_some h; exact ⟨List.mem_cons_of_mem _ h1, h2⟩
theorem findA_none : ∀ {l : List Ac} {t : ByteArray}, findA l t = none ↔ t ∉ l.map (·.tn)
  | [], _ => by simp [findA]
  | b :: l, t => by
    simp only [findA, List.map_cons, List.mem_cons, not_or]
    split
    · rename_i e; simp [e]
    · rename_i e; rw [findA_none (l := l)]; exact ⟨fun h => ⟨Ne.symm e, h⟩, fun h => h.2⟩
theorem Fit.jOf (h : Fit s M) (t : ByteArray) : Go.Proofs.Ytmlednjhemnncaa.jOf M.J t = jobsOf s t := by
  unfold Go.Proofs.Ytmlednjhemnncaa.jOf jobsOf
  cases hf : findA s.R t with
  | none => rw [h.jn t (findA_none.1 hf)]; rfl
  | some a =>
    obtain ⟨h1, rfl⟩ := findA_some hf
    rw [h.jb a h1]; rfl
theorem Fit.dfOf (h : Fit s M) (t : ByteArray) : (getE M.De t).getD 0 = Go.Proofs.Ytmlednjhemnncaa.dfOf s t := by
  unfold Go.Proofs.Ytmlednjhemnncaa.dfOf
  cases hf : findA s.R t with
  | none => rw [h.dn t (findA_none.1 hf)]; rfl
  | some a =>
    obtain ⟨h1, rfl⟩ := findA_some hf
    rw [h.df a h1]; rfl
theorem Fit.inJ (h : Fit s M) (hf : s.fine) : InJ M.J M.R := by
  intro t ht
  rw [h.r] at ht
  obtain ⟨a, ha, rfl⟩ := List.mem_map.1 ht
  exact ⟨a.js, h.jb a ha, by have := hf.jsize ha; omega⟩
theorem Fit.crowd (h : Fit s M) (hf : s.fine) (t : ByteArray) : crowdB s.W M.J M.R t = fullB s t := by
  unfold crowdB fullB
  rw [h.jOf t, h.r, tns]
  have hj : decide (0 < (jobsOf s t).length) = true ↔ t ∈ s.R.map (·.tn) := by
    rw [decide_eq_true_iff]
    unfold jobsOf
    cases hfa : findA s.R t with
    | none => simp only [Option.map_none, Option.getD_none, List.length_nil, Nat.lt_irrefl, false_iff]; exact findA_none.1 hfa
    | some a =>
      obtain ⟨h1, rfl⟩ := findA_some hfa
      simp only [Option.map_some, Option.getD_some]
      exact ⟨fun _ => List.mem_map_of_mem h1, fun _ => List.length_pos_iff.2 (hf.js a h1)⟩
  have e : ((s.W.length : Int) + notIn s.W (s.R.map (·.tn)) - (if ((getE s.W t).isSome || decide (0 < (jobsOf s t).length)) = true then 1 else 0)) = othersW s.W t + othersR s.W s.R t := by
    by_cases h1 : (getE s.W t).isSome = true
    · have a1 := othersW_in hf.Wk (getE_isSome.1 h1)
      have a2 := othersR_all (W := s.W) (R := s.R) (t := t) (.inl h1)
      rw [if_pos (by rw [h1]; rfl)]; omega
    · have a1 := othersW_all (W := s.W) (t := t) (fun h => h1 (getE_isSome.2 h))
      have h1 : (getE s.W t).isSome = false := by simpa using h1
      by_cases h2 : t ∈ s.R.map (·.tn)
      · have a2 := othersR_in (W := s.W) hf.Rk h1 h2
        rw [if_pos (by rw [hj.2 h2, Bool.or_true])]; omega
      · have a2 := othersR_all (W := s.W) (R := s.R) (t := t) (.inr h2)
        rw [if_neg (by rw [h1, Bool.false_or]; exact fun h => h2 (hj.1 h))]; omega
  rw [e]
theorem Fit.has (h : Fit s M) (x : ByteArray) : ∀ l : List Ac, (∀ a ∈ l, a ∈ s.R) → hasK M.J x (l.map (·.tn)) = hasR l x
  | [], _ => rfl
  | a :: l, hl => by
    simp only [List.map_cons, hasK, hasR, h.has x l fun b hb => hl b (List.mem_cons_of_mem _ hb)]
    rw [show Go.Proofs.Ytmlednjhemnncaa.jOf M.J a.tn = a.js by simp [Go.Proofs.Ytmlednjhemnncaa.jOf, h.jb a (hl a List.mem_cons_self)]]
theorem Fit.sum (h : Fit s M) : ∀ l : List Ac, (∀ a ∈ l, a ∈ s.R) → ((sumK M.J (l.map (·.tn)) : Nat) : Int) = lenR l
  | [], _ => rfl
  | a :: l, hl => by
    have := h.sum l fun b hb => hl b (List.mem_cons_of_mem _ hb)
    simp only [List.map_cons, sumK, lenR]
    rw [show Go.Proofs.Ytmlednjhemnncaa.jOf M.J a.tn = a.js by simp [Go.Proofs.Ytmlednjhemnncaa.jOf, h.jb a (hl a List.mem_cons_self)]]
    omega
theorem Fit.has' (h : Fit s M) (x : ByteArray) : hasK M.J x M.R = hasR s.R x := by rw [h.r]; exact h.has x s.R fun _ h => h
theorem Fit.sum' (h : Fit s M) : ((sumK M.J M.R : Nat) : Int) = lenR s.R := by rw [h.r]; exact h.sum s.R fun _ h => h
theorem Fit.weighE (h : Fit s M) (hf : s.fine) (t : ByteArray) (n : Int) : weighP s.W M.J M.R t n = Go.Proofs.Ytmlednjhemnncaa.weighE s t n := by
  unfold weighP Go.Proofs.Ytmlednjhemnncaa.weighE
  rw [h.crowd hf t]
theorem Fit.pushE (h : Fit s M) (hf : s.fine) (j : Jb) : pushP s.q s.W M.J M.R j = Go.Proofs.Ytmlednjhemnncaa.pushE s j := by
  unfold pushP Go.Proofs.Ytmlednjhemnncaa.pushE
  rw [h.crowd hf j.tn, h.has' j.id]
  have := h.sum'
  have e : (sumK M.J M.R ≥ 256) ↔ (lenR s.R ≥ 256) := by omega
  simp only [e]
end
end Go.Proofs.Ytmlednjhemnncaa
namespace Go.Proofs.Ytmlednjhemnncaa
open Go.RowKit
theorem pushR_new : ∀ {l : List Ac} {j : Jb}, j.tn ∉ l.map (·.tn) → pushR l j = l ++ [⟨j.tn, [j], 0⟩]
  | [], _, _ => rfl
  | a :: l, j, h => by
    simp only [List.map_cons, List.mem_cons, not_or] at h
    simp only [pushR, if_neg (Ne.symm h.1), pushR_new h.2, List.cons_append]
theorem pushR_old : ∀ {l1 l2 : List Ac} {a : Ac} {j : Jb}, a.tn = j.tn → j.tn ∉ l1.map (·.tn) → pushR (l1 ++ a :: l2) j = l1 ++ { a with js := a.js ++ [j] } :: l2
  | [], l2, a, j, h, _ => by simp [pushR, h]
  | b :: l1, l2, a, j, h, hn => by
    simp only [List.map_cons, List.mem_cons, not_or] at hn
    simp only [List.cons_append, pushR, if_neg (Ne.symm hn.1), pushR_old h hn.2]
theorem split_at : ∀ {l : List Ac} {t : ByteArray}, t ∈ l.map (·.tn) → ∃ l1 a l2, l = l1 ++ a :: l2 ∧ a.tn = t ∧ t ∉ l1.map (·.tn)
  | [], _, h => by simp at h
  | b :: l, t, h => by
    by_cases e : b.tn = t
    · exact ⟨[], b, l, rfl, e, by simp⟩
    · rw [List.map_cons, List.mem_cons] at h
      rcases h with h | h
      · exact absurd h.symm e
      · obtain ⟨l1, a, l2, rfl, h2, h3⟩ := split_at h
        exact ⟨b :: l1, a, l2, rfl, h2, by rw [List.map_cons, List.mem_cons, not_or]; exact ⟨Ne.symm e, h3⟩⟩
theorem dropR_none : ∀ {l : List Ac} {t : ByteArray}, t ∉ l.map (·.tn) → dropR l t = l
  | [], _, _ => rfl
  | a :: l, t, h => by
    simp only [List.map_cons, List.mem_cons, not_or] at h
    simp only [dropR, if_neg (Ne.symm h.1), dropR_none h.2]
theorem dropR_at : ∀ {l1 l2 : List Ac} {a : Ac} {t : ByteArray}, a.tn = t → t ∉ l1.map (·.tn) → dropR (l1 ++ a :: l2) t = l1 ++ l2
  | [], l2, a, t, h, _ => by simp [dropR, h]
  | b :: l1, l2, a, t, h, hn => by
    simp only [List.map_cons, List.mem_cons, not_or] at hn
    simp only [List.cons_append, dropR, if_neg (Ne.symm hn.1), dropR_at h hn.2]
section
variable {s : Qs} {M : Qm}
theorem Fit.push_new (h : Fit s M) {j : Jb} (he : Go.Proofs.Ytmlednjhemnncaa.pushE s j = 0) (hn : getE M.J j.tn = none) : Fit (s.push j) ⟨putE M.J j.tn [j], M.De, M.tu, M.R ++ [j.tn]⟩ := by
  have ht : j.tn ∉ s.R.map (·.tn) := by
    intro h1
    obtain ⟨a, ha, e⟩ := List.mem_map.1 h1
    have := h.jb a ha
    rw [e, hn] at this; cases this
  obtain ⟨r, tu, jb, df, jn, dn, Jk, Dk⟩ := h
  unfold Qs.push
  rw [if_pos he, pushR_new ht]
  refine ⟨by simp [tns, r], tu, fun a ha => ?_, fun a ha => ?_, fun t ht' => ?_, fun t ht' => ?_, nodup_put Jk, Dk⟩
  · rcases List.mem_append.1 ha with ha | ha
    · dsimp only
      rw [getE_put_ne _ _ (show a.tn ≠ j.tn from fun e => ht (e ▸ List.mem_map_of_mem ha))]; exact jb a ha
    · rw [List.mem_singleton] at ha; subst ha; exact getE_put _ _ _
  · rcases List.mem_append.1 ha with ha | ha
    · exact df a ha
    · rw [List.mem_singleton] at ha; subst ha
      dsimp only
      rw [dn j.tn ht]; rfl
  · simp only [tns, List.map_append, List.mem_append, not_or, List.map_cons, List.map_nil, List.mem_singleton] at ht'
    dsimp only
    rw [getE_put_ne _ _ ht'.2]; exact jn t ht'.1
  · simp only [tns, List.map_append, List.mem_append, not_or] at ht'
    exact dn t ht'.1
theorem Fit.push_old (h : Fit s M) (hf : s.fine) {j : Jb} {js : List Jb} (he : Go.Proofs.Ytmlednjhemnncaa.pushE s j = 0) (hn : getE M.J j.tn = some js) : Fit (s.push j) ⟨putE M.J j.tn (js ++ [j]), M.De, M.tu, M.R⟩ := by
  have ht : j.tn ∈ s.R.map (·.tn) := by
    rcases Classical.em (j.tn ∈ s.R.map (·.tn)) with h1 | h1
    · exact h1
    · rw [h.jn _ h1] at hn; cases hn
  obtain ⟨l1, a, l2, hR, e, h1⟩ := split_at ht
  have hnd := hf.Rk
  obtain ⟨r, tu, jb, df, jn, dn, Jk, Dk⟩ := h
  have ha : a ∈ s.R := by rw [hR]; simp
  have hja := jb a ha
  rw [e, hn] at hja
  injection hja with hja
  unfold Qs.push
  rw [if_pos he, hR, pushR_old e h1]
  have htn : (l1 ++ ({ a with js := a.js ++ [j] } : Ac) :: l2).map (·.tn) = s.R.map (·.tn) := by rw [hR]; simp
  have hne : ∀ b, b ∈ l1 ∨ b ∈ l2 → b.tn ≠ j.tn := by
    intro b hb e2
    rw [hR, List.map_append, List.map_cons, List.nodup_append] at hnd
    rcases hb with hb | hb
    · exact h1 (e2 ▸ List.mem_map_of_mem hb)
    · have := (List.nodup_cons.1 hnd.2.1).1
      exact this (by rw [e, ← e2]; exact List.mem_map_of_mem hb)
  have hin : ∀ b, b ∈ l1 ∨ b ∈ l2 → b ∈ s.R := fun b hb => by rw [hR]; rcases hb with hb | hb <;> simp [hb]
  refine ⟨by rw [r]; unfold tns; dsimp only; rw [htn], tu, fun b hb => ?_, fun b hb => ?_, fun t ht' => ?_, fun t ht' => ?_, nodup_put Jk, Dk⟩
  · dsimp only at hb ⊢
    rw [List.mem_append, List.mem_cons] at hb
    rcases hb with hb | rfl | hb
    · rw [getE_put_ne _ _ (hne b (.inl hb))]; exact jb b (hin b (.inl hb))
    · dsimp only; rw [e, getE_put, hja]
    · rw [getE_put_ne _ _ (hne b (.inr hb))]; exact jb b (hin b (.inr hb))
  · dsimp only at hb ⊢
    rw [List.mem_append, List.mem_cons] at hb
    rcases hb with hb | rfl | hb
    · exact df b (hin b (.inl hb))
    · exact df a ha
    · exact df b (hin b (.inr hb))
  · have h2 : t ∉ tns s := by unfold tns at ht' ⊢; dsimp only at ht'; rw [htn] at ht'; exact ht'
    dsimp only
    rw [getE_put_ne _ _ (fun e2 => h2 (by rw [e2]; exact ht))]; exact jn t h2
  · have h2 : t ∉ tns s := by unfold tns at ht' ⊢; dsimp only at ht'; rw [htn] at ht'; exact ht'
    exact dn t h2
theorem Fit.weigh (h : Fit s M) (t : ByteArray) (n : Int) : Fit (s.weigh t n) M := by
  unfold Qs.weigh
  split
  · exact ⟨h.r, h.tu, h.jb, h.df, h.jn, h.dn, h.Jk, h.Dk⟩
  · exact h
theorem Fit.drop0 (h : Fit s M) {t : ByteArray} (hn : getE M.J t = none) : s.drop t = s := by
  have ht : t ∉ s.R.map (·.tn) := by
    intro h1
    obtain ⟨a, ha, e⟩ := List.mem_map.1 h1
    have := h.jb a ha
    rw [e, hn] at this; cases this
  have h2 : headIs s.R t = false := by
    cases hR : s.R with
    | nil => rfl
    | cons a l =>
      rw [hR] at ht
      simp only [List.map_cons, List.mem_cons, not_or] at ht
      simp [headIs, Ne.symm ht.1]
  unfold Qs.drop
  rw [h2, dropR_none ht]; rfl
theorem Fit.drop1 (h : Fit s M) (hf : s.fine) {t : ByteArray} {js : List Jb} (hn : getE M.J t = some js) : ∃ l1 l2, M.R = l1 ++ t :: l2 ∧ t ∉ l1 ∧ t ∉ l2 ∧ js ≠ [] ∧ Fit (s.drop t) ⟨delE M.J t, delE M.De t, (match l1 with | [] => false | _ => M.tu), l1 ++ l2⟩ := by
  have ht : t ∈ s.R.map (·.tn) := by
    rcases Classical.em (t ∈ s.R.map (·.tn)) with h1 | h1
    · exact h1
    · rw [h.jn _ h1] at hn; cases hn
  obtain ⟨l1, a, l2, hR, e, h1⟩ := split_at ht
  have hnd := hf.Rk
  obtain ⟨r, tu, jb, df, jn, dn, Jk, Dk⟩ := h
  have ha : a ∈ s.R := by rw [hR]; simp
  have hja := jb a ha
  rw [e, hn] at hja
  injection hja with hja
  rw [hR, List.map_append, List.map_cons, List.nodup_append] at hnd
  have h2 : t ∉ l2.map (·.tn) := e ▸ (List.nodup_cons.1 hnd.2.1).1
  have hne : ∀ b, b ∈ l1 ++ l2 → b.tn ≠ t := by
    intro b hb e2
    rcases List.mem_append.1 hb with hb | hb
    · exact h1 (e2 ▸ List.mem_map_of_mem hb)
    · exact h2 (e2 ▸ List.mem_map_of_mem hb)
  have hin : ∀ b, b ∈ l1 ++ l2 → b ∈ s.R := fun b hb => by rw [hR]; rcases List.mem_append.1 hb with hb | hb <;> simp [hb]
  have hout : ∀ u, u ∉ (l1 ++ l2).map (·.tn) → u ≠ t → u ∉ tns s := by
    intro u hu hut hin2
    rw [tns, hR] at hin2
    simp only [List.map_append, List.map_cons, List.mem_append, List.mem_cons, e] at hin2 hu
    rcases hin2 with h3 | h3 | h3
    · exact hu (.inl h3)
    · exact hut h3
    · exact hu (.inr h3)
  refine ⟨l1.map (·.tn), l2.map (·.tn), by rw [r, tns, hR]; simp [e], h1, h2, by rw [hja]; exact hf.js a ha, ?_⟩
  have hd : s.drop t = ⟨s.q, s.W, l1 ++ l2, match l1 with | [] => false | _ => s.tu⟩ := by
    unfold Qs.drop
    rw [hR, dropR_at e h1]
    cases l1 with
    | nil => simp [headIs, e]
    | cons b l1 =>
      simp only [List.map_cons, List.mem_cons, not_or] at h1
      simp [headIs, Ne.symm h1.1]
  rw [hd]
  refine ⟨by simp [tns], by cases l1 <;> simp [tu], fun b hb => ?_, fun b hb => ?_, fun u hu => ?_, fun u hu => ?_, nodup_del Jk, nodup_del Dk⟩
  · dsimp only at hb ⊢
    rw [getE_del_ne _ (hne b hb)]; exact jb b (hin b hb)
  · dsimp only at hb ⊢
    rw [getE_del_ne _ (hne b hb)]; exact df b (hin b hb)
  · dsimp only at hu ⊢
    by_cases e2 : u = t
    · subst e2; exact getE_del _ _ Jk
    · rw [getE_del_ne _ e2]; exact jn u (hout u hu e2)
  · dsimp only at hu ⊢
    by_cases e2 : u = t
    · subst e2; exact getE_del _ _ Dk
    · rw [getE_del_ne _ e2]; exact dn u (hout u hu e2)
end
end Go.Proofs.Ytmlednjhemnncaa
