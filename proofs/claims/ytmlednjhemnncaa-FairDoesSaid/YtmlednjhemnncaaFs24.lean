/- Texts joined by pack.py: XFb7 XFb4 XSxCg -/
import Derived.Test.YtmlednjhemnncaaFs23
import Derived.Test.YtmlednjhemnncaaFs18
namespace Go.Proofs.Ytmlednjhemnncaa
open Go.RowKit
theorem push_ok {s : Qs} {j : Jb} (h : pushE s j = 0) : 1 ≤ j.co ∧ j.co ≤ 1000 * s.q ∧ hasR s.R j.id = false ∧ lenR s.R < 256 ∧ fullB s j.tn = false := by
  unfold pushE at h
  split at h
  · cases h
  split at h
  · cases h
  split at h
  · cases h
  split at h
  · cases h
  rename_i h1 h2 h3 h4
  simp only [not_or] at h2 h4
  exact ⟨by omega, by omega, by simpa using h3, by omega, by simpa using h4.2⟩
theorem Qs.fine.push {s : Qs} (h : s.fine) (j : Jb) : (s.push j).fine := by
  unfold Qs.push
  split
  · rename_i he
    obtain ⟨e1, e2, e3, e4, e5⟩ := push_ok he
    obtain ⟨⟨q1, q2, Wk, Rk, Wn, js, own, df, tu⟩, lo, up, ln, wl⟩ := h
    rcases Classical.em (j.tn ∈ s.R.map (·.tn)) with ht | ht
    · obtain ⟨l1, a, l2, hR, e, h1⟩ := split_at ht
      rw [hR, pushR_old e h1]
      have ha : a ∈ s.R := by rw [hR]; simp
      have hm : ∀ b, b ∈ l1 ++ ({ a with js := a.js ++ [j] } : Ac) :: l2 → b ∈ s.R ∨ b = { a with js := a.js ++ [j] } := fun b hb => by
        rw [hR]
        rw [List.mem_append, List.mem_cons] at hb
        rcases hb with hb | hb | hb
        · exact .inl (by simp [hb])
        · exact .inr hb
        · exact .inl (by simp [hb])
      have htn : (l1 ++ ({ a with js := a.js ++ [j] } : Ac) :: l2).map (·.tn) = s.R.map (·.tn) := by rw [hR]; simp
      refine ⟨⟨q1, q2, Wk, by dsimp only; rw [htn]; exact Rk, Wn, fun b hb => ?_, fun b hb => ?_, fun b hb => ?_, fun _ => by simp⟩, fun b hb => ?_, fun b hb => ?_, ?_, wl⟩
      · rcases hm b hb with hb | rfl
        · exact js b hb
        · simp
      · rcases hm b hb with hb | rfl
        · exact own b hb
        · intro x hx
          rcases List.mem_append.1 hx with hx | hx
          · exact own a ha x hx
          · rw [List.mem_singleton] at hx; subst hx; exact ⟨e.symm, e1, e2⟩
      · rcases hm b hb with hb | rfl
        · exact df b hb
        · exact df a ha
      · have key : (a ∈ if s.tu then s.R.tail else s.R) → ∀ x xs, ({ a with js := a.js ++ [j] } : Ac).js = x :: xs → a.df < x.co := by
          intro hin x xs hx
          cases hj : a.js with
          | nil => exact absurd hj (js a ha)
          | cons y ys =>
            have h2 := lo a hin y ys hj
            dsimp only at hx
            rw [hj] at hx
            cases hx; exact h2
        dsimp only at hb
        cases htu : s.tu with
        | true =>
          rw [htu] at hb key lo
          simp only [if_true] at hb key lo
          cases l1 with
          | nil =>
            rw [hR] at lo
            exact lo b (by simpa using hb)
          | cons c l1 =>
            rw [hR] at lo key
            simp only [List.cons_append, List.tail_cons, List.mem_append, List.mem_cons] at hb lo key
            rcases hb with hb | rfl | hb
            · exact lo b (.inl hb)
            · exact key (by simp)
            · exact lo b (.inr (.inr hb))
        | false =>
          rw [htu] at hb key lo
          simp only [Bool.false_eq_true, if_false] at hb key lo
          rcases hm b hb with hb | rfl
          · exact lo b hb
          · exact key ha
      · rcases hm b hb with hb | rfl
        · exact up b hb
        · exact up a ha
      · rw [hR] at e4
        simp only [lenR_app, lenR, List.length_append, List.length_singleton] at e4 ⊢
        omega
    · rw [pushR_new ht]
      have hm : ∀ b, b ∈ s.R ++ [(⟨j.tn, [j], 0⟩ : Ac)] → b ∈ s.R ∨ b = ⟨j.tn, [j], 0⟩ := fun b hb => by simpa using hb
      refine ⟨⟨q1, q2, Wk, ?_, Wn, fun b hb => ?_, fun b hb => ?_, fun b hb => ?_, fun _ => by simp⟩, fun b hb => ?_, fun b hb => ?_, ?_, wl⟩
      · dsimp only
        rw [List.map_append, List.nodup_append]
        exact ⟨Rk, by simp, fun x hx y hy => by simp at hy; subst hy; rintro rfl; exact ht hx⟩
      · rcases hm b hb with hb | rfl
        · exact js b hb
        · simp
      · rcases hm b hb with hb | rfl
        · exact own b hb
        · intro x hx
          rw [List.mem_singleton] at hx; subst hx; exact ⟨rfl, e1, e2⟩
      · rcases hm b hb with hb | rfl
        · exact df b hb
        · exact Int.le_refl _
      · have key : ∀ x xs, (⟨j.tn, [j], 0⟩ : Ac).js = x :: xs → (0 : Int) < x.co := fun x xs hx => by cases hx; omega
        dsimp only at hb
        cases htu : s.tu with
        | true =>
          rw [htu] at hb lo
          simp only [if_true] at hb lo
          cases hR : s.R with
          | nil => exact absurd hR (tu htu)
          | cons c l =>
            rw [hR] at hb lo
            simp only [List.cons_append, List.tail_cons, List.mem_append, List.mem_singleton] at hb lo
            rcases hb with hb | rfl
            · exact lo b hb
            · exact key
        | false =>
          rw [htu] at hb lo
          simp only [Bool.false_eq_true, if_false] at hb lo
          rcases hm b hb with hb | rfl
          · exact lo b hb
          · exact key
      · rcases hm b hb with hb | rfl
        · exact up b hb
        · dsimp only; omega
      · dsimp only
        rw [lenR_app]
        simp only [lenR, List.length_singleton]
        omega
  · exact h
theorem Qs.fine.weigh {s : Qs} (h : s.fine) (t : ByteArray) (n : Int) : (s.weigh t n).fine := by
  unfold Qs.weigh
  split
  · rename_i he
    unfold weighE at he
    split at he
    · cases he
    split at he
    · cases he
    split at he
    · cases he
    rename_i h1 h2 h3
    simp only [not_or] at h2
    obtain ⟨⟨q1, q2, Wk, Rk, Wn, js, own, df, tu⟩, lo, up, ln, wl⟩ := h
    have hmem : ∀ (l : List (ByteArray × Int)), (∀ x ∈ l, 1 ≤ x.2 ∧ x.2 ≤ 1000) → ∀ x ∈ putE l t n, 1 ≤ x.2 ∧ x.2 ≤ 1000 := by
      intro l
      induction l with
      | nil => intro _ x hx; simp [putE] at hx; subst hx; exact ⟨by omega, by omega⟩
      | cons y l ih =>
        intro hl x hx
        simp only [putE] at hx
        split at hx
        · rcases List.mem_cons.1 hx with rfl | hx
          · exact ⟨by dsimp only; omega, by dsimp only; omega⟩
          · exact hl x (List.mem_cons_of_mem _ hx)
        · rcases List.mem_cons.1 hx with rfl | hx
          · exact hl _ List.mem_cons_self
          · exact ih (fun z hz => hl z (List.mem_cons_of_mem _ hz)) x hx
    refine ⟨⟨q1, q2, nodup_put Wk, Rk, hmem s.W Wn, js, own, df, tu⟩, lo, up, ln, ?_⟩
    dsimp only
    have hlen : (putE s.W t n).length = ((putE s.W t n).map (·.1)).length := by rw [List.length_map]
    rcases keys_put s.W t n with ⟨k1, _⟩ | ⟨k1, k2⟩
    · rw [hlen, k1, List.length_map]; exact wl
    · rw [hlen, k1, List.length_append, List.length_map, List.length_singleton]
      have h4 := othersW_all k2
      have h5 : ¬ (16 ≤ othersW s.W t + othersR s.W s.R t) := by
        intro h6
        exact h3 (by unfold fullB; simpa using h6)
      have h7 : 0 ≤ othersR s.W s.R t := by
        have : ∀ l : List Ac, 0 ≤ othersR s.W l t := fun l => by
          induction l with
          | nil => simp [othersR]
          | cons a l ih => simp only [othersR]; split <;> omega
        exact this s.R
      omega
  · exact h
theorem Qs.fine.drop {s : Qs} (h : s.fine) (t : ByteArray) : (s.drop t).fine := by
  rcases Classical.em (t ∈ s.R.map (·.tn)) with ht | ht
  · obtain ⟨l1, a, l2, hR, e, h1⟩ := split_at ht
    have hd : s.drop t = ⟨s.q, s.W, l1 ++ l2, !l1.isEmpty && s.tu⟩ := by
      unfold Qs.drop
      rw [hR, dropR_at e h1]
      cases l1 with
      | nil => simp [headIs, e]
      | cons b l1 =>
        simp only [List.map_cons, List.mem_cons, not_or] at h1
        simp [headIs, Ne.symm h1.1]
    rw [hd]
    obtain ⟨⟨q1, q2, Wk, Rk, Wn, js, own, df, tu⟩, lo, up, ln, wl⟩ := h
    have hin : ∀ b, b ∈ l1 ++ l2 → b ∈ s.R := fun b hb => by rw [hR]; rcases List.mem_append.1 hb with hb | hb <;> simp [hb]
    refine ⟨⟨q1, q2, Wk, ?_, Wn, fun b hb => js b (hin b hb), fun b hb => own b (hin b hb), fun b hb => df b (hin b hb), ?_⟩, fun b hb => ?_, fun b hb => up b (hin b hb), ?_, wl⟩
    · rw [hR] at Rk
      refine Rk.sublist ?_
      simp only [List.map_append, List.map_cons]
      exact List.Sublist.append_left (List.sublist_cons_self _ _) _
    · cases l1 with
      | nil => intro h; simp at h
      | cons b l1 => intro _; simp
    · cases l1 with
      | nil =>
        simp only [List.isEmpty_nil, Bool.not_true, Bool.false_and, Bool.false_eq_true, if_false, List.nil_append] at hb
        cases htu : s.tu with
        | true => rw [htu, hR] at lo; exact lo b (by simpa using hb)
        | false => rw [htu, hR] at lo; exact lo b (by simp [hb])
      | cons c l1 =>
        simp only [List.isEmpty_cons, Bool.not_false, Bool.true_and] at hb
        cases htu : s.tu with
        | true =>
          rw [htu] at hb lo
          rw [hR] at lo
          simp only [if_true, List.cons_append, List.tail_cons, List.mem_append, List.mem_cons] at hb lo
          exact lo b (hb.imp id .inr)
        | false =>
          rw [htu] at hb lo
          simp only [Bool.false_eq_true, if_false] at hb lo
          exact lo b (hin b hb)
    · rw [hR] at ln
      simp only [lenR_app, lenR] at ln ⊢
      omega
  · have h2 : headIs s.R t = false := by
      cases hR : s.R with
      | nil => rfl
      | cons a l =>
        rw [hR] at ht
        simp only [List.map_cons, List.mem_cons, not_or] at ht
        simp [headIs, Ne.symm ht.1]
    unfold Qs.drop
    rw [h2, dropR_none ht]
    exact h
end Go.Proofs.Ytmlednjhemnncaa
namespace Go.Proofs.Ytmlednjhemnncaa
open Go.RowKit
abbrev dropM : List (Nat × Bool) := [(28, false), (40, false)]
set_option maxRecDepth 100000 in
set_option maxHeartbeats 4000000 in
theorem x_drop0 (q : Int) (hq : 0 < q) (tu : Bool) (W : List (ByteArray × Int)) (J : List (ByteArray × List Jb)) (De : List (ByteArray × Int)) (R : List ByteArray) (t : ByteArray) (hg : getE J t = none) :
    MCallsG true Try.prog 15 [.bx 0 0, str t] (qM q tu W J De R) (.sl true 3 []) (qM q tu W J De R) := by
  refine msxxg dropM Try.func15 (by kernel_rfl) (by kernel_rfl) (by rfl) ?_
  conv => whnf
  refine mcall (T := TT) (φ := []) (x_made q tu W J De R) ?_
  conv => whnf
  refine known false (by simp [hq]) ?_
  conv => whnf
  refine at_tr (open_j0 (n := 31) (d := 15) rfl rfl rfl rfl rfl hg) ?_
  conv => whnf
  refine known true rfl ?_
  conv => whnf
  refine ⟨_, Gh.refl _, ?_⟩
  exact ⟨⟨rfl, rfl, rfl⟩, rfl⟩
set_option maxRecDepth 100000 in
set_option maxHeartbeats 4000000 in
theorem x_drop1 (q : Int) (hq : 0 < q) (tu : Bool) (W : List (ByteArray × Int)) (J : List (ByteArray × List Jb)) (De : List (ByteArray × Int)) (l1 l2 : List ByteArray) (t : ByteArray) {js : List Jb} (hg : getE J t = some js) (h0 : js ≠ []) (h1 : t ∉ l1) (h2 : t ∉ l2) (hl : (l1 ++ t :: l2).length ≤ 1000000) :
    MCalls Try.prog 15 [.bx 0 0, str t] (qM q tu W J De (l1 ++ t :: l2)) (.ow 5 0) (qM q (match l1 with | [] => false | _ => tu) W (delE J t) (delE De t) (l1 ++ l2) ++ [.row 0 34 3 false (js.map jobD)]) := by
  have hlv := x_leave q tu W J De l1 l2 t hg h1 h2 hl
  refine msxgr dropM Try.func15 (by kernel_rfl) (by kernel_rfl) ?_
  conv => whnf
  refine mcall (T := TT) (φ := []) (x_made q tu W J De (l1 ++ t :: l2)) ?_
  conv => whnf
  refine known false (by simp [hq]) ?_
  conv => whnf
  refine at_tr (open_j (n := 31) (d := 15) rfl rfl rfl rfl rfl hg) ?_
  conv => whnf
  refine known false (by simp; cases js <;> simp_all) ?_
  conv => whnf
  refine at_tr (ot_rd (again_j (n := 31) (d := 15) (kd := 0) hg rfl rfl rfl rfl)) ?_
  conv => whnf
  refine at_gh (kill_j (n := 31) hg rfl) (mcall (T := TT) (φ := []) hlv ?_ (ln := true))
  conv => whnf
  refine ⟨_, Gh.refl _, ?_⟩
  exact ⟨rfl, rfl, rfl⟩
end Go.Proofs.Ytmlednjhemnncaa
namespace Go.Proofs.Ytmlednjhemnncaa
open Go.RowKit
section
variable {P : Program} {T : Tab} {B : Fr} {w0 : World} {N : Names} {S : Sets} {t : List V} {m : List (Option Bk)} {a : Act} {w : World}
theorem gh_give {b d e k ke E Ee sz sze i : Nat} {fe : Bool} {xs xe : List (List D)} {cs : List V} {bt : Option Nat} (hm : m[b]? = some (some (.box cs bt))) (hi' : cs[i]? = some (.ow d k)) (hd : m[d]? = some (some (.row k E sz true xs))) (he : m[e]? = some (some (.row ke Ee sze fe xe))) (hde : d ≠ e) :
    GhM m (((m.set e (some (.row (ke + 1) E sz false xs))).set d (some (.row (k + 1) E sz true []))).set b (some (.box (cs.set i (.ow e (ke + 1))) bt))) := by
  intro B w0 N S t a w hs
  have hbd : b ≠ d := by rintro rfl; rw [hm] at hd; cases hd
  have hbe : b ≠ e := by rintro rfl; rw [hm] at he; cases he
  obtain ⟨v, us, e1, e2, e3, e4, e5, e6⟩ := hs.blk d _ hd
  obtain ⟨ve, use, d1, d2, d3, d4, d5, d6⟩ := hs.blk e _ he
  obtain ⟨A, c, rfl⟩ := own_parts e2
  obtain ⟨Ae, ce, rfl⟩ := own_parts d2
  obtain ⟨g0, ty0, us0, b1, b2, b3, b4⟩ := hs.blk b _ hm
  have hcell := b4 i _ hi'
  let N' : Names := fun j => if j = e then some (ke + 1, .slice A xs.length c) else if j = d then some (k + 1, .slice none 0 0) else N j
  have hNe : N' e = some (ke + 1, .slice A xs.length c) := by simp [N']
  have hNd : N' d = some (k + 1, .slice none 0 0) := by simp [N', hde]
  have hNo : ∀ j, j ≠ e → j ≠ d → N' j = N j := fun j h1 h2 => by simp [N', h1, h2]
  have hNb : N' b = N b := hNo b hbe hbd
  have hNN : NLe N N' := by
    intro j x v h
    by_cases hj : j = e
    · subst hj
      rw [d1] at h; cases h
      exact .inr (.inl ⟨⟨_, _, _, rfl⟩, _, _, hNe, by omega⟩)
    · by_cases hj' : j = d
      · subst hj'
        rw [e1] at h; cases h
        exact .inr (.inl ⟨⟨_, _, _, rfl⟩, _, _, hNd, by omega⟩)
      · exact .inl ((hNo j hj hj').trans h)
  have hnil : ∀ g, ¬ At (.slice none 0 0) g := fun g hg => by simp [At, at1] at hg
  have hbl := lt_of_get hm
  have hdl := lt_of_get hd
  have hel := lt_of_get he
  have main_ := hs.chg (w' := w) (N' := N') (m' := ((m.set e (some (.row (ke + 1) E sz false xs))).set d (some (.row (k + 1) E sz true []))).set b (some (.box (cs.set i (.ow e (ke + 1))) bt))) (fun j => j = e ∨ j = d ∨ j = b) hNN
    (fun j hj => by simp only [not_or] at hj; exact hNo j hj.1 hj.2.1)
    (fun j hj => by simp only [not_or] at hj; rw [List.getElem?_set_ne (Ne.symm hj.2.2), List.getElem?_set_ne (Ne.symm hj.2.1), List.getElem?_set_ne (Ne.symm hj.1)]) hs.low (Nat.le_refl _) (fun _ _ _ => rfl)
    (fun j x v g hj hv hg => by
      rcases hj with rfl | rfl | rfl
      · rw [hNe] at hv; cases hv
        exact ⟨(hs.own d _ _ g e1 hg).2, .inr ⟨d, _, _, .inr (.inl rfl), e1, hg⟩⟩
      · rw [hNd] at hv; cases hv; exact (hnil g hg).elim
      · rw [hNb] at hv
        exact ⟨(hs.own _ _ _ g hv hg).2, .inr ⟨_, _, _, .inr (.inr rfl), hv, hg⟩⟩)
    (fun j j' x x' v v' g hj hj' hv hv' hg hg' => by
      have key : ∀ {x v g}, N b = some (x, v) → At v g → At (.slice A xs.length c) g → False := fun h1 h2 h3 => hbd (hs.apart b d _ _ _ _ _ h1 e1 h2 h3)
      rcases hj with rfl | rfl | rfl <;> rcases hj' with rfl | rfl | rfl
      · rfl
      · rw [hNd] at hv'; cases hv'; exact (hnil g hg').elim
      · rw [hNe] at hv; cases hv; rw [hNb] at hv'; exact (key hv' hg' hg).elim
      · rw [hNd] at hv; cases hv; exact (hnil g hg).elim
      · rfl
      · rw [hNd] at hv; cases hv; exact (hnil g hg).elim
      · rw [hNb] at hv; rw [hNe] at hv'; cases hv'; exact (key hv hg hg').elim
      · rw [hNd] at hv'; cases hv'; exact (hnil g hg').elim
      · rfl)
    (fun j hj hno => by
      rcases hj with rfl | rfl | rfl
      · exact absurd (by rw [List.getElem?_set_ne hbe, List.getElem?_set_ne hde, List.getElem?_set_self hel]) (hno _)
      · exact absurd (by rw [List.getElem?_set_ne hbd, List.getElem?_set_self (by simpa using hdl)]) (hno _)
      · exact absurd (by rw [List.getElem?_set_self (by simpa using hbl)]) (hno _))
    (fun j og hj hst => by
      obtain ⟨_, x, v1, s1, s2⟩ := hs.stay j og hst
      rcases hj with rfl | rfl | rfl
      · exact ⟨_, _, hNe, .inr fun g hg => .inr (e6 rfl g hg)⟩
      · exact ⟨_, _, hNd, .inr fun g hg => (hnil g hg).elim⟩
      · exact ⟨_, _, hNb.trans s1, s2⟩)
    (fun j b' hj hb' hR hD _ => by
      rcases hj with rfl | rfl | rfl
      · rw [List.getElem?_set_ne hbe, List.getElem?_set_ne hde, List.getElem?_set_self hel] at hb'
        cases hb'
        exact ⟨_, us, hNe, e2, e3, e4, fun p q x hx => by
          obtain ⟨u, hu, hr⟩ := e5 p q x hx
          exact ⟨u, hu, RelD.up hs hr⟩, fun h => by cases h⟩
      · rw [List.getElem?_set_ne hbd, List.getElem?_set_self (by simpa using hdl)] at hb'
        cases hb'
        exact ⟨_, [], hNd, ⟨by simp, .inl ⟨rfl, rfl⟩⟩, by simp, e4, fun p q x hx => by simp at hx, fun _ g hg => (hnil g hg).elim⟩
      · rw [List.getElem?_set_self (by simpa using hbl)] at hb'
        cases hb'
        refine ⟨g0, ty0, us0, hNb.trans b1, b2, by simpa using b3, fun p y hy => ?_⟩
        rw [List.getElem?_set] at hy
        split at hy
        · rename_i hij
          subst hij
          split at hy
          · cases hy
            generalize us0.getD i undef = u at hcell
            cases hcell with
            | ow _ _ _ h1 h2 =>
              obtain ⟨k1, v1, h3, h4, h5⟩ := h2
              rw [e1] at h3; cases h3
              have h6 := h5 rfl
              exact .ow e (ke + 1) _ h1 ⟨ke + 1, _, hNe, Nat.le_refl _, fun _ => h6⟩
          · cases hy
        · exact hR _ _ (b4 p y hy))
  exact ⟨N', S, main_.1, main_.2⟩
end
end Go.Proofs.Ytmlednjhemnncaa
