/- Texts joined by pack.py: XFb8 XFb9 XSxCj XSxCk XFe0 XFe1 XFe2 -/
import Derived.Test.YtmlednjhemnncaaFs24
import Derived.Test.YtmlednjhemnncaaFs25
namespace Go.Proofs.Ytmlednjhemnncaa
open Go.RowKit
theorem mcalls_weak {P : Program} {f : FuncId} {a : List V} {m : List Bk} {r : V} {m' : List Bk} (h : MCallsG true P f a m r m') : MCalls P f a m r m' :=
  ⟨h.1, fun w vs ns So hm hv => (h.2 w vs ns So hm hv).mono fun _ _ ⟨v, ns', h1, h2, h3, h4, h5, h6, h7, _, h9⟩ => ⟨v, ns', h1, h2, h3, h4, h5, h6, h7, fun h => (by cases h), h9⟩⟩
section
variable {s : Qs} {M : Qm}
theorem Fit.rlen (h : Fit s M) (hf : s.fine) : M.R.length ≤ 256 := by rw [h.r, tns, List.length_map]; exact hf.size
abbrev mem (s : Qs) (M : Qm) : List Bk := qM s.q M.tu s.W M.J M.De M.R
theorem push_keeps (s : Qs) (j : Jb) : (s.push j).q = s.q ∧ (s.push j).W = s.W ∧ (s.push j).tu = s.tu := by unfold Qs.push; split <;> exact ⟨rfl, rfl, rfl⟩
theorem c_push (h : Fit s M) (hf : s.fine) (j : Jb) (h1 : j.id.size ≤ maxLen) (h2 : j.tn.size ≤ maxLen) : ∃ M', Fit (s.push j) M' ∧ MCalls Try.prog 10 [.bx 0 0, j.V] (mem s M) (int (pushE s j)) (mem (s.push j) M') := by
  have hR := h.rlen hf
  have hW := hf.wl
  have hq : 0 < s.q ∧ s.q ≤ 1000000 := ⟨by have := hf.q1; omega, hf.q2⟩
  have hk := push_keeps s j
  unfold mem
  rw [hk.1, hk.2.1, ← h.pushE hf j]
  by_cases he : pushE s j = 0
  · have he' : pushP s.q s.W M.J M.R j = 0 := by rw [h.pushE hf j]; exact he
    rw [he']
    cases hg : getE M.J j.tn with
    | none => exact ⟨_, h.push_new he hg, x_push1 s.q hq M.tu s.W M.J M.De M.R j h1 h2 (by omega) (by omega) (h.inJ hf) he' hg⟩
    | some js =>
      have hjs : js ≠ [] ∧ js.length ≤ 256 := by
        have ht : j.tn ∈ tns s := by
          rcases Classical.em (j.tn ∈ tns s) with h3 | h3
          · exact h3
          · rw [h.jn _ h3] at hg; cases hg
        obtain ⟨a, ha, e⟩ := List.mem_map.1 ht
        have := h.jb a ha
        rw [e, hg] at this; cases this
        exact ⟨hf.js a ha, hf.jsize ha⟩
      exact ⟨_, h.push_old hf he hg, x_push2 s.q hq M.tu s.W M.J M.De M.R j h1 h2 (by omega) (by omega) (h.inJ hf) he' hg hjs.1 (by omega)⟩
  · have he' : pushP s.q s.W M.J M.R j ≠ 0 := by rw [h.pushE hf j]; exact he
    have hs : s.push j = s := by unfold Qs.push; rw [if_neg he]
    rw [hs]
    exact ⟨M, h, mcalls_weak (x_push0 s.q hq M.tu s.W M.J M.De M.R j h1 h2 (by omega) (by omega) (h.inJ hf) he')⟩
theorem weigh_W (s : Qs) (t : ByteArray) (n : Int) : (s.weigh t n).W = (if weighE s t n = 0 then putE s.W t n else s.W) ∧ (s.weigh t n).q = s.q := by unfold Qs.weigh; split <;> exact ⟨rfl, rfl⟩
theorem c_weigh (h : Fit s M) (hf : s.fine) (t : ByteArray) (n : Int) (ht : t.size ≤ maxLen) : MCalls Try.prog 12 [.bx 0 0, str t, int n] (mem s M) (int (weighE s t n)) (mem (s.weigh t n) M) := by
  have hR := h.rlen hf
  have hW := hf.wl
  have hc := mcalls_weak (x_weigh s.q (by have := hf.q1; omega) M.tu s.W M.J M.De M.R t n ht (by omega) (by omega))
  rw [h.weighE hf t n] at hc
  unfold mem
  rw [(weigh_W s t n).1, (weigh_W s t n).2]
  exact hc
theorem pop_keeps : ∀ (n : Nat) (s : Qs), (popF n s).2.q = s.q ∧ (popF n s).2.W = s.W
  | 0, _ => ⟨rfl, rfl⟩
  | n + 1, s => by
    unfold popF
    cases hR : s.R with
    | nil => exact ⟨rfl, rfl⟩
    | cons a l =>
      have hk := serve_keeps s
      dsimp only
      split
      · rename_i j s' e; rw [e] at hk; exact hk
      · rename_i s' e
        rw [e] at hk
        have := pop_keeps n s'
        exact ⟨this.1.trans hk.1, this.2.trans hk.2⟩
theorem c_pop (h : Fit s M) (hf : s.fine) : ∃ M', Fit s.pop.2 M' ∧ MCalls Try.prog 17 [.bx 0 0] (mem s M) (.tu [(s.pop.1.getD Jb.zero).V, boo s.pop.1.isSome]) (mem s.pop.2 M') := by
  obtain ⟨h1, h2⟩ := h.pop (s.mu + 1) hf
  have hk := pop_keeps (s.mu + 1) s
  refine ⟨_, h2, ?_⟩
  unfold Qs.pop mem
  rw [hk.1, hk.2, ← h1]
  obtain ⟨J, De, tu, R⟩ := M
  exact x_popM h hf rfl rfl rfl
end
end Go.Proofs.Ytmlednjhemnncaa
namespace Go.Proofs.Ytmlednjhemnncaa
open Go.RowKit
section
variable {s : Qs} {M : Qm}
theorem jobs_none (h : Fit s M) {t : ByteArray} (hg : getE M.J t = none) : jobsOf s t = [] := by rw [← h.jOf t]; simp [jOf, hg]
theorem jobs_some (h : Fit s M) {t : ByteArray} {js : List Jb} (hg : getE M.J t = some js) : jobsOf s t = js := by rw [← h.jOf t]; simp [jOf, hg]
theorem drop_keeps (s : Qs) (t : ByteArray) : (s.drop t).q = s.q ∧ (s.drop t).W = s.W := by unfold Qs.drop; split <;> exact ⟨rfl, rfl⟩
theorem c_drop0 (h : Fit s M) (hf : s.fine) {t : ByteArray} (hg : getE M.J t = none) : s.drop t = s ∧ jobsOf s t = [] ∧ MCallsG true Try.prog 15 [.bx 0 0, str t] (mem s M) (.sl true 3 []) (mem s M) :=
  ⟨h.drop0 hg, jobs_none h hg, x_drop0 s.q (by have := hf.q1; omega) M.tu s.W M.J M.De M.R t hg⟩
theorem c_drop1 (h : Fit s M) (hf : s.fine) {t : ByteArray} {js : List Jb} (hg : getE M.J t = some js) : jobsOf s t = js ∧ ∃ M', Fit (s.drop t) M' ∧ MCalls Try.prog 15 [.bx 0 0, str t] (mem s M) (.ow 5 0) (mem (s.drop t) M' ++ [.row 0 34 3 false (js.map jobD)]) := by
  refine ⟨jobs_some h hg, ?_⟩
  obtain ⟨l1, l2, hR, h1, h2, h0, hfit⟩ := h.drop1 hf hg
  have hl := h.rlen hf
  have hk := drop_keeps s t
  refine ⟨_, hfit, ?_⟩
  unfold mem
  rw [hk.1, hk.2]
  obtain ⟨J, De, tu, R⟩ := M
  dsimp only at hR hl
  subst hR
  have hq := hf.q1
  cases l1 with
  | nil => exact x_drop1 s.q (by omega) tu s.W J De [] l2 t hg h0 h1 h2 (by omega)
  | cons b l1 => exact x_drop1 s.q (by omega) tu s.W J De (b :: l1) l2 t hg h0 h1 h2 (by omega)
theorem c_len (h : Fit s M) (hf : s.fine) : MCallsG true Try.prog 19 [.bx 0 0] (mem s M) (int (lenR s.R)) (mem s M) := by
  have hR := h.rlen hf
  have hc := x_len s.q (by have := hf.q1; omega) M.tu s.W M.J M.De M.R (by omega) (h.inJ hf)
  rw [h.sum'] at hc
  exact hc
theorem c_backlog (h : Fit s M) (hf : s.fine) (t : ByteArray) : MCallsG true Try.prog 21 [.bx 0 0, str t] (mem s M) (int (costs (jobsOf s t))) (mem s M) := by
  have hjo : (jobsOf s t).length ≤ 1000000 ∧ ∀ j ∈ jobsOf s t, 0 ≤ j.co ∧ j.co ≤ 1000000000 := by
    unfold jobsOf
    cases hfa : findA s.R t with
    | none => simp
    | some a =>
      obtain ⟨ha, _⟩ := findA_some hfa
      have h1 := hf.jsize ha
      have h2 := hf.q2
      refine ⟨by simp; omega, fun j hj => ?_⟩
      have h3 := hf.own a ha j (by simpa using hj)
      omega
  have hc := x_backlog s.q (by have := hf.q1; omega) M.tu s.W M.J M.De M.R t (by rw [h.jOf t]; exact hjo.1) (by rw [h.jOf t]; exact hjo.2)
  rw [h.jOf t] at hc
  exact hc
theorem c_deficit (h : Fit s M) (hf : s.fine) (t : ByteArray) : MCallsG true Try.prog 23 [.bx 0 0, str t] (mem s M) (int (dfOf s t)) (mem s M) := by
  have hc := x_deficit s.q (by have := hf.q1; omega) M.tu s.W M.J M.De M.R t
  rw [h.dfOf t] at hc
  exact hc
end
theorem fit_new (q : Int) : Fit (Qs.new q) ⟨[], [], false, []⟩ := ⟨rfl, rfl, fun a h => (by cases h), fun a h => (by cases h), fun _ _ => rfl, fun _ _ => rfl, List.nodup_nil, List.nodup_nil⟩
theorem fine_new {q : Int} (h : 1 ≤ q ∧ q ≤ 1000000) : (Qs.new q).fine := ⟨⟨h.1, h.2, List.nodup_nil, List.nodup_nil, fun x h => (by cases h), fun a h => (by cases h), fun a h => (by cases h), fun a h => (by cases h), fun h => (by cases h)⟩, fun a h => (by cases h), fun a h => (by cases h), (by simp [Qs.new, lenR]), (by simp [Qs.new])⟩
end Go.Proofs.Ytmlednjhemnncaa
namespace Go.Proofs.Ytmlednjhemnncaa
open Go.RowKit
section
variable {P : Program} {T : Tab} {B : Fr} {w0 : World} {N : Names} {S : Sets} {t : List V} {m : List (Option Bk)} {a : Act} {w : World}
end
end Go.Proofs.Ytmlednjhemnncaa
namespace Go.Proofs.Ytmlednjhemnncaa
open Go.RowKit
section
variable {P : Program} {T : Tab} {B : Fr} {w0 : World} {N : Names} {S : Sets} {t : List V} {m : List (Option Bk)} {a : Act} {w : World}
theorem gh_giveC {b d e k ke E sz i : Nat} {rs : List (List Cl)} {Ae : Asrt} {oe : List V} {cs : List V} {bt : Option Nat} (hm : m[b]? = some (some (.box cs bt))) (hi' : cs[i]? = some (.ow d k)) (hd : m[d]? = some (some (.asr k (rowC E sz rs) []))) (he : m[e]? = some (some (.asr ke Ae oe))) (hde : d ≠ e) :
    GhM m (((m.set e (some (.asr (ke + 1) (rowC E sz rs) []))).set d (some (.asr (k + 1) (rowC E sz []) []))).set b (some (.box (cs.set i (.ow e (ke + 1))) bt))) := by
  intro B w0 N S t a w hs
  have hbd : b ≠ d := by rintro rfl; rw [hm] at hd; cases hd
  have hbe : b ≠ e := by rintro rfl; rw [hm] at he; cases he
  obtain ⟨main, us, own, uo, e1, e2, e3, e4, e5⟩ := ct_val hs hd
  obtain ⟨fe, ue, d1, d2, d3⟩ := hs.blk e _ he
  obtain ⟨A, c, hA⟩ := own_parts e3
  obtain ⟨g0, ty0, us0, b1, b2, b3, b4⟩ := hs.blk b _ hm
  have hcell := b4 i _ hi'
  let N' : Names := fun j => if j = e then some (ke + 1, .agg (main :: own).toArray) else if j = d then some (k + 1, .agg [.slice none 0 0].toArray) else N j
  have hNe : N' e = some (ke + 1, .agg (main :: own).toArray) := by simp [N']
  have hNd : N' d = some (k + 1, .agg [.slice none 0 0].toArray) := by simp [N', hde]
  have hNo : ∀ j, j ≠ e → j ≠ d → N' j = N j := fun j h1 h2 => by simp [N', h1, h2]
  have hNb : N' b = N b := hNo b hbe hbd
  have hNN : NLe N N' := by
    intro j x v h
    by_cases hj : j = e
    · subst hj
      rw [d1] at h; cases h
      exact .inr (.inr ⟨_, _, _, rfl, hNe, .inl (by omega)⟩)
    · by_cases hj' : j = d
      · subst hj'
        rw [e1] at h; cases h
        exact .inr (.inr ⟨_, _, _, rfl, hNd, .inl (by omega)⟩)
      · exact .inl ((hNo j hj hj').trans h)
  have hnil : ∀ g, ¬ At (.agg [.slice none 0 0].toArray) g := fun g hg => by
    obtain ⟨u, hu, e⟩ := at_ct.1 hg
    simp at hu; subst hu; cases e
  have hbl := lt_of_get hm
  have hdl := lt_of_get hd
  have hel := lt_of_get he
  have main_ := hs.chg (w' := w) (N' := N') (m' := ((m.set e (some (.asr (ke + 1) (rowC E sz rs) []))).set d (some (.asr (k + 1) (rowC E sz []) []))).set b (some (.box (cs.set i (.ow e (ke + 1))) bt))) (fun j => j = e ∨ j = d ∨ j = b) hNN
    (fun j hj => by simp only [not_or] at hj; exact hNo j hj.1 hj.2.1)
    (fun j hj => by simp only [not_or] at hj; rw [List.getElem?_set_ne (Ne.symm hj.2.2), List.getElem?_set_ne (Ne.symm hj.2.1), List.getElem?_set_ne (Ne.symm hj.1)]) hs.low (Nat.le_refl _) (fun _ _ _ => rfl)
    (fun j x v g hj hv hg => by
      rcases hj with rfl | rfl | rfl
      · rw [hNe] at hv; cases hv
        exact ⟨(hs.own d _ _ g e1 hg).2, .inr ⟨d, _, _, .inr (.inl rfl), e1, hg⟩⟩
      · rw [hNd] at hv; cases hv; exact (hnil g hg).elim
      · rw [hNb] at hv
        exact ⟨(hs.own _ _ _ g hv hg).2, .inr ⟨_, _, _, .inr (.inr rfl), hv, hg⟩⟩)
    (fun j j' x x' v v' g hj hj' hv hv' hg hg' => by
      have key : ∀ {x v g}, N b = some (x, v) → At v g → At (.agg (main :: own).toArray) g → False := fun h1 h2 h3 => hbd (hs.apart b d _ _ _ _ _ h1 e1 h2 h3)
      rcases hj with rfl | rfl | rfl <;> rcases hj' with rfl | rfl | rfl
      · rfl
      · rw [hNd] at hv'; cases hv'; exact (hnil g hg').elim
      · rw [hNe] at hv; cases hv; rw [hNb] at hv'; exact (key hv' hg' hg).elim
      · rw [hNd] at hv; cases hv; exact (hnil g hg).elim
      · rfl
      · rw [hNd] at hv; cases hv; exact (hnil g hg).elim
      · rw [hNb] at hv; rw [hNe] at hv'; cases hv'; exact (key hv hg hg').elim
      · rw [hNd] at hv'; cases hv'; exact (hnil g hg').elim
      · rfl)
    (fun j hj hno => by
      rcases hj with rfl | rfl | rfl
      · exact absurd (by rw [List.getElem?_set_ne hbe, List.getElem?_set_ne hde, List.getElem?_set_self hel]) (hno _)
      · exact absurd (by rw [List.getElem?_set_ne hbd, List.getElem?_set_self (by simpa using hdl)]) (hno _)
      · exact absurd (by rw [List.getElem?_set_self (by simpa using hbl)]) (hno _))
    (fun j og hj hst => by
      obtain ⟨_, x, v1, s1, s2⟩ := hs.stay j og hst
      rcases hj with rfl | rfl | rfl
      · exact ⟨_, _, hNe, .inl ⟨_, rfl⟩⟩
      · exact ⟨_, _, hNd, .inl ⟨_, rfl⟩⟩
      · exact ⟨_, _, hNb.trans s1, s2⟩)
    (fun j b' hj hb' hR hD hB => by
      rcases hj with rfl | rfl | rfl
      · rw [List.getElem?_set_ne hbe, List.getElem?_set_ne hde, List.getElem?_set_self hel] at hb'
        cases hb'
        exact ⟨_, uo, hNe, ⟨e2.1, fun q v hv => by simp at hv⟩, main, us, own, rfl, e3, e4.mono (fun _ h => h) (hB false) fun _ _ _ _ => rfl, e5⟩
      · rw [List.getElem?_set_ne hbd, List.getElem?_set_self (by simpa using hdl)] at hb'
        cases hb'
        exact ⟨_, [], hNd, ⟨rfl, by simp⟩, .slice none 0 0, [], [], rfl, ⟨by simp, .inl ⟨rfl, rfl⟩⟩, .nil, by simp [Dj]⟩
      · rw [List.getElem?_set_self (by simpa using hbl)] at hb'
        cases hb'
        refine ⟨g0, ty0, us0, hNb.trans b1, b2, by simpa using b3, fun p y hy => ?_⟩
        rw [List.getElem?_set] at hy
        split at hy
        · rename_i hij
          subst hij
          split at hy
          · cases hy
            generalize us0.getD i undef = u at hcell
            have hu := ow_of e1 hcell
            rw [agg_hdv] at hu
            subst hu
            exact .ow e (ke + 1) _ (by rw [hA]; rfl) ⟨ke + 1, _, hNe, Nat.le_refl _, fun _ => by simp [hdv]⟩
          · cases hy
        · exact hR _ _ (b4 p y hy))
  exact ⟨N', S, main_.1, main_.2⟩
theorem gh_dropC {n k E sz : Nat} {rs : List (List Cl)} {outs : List V} {x : V} (hm : m[n]? = some (some (.asr k (rowC E sz rs) (outs ++ [x])))) (h1 : useO rs.flatten outs.length = false) :
    GhM m (m.set n (some (.asr k (rowC E sz rs) outs))) := gh_drop hm h1
end
end Go.Proofs.Ytmlednjhemnncaa
namespace Go.Proofs.Ytmlednjhemnncaa
open Go.RowKit
def wD (x : ByteArray × Int) : List D := [.cv (.string x.1), .cv (.int .i64 x.2)]
def acC (a : Ac) : List Cl := [.d (.cv (.string a.tn)), jobsC a.js, .d (.cv (.int .i64 a.df))]
abbrev rC (R : List Ac) : Asrt := rowC 64 3 (R.map acC)
abbrev rM (q : Int) (tu : Bool) (W : List (ByteArray × Int)) (R : List Ac) : List Bk :=
  [.box [int q, .ow 1 0, .ow 2 0, boo tu], .row 0 66 2 false (W.map wD), .asr 0 (rC R) []]
theorem get_ac {R : List Ac} {j : Nat} (h : j < R.length) : (R.map acC)[j]? = some (acC R[j]) := by rw [List.getElem?_map, List.getElem?_eq_getElem h]; rfl
theorem ac_len {R : List Ac} : ∀ r ∈ R.map acC, r.length = 3 := by
  intro r hr
  obtain ⟨a, _, rfl⟩ := List.mem_map.1 hr
  rfl
theorem ac_noO (R : List Ac) (i : Nat) : useO (R.map acC).flatten i = false :=
  useO_none fun c hc => by
    obtain ⟨r, hr, hc⟩ := List.mem_flatten.1 hc
    obtain ⟨a, _, rfl⟩ := List.mem_map.1 hr
    simp [acC] at hc
    rcases hc with rfl | rfl | rfl <;> rfl
theorem set_ac {R : List Ac} {j : Nat} (h : j < R.length) : (R.map acC).set j (acC R[j]) = R.map acC := by
  rw [← List.map_set, List.set_getElem_self]
section
variable {o : Oper} {E : Operand → V} {m : List (Option Bk)} {n k : Nat} {x i : Operand} {R : List Ac} {outs : List V}
theorem len_rg (ho : o.op = .call { callee := .builtin .len, args := #[x], argTypes := #[58] }) (hx : E x = .ow n k) (hm : m[n]? = some (some (.asr k (rC R) outs))) : OpRd Try.prog o E m (int ((R.length : Nat) : Int)) := by
  have := rd_ct_len (P := Try.prog) (m := m) ho Try.underlying58 hx hm
  rwa [List.length_map] at this
theorem idx_rg {q : IntKind} {j : Int} (ho : o.op = .indexAddr 58 x i) (hx : E x = .ow n k) (hi : E i = .cv (.int q j)) {rs : List (List Cl)} (hm : m[n]? = some (some (.asr k (rowC 64 3 rs) outs))) (hj : 0 ≤ j ∧ j.toNat < rs.length) : OpRd Try.prog o E m (.oq n k 3 j.toNat 0) :=
  rd_ct_index tok ho (e := 64) rfl rfl rfl rfl hx hi hm hj.1 hj.2
theorem ld_tn {j : Nat} (ho : o.op = .load 9 x) (hx : E x = .oq n k 3 j 0) (hm : m[n]? = some (some (.asr k (rC R) outs))) (h : j < R.length) : OpRd Try.prog o E m (str R[j].tn) :=
  rd_ct_load tok ho rfl hx hm ac_len (get_ac h) rfl
theorem ld_df {j : Nat} (ho : o.op = .load 3 x) (hx : E x = .oq n k 3 j 2) (hm : m[n]? = some (some (.asr k (rC R) outs))) (h : j < R.length) : OpRd Try.prog o E m (int R[j].df) :=
  rd_ct_load tok ho rfl hx hm ac_len (get_ac h) rfl
end
def idxA : List Ac → ByteArray → Nat → Int
  | [], _, _ => -1
  | a :: l, t, i => if sEq a.tn t then i else idxA l t (i + 1)
def idxW : List (ByteArray × Int) → ByteArray → Nat → Int
  | [], _, _ => -1
  | a :: l, t, i => if sEq a.1 t then i else idxW l t (i + 1)
theorem x_rmade (q : Int) (tu : Bool) (W : List (ByteArray × Int)) (R : List Ac) :
    MCallsG true Try.prog 33 [.bx 0 0] (rM q tu W R) (boo (decide (q > 0))) (rM q tu W R) := by
  refine msxx [] Try.func33 (by kernel_rfl) (by kernel_rfl) (by rfl) ?_
  conv => whnf
  refine known true rfl ?_
  exact ⟨⟨rfl, rfl, rfl⟩, rfl⟩
set_option maxRecDepth 100000 in
set_option maxHeartbeats 4000000 in
theorem x_weighed (q : Int) (tu : Bool) (W : List (ByteArray × Int)) (R : List Ac) (t : ByteArray) (hW : W.length ≤ 1099511627776) :
    MCallsG true Try.prog 39 [.bx 0 0, str t] (rM q tu W R) (int (idxW W t 0)) (rM q tu W R) := by
  refine msxx [] Try.func39 (by kernel_rfl) (by kernel_rfl) (by rfl) ?_
  conv => whnf
  refine ⟨[], Nat, fun k => [(5, int k)], fun _ => [], fun k => k ≤ W.length ∧ idxW (W.drop k) t k = idxW W t 0, fun k => W.length - k, 0, ⟨by simp, rfl⟩, ?_, ?_⟩
  · refine ⟨rfl, ?_, ?_⟩ <;> repeat' (first | exact trivial | exact rfl | refine and_rfl ?_ | refine and_two ?_ ?_)
  rintro k ⟨hk, hf⟩
  conv => whnf
  rintro (_ | _) h1
  · simp at h1
    have e : k = W.length := by omega
    subst e
    simp [idxW] at hf
    exact ⟨⟨rfl, rfl, fin_int hf⟩, rfl⟩
  simp at h1
  have hd : W.drop k = W[k] :: W.drop (k + 1) := List.drop_eq_getElem_cons h1
  rw [hd] at hf
  simp only [idxW] at hf
  conv => whnf
  refine ⟨by omega, by simp; omega, ?_⟩
  conv => whnf
  refine ⟨_, get_map wD h1, ?_⟩
  conv => whnf
  rintro (_ | _) h2
  · rw [show sEq W[k].1 t = false from h2, if_neg (by simp)] at hf
    conv => whnf
    refine ⟨k + 1, ⟨h1, hf⟩, by dsimp only; omega, ?_⟩
    refine ⟨rfl, ?_, ?_⟩ <;> repeat' (first | exact trivial | exact rfl | refine and_rfl ?_ | refine and_val (wrap_succ (by omega)) ?_ | refine and_two ?_ ?_)
  · rw [show sEq W[k].1 t = true from h2, if_pos rfl] at hf
    exact ⟨⟨rfl, rfl, fin_int hf⟩, rfl⟩
set_option maxRecDepth 100000 in
set_option maxHeartbeats 4000000 in
theorem x_find (q : Int) (tu : Bool) (W : List (ByteArray × Int)) (R : List Ac) (t : ByteArray) (hR : R.length ≤ 1099511627776) :
    MCallsG true Try.prog 38 [.bx 0 0, str t] (rM q tu W R) (int (idxA R t 0)) (rM q tu W R) := by
  refine msxx [] Try.func38 (by kernel_rfl) (by kernel_rfl) (by rfl) ?_
  conv => whnf
  refine ⟨[], Nat, fun k => [(5, int k)], fun _ => [], fun k => k ≤ R.length ∧ idxA (R.drop k) t k = idxA R t 0, fun k => R.length - k, 0, ⟨by simp, rfl⟩, ?_, ?_⟩
  · refine ⟨rfl, ?_, ?_⟩ <;> repeat' (first | exact trivial | exact rfl | refine and_rfl ?_ | refine and_two ?_ ?_)
  rintro k ⟨hk, hf⟩
  conv => whnf
  refine at_rd (len_rg rfl rfl rfl) ?_
  conv => whnf
  rintro (_ | _) h1
  · simp at h1
    have e : k = R.length := by omega
    subst e
    simp [idxA] at hf
    exact ⟨⟨rfl, rfl, fin_int hf⟩, rfl⟩
  simp at h1
  have hd : R.drop k = R[k] :: R.drop (k + 1) := List.drop_eq_getElem_cons h1
  rw [hd] at hf
  simp only [idxA] at hf
  conv => whnf
  refine at_rd (idx_rg rfl rfl rfl rfl ⟨by omega, by simp; omega⟩) ?_
  conv => whnf
  refine at_rd (ld_tn (j := k) rfl rfl rfl h1) ?_
  conv => whnf
  rintro (_ | _) h2
  · rw [show sEq R[k].tn t = false from h2, if_neg (by simp)] at hf
    conv => whnf
    refine ⟨k + 1, ⟨h1, hf⟩, by dsimp only; omega, ?_⟩
    refine ⟨rfl, ?_, ?_⟩ <;> repeat' (first | exact trivial | exact rfl | refine and_rfl ?_ | refine and_val (wrap_succ (by omega)) ?_ | refine and_two ?_ ?_)
  · rw [show sEq R[k].tn t = true from h2, if_pos rfl] at hf
    exact ⟨⟨rfl, rfl, fin_int hf⟩, rfl⟩
end Go.Proofs.Ytmlednjhemnncaa
namespace Go.Proofs.Ytmlednjhemnncaa
open Go.RowKit
abbrev rO (R : List Ac) (j : Nat) (a : Ac) : Asrt := rowC 64 3 ((R.map acC).set j ((acC a).set 1 (.o 0)))
theorem op_len {R : List Ac} {j : Nat} {a : Ac} {c : Cl} : ∀ r ∈ (R.map acC).set j ((acC a).set 1 c), r.length = 3 := by
  intro r hr
  rcases List.mem_or_eq_of_mem_set hr with h | h
  · exact ac_len r h
  · subst h; rfl
section
variable {o : Oper} {E : Operand → V} {m : List (Option Bk)} {n k d kd : Nat} {x : Operand} {R : List Ac} {j : Nat}
theorem open_rg (ho : o.op = .load 40 x) (hx : E x = .oq n k 3 j 1) (hd : m[d]? = some none) (hm : m[n]? = some (some (.asr k (rC R) []))) (h : j < R.length) :
    OpTr Try.prog o E m (.ow d 0) ((m.set n (some (.asr k (rO R j R[j]) [.ow d 0]))).set d (some (.row 0 34 3 false (R[j].js.map jobD)))) := by
  have hnd : n ≠ d := by rintro rfl; rw [hm] at hd; cases hd
  have hg := gh_openC (outs := []) hm (get_ac h) (off := 1) rfl hd
  refine ot_pre hg (ot_rd (rd_ct_load tok ho rfl hx (by rw [List.getElem?_set_ne (Ne.symm hnd), List.getElem?_set_self (lt_of_get hm)]) op_len (cells := (acC R[j]).set 1 (.o 0)) ?_ ?_))
  · rw [List.getElem?_set_self (by simpa using h)]; rfl
  · rfl
theorem again_rg (h : j < R.length) (ho : o.op = .load 40 x) (hx : E x = .oq n k 3 j 1) (hm : m[n]? = some (some (.asr k (rO R j R[j]) [.ow d kd]))) :
    OpRd Try.prog o E m (.ow d kd) :=
  rd_ct_load tok ho rfl hx hm op_len (cells := (acC R[j]).set 1 (.o 0)) (by rw [List.getElem?_set_self (by simpa using h)]) rfl
theorem close_rg {f : Bool} (h : j < R.length) (hm : m[n]? = some (some (.asr k (rO R j R[j]) [.ow d kd]))) (hd : m[d]? = some (some (.row kd 34 3 f (R[j].js.map jobD)))) :
    GhM m ((m.set n (some (.asr k (rC R) []))).set d (some (.row (kd + 1) 34 3 true []))) := by
  have := gh_closeC (outs := []) (get_ac h) (off := 1) rfl (ac_noO R 0) hm hd
  rwa [show (R.map acC).set j ((acC R[j]).set 1 (.r 34 3 (R[j].js.map jobD))) = R.map acC from set_ac h] at this
end
theorem lenR_take {R : List Ac} {k : Nat} (h : k < R.length) : lenR (R.take (k + 1)) = lenR (R.take k) + R[k].js.length := by
  rw [List.take_succ_eq_append_getElem h, lenR_app]; simp [lenR]
theorem lenR_le {R : List Ac} (k : Nat) : 0 ≤ lenR (R.take k) ∧ lenR (R.take k) ≤ lenR R := by
  have h0 : ∀ l : List Ac, 0 ≤ lenR l := fun l => by
    induction l with
    | nil => simp [lenR]
    | cons a l ih => simp only [lenR]; omega
  have h1 := h0 (R.take k)
  have h2 := h0 (R.drop k)
  have h3 := lenR_app (R.take k) (R.drop k)
  rw [List.take_append_drop] at h3
  omega
abbrev RLB : List (Nat × Bool) := [(33, false), (4000040, false)]
set_option maxRecDepth 100000 in
set_option maxHeartbeats 4000000 in
theorem x_rlen (q : Int) (hq : 0 < q) (tu : Bool) (W : List (ByteArray × Int)) (R : List Ac) (hR : R.length ≤ 1099511627776) (hl : lenR R ≤ 1000000) :
    MCallsG true Try.prog 20 [.bx 0 0] (rM q tu W R) (int (lenR R)) (rM q tu W R) := by
  refine msxxg RLB Try.func20 (by kernel_rfl) (by kernel_rfl) (by rfl) ?_
  conv => whnf
  refine mcall (T := TT) (φ := []) (x_rmade q tu W R) ?_
  conv => whnf
  refine known false (by simp [hq]) ?_
  conv => whnf
  refine ⟨[(3000001, 0, 0, 0)], Nat, fun k => [(4, int k), (3, int (lenR (R.take k)))], fun _ => [], fun k => k ≤ R.length, fun k => R.length - k, 0, by simp, ?_, ?_⟩
  · refine ⟨rfl, ?_, ?_⟩ <;> repeat' (first | exact trivial | exact rfl | refine and_rfl ?_ | refine and_val (by simp [lenR]) ?_ | refine and_two ?_ ?_)
  rintro k hk
  have hk : k ≤ R.length := hk
  conv => whnf
  refine at_rd (len_rg rfl rfl rfl) ?_
  conv => whnf
  rintro (_ | _) h1
  · simp at h1
    have e : k = R.length := by omega
    subst e
    rw [List.take_length]
    conv => whnf
    refine ⟨_, Gh.refl _, ?_⟩
    exact ⟨⟨rfl, rfl, rfl⟩, rfl⟩
  simp at h1
  have ht := lenR_take h1
  have hn := lenR_le (R := R) k
  have hn' := lenR_le (R := R) (k + 1)
  conv => whnf
  refine at_rd (idx_rg rfl rfl rfl rfl ⟨by omega, by simp; omega⟩) ?_
  conv => whnf
  refine at_ex (open_rg (n := 32) (d := 26) (j := k) rfl rfl rfl rfl h1) ?_
  conv => whnf
  refine ⟨k + 1, h1, by dsimp only; omega, ?_⟩
  conv => whnf
  refine ⟨_, GhM.gh (close_rg (n := 32) (d := 26) h1 rfl rfl), ?_⟩
  refine ⟨rfl, ?_, ?_⟩ <;> repeat' (first | exact trivial | exact rfl | refine and_rfl ?_ | refine and_val (wrap_succ (by omega)) ?_ | refine and_val (by rw [wrap_in (by simp; omega), ht]; simp) ?_ | refine and_two ?_ ?_)
set_option maxRecDepth 100000 in
set_option maxHeartbeats 4000000 in
theorem x_rhas (q : Int) (tu : Bool) (W : List (ByteArray × Int)) (R : List Ac) (x : ByteArray) (hR : R.length ≤ 1099511627776) (hl : ∀ a ∈ R, a.js.length ≤ 1000000) :
    MCallsG true Try.prog 36 [.bx 0 0, str x] (rM q tu W R) (boo (hasR R x)) (rM q tu W R) := by
  refine msxxg [(4000040, false)] Try.func36 (by kernel_rfl) (by kernel_rfl) (by rfl) ?_
  conv => whnf
  refine ⟨[(3000001, 0, 0, 0)], Nat, fun k => [(5, int k)], fun _ => [], fun k => k ≤ R.length ∧ hasR (R.drop k) x = hasR R x, fun k => R.length - k, 0, ⟨by simp, rfl⟩, ?_, ?_⟩
  · refine ⟨rfl, ?_, ?_⟩ <;> repeat' (first | exact trivial | exact rfl | refine and_rfl ?_ | refine and_two ?_ ?_)
  rintro k ⟨hk, hf⟩
  conv => whnf
  refine at_rd (len_rg rfl rfl rfl) ?_
  conv => whnf
  rintro (_ | _) h1
  · simp at h1
    have e : k = R.length := by omega
    subst e
    rw [List.drop_length] at hf
    conv => whnf
    refine ⟨_, Gh.refl _, ?_⟩
    exact ⟨⟨rfl, rfl, fin_boo hf⟩, rfl⟩
  simp at h1
  have hd : R.drop k = R[k] :: R.drop (k + 1) := List.drop_eq_getElem_cons h1
  rw [hd] at hf
  simp only [hasR] at hf
  have hjl := hl _ (List.getElem_mem h1)
  conv => whnf
  refine ⟨[(3000001, 0, 0, 0)], Nat, fun i => [(6, int i)], fun _ => [], fun i => i ≤ R[k].js.length ∧ hasJ (R[k].js.drop i) x = hasJ R[k].js x, fun i => R[k].js.length - i, 0, ⟨by simp, rfl⟩, ?_, ?_⟩
  · refine ⟨rfl, ?_, ?_⟩ <;> repeat' (first | exact trivial | exact rfl | refine and_rfl ?_ | refine and_two ?_ ?_)
  rintro i ⟨hi, hg⟩
  conv => whnf
  refine at_rd (idx_rg rfl rfl rfl rfl ⟨by omega, by simp; omega⟩) ?_
  conv => whnf
  refine at_ex (open_rg (n := 45) (d := 24) (j := k) rfl rfl rfl rfl h1) ?_
  conv => whnf
  rintro (_ | _) h2
  · simp at h2
    have e : i = R[k].js.length := by omega
    subst e
    rw [List.drop_length] at hg
    rw [← hg, hasJ, Bool.false_or] at hf
    conv => whnf
    refine ⟨k + 1, ⟨h1, hf⟩, by dsimp only; omega, ?_⟩
    conv => whnf
    refine ⟨_, GhM.gh (close_rg (n := 45) (d := 24) h1 rfl rfl), ?_⟩
    refine ⟨rfl, ?_, ?_⟩ <;> repeat' (first | exact trivial | exact rfl | refine and_rfl ?_ | refine and_val (wrap_succ (by omega)) ?_ | refine and_two ?_ ?_)
  simp at h2
  have hd2 : R[k].js.drop i = R[k].js[i] :: R[k].js.drop (i + 1) := List.drop_eq_getElem_cons h2
  rw [hd2] at hg
  simp only [hasJ] at hg
  conv => whnf
  refine at_rd (idx_rg rfl rfl rfl rfl ⟨by omega, by simp; omega⟩) ?_
  conv => whnf
  refine at_ex (ot_rd (again_rg (n := 45) (d := 24) (kd := 0) h1 rfl rfl rfl)) ?_
  conv => whnf
  refine ⟨by omega, by simp; omega, ?_⟩
  conv => whnf
  refine ⟨_, get_map jobD h2, ?_⟩
  conv => whnf
  rintro (_ | _) h3
  · rw [show sEq R[k].js[i].id x = false from h3, Bool.false_or] at hg
    conv => whnf
    refine ⟨i + 1, ⟨h2, hg⟩, by dsimp only; omega, ?_⟩
    conv => whnf
    refine ⟨_, GhM.gh (close_rg (n := 45) (d := 24) h1 rfl rfl), ?_⟩
    refine ⟨rfl, ?_, ?_⟩ <;> repeat' (first | exact trivial | exact rfl | refine and_rfl ?_ | refine and_val (wrap_succ (by omega)) ?_ | refine and_two ?_ ?_)
  · rw [show sEq R[k].js[i].id x = true from h3, Bool.true_or] at hg
    rw [← hg, Bool.true_or] at hf
    conv => whnf
    refine ⟨_, GhM.gh (close_rg (n := 45) (d := 24) h1 rfl rfl), ?_⟩
    exact ⟨⟨rfl, rfl, fin_boo hf⟩, rfl⟩
end Go.Proofs.Ytmlednjhemnncaa
namespace Go.Proofs.Ytmlednjhemnncaa
open Go.RowKit
theorem sEq_ne {a b : ByteArray} : sEq a b = false ↔ a ≠ b := by
  rw [← Bool.not_eq_true, sEq_iff]
theorem idxW_spec : ∀ (W : List (ByteArray × Int)) (t : ByteArray) (i : Nat), (getE W t = none ∧ idxW W t i = -1) ∨ ∃ p n, getE W t = some n ∧ idxW W t i = ((i + p : Nat) : Int) ∧ W[p]? = some (t, n) ∧ t ∉ (W.take p).map (·.1)
  | [], t, i => .inl ⟨rfl, rfl⟩
  | (k, n) :: l, t, i => by
    simp only [getE, idxW]
    by_cases e : k = t
    · subst e
      rw [if_pos rfl, if_pos (sEq_iff.2 rfl)]
      exact .inr ⟨0, n, rfl, rfl, rfl, by simp⟩
    · rw [if_neg e, if_neg (by rw [sEq_ne.2 e]; simp)]
      rcases idxW_spec l t (i + 1) with ⟨h1, h2⟩ | ⟨p, m, h1, h2, h3, h4⟩
      · exact .inl ⟨h1, h2⟩
      · refine .inr ⟨p + 1, m, h1, by rw [h2]; omega, by simpa using h3, ?_⟩
        simp only [List.take_succ_cons, List.map_cons, List.mem_cons, not_or]
        exact ⟨Ne.symm e, h4⟩
theorem idxA_spec : ∀ (R : List Ac) (t : ByteArray) (i : Nat), (findA R t = none ∧ idxA R t i = -1) ∨ ∃ p a, findA R t = some a ∧ idxA R t i = ((i + p : Nat) : Int) ∧ R[p]? = some a ∧ a.tn = t ∧ t ∉ (R.take p).map (·.tn)
  | [], t, i => .inl ⟨rfl, rfl⟩
  | a :: l, t, i => by
    simp only [findA, idxA]
    by_cases e : a.tn = t
    · subst e
      rw [if_pos rfl, if_pos (sEq_iff.2 rfl)]
      exact .inr ⟨0, a, rfl, rfl, rfl, rfl, by simp⟩
    · rw [if_neg e, if_neg (by rw [sEq_ne.2 e]; simp)]
      rcases idxA_spec l t (i + 1) with ⟨h1, h2⟩ | ⟨p, m, h1, h2, h3, h5, h4⟩
      · exact .inl ⟨h1, h2⟩
      · refine .inr ⟨p + 1, m, h1, by rw [h2]; omega, by simpa using h3, h5, ?_⟩
        simp only [List.take_succ_cons, List.map_cons, List.mem_cons, not_or]
        exact ⟨Ne.symm e, h4⟩
theorem othersW_app (t : ByteArray) : ∀ l l', othersW (l ++ l') t = othersW l t + othersW l' t
  | [], l' => by simp [othersW]
  | x :: l, l' => by simp only [List.cons_append, othersW, othersW_app t l l']; omega
theorem othersW_take {W : List (ByteArray × Int)} (t : ByteArray) {k : Nat} (h : k < W.length) : othersW (W.take (k + 1)) t = othersW (W.take k) t + (if W[k].1 = t then 0 else 1) := by
  rw [List.take_succ_eq_append_getElem h, othersW_app]; simp [othersW]
theorem othersW_le (t : ByteArray) : ∀ l : List (ByteArray × Int), 0 ≤ othersW l t ∧ othersW l t ≤ l.length
  | [] => by simp [othersW]
  | x :: l => by
    have := othersW_le t l
    simp only [othersW, List.length_cons]
    split <;> omega
theorem othersR_app (W : List (ByteArray × Int)) (t : ByteArray) : ∀ l l', othersR W (l ++ l') t = othersR W l t + othersR W l' t
  | [], l' => by simp [othersR]
  | x :: l, l' => by simp only [List.cons_append, othersR, othersR_app W t l l']; omega
theorem othersR_take (W : List (ByteArray × Int)) {R : List Ac} (t : ByteArray) {k : Nat} (h : k < R.length) : othersR W (R.take (k + 1)) t = othersR W (R.take k) t + (if R[k].tn = t ∨ (getE W R[k].tn).isSome then 0 else 1) := by
  rw [List.take_succ_eq_append_getElem h, othersR_app]; simp [othersR]
theorem othersR_le (W : List (ByteArray × Int)) (t : ByteArray) : ∀ l : List Ac, 0 ≤ othersR W l t ∧ othersR W l t ≤ l.length
  | [] => by simp [othersR]
  | x :: l => by
    have := othersR_le W t l
    simp only [othersR, List.length_cons]
    split <;> omega
theorem ne_spec {a b : ByteArray} {c : Bool} (h : (a.toList != b.toList) = c) : c = true ↔ a ≠ b := by
  subst h
  rw [← sEq_ne]
  show (!(a.toList == b.toList)) = true ↔ (a.toList == b.toList) = false
  cases a.toList == b.toList <;> simp
set_option maxRecDepth 100000 in
set_option maxHeartbeats 4000000 in
theorem x_full (q : Int) (tu : Bool) (W : List (ByteArray × Int)) (R : List Ac) (t : ByteArray) (hW : W.length ≤ 1099511627776) (hR : R.length ≤ 1099511627776) :
    MCallsG true Try.prog 37 [.bx 0 0, str t] (rM q tu W R) (boo (decide (16 ≤ othersW W t + othersR W R t))) (rM q tu W R) := by
  refine msxx [(39, false)] Try.func37 (by kernel_rfl) (by kernel_rfl) (by rfl) ?_
  conv => whnf
  refine ⟨[], Nat, fun k => [(6, int k), (5, int (othersW (W.take k) t))], fun _ => [], fun k => k ≤ W.length, fun k => W.length - k, 0, by simp, ?_, ?_⟩
  · refine ⟨rfl, ?_, ?_⟩ <;> repeat' (first | exact trivial | exact rfl | refine and_rfl ?_ | refine and_two ?_ ?_)
  rintro k hk
  have hk : k ≤ W.length := hk
  have hn := othersW_le t (W.take k)
  rw [List.length_take] at hn
  conv => whnf
  rintro (_ | _) h1
  rotate_left
  · simp at h1
    have ht := othersW_take t h1
    conv => whnf
    refine ⟨by omega, by simp; omega, ?_⟩
    conv => whnf
    refine ⟨_, get_map wD h1, ?_⟩
    conv => whnf
    rintro (_ | _) h2
    · have h2 : W[k].1 = t := Classical.byContradiction fun h => absurd ((ne_spec h2).2 h) (by simp)
      rw [if_pos h2] at ht
      conv => whnf
      refine ⟨k + 1, h1, by dsimp only; omega, ?_⟩
      refine ⟨rfl, ?_, ?_⟩ <;> repeat' (first | exact trivial | exact rfl | refine and_rfl ?_ | refine and_val (wrap_succ (by omega)) ?_ | refine and_val (by rw [ht]; omega) ?_ | refine and_two ?_ ?_)
    · have h2 : W[k].1 ≠ t := (ne_spec h2).1 rfl
      rw [if_neg h2] at ht
      conv => whnf
      refine ⟨k + 1, h1, by dsimp only; omega, ?_⟩
      refine ⟨rfl, ?_, ?_⟩ <;> repeat' (first | exact trivial | exact rfl | refine and_rfl ?_ | refine and_val (wrap_succ (by omega)) ?_ | refine and_val (by rw [wrap_in (by omega), ht]) ?_ | refine and_two ?_ ?_)
  simp at h1
  have e : k = W.length := by omega
  subst e
  rw [List.take_length] at hn ⊢
  conv => whnf
  refine ⟨[], Nat, fun k => [(7, int k), (5, int (othersW W t + othersR W (R.take k) t))], fun _ => [], fun k => k ≤ R.length, fun k => R.length - k, 0, by simp, ?_, ?_⟩
  · refine ⟨rfl, ?_, ?_⟩ <;> repeat' (first | exact trivial | exact rfl | refine and_rfl ?_ | refine and_val (by simp [othersR]) ?_ | refine and_two ?_ ?_)
  rintro k hk
  have hk : k ≤ R.length := hk
  have hn2 := othersR_le W t (R.take k)
  rw [List.length_take] at hn2
  conv => whnf
  refine at_rd (len_rg rfl rfl rfl) ?_
  conv => whnf
  rintro (_ | _) h1
  · simp at h1
    have e : k = R.length := by omega
    subst e
    rw [List.take_length]
    exact ⟨⟨rfl, rfl, fin_boo (by simp)⟩, rfl⟩
  simp at h1
  have ht := othersR_take W t h1
  conv => whnf
  refine at_rd (idx_rg rfl rfl rfl rfl ⟨by omega, by simp; omega⟩) ?_
  conv => whnf
  refine at_rd (ld_tn (j := k) rfl rfl rfl h1) ?_
  conv => whnf
  rintro (_ | _) h2
  · have h2 : R[k].tn = t := Classical.byContradiction fun h => absurd ((ne_spec h2).2 h) (by simp)
    rw [if_pos (.inl h2)] at ht
    repeat ((conv => whnf); first | refine known false rfl ?_ | refine known true rfl ?_)
    conv => whnf
    refine ⟨k + 1, h1, by dsimp only; omega, ?_⟩
    refine ⟨rfl, ?_, ?_⟩ <;> repeat' (first | exact trivial | exact rfl | refine and_rfl ?_ | refine and_val (wrap_succ (by omega)) ?_ | refine and_val (by rw [ht]; omega) ?_ | refine and_two ?_ ?_)
  · have h2 : R[k].tn ≠ t := (ne_spec h2).1 rfl
    conv => whnf
    refine at_rd (idx_rg rfl rfl rfl rfl ⟨by omega, by simp; omega⟩) ?_
    conv => whnf
    refine at_rd (ld_tn (j := k) rfl rfl rfl h1) ?_
    conv => whnf
    refine mcall (T := TT) (φ := []) (x_weighed q tu W R R[k].tn hW) ?_
    rcases idxW_spec W R[k].tn 0 with ⟨h3, h4⟩ | ⟨p, n, h3, h4, h5, h6⟩
    · rw [h3, if_neg (by simp [h2])] at ht
      rw [h4]
      repeat ((conv => whnf); first | refine known false rfl ?_ | refine known true rfl ?_)
      conv => whnf
      refine ⟨k + 1, h1, by dsimp only; omega, ?_⟩
      refine ⟨rfl, ?_, ?_⟩ <;> repeat' (first | exact trivial | exact rfl | refine and_rfl ?_ | refine and_val (wrap_succ (by omega)) ?_ | refine and_val (by rw [wrap_in (by omega), ht]; omega) ?_ | refine and_two ?_ ?_)
    · rw [h3, if_pos (by simp)] at ht
      rw [h4]
      conv => whnf
      refine known false (by simp) ?_
      repeat ((conv => whnf); first | refine known false rfl ?_ | refine known true rfl ?_)
      conv => whnf
      refine ⟨k + 1, h1, by dsimp only; omega, ?_⟩
      refine ⟨rfl, ?_, ?_⟩ <;> repeat' (first | exact trivial | exact rfl | refine and_rfl ?_ | refine and_val (wrap_succ (by omega)) ?_ | refine and_val (by rw [ht]; omega) ?_ | refine and_two ?_ ?_)
set_option maxRecDepth 100000 in
set_option maxHeartbeats 4000000 in
theorem x_share (q : Int) (hq : 0 < q ∧ q ≤ 1000000) (tu : Bool) (W : List (ByteArray × Int)) (R : List Ac) (t : ByteArray) (hW : W.length ≤ 1099511627776) (hn : ∀ x ∈ W, 1 ≤ x.2 ∧ x.2 ≤ 1000) :
    MCallsG true Try.prog 44 [.bx 0 0, str t] (rM q tu W R) (int (shareOf ⟨q, W, R, tu⟩ t)) (rM q tu W R) := by
  refine msxx [(39, false)] Try.func44 (by kernel_rfl) (by kernel_rfl) (by rfl) ?_
  conv => whnf
  refine mcall (T := TT) (φ := []) (x_weighed q tu W R t hW) ?_
  rcases idxW_spec W t 0 with ⟨h3, h4⟩ | ⟨p, n, h3, h4, h5, h6⟩
  · rw [h4]
    conv => whnf
    refine known true rfl ?_
    exact ⟨⟨rfl, rfl, fin_int (by simp [shareOf, h3])⟩, rfl⟩
  · rw [h4, Nat.zero_add]
    have h7 := hn _ (List.mem_of_getElem? h5)
    obtain ⟨hp, h8⟩ := List.getElem?_eq_some_iff.1 h5
    conv => whnf
    refine known false (by simp) ?_
    conv => whnf
    refine ⟨none, by kernel_rfl, ?_⟩
    conv => whnf
    refine ⟨by omega, by simp; omega, ?_⟩
    conv => whnf
    refine ⟨_, get_map wD hp, ?_⟩
    have e : IntKind.i64.wrap (q * n) = q * n := by
      have h1 : q * n ≤ 1000000 * 1000 := Int.mul_le_mul (by omega) (by omega) (by omega) (by omega)
      have h2 : 0 ≤ q * n := Int.mul_nonneg (by omega) (by omega)
      exact wrap_in (by omega)
    refine ⟨⟨rfl, rfl, fin_int ?_⟩, rfl⟩
    rw [h8]
    simp only [shareOf, h3]
    exact e
end Go.Proofs.Ytmlednjhemnncaa
