/- Texts joined by pack.py: XSxCj XSxE2 -/
import Derived.Test.YtmlednjhemnncaaFp22
import Derived.Test.YtmlednjhemnncaaFp14
import Derived.Laws.StructEq
namespace Go.Proofs.Ytmlednjhemnncaa
open Go.RowKit
section
variable {P : Program} {T : Tab} {B : Fr} {w0 : World} {N : Names} {S : Sets} {t : List V} {m : List (Option Bk)} {a : Act} {w : World}
theorem gh_slot {d e k ke E Ee sz sze i : Nat} {fe : Bool} {xs xe : List (List D)} (hi' : t[i]? = some (.ow d k)) (hd : m[d]? = some (some (.row k E sz true xs))) (he : m[e]? = some (some (.row ke Ee sze fe xe))) (hde : d ≠ e) :
    Gh ⟨t, m⟩ ⟨t.set i (.ow e (ke + 1)), (m.set e (some (.row (ke + 1) E sz true xs))).set d (some (.row (k + 1) E sz true []))⟩ := by
  intro B w0 N S a w hs
  obtain ⟨v, us, e1, e2, e3, e4, e5, e6⟩ := hs.blk d _ hd
  obtain ⟨ve, use, d1, d2, d3, d4, d5, d6⟩ := hs.blk e _ he
  obtain ⟨A, c, rfl⟩ := own_parts e2
  obtain ⟨Ae, ce, rfl⟩ := own_parts d2
  have hcell := hs.tmps.2 i _ hi'
  let N' : Names := fun j => if j = e then some (ke + 1, .slice A xs.length c) else if j = d then some (k + 1, .slice none 0 0) else N j
  have hNe : N' e = some (ke + 1, .slice A xs.length c) := by simp [N']
  have hNd : N' d = some (k + 1, .slice none 0 0) := by simp [N', hde]
  have hNo : ∀ j, j ≠ e → j ≠ d → N' j = N j := fun j h1 h2 => by simp [N', h1, h2]
  have hNN : NLe N N' := by
    intro j x v h
    by_cases hj : j = e
    · subst hj
      rw [d1] at h; cases h
      exact .inr (.inl ⟨⟨_, _, _, rfl⟩, _, _, hNe, by omega⟩)
    · by_cases hj' : j = d
      · subst hj'
        rw [e1] at h; cases h
        exact .inr (.inl ⟨⟨_, _, _, rfl⟩, _, _, hNd, by omega⟩)
      · exact .inl ((hNo j hj hj').trans h)
  have hnil : ∀ g, ¬ At (.slice none 0 0) g := fun g hg => by simp [At, at1] at hg
  have hdl := lt_of_get hd
  have hel := lt_of_get he
  obtain ⟨main1, main2⟩ := hs.chg (w' := w) (N' := N') (m' := (m.set e (some (.row (ke + 1) E sz true xs))).set d (some (.row (k + 1) E sz true []))) (fun j => j = e ∨ j = d) hNN
    (fun j hj => by simp only [not_or] at hj; exact hNo j hj.1 hj.2)
    (fun j hj => by simp only [not_or] at hj; rw [List.getElem?_set_ne (Ne.symm hj.2), List.getElem?_set_ne (Ne.symm hj.1)]) hs.low (Nat.le_refl _) (fun _ _ _ => rfl)
    (fun j x v g hj hv hg => by
      rcases hj with rfl | rfl
      · rw [hNe] at hv; cases hv
        exact ⟨(hs.own d _ _ g e1 hg).2, .inr ⟨d, _, _, .inr rfl, e1, hg⟩⟩
      · rw [hNd] at hv; cases hv; exact (hnil g hg).elim)
    (fun j j' x x' v v' g hj hj' hv hv' hg hg' => by
      rcases hj with rfl | rfl <;> rcases hj' with rfl | rfl
      · rfl
      · rw [hNd] at hv'; cases hv'; exact (hnil g hg').elim
      · rw [hNd] at hv; cases hv; exact (hnil g hg).elim
      · rfl)
    (fun j hj hno => by
      rcases hj with rfl | rfl
      · exact absurd (by rw [List.getElem?_set_ne hde, List.getElem?_set_self hel]) (hno _)
      · exact absurd (by rw [List.getElem?_set_self (by simpa using hdl)]) (hno _))
    (fun j og hj hst => by
      obtain ⟨_, x, v1, s1, s2⟩ := hs.stay j og hst
      rcases hj with rfl | rfl
      · exact ⟨_, _, hNe, .inr fun g hg => .inr (e6 rfl g hg)⟩
      · exact ⟨_, _, hNd, .inr fun g hg => (hnil g hg).elim⟩)
    (fun j b' hj hb' hR hD _ => by
      rcases hj with rfl | rfl
      · rw [List.getElem?_set_ne hde, List.getElem?_set_self hel] at hb'
        cases hb'
        exact ⟨_, us, hNe, e2, e3, e4, fun p q x hx => e5 p q x hx, e6⟩
      · rw [List.getElem?_set_self (by simpa using hdl)] at hb'
        cases hb'
        exact ⟨_, [], hNd, ⟨by simp, .inl ⟨rfl, rfl⟩⟩, by simp, e4, fun p q x hx => by simp at hx, fun _ g hg => (hnil g hg).elim⟩)
  refine ⟨N', S, ⟨main1.low, main1.nodef, ⟨by rw [List.length_set]; exact main1.tmps.1, fun j y hy => ?_⟩, main1.blk, main1.non, main1.apart, main1.data, main1.fresh, main1.own, main1.base, main1.old, by simpa using main1.lent, main1.more, by simpa using main1.stay⟩⟩
  rw [List.getElem?_set] at hy
  split at hy
  · rename_i hij
    subst hij
    split at hy
    · cases hy
      generalize a.tmps.toList.getD i undef = u at hcell
      cases hcell with
      | ow _ _ _ h1 h2 =>
        obtain ⟨k1, v1, h3, h4, h5⟩ := h2
        rw [e1] at h3; cases h3
        have h6 := h5 rfl
        exact .ow e (ke + 1) _ h1 ⟨ke + 1, _, hNe, Nat.le_refl _, fun _ => h6⟩
    · cases hy
  · exact main1.tmps.2 j y hy
end
end Go.Proofs.Ytmlednjhemnncaa
namespace Go.Proofs.Ytmlednjhemnncaa
open Go.RowKit
def kindOk (T : Tab) (ty : Nat) (x y : Value) : Bool :=
  match T ty with
  | some ⟨_, _, false, _, .int _⟩ => match x, y with | .int k _, .int k' _ => decide (k = k') | _, _ => false
  | some ⟨_, _, false, _, .string⟩ => match x, y with | .string _, .string _ => true | _, _ => false
  | some ⟨_, _, false, _, .bool⟩ => match x, y with | .bool _, .bool _ => true | _, _ => false
  | _ => false
def eqPl : List Value → List Value → Bool
  | .int _ a :: xs, .int _ b :: ys => (a == b) && eqPl xs ys
  | .string a :: xs, .string b :: ys => (a.toList == b.toList) && eqPl xs ys
  | .bool a :: xs, .bool b :: ys => (a == b) && eqPl xs ys
  | _, _ => true
def okPl (T : Tab) : List (String × Nat × Nat) → Nat → List Value → List Value → Bool
  | [], _, [], [] => true
  | (n, ty, o) :: sp, off, x :: xs, y :: ys => n != "_" && (o == off && (kindOk T ty x y && okPl T sp (off + 1) xs ys))
  | _, _, _, _ => false
theorem dropE_cons {α : Type} {xs : List α} {off : Nat} {x : α} {l : List α} (h : xs.drop off = x :: l) : xs[off]? = some x ∧ xs.drop (off + 1) = l := by
  constructor
  · have := List.getElem?_drop (xs := xs) (i := off) (j := 0)
    rw [h] at this; simpa using this.symm
  · rw [← List.drop_drop, h]; rfl
theorem eqFields_run {P : Program} {T : Tab} (hT : TOk P T) (w : World) (d : Nat) (xs ys : Array Value) : ∀ (fs : List Field) (sp : List (String × Nat × Nat)) (off : Nat) (l1 l2 : List Value), fs.map (fun f => (f.name, f.type, f.offset)) = sp →
    xs.toList.drop off = l1 → ys.toList.drop off = l2 → okPl T sp off l1 l2 = true → (Op.eqFields (d + 1) xs ys fs).run P w = .ok (eqPl l1 l2) w := by
  intro fs
  induction fs with
  | nil =>
    intro sp off l1 l2 hsp h1 h2 hok
    subst hsp
    cases l1 <;> cases l2 <;> first | (cases hok; done) | simp [Op.eqFields, eqPl]
  | cons f fs ih =>
    intro sp off l1 l2 hsp h1 h2 hok
    subst hsp
    cases l1 with
    | nil => cases hok
    | cons x l1 =>
      cases l2 with
      | nil => cases hok
      | cons y l2 =>
        simp only [List.map_cons, okPl, Bool.and_eq_true, beq_iff_eq] at hok
        obtain ⟨hn, ho, hk, hrest⟩ := hok
        obtain ⟨hx, hx'⟩ := dropE_cons h1
        obtain ⟨hy, hy'⟩ := dropE_cons h2
        have hr := ih _ (off + 1) l1 l2 rfl hx' hy' hrest
        have hn' : f.name ≠ "_" := by simpa using hn
        have step : ∀ (r : Bool), (part f.type xs f.offset).run P w = .ok x w → (part f.type ys f.offset).run P w = .ok y w → (Op.equalIn (d + 1) f.type x y).run P w = .ok r w → (Op.eqFields (d + 1) xs ys (f :: fs)).run P w = .ok (r && eqPl l1 l2) w := by
          intro r p1 p2 p3
          simp only [Op.eqFields, hn', ne_eq, not_false_eq_true, if_true, Sem.run_bind, p1, p2, p3, Result.andThen_ok, Sem.run_ite]
          cases r
          · simp
          · simp [hr]
        have part : ∀ {i : TI} {zs : Array Value} {z : Value}, T f.type = some i → i.agg = false → zs.toList[off]? = some z → (part f.type zs f.offset).run P w = .ok z w := by
          intro i zs z hi hag hz
          rw [Array.getElem?_toList] at hz
          simp [Go.part, hT.agg hi, hag, ho, hz]
        unfold kindOk at hk
        split at hk
        · rename_i hti
          cases x <;> cases y <;> simp only at hk <;> try (cases hk; done)
          simp only [decide_eq_true_eq] at hk
          subst hk
          exact step _ (part hti rfl hx) (part hti rfl hy) (run_equalIn_int w d f.type _ _ _ _ (hT.kd_int hti rfl))
        · rename_i hti
          cases x <;> cases y <;> simp only at hk <;> try (cases hk; done)
          exact step _ (part hti rfl hx) (part hti rfl hy) (run_equalIn_string w d f.type _ _ (hT.kd_string hti rfl))
        · rename_i hti
          cases x <;> cases y <;> simp only at hk <;> try (cases hk; done)
          exact step _ (part hti rfl hx) (part hti rfl hy) (run_equalIn_bool' w d f.type _ _ (hT.kd_bool hti rfl))
        · cases hk
theorem eq_cells {w : World} {cs : List V} {us : Array Value} (h : RelV (fun _ => none) (fun _ _ => False) w (.ag cs) (.agg us)) {ws : List Value} (hv : valsL cs = some ws) : us = ws.toArray := by
  have := val2_eq h (u' := .agg ws.toArray) (by simp [V.val2, hv])
  cases this; rfl
theorem eq_ok {ty : Nat} {xs ys : List V} {us vs : List Value} {sp : List (String × Nat × Nat)} (hx : valsL xs = some us) (hy : valsL ys = some vs) (ht : Try.prog.underlying ty = some (.struct (Try.prog.fieldsOf ty))) (hp : Try.prog.stoodInHeld ty = false) (hg : Try.prog.eqGuardType Try.prog.depth ty = false)
    (hf : (Try.prog.fieldsOf ty).toList.map (fun f => (f.name, f.type, f.offset)) = sp) (hok : okPl TT sp 0 us vs = true) : EqOk Try.prog ty xs ys (eqPl us vs) := by
  intro w us' vs' hu hv
  have e1 := eq_cells hu hx
  have e2 := eq_cells hv hy
  subst e1 e2
  refine ⟨?_, hg⟩
  rw [Op.equal, show Op.maxDepth = 9998 + 1 + 1 from rfl, run_equalIn_agg w (9998 + 1) ty _ _ ht hp]
  exact eqFields_run tok w 9998 _ _ _ sp 0 us vs hf rfl rfl hok
end Go.Proofs.Ytmlednjhemnncaa
