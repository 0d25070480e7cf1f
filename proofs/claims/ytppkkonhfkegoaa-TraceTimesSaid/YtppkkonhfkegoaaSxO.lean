/-
  A reader of code over states that name their own memory: functions.
-/
import Derived.Test.YtppkkonhfkegoaaSxN
namespace Go.Proofs.Ytppkkonhfkegoaa
open Go.RowKit

section
variable {P : Program} {T : Tab} {B : Fr} {w0 : World} {N : Names} {S : Sets} {t t' : List V} {m m' : List (Option Bk)} {a : Act} {w : World}

theorem old_rel {v : V} {u : Value} (h : RelV (fun _ => none) (fun _ b => b < w.heap.size) w v u) : RelV (fun _ => none) (fun f b => f = false ∧ b < w.heap.size) w v.old u := by
  have one : ∀ {v : V} {u : Value}, RelV (fun _ => none) (fun _ b => b < w.heap.size) w v u → RelV (fun _ => none) (fun f b => f = false ∧ b < w.heap.size) w v.old1 u := by
    intro v u h
    cases h <;> simp only [V.old1] <;> first | exact .un _ | exact .cv _ | exact .kb _ | skip
    rename_i h
    exact .sl _ _ _ _ (h.mono (fun g hg => ⟨rfl, hg⟩) fun _ _ => rfl)
  unfold V.old
  split
  · rename_i cs
    cases h with
    | ag _ us hl h =>
      refine .ag _ us (by simpa using hl) fun i v hv => ?_
      rw [List.getElem?_map, Option.map_eq_some_iff] at hv
      obtain ⟨v', hv', rfl⟩ := hv
      exact one (h i v' hv')
  · exact one h

/-- The state in which a call begins. -/
theorem sat_enter {args : List V} {vs : List Value} (h : RelL (fun _ => none) (fun _ b => b < w.heap.size) w args vs) (n : Nat) :
    Sat { keep := (· < w.heap.size), old := fun _ => True, lent := fun _ => none, ref := w } w (fun _ => none) (fun f b => f = false ∧ b < w.heap.size) (args.map V.old ++ List.replicate (n - args.length) .un) (List.replicate n none) { tmps := vs.toArray ++ Array.replicate (n - vs.toArray.size) undef, defers := [] } w := by
  refine ⟨Low.refl _ _, rfl, ⟨by simp [h.1], fun i v hv => ?_⟩, ?_, fun _ _ => rfl, ?_, ?_, ?_, ?_, fun _ h => h, fun _ _ => .inr trivial, fun _ _ h => (by cases h), ⟨Nat.le_refl _, fun p h => (by cases h), fun g h => h.elim⟩⟩
  · rw [List.getElem?_append] at hv
    split at hv
    · rename_i hlt
      rw [List.getElem?_map, Option.map_eq_some_iff] at hv
      obtain ⟨v', hv', rfl⟩ := hv
      have := old_rel (h.2 i v' hv')
      have hlt' : i < vs.length := by rw [← h.1]; exact lt_of_get hv'
      have e : (({ tmps := vs.toArray ++ Array.replicate (n - vs.toArray.size) undef, defers := [] } : Act).tmps.toList).getD i undef = vs.getD i undef := by
        simp only [Array.toList_append, List.getD_eq_getElem?_getD]
        rw [List.getElem?_append_left hlt']
      rw [e]; exact this
    · rw [List.getElem?_replicate] at hv
      split at hv
      · cases hv; exact .un _
      · cases hv
  · intro k b hb
    rw [List.getElem?_replicate] at hb
    split at hb <;> cases hb
  · intro j k x y u v g h1; cases h1
  · intro f g hg; exact ⟨hg.2, fun k x v h => by cases h⟩
  · intro g hg; cases hg.1
  · intro k x v g h1; cases h1

theorem row_new (hs : Sat B w0 N S t m a w) {n k E sz : Nat} {xs : List (List D)} (hm : m[n]? = some (some (.row k E sz true xs))) {v : Value} {k' : Nat} (hn : N n = some (k', v)) : ∀ g, atOf v = some g → w0.heap.size ≤ g := by
  obtain ⟨v', us, h1, h2, h3, h4, h5, h6⟩ := hs.blk n _ hm
  rw [hn] at h1; cases h1
  exact h6 rfl

theorem fin_rel (hs : Sat B w0 N S t m a w) {v : V} {u : Value} (h : RelV N S w v u) : RelV (fun _ => none) (fun _ b => w0.heap.size ≤ b ∧ b < w.heap.size) w (v.fin m) u := by
  have hfr : ∀ g, S true g → w0.heap.size ≤ g ∧ g < w.heap.size := fun g hg => ⟨(hs.fresh g hg).2, (hs.data _ g hg).1⟩
  have one : ∀ {v : V} {u : Value}, RelV N S w v u → RelV (fun _ => none) (fun _ b => w0.heap.size ≤ b ∧ b < w.heap.size) w (v.fin1 m) u := by
    intro v u h
    cases h <;> simp only [V.fin1] <;> try exact .un _
    · exact .cv _
    · exact .cv _
    · rename_i f sz xs h
      cases f
      · exact .un _
      · exact .sl _ _ _ _ (h.mono hfr fun _ _ => rfl)
    · rename_i n k hu hn
      obtain ⟨k', v, hn, hk, he⟩ := hn
      split
      · rename_i k2 E sz xs hm
        split
        · rename_i hkk
          subst hkk
          have hb6 := row_new hs hm hn
          obtain ⟨rfl, h1, h2, h3⟩ := row_cells hs hm hn
          have := he rfl
          subst this
          rcases h3 with ⟨rfl, rfl⟩ | ⟨g, cap, us, rfl, h4, h5, _, _, h6⟩
          · exact .sl _ _ _ _ (.nil _ _ _)
          · refine .sl _ _ _ _ (.sl _ _ g 0 cap (fun i j => us.getD (i * sz + j) undef) ⟨hb6 g rfl, (hs.own n _ _ g hn rfl).2⟩ h1 h5 (fun i j d hd => ?_) (fun i j d hd => ?_))
            · obtain ⟨h7, _⟩ := h6 i j d hd
              rw [cell_of_row w g _ us E _ h4]
              simp [Array.getD_eq_getD_getElem?, h7]
            · exact (h6 i j d hd).2.mono hfr fun _ _ => rfl
        · exact .un _
      · exact .un _
    · rename_i n k s lo hi hu hn
      obtain ⟨k', v, hn, hk, he⟩ := hn
      split
      · rename_i k2 E sz xs hm
        split
        · rename_i hkk
          obtain ⟨rfl, rfl⟩ := hkk
          have hb6 := row_new hs hm hn
          obtain ⟨rfl, _⟩ := row_cells hs hm hn
          exact .sl _ _ _ _ (vw_data hs hm hn (he rfl) hfr fun g hg => ⟨hb6 g hg, (hs.own n _ _ g hn hg).2⟩)
        · exact .un _
      · exact .un _
  unfold V.fin
  split
  · rename_i cs
    cases h with
    | ag _ us hl h =>
      refine .ag _ us (by simpa using hl) fun i v hv => ?_
      rw [List.getElem?_map, Option.map_eq_some_iff] at hv
      obtain ⟨v', hv', rfl⟩ := hv
      exact one (h i v' hv')
  · exact one h

def resR (a : Act) : ResultVar → Sem Value
  | .tmp t => pure (a.tmps.getD t undef)
  | .cell a' t => do loadVar t (← asAddr (a.tmps.getD a' undef))

theorem resV_sound (hT : TOk P T) (hs : Sat B w0 N S t m a w) {r : ResultVar} {v : V} (h : resV T t m r = some v) :
    ∃ u, (resR a r).run P w = .ok u w ∧ RelV N S w v u := by
  cases r with
  | tmp i =>
    have h' : t[i]? = some v := h
    have := hs.tmps.2 i v h'
    rw [getD_toList] at this
    exact ⟨_, rfl, this⟩
  | cell i ty =>
    simp only [resV] at h
    split at h
    rotate_left
    · cases h
    rename_i ti n off hti hti2
    have hr := hs.tmps.2 i _ hti2
    rw [getD_toList] at hr
    split at h
    rotate_left
    · cases h
    rename_i cs hm
    simp only [resR]
    generalize a.tmps.getD i undef = z at hr ⊢
    cases hr
    rename_i g hn
    obtain ⟨ty', us, _, _, _, hc⟩ := box_cells hs hm hn
    have hl : loadK ti cs off (· = v) := by
      unfold loadK
      simp only [k_eq]
      split at h
      · rename_i hag
        split at h
        · rename_i hle; cases h; simp [hag, hle]
        · cases h
      · rename_i hag
        simp [hag, h]
    obtain ⟨u, v', h1, h2, rfl⟩ := loadK_sound hT hti hc hl
    rw [Nat.zero_add] at h1
    exact ⟨u, by simp [asAddr, h1], h2⟩

theorem resL_sound (hT : TOk P T) (hs : Sat B w0 N S t m a w) : ∀ (rs : List ResultVar) (tys : List TypeId) {K : List V → Prop}, resL T t m rs tys K →
    ∃ us vs, (rs.mapM (resR a)).run P w = .ok us w ∧ RelL (fun _ => none) (fun _ b => w0.heap.size ≤ b ∧ b < w.heap.size) w vs us ∧ K vs
  | [], _, K, h => ⟨[], [], rfl, ⟨rfl, by simp⟩, by simpa [resL] using h⟩
  | r :: rs, tys, K, h => by
    have key : ∀ {v vf : V} {tys' : List TypeId}, resV T t m r = some v → (∀ u, RelV N S w v u → RelV (fun _ => none) (fun _ b => w0.heap.size ≤ b ∧ b < w.heap.size) w vf u) → (resL T t m rs tys' fun vs => K (vf :: vs)) →
        ∃ us vs, ((r :: rs).mapM (resR a)).run P w = .ok us w ∧ RelL (fun _ => none) (fun _ b => w0.heap.size ≤ b ∧ b < w.heap.size) w vs us ∧ K vs := by
      intro v vf tys' hv hf h
      obtain ⟨u, h1, h2⟩ := resV_sound hT hs hv
      obtain ⟨us, vs, h3, h4, h5⟩ := resL_sound hT hs rs tys' h
      refine ⟨u :: us, vf :: vs, ?_, ⟨by simp [h4.1], fun i v' hv' => ?_⟩, h5⟩
      · rw [List.mapM_cons]
        simp only [Sem.run_bind, h1, h3, Sem.run_pure, Result.andThen_ok]
      · cases i with
        | zero => simp at hv'; subst hv'; exact hf u h2
        | succ i => simpa using h4.2 i v' (by simpa using hv')
    cases tys with
    | nil =>
      simp only [resL] at h
      split at h
      rotate_left
      · cases h
      rename_i v hv
      rw [k_eq] at h
      exact key hv (fun u hu => fin_rel hs hu) h
    | cons ty tys =>
      simp only [resL] at h
      split at h
      rotate_left
      · cases h
      rename_i v hv
      rw [k_eq] at h
      exact key hv (fun u hu => z_rel _ (fin_rel hs hu)) h

/-- A FUNCTION WHOSE BODY HAS BEEN READ. -/
theorem dcalls_of (hT : TOk P T) (hm : P.follows .mixedOrders = true) {f : FuncId} {fn : Func} (hf : P.funcs[f]? = some fn) (hn : (fn.name == "runtime.NumGoroutine") = false) {args : List V} {res : V} (h : Body P T fn args res) : DCalls P f args res := by
  unfold Body at h
  cases hb : fn.body with
  | none => rw [hb] at h; exact h.elim
  | some c =>
    rw [hb] at h
    refine ⟨⟨fn, hf, hn, by rw [hb]; rfl⟩, fun w vs hvs => ?_⟩
    simp only [enterK, forceAll_eq] at h
    refine calls_of_wp hf hb (Go.wp_mono (awp_sound (B := { keep := (· < w.heap.size), old := fun _ => True, lent := fun _ => none, ref := w }) (w0 := w) hT hm rfl c _ _ w ⟨_, _, _, _, sat_enter hvs fn.ntmps, h⟩) ?_)
    have key : ∀ (a : Act) (w' : World), OkSt { keep := (· < w.heap.size), old := fun _ => True, lent := fun _ => none, ref := w } w (resK T fn (fun v => v = res)) a w' → a.defers = [] ∧ ∃ v, (results fn a.tmps).run P w' = .ok v w' ∧
        ∃ v', Ending.returned v = .returned v' ∧ RelV (fun _ => none) (fun _ b => w.heap.size ≤ b ∧ b < w'.heap.size) w' res v' ∧ Below w.heap.size w w' := by
      rintro a w' ⟨N, S, t, m, hs, h⟩
      simp only [resK] at h
      obtain ⟨us, vs, h1, h2, h3⟩ := resL_sound hT hs _ _ h
      have hrun : ∀ v, (if h : us.toArray.size = 1 then us.toArray[0] else .tuple us.toArray) = v → (results fn a.tmps).run P w' = .ok v w' := by
        intro v hv
        unfold results
        rw [Array.mapM_eq_mapM_toList]
        change Sem.run P (do
          let vs ← List.toArray <$> fn.results.toList.mapM (resR a)
          pure (if h : vs.size = 1 then vs[0] else Value.tuple vs)) w' = _
        simp only [Sem.run_bind, Sem.run_map, h1, Result.andThen_ok, Sem.run_pure, hv]
      refine ⟨hs.nodef, ?_⟩
      split at h3
      · rename_i v
        subst h3
        obtain ⟨u, rfl⟩ : ∃ u, us = [u] := by
          have := h2.1
          match us, this with
          | [u], _ => exact ⟨u, rfl⟩
        exact ⟨u, hrun u rfl, u, rfl, by simpa using h2.2 0 v rfl, hs.low.below⟩
      · rename_i hne
        subst h3
        have hsz : us.toArray.size ≠ 1 := by
          intro e
          have : us.length = 1 := by simpa using e
          have h4 := h2.1
          rw [this] at h4
          match vs, h4 with
          | [v], _ => exact hne v rfl
        refine ⟨.tuple us.toArray, hrun _ (by rw [dif_neg hsz]), _, rfl, .tu _ _ (by simpa using h2.1) fun i v hv => ?_, hs.low.below⟩
        have := h2.2 i v hv
        rw [← getD_toList]; simpa using this
    intro e a w' h
    cases e <;> simp only [QK] at h <;> first | exact h.elim | skip
    · exact key a w' h
    · obtain ⟨N, S, t, m, hs, h⟩ := h; exact h.elim
    · exact key a w' h

end
end Go.Proofs.Ytppkkonhfkegoaa
