/-
  A reader of code over states that name their own memory: what one operation does, part one.
-/
import Derived.Test.YtppkkonhfkegoaaSxC
namespace Go.Proofs.Ytppkkonhfkegoaa
open Go.RowKit

section
variable {P : Program} {T : Tab} {B : Fr} {w0 : World} {N : Names} {S : Sets} {t : List V} {m : List (Option Bk)} {a : Act} {w : World}

/-- Behind an operation that yields u: some state is known. -/
def Post (B : Fr) (w0 : World) (t : List V) (a : Act) (K : V → List (Option Bk) → Prop) (u : Value) (w' : World) : Prop :=
  ∃ N' S' v m', Sat B w0 N' S' t m' a w' ∧ RelV N' S' w' v u ∧ K v m'

theorem opOk_val {o : Oper} {u : Value} {w' : World} {R : Value → World → Prop} (h : (execOp a.eval o).run P w = .ok (.value u) w') (hR : R u w') : OpOk P o a w R := fun Q => by
  unfold Oper.wp; rw [h]; exact ⟨u, rfl, hR⟩
theorem opOk_skip {o : Oper} {w' : World} {R : Value → World → Prop} (h : (execOp a.eval o).run P w = .ok .skip w') (hR : R undef w') : OpOk P o a w R := fun Q => by
  unfold Oper.wp; rw [h]; exact ⟨undef, rfl, hR⟩
theorem opOk_enter {o : Oper} {f : FuncId} {args : Array Value} {R : Value → World → Prop} (h : (execOp a.eval o).run P w = .ok (.enter f args) w)
    (hc : Calls P f args w fun e w' => ∃ v, e = .returned v ∧ R v w') : OpOk P o a w R := fun Q => by
  unfold Oper.wp; rw [h]
  exact hc.mono fun e w' ⟨v, he, hr⟩ => by subst he; exact ⟨v, rfl, hr⟩

theorem Post.same (hs : Sat B w0 N S t m a w) {K : V → List (Option Bk) → Prop} {v : V} {u : Value} (hr : RelV N S w v u) (h : K v m) : Post B w0 t a K u w :=
  ⟨N, S, v, m, hs, hr, h⟩

theorem run_v {s : Sem Value} {u : Value} {w' : World} (h : s.run P w = .ok u w') : (do pure (Next.value (← s)) : Sem Next).run P w = .ok (.value u) w' := by
  simp [h]
theorem run_u {s : Sem Unit} {w' : World} (h : s.run P w = .ok () w') : (do s; pure Next.skip : Sem Next).run P w = .ok .skip w' := by
  simp [h]

theorem TOk.size (hT : TOk P T) {ty : Nat} {i : TI} (ht : T ty = some i) (w : World) : (sizeOf ty).run P w = .ok i.size w := by
  obtain ⟨j, hj, h1, _⟩ := hT.get ty i ht
  simp [sizeOf, typeInfo, hj, h1]
theorem TOk.zero (hT : TOk P T) {ty : Nat} {i : TI} (ht : T ty = some i) : ∃ z : Value, z.cells.toList = i.zero ∧ ∀ w, (zeroValue ty).run P w = .ok z w := by
  obtain ⟨j, hj, _, _, ⟨z, hz, hc⟩, _⟩ := hT.get ty i ht
  exact ⟨z, hc, fun w => by simp [zeroValue, typeInfo, hj, hz]⟩
theorem TOk.und (hT : TOk P T) {ty : Nat} {i : TI} (ht : T ty = some i) : ∃ d, P.underlying ty = some d ∧ kdOf d = i.kd ∧ ∀ w, (underlying ty).run P w = .ok d w := by
  obtain ⟨j, hj, _, _, _, ⟨d, hd, hk⟩, _⟩ := hT.get ty i ht
  exact ⟨d, hd, hk, fun w => by simp [underlying, hd]⟩
theorem TOk.ok (hT : TOk P T) {ty : Nat} {i : TI} (ht : T ty = some i) : (i.agg = match i.kd with | .struct _ | .array _ _ => true | _ => false) ∧ i.zero.length = i.size ∧ ∀ c ∈ i.zero, c.oneCell' = true := by
  obtain ⟨j, hj, _, _, _, _, h⟩ := hT.get ty i ht
  simp only [TI.ok, Bool.and_eq_true, beq_iff_eq, List.all_eq_true] at h
  exact ⟨h.1.1, h.1.2, h.2⟩
theorem TOk.agg (hT : TOk P T) {ty : Nat} {i : TI} (ht : T ty = some i) (w : World) : (isAgg ty).run P w = .ok i.agg w := by
  obtain ⟨d, hd, hk, hr⟩ := hT.und ht
  have hag := (hT.ok ht).1
  rw [← hk] at hag
  rw [hag]
  simp only [isAgg, Sem.run_bind, hr, Result.andThen_ok]
  cases d <;> rfl
theorem TOk.kd_int (hT : TOk P T) {ty : Nat} {i : TI} {k : IntKind} (ht : T ty = some i) (hk : i.kd = .int k) : P.underlying ty = some (.int k) := by
  obtain ⟨d, hd, h, _⟩ := hT.und ht
  rw [hk] at h; cases d <;> simp_all [kdOf]
theorem TOk.kd_bool (hT : TOk P T) {ty : Nat} {i : TI} (ht : T ty = some i) (hk : i.kd = .bool) : P.underlying ty = some .bool := by
  obtain ⟨d, hd, h, _⟩ := hT.und ht
  rw [hk] at h; cases d <;> simp_all [kdOf]
theorem TOk.kd_string (hT : TOk P T) {ty : Nat} {i : TI} (ht : T ty = some i) (hk : i.kd = .string) : P.underlying ty = some .string := by
  obtain ⟨d, hd, h, _⟩ := hT.und ht
  rw [hk] at h; cases d <;> simp_all [kdOf]
theorem TOk.kd_slice (hT : TOk P T) {ty e : Nat} {i : TI} (ht : T ty = some i) (hk : i.kd = .slice e) : P.underlying ty = some (.slice e) := by
  obtain ⟨d, hd, h, _⟩ := hT.und ht
  rw [hk] at h; cases d <;> simp_all [kdOf]
theorem TOk.kd_struct (hT : TOk P T) {ty : Nat} {i : TI} {fs : List (Nat × Nat)} (ht : T ty = some i) (hk : i.kd = .struct fs) : ∃ gs, P.underlying ty = some (.struct gs) ∧ gs.toList.map (fun f => (f.offset, f.type)) = fs := by
  obtain ⟨d, hd, h, _⟩ := hT.und ht
  rw [hk] at h; cases d <;> simp_all [kdOf]

/-- Cells from off on, read. -/
theorem loadK_sound (hT : TOk P T) {ty : Nat} {i : TI} (ht : T ty = some i) {cs : List V} {off g p : Nat} (hc : ∀ j v, cs[j]? = some v → ∃ u, w.cell? ⟨g, p + j, none⟩ = some u ∧ RelV N S w v u)
    {K : V → Prop} (h : loadK i cs off K) : ∃ u v, (loadVar ty ⟨g, p + off, none⟩).run P w = .ok u w ∧ RelV N S w v u ∧ K v := by
  unfold loadK at h
  split at h
  · rename_i hag
    split at h
    · rename_i hle
      rw [k_eq] at h
      let us : List Value := (List.range i.size).map fun j => (w.cell? ⟨g, p + off + j, none⟩).getD undef
      have hcell : ∀ j, j < i.size → ∃ v u, cs[off + j]? = some v ∧ w.cell? ⟨g, p + off + j, none⟩ = some u ∧ RelV N S w v u := by
        intro j hj
        have hlt : off + j < cs.length := by omega
        obtain ⟨u, h1, h2⟩ := hc (off + j) _ (List.getElem?_eq_getElem hlt)
        exact ⟨_, u, List.getElem?_eq_getElem hlt, by rw [Nat.add_assoc]; exact h1, h2⟩
      have hus : ∀ j v, us[j]? = some v → w.cell? ((⟨g, p + off, none⟩ : Addr).add j) = some v := by
        intro j v hv
        have hj : j < i.size := by have := lt_of_get hv; simpa [us] using this
        obtain ⟨_, u, _, h1, _⟩ := hcell j hj
        have : us[j]? = some u := by simp [us, hj, h1]
        rw [this] at hv; cases hv
        rw [add_mk]; exact h1
      have hrun := run_loadCells_list (P := P) w ⟨g, p + off, none⟩ us hus
      have hl : us.length = i.size := by simp [us]
      rw [hl] at hrun
      refine ⟨.agg us.toArray, _, ?_, ?_, h⟩
      · simp [loadVar, hT.agg ht, hag, hT.size ht, hrun]
      · refine .ag _ _ (by simp [hl]; omega) fun j v hv => ?_
        have hj : j < i.size := by have := lt_of_get hv; simp at this; omega
        obtain ⟨v', u, h0, h1, h2⟩ := hcell j hj
        have e1 : v = v' := by
          rw [List.getElem?_take, if_pos hj, List.getElem?_drop, h0] at hv
          cases hv; rfl
        subst e1
        have e2 : us.toArray.getD j undef = u := by simp [Array.getD_eq_getD_getElem?, us, hj, h1]
        rw [e2]; exact h2
    · cases h
  · rename_i hag
    split at h
    · rename_i v hv
      rw [k_eq] at h
      obtain ⟨u, h1, h2⟩ := hc off v hv
      refine ⟨u, v, ?_, h2, h⟩
      simp [loadVar, hT.agg ht, hag, h1]
    · cases h

/-- Cells from off on, written. -/
structure Upd (w w' : World) (g : Nat) (us : Array Value) (ty : TypeId) : Prop where
  os : w'.os = w.os
  tape : w'.tape = w.tape
  output : w'.output = w.output
  size : w'.heap.size = w.heap.size
  new : w'.heap[g]? = some (.cells us ty (0, 0))
  other : ∀ k, k ≠ g → w'.heap[k]? = w.heap[k]?

theorem storeCells_run (ns : List Value) : ∀ (w : World) (g off k : Nat) (ty : TypeId) (us : Array Value), w.heap[g]? = some (.cells us ty (0, 0)) → (∀ v ∈ ns, v.oneCell' = true) → off + k + ns.length ≤ us.size →
    ∃ w' us', (storeCells ⟨g, off, none⟩ ns k).run P w = .ok () w' ∧ Upd w w' g us' ty ∧ us'.size = us.size ∧
      ∀ j, us'.getD j undef = if off + k ≤ j ∧ j < off + k + ns.length then ns.getD (j - (off + k)) undef else us.getD j undef := by
  induction ns with
  | nil =>
    intro w g off k ty us hg _ _
    exact ⟨w, us, by simp [storeCells], ⟨rfl, rfl, rfl, rfl, hg, fun _ _ => rfl⟩, rfl, fun j => by rw [if_neg (by simp only [List.length_nil]; omega)]⟩
  | cons v ns ih =>
    intro w g off k ty us hg h1 hle
    simp only [List.length_cons] at hle
    have hlt : off + k < us.size := by omega
    have hcell : w.cell? ((⟨g, off, none⟩ : Addr).add k) = some us[off + k] := by
      rw [add_mk, cell_of_row w g _ us ty _ hg]; simp [hlt]
    have hfr : w.frozen? ((⟨g, off, none⟩ : Addr).add k) = false := by
      rw [add_mk]; simp [World.frozen?, hg]
    have hst : (store ((⟨g, off, none⟩ : Addr).add k) v).run P w = .ok () (w.setCell ((⟨g, off, none⟩ : Addr).add k) v) := by
      rw [run_store P w _ v _ (h1 v (by simp)), hcell]; simp [hfr]
    have hg1 : (w.setCell ((⟨g, off, none⟩ : Addr).add k) v).heap[g]? = some (.cells (us.setIfInBounds (off + k) v) ty (0, 0)) := by
      rw [add_mk]; simp [World.setCell, Array.getElem?_modify, hg]
    obtain ⟨w', us', hr, hu, hsz, hval⟩ := ih _ g off (k + 1) ty _ hg1 (fun v hv => h1 v (by simp [hv])) (by simp; omega)
    refine ⟨w', us', ?_, ⟨hu.os, hu.tape, hu.output, ?_, hu.new, fun j hj => ?_⟩, by simpa using hsz, fun j => ?_⟩
    · simp [storeCells, hst, hr]
    · rw [hu.size]; simp [World.setCell]
    · rw [hu.other j hj, add_mk]; exact Below.heap_setCell _ _ _ _ hj
    · rw [hval j]
      simp only [List.length_cons]
      by_cases hj : off + k = j
      · subst hj
        rw [if_neg (by omega), if_pos (by omega)]
        simp [Array.getD_eq_getD_getElem?, hlt]
      · by_cases hj2 : off + (k + 1) ≤ j ∧ j < off + (k + 1) + ns.length
        · rw [if_pos hj2, if_pos (by omega)]
          obtain ⟨q, rfl⟩ : ∃ q, j = off + k + 1 + q := ⟨j - (off + k + 1), by omega⟩
          rw [show off + k + 1 + q - (off + (k + 1)) = q by omega, show off + k + 1 + q - (off + k) = q + 1 by omega]
          simp
        · rw [if_neg hj2, if_neg (by omega)]
          simp [Array.getD_eq_getD_getElem?, Array.getElem?_setIfInBounds, hj]

theorem fillV_spec : ∀ (cs : List V) (off : Nat) (us cs' : List V), fillV cs off us = some cs' → off + us.length ≤ cs.length ∧ cs'.length = cs.length ∧
    ∀ j, cs'[j]? = if off ≤ j ∧ j < off + us.length then us[j - off]? else cs[j]?
  | cs, 0, us, cs', h => by
    unfold fillV at h
    split at h
    · rename_i hle
      cases h
      refine ⟨by omega, by simp; omega, fun j => ?_⟩
      by_cases hj : j < us.length
      · rw [List.getElem?_append_left hj, if_pos (by omega)]; rfl
      · rw [List.getElem?_append_right (by omega), List.getElem?_drop, if_neg (by omega)]
        congr 1; omega
    · cases h
  | [], o + 1, us, cs', h => by simp [fillV] at h
  | c :: cs, o + 1, us, cs', h => by
    simp only [fillV, Option.map_eq_some_iff] at h
    obtain ⟨l, hl, rfl⟩ := h
    obtain ⟨h1, h2, h3⟩ := fillV_spec cs o us l hl
    refine ⟨by simp; omega, by simp [h2], fun j => ?_⟩
    cases j with
    | zero => simp
    | succ j =>
      simp only [List.getElem?_cons_succ, h3 j]
      by_cases hj : o ≤ j ∧ j < o + us.length
      · rw [if_pos hj, if_pos (by omega)]; congr 1; omega
      · rw [if_neg hj, if_neg (by omega)]

theorem getD_of_get {us : Array Value} {i : Nat} {u : Value} (h : us.toList[i]? = some u) : us.getD i undef = u := by
  rw [Array.getElem?_toList] at h; simp [Array.getD_eq_getD_getElem?, h]
theorem get_of_lt {us : Array Value} {i : Nat} (h : i < us.size) : us.toList[i]? = some (us.getD i undef) := by
  simp [Array.getD_eq_getD_getElem?, h]

theorem Upd.low {us : Array Value} {g : Nat} {ty : TypeId} {w' : World} (h : Upd w w' g us ty) (hb : Low B.keep B.ref w) (hg : ¬ B.keep g) : Low B.keep B.ref w' :=
  hb.trans ⟨h.os, h.tape, h.output, by rw [h.size]; exact Nat.le_refl _, fun k hk => h.other k (fun e => hg (e ▸ hk))⟩

end
end Go.Proofs.Ytppkkonhfkegoaa
