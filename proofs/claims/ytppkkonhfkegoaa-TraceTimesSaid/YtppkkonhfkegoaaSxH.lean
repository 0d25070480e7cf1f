/-
  A reader of code over states that name their own memory: what one operation does, part five.
-/
import Derived.Test.YtppkkonhfkegoaaSxG
namespace Go.Proofs.Ytppkkonhfkegoaa
open Go.RowKit

section
variable {P : Program} {T : Tab} {B : Fr} {w0 : World} {N : Names} {S : Sets} {t : List V} {m : List (Option Bk)} {a : Act} {w : World}

theorem binC_sound {op : BinOp} {ty : TypeId} {x y : Value} {xo yo : Operand} {K : Value → Prop} (h : binC op x y K) : ∃ v, (do eqGuard op ty xo yo x y; binOp op ty x y).run P w = .ok v w ∧ K v := by
  unfold binC at h
  split at h
  · rename_i k a k' b
    split at h
    · cases h
    rename_i hk
    simp only [decide_eq_true_eq] at hk
    subst hk
    cases op <;> simp only at h <;> try (cases h; done)
    all_goals first
      | exact ⟨_, by simp [eqGuard, binOp, Op.intArith, Op.intCmp], h⟩
      | (obtain ⟨h0, h⟩ := h; exact ⟨_, by simp [eqGuard, binOp, Op.intDiv, h0], h⟩)
  · rename_i a b
    cases op <;> simp only at h <;> try (cases h; done)
    all_goals first
      | exact ⟨_, by simp [eqGuard, binOp, Op.stringOp], h⟩
      | (obtain ⟨h0, h⟩ := h
         refine ⟨_, ?_, h⟩
         have : ¬ (((a.size + b.size : Nat) : Int) > IntKind.i64.max) := by
           have e : IntKind.i64.max = 9223372036854775807 := by decide
           rw [e]; omega
         simp only [eqGuard, binOp, Op.stringOp]
         rw [if_neg this]; simp)
  · cases h

theorem binB_sound {op : BinOp} {ty : TypeId} {x y : Bool} {xo yo : Operand} (hty : P.underlying ty = some .bool) {K : Value → Prop} (h : binB op x y K) : ∃ v, (do eqGuard op ty xo yo (.bool x) (.bool y); binOp op ty (.bool x) (.bool y)).run P w = .ok v w ∧ K v := by
  have heq : (Op.equal ty (.bool x) (.bool y)).run P w = .ok (x == y) w := by
    exact run_equal_bool (P := P) w ty x y hty
  unfold binB at h
  cases op <;> simp only at h <;> try (cases h; done)
  · exact ⟨_, by simp [eqGuard, binOp, heq], h⟩
  · exact ⟨_, by simp [eqGuard, binOp, heq], h⟩

theorem allC_rel {cs : List V} {us : Array Value} (h : RelV N S w (.ag cs) (.agg us)) (hc : allC cs = true) : RelV (fun _ => none) (fun _ _ => False) w (.ag cs) (.agg us) := by
  cases h with
  | ag _ _ hl h =>
    refine .ag _ _ hl fun i v hv => ?_
    have : ∀ (l : List V), allC l = true → ∀ (i : Nat) (v : V), l[i]? = some v → ∃ u, v = .cv u := by
      intro l
      induction l with
      | nil => intro _ i v hv; simp at hv
      | cons y l ih =>
        intro h1 i v hv
        simp only [allC, Bool.and_eq_true] at h1
        cases i with
        | zero => simp at hv; subst hv; cases y <;> simp_all [V.isC]
        | succ i => exact ih h1.2 i v (by simpa using hv)
    obtain ⟨u, rfl⟩ := this cs hc i v hv
    have := h i _ hv
    generalize us.getD i undef = z at this
    cases this; exact .cv _

theorem ok_binOp (hT : TOk P T) (hs : Sat B w0 N S t m a w) {o : Oper} {op : BinOp} {ty yt : Nat} {x y : Operand} (ho : o.op = .binOp op ty x y yt) {K : V → List (Option Bk) → Prop}
    (h : match evN t x, evN t y with
    | .cv (.bool a), .cv (.bool b) => match T ty with
      | some ⟨_, _, _, _, .bool⟩ => binB op a b fun v => K (.cv v) m
      | _ => False
    | .cv a, .cv b => binC op a b fun v => K (.cv v) m
    | .ag cs, .ag ds => if allC cs && allC ds then ∃ t, EqOk P ty cs ds t ∧ (match (generalizing := false) op with
      | .eql => K (.cv (.bool t)) m
      | .neq => K (.cv (.bool !t)) m
      | _ => False) else False
    | _, _ => False) : OpOk P o a w (Post B w0 t a K) := by
  have hx := hs.evN x
  have hy := hs.evN y
  have fin : ∀ {v : Value}, (do eqGuard op ty x y (a.eval x) (a.eval y); binOp op ty (a.eval x) (a.eval y)).run P w = .ok v w → K (.cv v) m → OpOk P o a w (Post B w0 t a K) := by
    intro v hr hK
    refine opOk_val (u := v) (w' := w) ?_ (Post.same hs (.cv _) hK)
    unfold execOp
    simp only [ho]
    exact run_v hr
  split at h
  · rename_i p q hp hq
    rw [hp] at hx; rw [hq] at hy
    generalize hu : a.eval x = u at hx fin
    generalize hv : a.eval y = v at hy fin
    cases hx; cases hy
    split at h
    · rename_i hti
      obtain ⟨v, h1, h2⟩ := binB_sound (hT.kd_bool hti rfl) h
      exact fin h1 h2
    · cases h
  · rename_i p q _ hp hq
    rw [hp] at hx; rw [hq] at hy
    generalize hu : a.eval x = u at hx fin
    generalize hv : a.eval y = v at hy fin
    cases hx; cases hy
    obtain ⟨v, h1, h2⟩ := binC_sound h
    exact fin h1 h2
  · rename_i cs ds hp hq
    rw [hp] at hx; rw [hq] at hy
    generalize hu : a.eval x = u at hx fin
    generalize hv : a.eval y = v at hy fin
    split at h
    rotate_left
    · cases h
    rename_i hc
    simp only [Bool.and_eq_true] at hc
    obtain ⟨tt, h1, h2⟩ := h
    cases hx; cases hy
    rename_i us hl hr vs hl' hr'
    obtain ⟨e1, e2⟩ := h1 w us vs (allC_rel (.ag _ _ hl hr) hc.1) (allC_rel (.ag _ _ hl' hr') hc.2)
    cases op <;> simp only at h2 <;> try (cases h2; done)
    · exact fin (v := .bool tt) (by simp [eqGuard, binOp, e1, e2]) h2
    · exact fin (v := .bool !tt) (by simp [eqGuard, binOp, e1, e2]) h2
  · cases h

theorem ok_unOp (hs : Sat B w0 N S t m a w) {o : Oper} {op : UnOp} {ty : Nat} {x : Operand} (ho : o.op = .unOp op ty x) {K : V → List (Option Bk) → Prop}
    (h : match (generalizing := false) op, evN t x with
    | .not, .cv (.bool b) => K (.cv (.bool !b)) m
    | .neg, .cv (.int k n) => K (.cv (.int k (k.wrap (0 - n)))) m
    | _, _ => False) : OpOk P o a w (Post B w0 t a K) := by
  have hx := hs.evN x
  have fin : ∀ {v : Value}, (Op.unary op (a.eval x)).run P w = .ok v w → K (.cv v) m → OpOk P o a w (Post B w0 t a K) := by
    intro v hr hK
    refine opOk_val (u := v) (w' := w) ?_ (Post.same hs (.cv _) hK)
    unfold execOp
    simp only [ho]
    exact run_v hr
  split at h
  · rename_i b hp
    rw [hp] at hx
    generalize hu : a.eval x = u at hx fin
    cases hx
    exact fin (by simp [Op.unary]) h
  · rename_i k n hp
    rw [hp] at hx
    generalize hu : a.eval x = u at hx fin
    cases hx
    exact fin (by simp [Op.unary, Op.intArith]) h
  · cases h

theorem ok_convert (hT : TOk P T) (hs : Sat B w0 N S t m a w) {o : Oper} {s d : Nat} {x : Operand} (ho : o.op = .convert s d x) {K : V → List (Option Bk) → Prop}
    (h : match T s, T d, evN t x with
    | some _, some ⟨_, _, _, _, .int k⟩, .cv (.int _ n) => K (.cv (.int k (k.wrap n))) m
    | some _, some ⟨_, _, _, _, .string⟩, .cv (.string b) => K (.cv (.string b)) m
    | _, _, _ => False) : OpOk P o a w (Post B w0 t a K) := by
  have hx := hs.evN x
  have fin : ∀ {v : Value}, (convert s d (a.eval x)).run P w = .ok v w → K (.cv v) m → OpOk P o a w (Post B w0 t a K) := by
    intro v hr hK
    refine opOk_val (u := v) (w' := w) ?_ (Post.same hs (.cv _) hK)
    unfold execOp
    simp only [ho]
    exact run_v hr
  split at h
  · rename_i k k' n hsi hdi hp
    rw [hp] at hx
    generalize hu : a.eval x = u at hx fin
    cases hx
    obtain ⟨ds, hds, _⟩ := hT.und hsi
    exact fin (by simp [convert, run_underlying hds, run_underlying (hT.kd_int hdi rfl), Conv.intToInt]) h
  · rename_i b hsi hdi hp
    rw [hp] at hx
    generalize hu : a.eval x = u at hx fin
    cases hx
    obtain ⟨ds, hds, _⟩ := hT.und hsi
    exact fin (by simp [convert, run_underlying hds, run_underlying (hT.kd_string hdi rfl)]) h
  · cases h

theorem ok_extract (hs : Sat B w0 N S t m a w) {o : Oper} {x : Operand} {i : Nat} (ho : o.op = .extract x i) {K : V → List (Option Bk) → Prop}
    (h : match evN t x with
    | .tu vs => match vs[i]? with
      | some v => K v m
      | none => False
    | _ => False) : OpOk P o a w (Post B w0 t a K) := by
  have hx := hs.evN x
  split at h
  rotate_left
  · cases h
  rename_i vs hp
  rw [hp] at hx
  split at h
  rotate_left
  · cases h
  rename_i v hv
  generalize hu : a.eval x = u at hx
  cases hx
  rename_i us hl hr
  have h1 := hr i v hv
  have hlt := lt_of_get hv
  have : us[i]? = some (us.getD i undef) := by simp [Array.getD_eq_getD_getElem?, show i < us.size by omega]
  generalize us.getD i undef = z at this h1
  refine opOk_val (u := z) (w' := w) ?_ (Post.same hs h1 h)
  unfold execOp
  simp only [ho]
  refine run_v ?_
  rw [hu]
  simp [Instr.extract, this]

theorem fold_get (vs : List Value) : ∀ (off k : Nat) (cs : Array Value), ∀ j, ((vs.zipIdx k).foldl (fun cs (p : Value × Nat) => cs.setIfInBounds (off + p.2) p.1) cs).getD j undef =
      (if off + k ≤ j ∧ j < off + k + vs.length ∧ j < cs.size then vs.getD (j - (off + k)) undef else cs.getD j undef) := by
  induction vs with
  | nil => intro off k cs j; rw [if_neg (by simp only [List.length_nil]; omega)]; rfl
  | cons v vs ih =>
    intro off k cs j
    simp only [List.zipIdx_cons, List.foldl_cons]
    rw [ih off (k + 1)]
    simp only [Array.size_setIfInBounds, List.length_cons]
    by_cases hj : off + k = j
    · subst hj
      rw [if_neg (by omega)]
      by_cases hlt : off + k < cs.size
      · rw [if_pos (by omega)]; simp [Array.getD_eq_getD_getElem?, hlt]
      · rw [if_neg (by omega)]; simp [Array.getD_eq_getD_getElem?, hlt]
    · by_cases hj2 : off + (k + 1) ≤ j ∧ j < off + (k + 1) + vs.length ∧ j < cs.size
      · rw [if_pos hj2, if_pos (by omega)]
        obtain ⟨q, rfl⟩ : ∃ q, j = off + k + 1 + q := ⟨j - (off + k + 1), by omega⟩
        rw [show off + k + 1 + q - (off + (k + 1)) = q by omega, show off + k + 1 + q - (off + k) = q + 1 by omega]
        simp
      · rw [if_neg hj2, if_neg (by omega)]
        simp [Array.getD_eq_getD_getElem?, Array.getElem?_setIfInBounds, hj]

theorem fold_size (l : List (Value × Nat)) (off : Nat) : ∀ (cs : Array Value), (l.foldl (fun cs (p : Value × Nat) => cs.setIfInBounds (off + p.2) p.1) cs).size = cs.size := by
  induction l with
  | nil => intro cs; rfl
  | cons p l ih => intro cs; simp only [List.foldl_cons]; rw [ih]; simp

theorem fill_sound (hs : Sat B w0 N S t m a w) {fs : List (Nat × Nat)} {place : Nat → Option (Nat × Nat)} (hpl : ∀ (i off ty : Nat) (ti : TI), fs[i]? = some (off, ty) → T ty = some ti → place i = some (off, ti.size)) (ps : List (Nat × Operand)) :
    ∀ (cs : List V) (us : Array Value), cs.length = us.size → (∀ i v, cs[i]? = some v → RelV N S w v (us.getD i undef)) → ∀ {K : List V → Prop}, buildV fs T (evN t) cs ps K →
      ∃ us' cs', Instr.fill place us (ps.map fun p => (p.1, a.eval p.2)) = some us' ∧ cs'.length = us'.size ∧ (∀ i v, cs'[i]? = some v → RelV N S w v (us'.getD i undef)) ∧ K cs' := by
  induction ps with
  | nil => intro cs us hl hr K h; exact ⟨us, cs, rfl, hl, hr, h⟩
  | cons p ps ih =>
    intro cs us hl hr K h
    obtain ⟨i, x⟩ := p
    simp only [buildV] at h
    split at h
    · cases h
    rename_i off ty hf
    split at h
    · cases h
    rename_i ti hti
    split at h
    rotate_left
    · cases h
    rename_i cs' hb hfv
    rw [forceL_eq] at h
    simp only [Bool.and_eq_true, beq_iff_eq] at hb
    have hne : evN t x ≠ .un := by intro e; rw [e] at hb; cases hb.1
    obtain ⟨c1, c2⟩ := (hs.evN x).cells hne
    obtain ⟨f1, f2, f3⟩ := fillV_spec _ _ _ _ hfv
    have hcond : ((a.eval x).cells.size ≠ ti.size || off + (a.eval x).cells.size > us.size) = false := by
      simp only [Bool.or_eq_false_iff, decide_eq_false_iff_not, ne_eq]
      exact ⟨by omega, by omega⟩
    simp only [List.map_cons, Instr.fill, hpl i off ty ti hf hti, hcond, Bool.false_eq_true, if_false]
    refine ih cs' _ ?_ ?_ h
    · rw [← Array.foldl_toList, Array.toList_zipIdx]
      rw [f2, hl]
      exact (fold_size _ off us).symm
    · intro j v hv
      have hlt := lt_of_get hv
      rw [f3 j] at hv
      have key := fold_get (a.eval x).cells.toList off 0 us j
      rw [← Array.foldl_toList, Array.toList_zipIdx]
      simp only [Nat.add_zero, Array.length_toList, getD_toList] at key
      refine (congrArg (RelV N S w v) key).mpr ?_
      by_cases hj : off ≤ j ∧ j < off + (evN t x).cells.length
      · rw [if_pos hj] at hv
        rw [if_pos (by omega)]
        exact c2 _ _ hv
      · rw [if_neg hj] at hv
        rw [if_neg (by omega)]
        exact hr _ _ hv

theorem ok_build (hT : TOk P T) (hs : Sat B w0 N S t m a w) {o : Oper} {ty : Nat} {ps : Array (Nat × Operand)} (ho : o.op = .build ty ps) {K : V → List (Option Bk) → Prop}
    (h : match T ty with
    | some ⟨_, _, _, zero, .struct fs⟩ => if fs.all (fun f => (T f.2).isSome) then buildV fs T (evN t) (zero.map .cv) ps.toList fun cs => K (.ag cs) m else False
    | _ => False) : OpOk P o a w (Post B w0 t a K) := by
  split at h
  rotate_left
  · cases h
  rename_i size' bytes' agg' zero fs hti
  split at h
  rotate_left
  · cases h
  rename_i hall
  obtain ⟨gs, hgs, hmap⟩ := hT.kd_struct hti rfl
  obtain ⟨j, hj, _, _, ⟨z, hz, hzc⟩, _⟩ := hT.get _ _ hti
  replace hzc : z.cells.toList = zero := hzc
  let places : List (Nat × Nat) := fs.map fun f => (f.1, ((T f.2).map (·.size)).getD 0)
  have hplaces : gs.toList.mapM (fun f => (P.info? f.type).map fun i => (f.offset, i.size)) = some places := by
    have : ∀ (l : List Field) (fs : List (Nat × Nat)), l.map (fun f => (f.offset, f.type)) = fs → fs.all (fun f => (T f.2).isSome) = true →
        l.mapM (fun f => (P.info? f.type).map fun i => (f.offset, i.size)) = some (fs.map fun f => (f.1, ((T f.2).map (·.size)).getD 0)) := by
      intro l
      induction l with
      | nil => intro fs h _; subst h; rfl
      | cons f l ih =>
        intro fs h h2
        subst h
        simp only [List.map_cons, List.all_cons, Bool.and_eq_true] at h2
        obtain ⟨ti, hti⟩ := Option.isSome_iff_exists.1 h2.1
        obtain ⟨j, hj, hsz, _⟩ := hT.get _ _ hti
        simp only [List.mapM_cons, hj, Option.map_some, Option.bind_eq_bind, Option.bind_some, Option.pure_def]
        rw [ih _ rfl h2.2]
        simp [hti, hsz]
    exact this _ _ hmap hall
  have hpl : ∀ (i off ty : Nat) (ti : TI), fs[i]? = some (off, ty) → T ty = some ti → (places.toArray[i]? : Option (Nat × Nat)) = some (off, ti.size) := by
    intro i off ty ti h1 h2
    simp [places, List.getElem?_map, h1, h2]
  obtain ⟨us', cs', h1, h2, h3, h4⟩ := fill_sound hs (place := (places.toArray[·]?)) hpl ps.toList (zero.map .cv) z.cells (by rw [← hzc]; simp) (fun i v hv => by
    rw [← hzc, List.getElem?_map, Option.map_eq_some_iff] at hv
    obtain ⟨u, hu, rfl⟩ := hv
    rw [getD_of_get hu]; exact .cv _) h
  refine opOk_val (u := .agg us') (w' := w) ?_ (Post.same hs (.ag _ _ h2 h3) h4)
  unfold execOp
  simp only [ho]
  refine run_v (run_build w ty _ us' ?_)
  simp only [Program.built, hj, hgs, hz, hplaces]
  rw [← h1]
  simp

end
end Go.Proofs.Ytppkkonhfkegoaa
