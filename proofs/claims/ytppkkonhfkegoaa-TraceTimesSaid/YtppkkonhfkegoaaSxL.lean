/-
  A reader of code over states that name their own memory: a region that draws its order may be read in the text's order.
-/
import Derived.Test.YtppkkonhfkegoaaSxK
import Derived.Still
namespace Go.Proofs.Ytppkkonhfkegoaa
open Go.RowKit

section
variable {P : Program} {T : Tab} {m : List (Option Bk)}

theorem buildV_congr {fs : List (Nat × Nat)} {E E' : Operand → V} (ps : List (Nat × Operand)) : ∀ (cs : List V) (K : List V → Prop), (∀ p ∈ ps, E p.2 = E' p.2) → buildV fs T E cs ps K = buildV fs T E' cs ps K := by
  induction ps with
  | nil => intro cs K _; rfl
  | cons p ps ih =>
    intro cs K h
    obtain ⟨i, x⟩ := p
    have h1 : E x = E' x := h (i, x) (by simp)
    have h2 : ∀ cs K, buildV fs T E cs ps K = buildV fs T E' cs ps K := fun cs K => ih cs K fun p hp => h p (by simp [hp])
    simp only [buildV, h1, h2]

theorem elemsD_congr {sz : Nat} {E E' : Operand → V} (ps : List (Nat × Operand)) : ∀ (xs : List (List D)) (f : Bool) (K : List (List D) → Bool → Prop), (∀ p ∈ ps, E p.2 = E' p.2) → elemsD sz E xs f ps K = elemsD sz E' xs f ps K := by
  induction ps with
  | nil => intro cs f K _; rfl
  | cons p ps ih =>
    intro cs f K h
    obtain ⟨i, x⟩ := p
    have h1 : E x = E' x := h (i, x) (by simp)
    have h2 : ∀ cs f K, elemsD sz E cs f ps K = elemsD sz E' cs f ps K := fun cs f K => ih cs f K fun p hp => h p (by simp [hp])
    simp only [elemsD, h1, h2]

theorem passL_congr {E E' : Operand → V} (l : List Operand) : ∀ (tys : List TypeId) (K : List V → Prop), (∀ x ∈ l, E x = E' x) → passL T m l tys E K = passL T m l tys E' K := by
  induction l with
  | nil => intro tys K _; rfl
  | cons x l ih =>
    intro tys K h
    have h1 := h x (by simp)
    have h2 : ∀ tys K, passL T m l tys E K = passL T m l tys E' K := fun tys K => ih tys K fun y hy => h y (by simp [hy])
    cases tys <;> simp only [passL, h1, h2]

theorem optInt_congr {E E' : Operand → V} {d : Int} {x : Option Operand} (h : ∀ y, x = some y → E y = E' y) : optInt E d x = optInt E' d x := by
  cases x with
  | none => rfl
  | some y => simp only [optInt, h y rfl]

theorem opTr_congr {o : Oper} {E E' : Operand → V} {v : V} {m' : List (Option Bk)} (h : ∀ x, x ∈ o.op.operands.toList → E x = E' x) : OpTr P o E m v m' = OpTr P o E' m v m' := by
  have key : ∀ {E E' : Operand → V}, (∀ x, x ∈ o.op.operands.toList → E x = E' x) → OpTr P o E m v m' → OpTr P o E' m v m' := fun h ht B w0 N S t a w hs hx =>
    ht B w0 N S t a w hs fun x hm => by rw [h x hm]; exact hx x hm
  exact propext ⟨key h, key fun x hx => (h x hx).symm⟩

theorem consts_congr {E E' : Operand → V} : ∀ (l : List Operand), (∀ x ∈ l, E x = E' x) → consts E l = consts E' l
  | [], _ => rfl
  | x :: l, h => by simp only [consts, h x (by simp), consts_congr l fun y hy => h y (by simp [hy])]

set_option maxHeartbeats 1000000 in
theorem aCore_congr {o : Oper} {E E' : Operand → V} {K : V → List (Option Bk) → Prop} (h : ∀ x, x ∈ o.op.operands.toList → E x = E' x) : aCore P T o E m K = aCore P T o E' m K := by
  have hext : ∀ v m', OpTr P o E m v m' = OpTr P o E' m v m' := fun v m' => opTr_congr h
  unfold aCore
  cases ho : o.op <;> (try simp only []) <;> (rw [ho] at h; simp only [Op.operands] at h) <;> (try simp only [hext]) <;> try rfl
  case move x => rw [h x (by simp)]
  case pick c x y => rw [h c (by simp), h x (by simp), h y (by simp)]
  case assign x => rw [h x (by simp)]
  case box ty x => rw [h x (by simp)]
  case load ty x => rw [h x (by simp)]
  case store ty x y => rw [h x (by simp), h y (by simp)]
  case fieldAddr s x f => rw [h x (by simp)]
  case field s x f => rw [h x (by simp)]
  case indexAddr ty x i => rw [h x (by simp), h i (by simp)]
  case index ty x i => rw [h x (by simp), h i (by simp)]
  case slice ty x lo hi mx =>
    have h1 : ∀ d, optInt E d lo = optInt E' d lo := fun d => optInt_congr fun y hy => h y (by subst hy; simp)
    have h2 : ∀ d, optInt E d hi = optInt E' d hi := fun d => optInt_congr fun y hy => h y (by subst hy; simp)
    rw [h x (by simp)]
    simp only [h1, h2]
  case binOp op ty x y yt => rw [h x (by simp), h y (by simp)]
  case unOp op ty x => rw [h x (by simp)]
  case convert s d x => rw [h x (by simp)]
  case extract x i => rw [h x (by simp)]
  case build ty ps =>
    have h2 : ∀ fs cs K, buildV fs T E cs ps.toList K = buildV fs T E' cs ps.toList K := fun fs cs K => buildV_congr _ _ _ fun p hp => h p.2 (by simp; exact ⟨p.1, by simpa using hp⟩)
    simp only [h2]
  case buildSlice ty n ps =>
    have h2 : ∀ sz xs f K, elemsD sz E xs f ps.toList K = elemsD sz E' xs f ps.toList K := fun sz xs f K => elemsD_congr _ _ _ _ fun p hp => h p.2 (by simp; exact ⟨p.1, by simpa using hp⟩)
    simp only [h2]
  case makeFunc fn fst cap =>
    have ha : ∀ x ∈ fst.toList ++ cap.toList, E x = E' x := fun x hx => h x (by simpa using hx)
    have h1 : (fst.toList ++ cap.toList).map E = (fst.toList ++ cap.toList).map E' := List.map_congr_left ha
    cases fn <;> simp only [consts_congr _ ha, h1] <;> simp only [hext]
  case call c =>
    have ha : ∀ x ∈ c.args.toList, E x = E' x := fun x hx => h x (by simp only [Call.operands, Array.toList_append, List.mem_append]; exact .inr hx)
    have h1 : ∀ K, passL T m c.args.toList c.argTypes.toList E K = passL T m c.args.toList c.argTypes.toList E' K := fun K => passL_congr _ _ K ha
    split
    · simp only [h1, hext]
    · rename_i t hc
      have : E (.tmp t) = E' (.tmp t) := h _ (by simp [Call.operands, hc])
      simp only [this, h1, hext]
    · split
      · rename_i x ty e1 e2
        rw [ha x (by rw [e1]; simp)]
      · rfl
    · split
      · rename_i x y e1
        rw [ha x (by rw [e1]; simp), ha y (by rw [e1]; simp)]
      · rfl
    · split
      · rename_i x y e1
        rw [ha x (by rw [e1]; simp), ha y (by rw [e1]; simp)]
      · rfl
    · split
      · rename_i x y ty ty' e1 e2
        rw [ha x (by rw [e1]; simp), ha y (by rw [e1]; simp)]
      · rfl
    · simp only [hext]

/-- Whatever is asked behind, one thing is yielded. -/
def Det (m : List (Option Bk)) (ne : Bool) (F : (V → List (Option Bk) → Prop) → Prop) : Prop :=
  ∀ K, F K → ∃ v m', (∀ K' : V → List (Option Bk) → Prop, K' v m' → F K') ∧ K v m' ∧ (ne = true → m' = m)

theorem det_ret (m : List (Option Bk)) (ne : Bool) (v : V) : Det m ne fun K => K v m := fun _ h => ⟨v, m, fun _ h => h, h, fun _ => rfl⟩
theorem det_no (m : List (Option Bk)) (ne : Bool) : Det m ne fun _ => False := fun _ h => h.elim
theorem det_and {m : List (Option Bk)} {ne : Bool} {p : Prop} {F : (V → List (Option Bk) → Prop) → Prop} (h : Det m ne F) : Det m ne fun K => p ∧ F K := fun K ⟨hp, hF⟩ =>
  let ⟨v, m', h1, h2, h3⟩ := h K hF; ⟨v, m', fun K' hK => ⟨hp, h1 K' hK⟩, h2, h3⟩
theorem det_ex {m : List (Option Bk)} {ne : Bool} {α : Type} {F : α → (V → List (Option Bk) → Prop) → Prop} (h : ∀ x, Det m ne (F x)) : Det m ne fun K => ∃ x, F x K := fun K ⟨x, hF⟩ =>
  let ⟨v, m', h1, h2, h3⟩ := h x K hF; ⟨v, m', fun K' hK => ⟨x, h1 K' hK⟩, h2, h3⟩
theorem det_ite {m : List (Option Bk)} {ne : Bool} {c : Prop} [Decidable c] {F G : (V → List (Option Bk) → Prop) → Prop} (h : Det m ne F) (h' : Det m ne G) : Det m ne fun K => if c then F K else G K := by
  by_cases hc : c
  · simp only [hc, if_true]; exact h
  · simp only [hc, if_false]; exact h'
theorem det_eff {m m2 : List (Option Bk)} (v : V) : Det m false fun K => K v m2 := fun _ h => ⟨v, m2, fun _ h => h, h, fun h => by cases h⟩

theorem det_loadK {ne : Bool} {i : TI} {cs : List V} {off : Nat} : Det m ne fun K => loadK i cs off fun v => K v m := by
  unfold loadK
  simp only [k_eq]
  refine det_ite (det_ite (det_ret _ _ _) (det_no _ _)) ?_
  cases cs[off]? with
  | none => exact det_no _ _
  | some v => exact det_ret _ _ _

theorem det_newK {dst : Option Tmp} {b : Bk} {v : Nat → V} : Det m false fun K => newK dst b v m K := by
  unfold newK
  cases dst with
  | none => exact det_no _ _
  | some d =>
    simp only [setK_eq]
    rcases m[d]? with _ | _ | b
    · exact det_no _ _
    · exact det_eff _
    · exact det_no _ _

theorem det_buildV {fs : List (Nat × Nat)} {E : Operand → V} (ps : List (Nat × Operand)) : ∀ (cs : List V), Det m true fun K => buildV fs T E cs ps fun cs => K (.ag cs) m := by
  induction ps with
  | nil => intro cs; exact det_ret _ _ _
  | cons p ps ih =>
    intro cs
    obtain ⟨i, x⟩ := p
    simp only [buildV, forceL_eq]
    rcases fs[i]? with _ | ⟨off, ty⟩
    · exact det_no _ _
    dsimp only
    rcases T ty with _ | ti
    · exact det_no _ _
    dsimp only
    generalize ((match E x with | .un => false | _ => true) && (E x).cells.length == ti.size) = c
    cases c
    · exact det_no _ _
    rcases fillV cs off (E x).cells with _ | cs'
    · exact det_no _ _
    · exact ih cs'

theorem det_elemsD {sz : Nat} {E : Operand → V} {F : List (List D) → Bool → (V → List (Option Bk) → Prop) → Prop} (hF : ∀ xs f, Det m false (F xs f)) (ps : List (Nat × Operand)) : ∀ (xs : List (List D)) (f : Bool), Det m false fun K => elemsD sz E xs f ps fun xs f => F xs f K := by
  induction ps with
  | nil => intro xs f; exact hF xs f
  | cons p ps ih =>
    intro xs f
    obtain ⟨i, x⟩ := p
    simp only [elemsD, forceD_eq, setK_eq]
    cases toDs (E x).cells with
    | none => exact det_no _ _
    | some p =>
      obtain ⟨ds, g⟩ := p
      dsimp only
      refine det_ite ?_ (det_no _ _)
      cases f && g <;> exact ih _ _

theorem det_call {ne : Bool} {f : FuncId} {args : List V} : Det m ne fun K => callK P f args m K := by
  unfold callK
  exact det_ex fun res => det_and (by simp only [k_eq]; exact det_ret _ _ _)

theorem det_len {ne : Bool} {v : V} : Det m ne fun K => lenK v m K := by
  unfold lenK
  cases v <;> try exact det_no _ _
  · rename_i v
    split <;> first | exact det_ret _ _ _ | exact det_no _ _ | (rename_i h; cases h)
  · exact det_ret _ _ _
  · rename_i n k
    dsimp only
    rcases m[n]? with _ | _ | _ | _ <;> try exact det_no _ _
    exact det_ite (det_ret _ _ _) (det_no _ _)
  · rename_i n k s lo hi
    dsimp only
    rcases m[n]? with _ | _ | _ | _ <;> try exact det_no _ _
    exact det_ite (det_ret _ _ _) (det_no _ _)

theorem det_binC {ne : Bool} {op : BinOp} {x y : Value} : Det m ne fun K => binC op x y fun v => K (.cv v) m := by
  unfold binC
  split
  · split
    · exact det_no _ _
    · cases op <;> first | exact det_ret _ _ _ | exact det_no _ _ | exact det_and (det_ret _ _ _)
  · cases op <;> first | exact det_ret _ _ _ | exact det_no _ _ | exact det_and (det_ret _ _ _)
  · exact det_no _ _

theorem det_binB {ne : Bool} {op : BinOp} {x y : Bool} : Det m ne fun K => binB op x y fun v => K (.cv v) m := by
  unfold binB
  cases op <;> first | exact det_ret _ _ _ | exact det_no _ _

theorem det_flag {ne f fr : Bool} {ys : List (List D)} {F : Bool → (V → List (Option Bk) → Prop) → Prop} (h : ∀ f, Det m ne (F f)) : Det m ne fun K => flagK f fr ys fun f => F f K := by
  cases f <;> cases fr <;> simp only [flagK] <;> first | exact h _ | exact det_and (h _)

theorem det_ext {o : Oper} {E : Operand → V} : Det m false fun K => ∃ v m', OpTr P o E m v m' ∧ v.k fun v => forceM m' fun m' => K v m' := by
  simp only [k_eq, forceM_eq]
  exact det_ex fun v => det_ex fun m' => det_and (det_eff _)

set_option maxHeartbeats 2000000 in
theorem aCore_det {o : Oper} {E : Operand → V} : Det m (Op.noeff T.fm o.op) fun K => aCore P T o E m K := by
  unfold aCore
  cases ho : o.op <;> simp only [Op.noeff, Op.nomem] <;> (try exact det_no _ _) <;> try exact det_ext
  case move x => exact det_ret _ _ _
  case pick c x y =>
    split
    · rename_i b _
      intro K h
      exact ⟨_, _, fun K' hK b' e => by subst e; exact hK, h b rfl, fun _ => rfl⟩
    · exact det_no _ _
  case assign x => exact det_ret _ _ _
  case alloc ty => split <;> first | exact det_newK | exact det_no _ _
  case box ty x =>
    simp only [forceL_eq]
    split <;> first | exact det_newK | exact det_no _ _
  case load ty x =>
    simp only [forceD_eq]
    split
    · exact det_no _ _
    split
    · split <;> first | exact det_loadK | exact det_no _ _
    · exact det_loadK
    · split
      · exact det_ite (det_ex fun _ => det_and det_loadK) (det_no _ _)
      · exact det_no _ _
    · exact det_no _ _
  case store ty x y =>
    simp only [forceL_eq, setK_eq]
    split
    · exact det_no _ _
    split
    · split
      · refine det_ite ?_ (det_no _ _)
        split <;> first | exact det_eff _ | exact det_no _ _
      · exact det_no _ _
    · split
      · refine det_ite ?_ (det_no _ _)
        split
        · refine det_ite ?_ (det_no _ _)
          split <;> exact det_ex fun _ => det_and (det_and (det_eff _))
        · exact det_no _ _
      · exact det_no _ _
    · exact det_no _ _
  case fieldAddr s x f =>
    split <;> try exact det_no _ _
    split <;> try exact det_no _ _
    split <;> try exact det_no _ _
    refine det_ite (det_no _ _) ?_
    split <;> try first | exact det_ret _ _ _ | exact det_no _ _
    split
    · exact det_ite (det_ret _ _ _) (det_no _ _)
    · exact det_no _ _
  case field s x f =>
    split <;> try exact det_no _ _
    split <;> try exact det_no _ _
    split <;> try exact det_no _ _
    split <;> first | exact det_loadK | exact det_no _ _
  case indexAddr ty x i =>
    simp only [forceD_eq]
    repeat' (first | exact det_no _ _ | exact det_ret _ _ _ | refine det_ite ?_ ?_ | refine det_and ?_ | refine det_ex fun _ => ?_ | split)
  case index ty x i =>
    split <;> try exact det_no _ _
    split
    · exact det_and (det_ex fun _ => det_and (det_ret _ _ _))
    · exact det_no _ _
  case slice ty x lo hi mx =>
    repeat' (first | exact det_no _ _ | exact det_ret _ _ _ | refine det_ite ?_ ?_ | refine det_and ?_ | refine det_ex fun _ => ?_ | split)
  case binOp op ty x y yt =>
    split
    · split <;> first | exact det_binB | exact det_no _ _
    · exact det_binC
    · refine det_ite (det_ex fun _ => det_and ?_) (det_no _ _)
      cases op <;> first | exact det_ret _ _ _ | exact det_no _ _
    · exact det_no _ _
  case unOp op ty x => split <;> first | exact det_ret _ _ _ | exact det_no _ _
  case convert s d x => split <;> first | exact det_ret _ _ _ | exact det_no _ _
  case extract x i =>
    split <;> try exact det_no _ _
    split <;> first | exact det_ret _ _ _ | exact det_no _ _
  case build ty ps =>
    split <;> try exact det_no _ _
    exact det_ite (det_buildV _ _) (det_no _ _)
  case buildSlice ty n ps =>
    split <;> try exact det_no _ _
    split <;> try exact det_no _ _
    exact det_ite (det_no _ _) (det_elemsD (F := fun xs f K => newK o.dst (.row 0 _ _ f xs) (.ow · 0) m K) (fun _ _ => det_newK) _ _ _)
  case call c =>
    cases hc : c.callee <;> (try simp only []) <;> try exact det_ext
    case value f =>
      cases f <;> (try simp only []) <;> try exact det_ext
      · simp only [forceL_eq]
        split
        · split
          · simp only [passL_eq]; exact det_call
          · exact det_ext
        · split
          · simp only [passL_eq]; exact det_call
          · exact det_ext
        · exact det_no _ _
      · rename_i f
        cases hF : T.fm f with
        | none => simp only [passL_eq]; exact det_call
        | some b => exact det_ext
    case builtin b =>
      cases b <;> (try simp only []) <;> try exact det_ext
      case len =>
        split <;> try exact det_no _ _
        split
        · split <;> first | exact det_ret _ _ _ | exact det_no _ _
        · exact det_len
        · exact det_no _ _
      case max =>
        split <;> try exact det_no _ _
        split <;> first | exact det_ret _ _ _ | exact det_no _ _
      case min =>
        split <;> try exact det_no _ _
        split <;> first | exact det_ret _ _ _ | exact det_no _ _
      case append =>
        simp only [setK_eq]
        split <;> try exact det_no _ _
        split <;> try exact det_no _ _
        split <;> try exact det_no _ _
        refine det_ite (det_no _ _) ?_
        split <;> try exact det_no _ _
        split
        · exact det_flag fun _ => det_and det_newK
        · split <;> try exact det_no _ _
          exact det_ite (det_flag fun _ => det_and (det_eff _)) (det_no _ _)
        · exact det_no _ _
  case makeFunc fn fst cap =>
    cases fn <;> simp only [forceL_eq] <;> try exact det_ext
    split
    · exact det_ret _ _ _
    · split <;> first | exact det_ret _ _ _ | exact det_no _ _

/-- What does not look at own blocks. -/
theorem loadK_nomem {i : TI} {cs : List V} {off : Nat} {m m2 : List (Option Bk)} {K : V → List (Option Bk) → Prop} : (loadK i cs off fun v => K v m) = loadK i cs off fun v => (fun v _ => K v m) v m2 := rfl

theorem aCore_nomem {o : Oper} {E : Operand → V} (hn : Op.nomem o.op = true) {m2 : List (Option Bk)} {K : V → List (Option Bk) → Prop} : aCore P T o E m K = aCore P T o E m2 fun v _ => K v m := by
  unfold aCore
  cases ho : o.op <;> rw [ho] at hn <;> simp only [Op.nomem] at hn <;> try (cases hn; done)
  all_goals try rfl
  case makeFunc fn fst cap =>
    cases fn <;> first | rfl | cases hn
  case call c =>
    cases hc : c.callee <;> rw [hc] at hn <;> (try simp only [] at hn) <;> try (cases hn; done)
    case builtin b =>
      cases b <;> simp only [] at hn <;> first | (cases hn; done) | (simp only [hc])

theorem noeff_of_nomem {F : Nat → Option Bool} {op : Op} (h : Op.nomem op = true) : Op.noeff F op = true := by
  cases op <;> (try simp only [Op.nomem] at h) <;> first | (cases h; done) | rfl | skip
  · exact h
  rename_i c
  cases hc : c.callee <;> rw [hc] at h <;> (try simp only [] at h) <;> try (cases h; done)
  rename_i b
  cases b <;> simp only [] at h <;> first | (cases h; done) | (simp [Op.noeff, hc])

end
end Go.Proofs.Ytppkkonhfkegoaa
