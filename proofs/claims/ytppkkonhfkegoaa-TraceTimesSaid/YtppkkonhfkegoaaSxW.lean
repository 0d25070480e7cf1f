/-
  A reader of code over states that name their own memory: functions that are lent memory of their caller's: the call.
-/
import Derived.Test.YtppkkonhfkegoaaSxV
namespace Go.Proofs.Ytppkkonhfkegoaa
open Go.RowKit

def verOf (st : Bool) (m : List (Option Bk)) (n : Nat) : Nat := match m[n]? with
  | some (some (.row k _ _ _ _)) => (match st with | true => k | false => k + 1)
  | _ => 0

/-- As the caller sees it again. -/
def V.co1 (st : Bool) (ρ : List Nat) (m : List (Option Bk)) (g : Bool) : V → V
  | .bx i o => match ρ[i]? with
    | some n => .bx n o
    | none => .un
  | .ow i k => match ρ[i]?, k with
    | some n, 0 => .ow n (verOf st m n)
    | _, _ => .un
  | .cv v => .cv v
  | .kb b => .cv (.bool b)
  | .sl f sz xs => .sl (f || g) sz xs
  | .el f cells o => .el (f || g) cells o
  | _ => .un

def V.co2 (st : Bool) (ρ : List Nat) (m : List (Option Bk)) (g : Bool) : V → V
  | .ag cs => .ag (cs.map (V.co1 st ρ m g))
  | .fn f n cs => .fn f n (cs.map (V.co1 st ρ m g))
  | v => v.co1 st ρ m g

def V.co3 (st : Bool) (ρ : List Nat) (m : List (Option Bk)) (g : Bool) : V → V
  | .tu cs => .tu (cs.map (V.co2 st ρ m g))
  | v => v.co2 st ρ m g

def Bk.co (st : Bool) (ρ : List Nat) (m : List (Option Bk)) (g : Bool) (n : Nat) : Bk → Bk
  | .box cs => .box (cs.map (V.co2 st ρ m g))
  | .row _ E sz f xs => .row (verOf st m n) E sz (f || g) xs

def putM (F : Nat → Bk → Bk) : List Nat → List Bk → List (Option Bk) → List (Option Bk)
  | n :: l, b :: bs, m => putM F l bs (m.set n (some (F n b)))
  | _, _, m => m

def freeB (m : List (Option Bk)) : List Nat → Bool
  | [] => true
  | n :: l => match m[n]? with
    | some none => freeB m l
    | _ => false

/-- Rows stay rows. -/
def kindB (m : List (Option Bk)) : List Nat → List Bk → Bool
  | [], _ => true
  | n :: l, b :: bs => match m[n]?, b with
    | some (some (.row ..)), .box _ => false
    | _, _ => kindB m l bs
  | _ :: _, [] => false

def calleeV (E : Operand → V) (c : Call) : Option (FuncId × List V × List V) :=
  match c.callee with
  | .value (.func f) => some (f, [], [])
  | .value (.tmp t) => match E (.tmp t) with
    | .cv (.func (.func f) fst cap) => some (f, fst.toList.map .cv, cap.toList.map .cv)
    | .fn f n cs => some (f, cs.take n, cs.drop n)
    | _ => none
  | _ => none

def zA (T : Tab) (E : Operand → V) : List Operand → List TypeId → List V
  | [], _ => []
  | x :: l, ty :: tys => (E x).z (czs T 5 ty) :: zA T E l tys
  | x :: l, [] => E x :: zA T E l []

section
variable {P : Program} {T : Tab} {B : Fr} {w0 : World} {N : Names} {S : Sets} {t t' : List V} {m m' : List (Option Bk)} {a : Act} {w : World} {ρ : List Nat}

theorem idx_of : ∀ {l : List Nat}, distinctB l = true → ∀ {k n : Nat} (i : Nat), l[k]? = some n → idx l n i = some (i + k)
  | [], _, k, n, i, h => by simp at h
  | b :: l, hd, k, n, i, h => by
    simp only [idx]
    cases k with
    | zero =>
      simp at h; subst h
      have : Nat.beq b b = true := by simp
      rw [this]; rfl
    | succ k =>
      have hne : b ≠ n := by
        rintro rfl
        have := distinctB_spec hd 0 (k + 1) b (by simp) h
        omega
      have : Nat.beq b n = false := by
        cases hb : Nat.beq b n with
        | true => exact absurd (Nat.eq_of_beq_eq_true hb) hne
        | false => rfl
      rw [this]
      simp only [distinctB] at hd
      split at hd
      · cases hd
      · show idx l n (i + 1) = some (i + (k + 1))
        rw [idx_of hd (i + 1) (by simpa using h)]; congr 1; omega

theorem freeB_spec : ∀ {l : List Nat}, freeB m l = true → ∀ n ∈ l, m[n]? = some none
  | [], _, n, h => by cases h
  | b :: l, hf, n, h => by
    simp only [freeB] at hf
    split at hf
    · rename_i hb
      rcases List.mem_cons.1 h with rfl | h
      · exact hb
      · exact freeB_spec hf n h
    · cases hf

theorem kindB_spec : ∀ {l : List Nat} {bs : List Bk}, kindB m l bs = true → ∀ (i n k E sz : Nat) (f : Bool) (xs : List (List D)) (cs : List V), l[i]? = some n → m[n]? = some (some (.row k E sz f xs)) → bs[i]? = some (.box cs) → False
  | [], bs, _, i, n, k, E, sz, f, xs, cs, h, _, _ => by simp at h
  | b :: l, [], h, i, n, k, E, sz, f, xs, cs, h1, _, _ => by simp [kindB] at h
  | b :: l, c :: bs, h, i, n, k, E, sz, f, xs, cs, h1, h2, h3 => by
    simp only [kindB] at h
    cases i with
    | zero =>
      simp at h1 h3; subst h1 h3
      rw [h2] at h; simp at h
    | succ i =>
      split at h
      · cases h
      · exact kindB_spec h i n k E sz f xs cs (by simpa using h1) h2 (by simpa using h3)

theorem putM_get {F : Nat → Bk → Bk} : ∀ {l : List Nat} {bs : List Bk} {m : List (Option Bk)}, distinctB l = true → (∀ n ∈ l, n < m.length) → l.length = bs.length →
    (∀ (i n : Nat) (b : Bk), l[i]? = some n → bs[i]? = some b → (putM F l bs m)[n]? = some (some (F n b))) ∧ (∀ n, n ∉ l → (putM F l bs m)[n]? = m[n]?)
  | [], bs, m, _, _, _ => ⟨fun i n b h => by simp at h, fun n _ => rfl⟩
  | c :: l, [], m, _, _, h => by simp at h
  | c :: l, b :: bs, m, hd, hl, hn => by
    have hd' : has l c = false ∧ distinctB l = true := by
      simp only [distinctB] at hd
      split at hd
      · cases hd
      · rename_i h; exact ⟨h, hd⟩
    obtain ⟨h1, h2⟩ := putM_get (F := F) (l := l) (bs := bs) (m := m.set c (some (F c b))) hd'.2 (fun n hn => by simpa using hl n (by simp [hn])) (by simpa using hn)
    have hc := has_spec hd'.1
    refine ⟨fun i n b' hi hb => ?_, fun n hn' => ?_⟩
    · cases i with
      | zero =>
        simp at hi hb; subst hi hb
        simp only [putM]
        rw [h2 c hc, List.getElem?_set_self (hl c (by simp))]
      | succ i => exact h1 i n b' (by simpa using hi) (by simpa using hb)
    · simp only [List.mem_cons, not_or] at hn'
      simp only [putM]
      rw [h2 n hn'.2, List.getElem?_set_ne (Ne.symm hn'.1)]

theorem relL_app {N : Names} {S : Sets} {v1 v2 : List V} {u1 u2 : List Value} (h1 : RelL N S w v1 u1) (h2 : RelL N S w v2 u2) : RelL N S w (v1 ++ v2) (u1 ++ u2) := by
  refine ⟨by simp [h1.1, h2.1], fun i v hv => ?_⟩
  rw [List.getElem?_append] at hv
  rw [List.getD_eq_getElem?_getD, List.getElem?_append, ← h1.1]
  split at hv
  · rename_i hlt
    rw [if_pos hlt, ← List.getD_eq_getElem?_getD]; exact h1.2 i v hv
  · rename_i hlt
    rw [if_neg hlt, ← List.getD_eq_getElem?_getD]; exact h2.2 _ v hv

theorem zA_rel {E : Operand → V} : ∀ {l : List Operand} (tys : List TypeId), (∀ x ∈ l, RelV N S w (E x) (a.eval x)) → RelL N S w (zA T E l tys) (l.map a.eval)
  | [], tys, _ => ⟨by cases tys <;> rfl, fun i v hv => by cases tys <;> simp [zA] at hv⟩
  | x :: l, [], h => relV_cons (h x (by simp)) (zA_rel [] fun y hy => h y (by simp [hy]))
  | x :: l, ty :: tys, h => relV_cons (z_rel _ (h x (by simp))) (zA_rel tys fun y hy => h y (by simp [hy]))

/-- The call itself. -/
theorem run_call {o : Oper} {c : Call} {E : Operand → V} {f : FuncId} {pre post : List V} (ho : o.op = .call c) (hc : calleeV E c = some (f, pre, post)) (hx : ∀ x ∈ o.op.operands.toList, RelV N S w (E x) (a.eval x))
    (hF : ∃ fn, P.funcs[f]? = some fn ∧ (fn.name == "runtime.NumGoroutine") = false ∧ fn.body.isNone = false) :
    ∃ us : List Value, RelL N S w (pre ++ zA T E c.args.toList c.argTypes.toList ++ post) us ∧ ∀ R : Value → World → Prop, (Calls P f us.toArray w fun e w' => ∃ v, e = .returned v ∧ R v w') → OpOk P o a w R := by
  obtain ⟨fn, hf, hn, hb⟩ := hF
  have hn' : ¬ fn.name = "runtime.NumGoroutine" := by simpa using hn
  have hb' : ¬ fn.body = none := by intro e; rw [e] at hb; cases hb
  rw [ho] at hx
  have hargs : RelL N S w (zA T E c.args.toList c.argTypes.toList) (c.args.toList.map a.eval) := zA_rel _ fun x hx' => hx x (by simp [Op.operands, Call.operands]; exact .inr (by simpa using hx'))
  unfold calleeV at hc
  split at hc
  · rename_i f' hcal
    cases hc
    refine ⟨c.args.toList.map a.eval, by simpa using hargs, fun R h => ?_⟩
    have e : (c.args.toList.map a.eval).toArray = c.args.map a.eval := by apply Array.ext'; simp
    rw [e] at h
    refine opOk_enter (f := f) (args := c.args.map a.eval) ?_ h
    unfold execOp
    simp only [ho]
    simp [resolve, hcal, Act.eval, Deferred.ofValue, invoke, callFunc, hf, hn', hb']
  · rename_i i hcal
    have hv := hx (.tmp i) (by simp [Op.operands, Call.operands, hcal])
    have fin : ∀ (fst cap : Array Value), a.eval (.tmp i) = .func (.func f) fst cap → RelL N S w pre fst.toList → RelL N S w post cap.toList →
        ∃ us : List Value, RelL N S w (pre ++ zA T E c.args.toList c.argTypes.toList ++ post) us ∧ ∀ R : Value → World → Prop, (Calls P f us.toArray w fun e w' => ∃ v, e = .returned v ∧ R v w') → OpOk P o a w R := by
      intro fst cap hu h1 h2
      refine ⟨fst.toList ++ c.args.toList.map a.eval ++ cap.toList, relL_app (relL_app h1 hargs) h2, fun R h => ?_⟩
      have e : (fst.toList ++ c.args.toList.map a.eval ++ cap.toList).toArray = fst ++ (c.args.map a.eval ++ cap) := by
        apply Array.ext'; simp
      rw [e] at h
      refine opOk_enter (f := f) (args := fst ++ (c.args.map a.eval ++ cap)) ?_ h
      unfold execOp
      simp only [ho]
      simp [resolve, hcal, hu, Deferred.ofValue, invoke, callFunc, hf, hn', hb']
    generalize hE : E (.tmp i) = v at hv hc
    generalize hu : a.eval (.tmp i) = u at hv
    split at hc
    · cases hc
      cases hv
      have hcv : ∀ (xs : Array Value), RelL N S w (xs.toList.map .cv) xs.toList := fun xs => ⟨by simp, fun i v hv => by
        rw [List.getElem?_map, Option.map_eq_some_iff] at hv
        obtain ⟨x, hx, rfl⟩ := hv
        rw [List.getD_eq_getElem?_getD, hx]; exact .cv _⟩
      exact fin _ _ hu (hcv _) (hcv _)
    · cases hc
      cases hv
      rename_i cs us vs hn2 hl hr
      refine fin us vs hu ⟨by simp; omega, fun i v hv => ?_⟩ ⟨by simp; omega, fun i v hv => ?_⟩
      · rw [List.getElem?_take] at hv
        split at hv
        · rename_i hlt
          have := hr i v hv
          rw [getD_toList]
          simpa [Array.getD_eq_getD_getElem?, Array.getElem?_append, show i < us.size by omega] using this
        · cases hv
      · rw [List.getElem?_drop] at hv
        have := hr _ v hv
        rw [getD_toList]
        simpa [Array.getD_eq_getD_getElem?, Array.getElem?_append, hn2, show ¬ (us.size + i < us.size) by omega] using this
    · cases hc
  · cases hc

end
end Go.Proofs.Ytppkkonhfkegoaa
