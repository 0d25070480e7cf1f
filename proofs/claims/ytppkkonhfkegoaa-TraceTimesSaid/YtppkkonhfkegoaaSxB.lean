/-
  A reader of code over states that name their own memory: what is known stays known; the words for a state.
-/
import Derived.Test.YtppkkonhfkegoaaSxA
namespace Go.Proofs.Ytppkkonhfkegoaa
open Go.RowKit

theorem RelD.mono {S S' : Nat → Prop} {w w' : World} (hS : ∀ g, S g → S' g) (hw : ∀ g, S g → w'.heap[g]? = w.heap[g]?) {d : D} {u : Value} (h : RelD S w d u) : RelD S' w' d u := by
  induction h with
  | cv v h1 => exact .cv v h1
  | nil sz A cap => exact .nil sz A cap
  | sl sz xs b o cap u hb hx hcap hc _ ih => exact .sl sz xs b o cap u (hS _ hb) hx hcap (fun i j d h => (World.cell?_of_block (w := w) (hw _ hb)).trans (hc i j d h)) ih

theorem RelD.one {S : Nat → Prop} {w : World} {d : D} {u : Value} (h : RelD S w d u) : u.oneCell' = true := by
  cases h <;> first | assumption | rfl

theorem RelD.flat {S S' : Nat → Prop} {w w' : World} {v u : Value} (h : RelD S w (.cv v) u) : RelD S' w' (.cv v) u := by
  cases h; exact .cv _ (by assumption)

/-- The names may grow. -/
def NLe (N N' : Names) : Prop := ∀ n k v, N n = some (k, v) → N' n = some (k, v) ∨ ((∃ A l c, v = .slice A l c) ∧ ∃ k' v', N' n = some (k', v') ∧ k < k')

theorem NLe.refl (N : Names) : NLe N N := fun _ _ _ h => .inl h

theorem RelV.mono {N N' : Names} {S S' : Sets} {w w' : World} (hN : NLe N N') (hS : ∀ f g, S f g → S' f g) (hw : ∀ f g, S f g → w'.heap[g]? = w.heap[g]?) {v : V} {u : Value} (h : RelV N S w v u) : RelV N' S' w' v u := by
  induction h with
  | un v => exact .un v
  | cv v => exact .cv v
  | kb b => exact .kb b
  | sl f sz xs v h => exact .sl f sz xs v (h.mono (hS f) (hw f))
  | el f cells o b off hb u hc => exact .el f cells o b off (hS _ _ hb) u fun j d hj => ⟨(World.cell?_of_block (w := w) (hw _ _ hb)).trans (hc j d hj).1, (hc j d hj).2.mono (hS f) (hw f)⟩
  | bx n o b hn =>
    rcases hN _ _ _ hn with h | ⟨⟨A, l, c, h⟩, _⟩
    · exact .bx n o b h
    · cases h
  | ow n k u hu hn =>
    obtain ⟨k', v, hn, hk, he⟩ := hn
    rcases hN _ _ _ hn with h | ⟨_, k'', v', h, hlt⟩
    · exact .ow n k u hu ⟨k', v, h, hk, he⟩
    · exact .ow n k u hu ⟨k'', v', h, by omega, fun e => by omega⟩
  | oq n k sz i o u hu hn =>
    obtain ⟨k', v, hn, hk, he⟩ := hn
    rcases hN _ _ _ hn with h | ⟨_, k'', v', h, hlt⟩
    · exact .oq n k sz i o u hu ⟨k', v, h, hk, he⟩
    · exact .oq n k sz i o u hu ⟨k'', v', h, by omega, fun e => by omega⟩
  | vw n k sz lo hi u hu hn =>
    obtain ⟨k', v, hn, hk, he⟩ := hn
    rcases hN _ _ _ hn with h | ⟨_, k'', v', h, hlt⟩
    · exact .vw n k sz lo hi u hu ⟨k', v, h, hk, he⟩
    · exact .vw n k sz lo hi u hu ⟨k'', v', h, by omega, fun e => by omega⟩
  | ag cs us hl _ ih => exact .ag cs us hl ih
  | tu cs us hl _ ih => exact .tu cs us hl ih
  | fn f n cs us vs hn hl _ ih => exact .fn f n cs us vs hn hl ih

theorem RelL.mono {N N' : Names} {S S' : Sets} {w w' : World} (hN : NLe N N') (hS : ∀ f g, S f g → S' f g) (hw : ∀ f g, S f g → w'.heap[g]? = w.heap[g]?) {v : List V} {u : List Value} (h : RelL N S w v u) : RelL N' S' w' v u :=
  ⟨h.1, fun i v hv => (h.2 i v hv).mono hN hS hw⟩

theorem Sat.def_ {B : Fr} {w0 : World} {N : Names} {S : Sets} {t : List V} {m : List (Option Bk)} {a : Act} {w : World} (h : Sat B w0 N S t m a w) {k x v} (hN : N k = some (x, v)) : ∃ b, m[k]? = some (some b) := by
  by_cases hc : ∃ b, m[k]? = some (some b)
  · exact hc
  · have := h.non k (fun b hb => hc ⟨b, hb⟩)
    rw [this] at hN; cases hN

theorem getD_toList (us : Array Value) (i : Nat) : us.toList.getD i undef = us.getD i undef := by
  simp [List.getD, Array.getD_eq_getD_getElem?]

theorem RelV.ofConst {N : Names} {S : Sets} {w : World} (v : Value) : RelV N S w (V.ofConst v) v := by
  unfold V.ofConst
  split
  · rename_i cs
    refine .ag _ cs (by simp) fun i v hv => ?_
    simp only [List.getElem?_map, Option.map_eq_some_iff] at hv
    obtain ⟨u, hu, rfl⟩ := hv
    have : cs.getD i undef = u := by rw [Array.getElem?_toList] at hu; simp [Array.getD_eq_getD_getElem?, hu]
    rw [this]; exact .cv u
  · exact .kb _
  · exact .cv _

section
variable {B : Fr} {w0 : World} {N : Names} {S : Sets} {t : List V} {m : List (Option Bk)} {a : Act} {w : World}

theorem Sat.ev (h : Sat B w0 N S t m a w) (x : Operand) : RelV N S w (ev t x) (a.eval x) := by
  cases x with
  | tmp i =>
    simp only [Go.Proofs.Ytppkkonhfkegoaa.ev, Act.eval, List.getD_eq_getElem?_getD]
    cases hi : t[i]? with
    | none => exact .un _
    | some v =>
      have := h.tmps.2 i v hi
      rw [getD_toList] at this
      simpa using this
  | const v => exact .ofConst v
  | global g => exact .cv _
  | func f => exact .cv _

theorem RelV.nf {v : V} {u : Value} (h : RelV N S w v u) : RelV N S w v.nf u := by
  cases h <;> first | exact .cv _ | skip
  all_goals (simp only [V.nf]; constructor <;> assumption)

theorem Sat.evN (h : Sat B w0 N S t m a w) (x : Operand) : RelV N S w (Go.Proofs.Ytppkkonhfkegoaa.evN t x) (a.eval x) := (h.ev x).nf

theorem RelV.cells {v : V} {u : Value} (h : RelV N S w v u) (hv : v ≠ .un) : v.cells.length = u.cells.size ∧ ∀ i c, v.cells[i]? = some c → RelV N S w c (u.cells.getD i undef) := by
  have one : ∀ {v : V} {u : Value}, RelV N S w v u → u.cells = #[u] → v.cells = [v] → v.cells.length = u.cells.size ∧ ∀ i c, v.cells[i]? = some c → RelV N S w c (u.cells.getD i undef) := by
    intro v u h h1 h2
    rw [h1, h2]
    refine ⟨rfl, fun i c hc => ?_⟩
    cases i with
    | zero => simp at hc; subst hc; simpa using h
    | succ i => simp at hc
  cases h with
  | un => exact absurd rfl hv
  | cv v =>
    refine ⟨by simp [V.cells], fun i c hc => ?_⟩
    simp only [V.cells, List.getElem?_map, Option.map_eq_some_iff] at hc
    obtain ⟨u', hu, rfl⟩ := hc
    have e : (Value.cells u).getD i undef = u' := by rw [Array.getElem?_toList] at hu; simp [Array.getD_eq_getD_getElem?, hu]
    rw [e]; exact .cv _
  | kb b => exact one (.kb b) rfl rfl
  | sl f sz xs u h => exact one (.sl f sz xs _ h) (by cases h <;> rfl) rfl
  | el f cells o b off hS u' hc => exact one (.el f cells o b off hS u' hc) rfl rfl
  | bx n o b hn => exact one (.bx n o b hn) rfl rfl
  | ow n k u hu hn => exact one (.ow n k u hu hn) (by cases u <;> simp_all [Value.oneCell', Value.cells]) rfl
  | oq n k sz i o u hu hn => exact one (.oq n k sz i o u hu hn) (by cases u <;> simp_all [Value.oneCell', Value.cells]) rfl
  | vw n k sz lo hi u hu hn => exact one (.vw n k sz lo hi u hu hn) (by cases u <;> simp_all [Value.oneCell', Value.cells]) rfl
  | ag cs us hl h => exact ⟨hl, h⟩
  | tu cs us hl h => exact one (.tu cs us hl h) rfl rfl
  | fn f n cs us vs hn hl h => exact one (.fn f n cs us vs hn hl h) rfl rfl

theorem RelV.one {v : V} {u : Value} (h : RelV N S w v u) (h1 : v.one = true) : u.oneCell' = true := by
  cases h <;> first | (simp [V.one] at h1; done) | rfl | assumption | (simpa [V.one] using h1) | skip
  rename_i h; exact h.one

theorem allOne_spec {l : List V} (h : allOne l = true) : ∀ (i : Nat) (v : V), l[i]? = some v → v.one = true := by
  induction l with
  | nil => intro i v hv; simp at hv
  | cons x l ih =>
    simp only [allOne, Bool.and_eq_true] at h
    intro i v hv
    cases i with
    | zero => simp at hv; subst hv; exact h.1
    | succ i => exact ih h.2 i v (by simpa using hv)

theorem RelV.ofD {f : Bool} {d : D} {u : Value} (h : RelD (S f) w d u) : RelV N S w (d.v f) u := by
  cases d with
  | cv v => cases h; exact .cv _
  | sl sz xs => exact .sl f sz xs u h

theorem RelD.ofV {v : V} {d : D} {f g : Bool} {u : Value} (hTF : ∀ b, S true b → S false b) (h : RelV N S w v u) (hd : v.d = some (d, f)) (hg : g = true → f = true) : RelD (S g) w d u := by
  cases h <;> simp only [V.d] at hd <;> try (cases hd; done)
  · split at hd
    · cases hd; exact .cv _ (by assumption)
    · cases hd
  · rename_i f' sz xs h
    cases hd
    cases f <;> cases g <;> first | exact h | exact absurd (hg rfl) (by simp) | exact h.mono hTF fun _ _ => rfl

theorem toDs_spec {l : List V} {ds : List D} {f : Bool} (h : toDs l = some (ds, f)) : ds.length = l.length ∧ ∀ (i : Nat) (d : D), ds[i]? = some d → ∃ (v : V) (g : Bool), l[i]? = some v ∧ v.d = some (d, g) ∧ (f = true → g = true) := by
  induction l generalizing ds f with
  | nil => simp [toDs] at h; simp [h.1]
  | cons x l ih =>
    simp only [toDs] at h
    split at h
    · rename_i d f1 ds' f2 h1 h2
      cases h
      obtain ⟨e1, e2⟩ := ih h2
      refine ⟨by simp [e1], fun i d hd => ?_⟩
      cases i with
      | zero => simp at hd; subst hd; exact ⟨x, f1, by simp, h1, fun e => by simp at e; exact e.1⟩
      | succ i =>
        obtain ⟨v, g, a, b, c⟩ := e2 i d (by simpa using hd)
        exact ⟨v, g, by simpa using a, b, fun e => c (by simp at e; exact e.2)⟩
    · cases h

/-! ### The forms that a state is brought into change nothing. -/
theorem forceC_eq (v : Value) (K : Value → Prop) : forceC v K = K v := by unfold forceC; split <;> rfl
theorem k1_eq (v : V) (K : V → Prop) : v.k1 K = K v := by unfold V.k1; split <;> first | rfl | exact forceC_eq _ _
theorem forceL_eq (l : List V) (K : List V → Prop) : forceL l K = K l := by
  induction l generalizing K with
  | nil => rfl
  | cons v l ih => simp only [forceL, k1_eq, ih]
theorem k2_eq (v : V) (K : V → Prop) : v.k2 K = K v := by unfold V.k2; split <;> simp [forceL_eq, k1_eq]
theorem forceL2_eq (l : List V) (K : List V → Prop) : forceL2 l K = K l := by
  induction l generalizing K with
  | nil => rfl
  | cons v l ih => simp only [forceL2, k2_eq, ih]
theorem k_eq (v : V) (K : V → Prop) : v.k K = K v := by unfold V.k; split <;> simp [forceL_eq, forceL2_eq, k1_eq]
theorem forceD_eq (l : List D) (K : List D → Prop) : forceD l K = K l := by
  induction l generalizing K with
  | nil => rfl
  | cons v l ih =>
    simp only [forceD, ih]
    unfold D.k1; split <;> simp [forceC_eq]
theorem setK_eq {α : Type} (l : List α) (i : Nat) (v : α) (K : List α → Prop) : setK l i v K = K (l.set i v) := by
  induction l generalizing i K with
  | nil => rfl
  | cons x l ih => cases i <;> simp [setK, ih]
theorem forceAll_eq (l : List V) (K : List V → Prop) : forceAll l K = K l := by
  induction l generalizing K with
  | nil => rfl
  | cons v l ih => simp only [forceAll, k2_eq, ih]
theorem forceM_eq (l : List (Option Bk)) (K : List (Option Bk) → Prop) : forceM l K = K l := by
  induction l generalizing K with
  | nil => rfl
  | cons v l ih =>
    cases v with
    | none => simp only [forceM, ih]
    | some b => cases b <;> simp [forceM, forceL_eq, ih]
end

end Go.Proofs.Ytppkkonhfkegoaa
