/-
  A reader of code over states that name their own memory: structs of plain fields that are compared.
-/
import Derived.Test.YtejjemeaponbaaaSxU
import Derived.Laws.StructEq
namespace Go.Proofs.Ytejjemeaponbaaa
open Go.RowKit

def kindOk (T : Tab) (ty : Nat) (x y : Value) : Bool :=
  match T ty with
  | some ⟨_, _, false, _, .int _⟩ => match x, y with | .int k _, .int k' _ => decide (k = k') | _, _ => false
  | some ⟨_, _, false, _, .string⟩ => match x, y with | .string _, .string _ => true | _, _ => false
  | some ⟨_, _, false, _, .bool⟩ => match x, y with | .bool _, .bool _ => true | _, _ => false
  | _ => false

def eqPl : List Value → List Value → Bool
  | .int _ a :: xs, .int _ b :: ys => (a == b) && eqPl xs ys
  | .string a :: xs, .string b :: ys => (a.toList == b.toList) && eqPl xs ys
  | .bool a :: xs, .bool b :: ys => (a == b) && eqPl xs ys
  | _, _ => true

def okPl (T : Tab) : List (String × Nat × Nat) → Nat → List Value → List Value → Bool
  | [], _, [], [] => true
  | (n, ty, o) :: sp, off, x :: xs, y :: ys => n != "_" && (o == off && (kindOk T ty x y && okPl T sp (off + 1) xs ys))
  | _, _, _, _ => false

theorem drop_cons {α : Type} {xs : List α} {off : Nat} {x : α} {l : List α} (h : xs.drop off = x :: l) : xs[off]? = some x ∧ xs.drop (off + 1) = l := by
  constructor
  · have := List.getElem?_drop (xs := xs) (i := off) (j := 0)
    rw [h] at this; simpa using this.symm
  · rw [← List.drop_drop, h]; rfl

theorem eqFields_run {P : Program} {T : Tab} (hT : TOk P T) (w : World) (d : Nat) (xs ys : Array Value) : ∀ (fs : List Field) (sp : List (String × Nat × Nat)) (off : Nat) (l1 l2 : List Value), fs.map (fun f => (f.name, f.type, f.offset)) = sp →
    xs.toList.drop off = l1 → ys.toList.drop off = l2 → okPl T sp off l1 l2 = true → (Op.eqFields (d + 1) xs ys fs).run P w = .ok (eqPl l1 l2) w := by
  intro fs
  induction fs with
  | nil =>
    intro sp off l1 l2 hsp h1 h2 hok
    subst hsp
    cases l1 <;> cases l2 <;> first | (cases hok; done) | simp [Op.eqFields, eqPl]
  | cons f fs ih =>
    intro sp off l1 l2 hsp h1 h2 hok
    subst hsp
    cases l1 with
    | nil => cases hok
    | cons x l1 =>
      cases l2 with
      | nil => cases hok
      | cons y l2 =>
        simp only [List.map_cons, okPl, Bool.and_eq_true, beq_iff_eq] at hok
        obtain ⟨hn, ho, hk, hrest⟩ := hok
        obtain ⟨hx, hx'⟩ := drop_cons h1
        obtain ⟨hy, hy'⟩ := drop_cons h2
        have hr := ih _ (off + 1) l1 l2 rfl hx' hy' hrest
        have hn' : f.name ≠ "_" := by simpa using hn
        have step : ∀ (r : Bool), (part f.type xs f.offset).run P w = .ok x w → (part f.type ys f.offset).run P w = .ok y w → (Op.equalIn (d + 1) f.type x y).run P w = .ok r w → (Op.eqFields (d + 1) xs ys (f :: fs)).run P w = .ok (r && eqPl l1 l2) w := by
          intro r p1 p2 p3
          simp only [Op.eqFields, hn', ne_eq, not_false_eq_true, if_true, Sem.run_bind, p1, p2, p3, Result.andThen_ok, Sem.run_ite]
          cases r
          · simp
          · simp [hr]
        have part : ∀ {i : TI} {zs : Array Value} {z : Value}, T f.type = some i → i.agg = false → zs.toList[off]? = some z → (part f.type zs f.offset).run P w = .ok z w := by
          intro i zs z hi hag hz
          rw [Array.getElem?_toList] at hz
          simp [Go.part, hT.agg hi, hag, ho, hz]
        unfold kindOk at hk
        split at hk
        · rename_i hti
          cases x <;> cases y <;> simp only at hk <;> try (cases hk; done)
          simp only [decide_eq_true_eq] at hk
          subst hk
          exact step _ (part hti rfl hx) (part hti rfl hy) (run_equalIn_int w d f.type _ _ _ _ (hT.kd_int hti rfl))
        · rename_i hti
          cases x <;> cases y <;> simp only at hk <;> try (cases hk; done)
          exact step _ (part hti rfl hx) (part hti rfl hy) (run_equalIn_string w d f.type _ _ (hT.kd_string hti rfl))
        · rename_i hti
          cases x <;> cases y <;> simp only at hk <;> try (cases hk; done)
          exact step _ (part hti rfl hx) (part hti rfl hy) (run_equalIn_bool' w d f.type _ _ (hT.kd_bool hti rfl))
        · cases hk

theorem eq_cells {w : World} {cs : List V} {us : Array Value} (h : RelV (fun _ => none) (fun _ _ => False) w (.ag cs) (.agg us)) {ws : List Value} (hv : valsL cs = some ws) : us = ws.toArray := by
  have := val2_eq h (u' := .agg ws.toArray) (by simp [V.val2, hv])
  cases this; rfl

/-- Structs of plain fields: equal if their cells are. -/
theorem eq_ok {ty : Nat} {xs ys : List V} {us vs : List Value} {sp : List (String × Nat × Nat)} (hx : valsL xs = some us) (hy : valsL ys = some vs) (ht : Try.prog.underlying ty = some (.struct (Try.prog.fieldsOf ty))) (hp : Try.prog.stoodInHeld ty = false) (hg : Try.prog.eqGuardType Try.prog.depth ty = false)
    (hf : (Try.prog.fieldsOf ty).toList.map (fun f => (f.name, f.type, f.offset)) = sp) (hok : okPl TT sp 0 us vs = true) : EqOk Try.prog ty xs ys (eqPl us vs) := by
  intro w us' vs' hu hv
  have e1 := eq_cells hu hx
  have e2 := eq_cells hv hy
  subst e1 e2
  refine ⟨?_, hg⟩
  rw [Op.equal, show Op.maxDepth = 9998 + 1 + 1 from rfl, run_equalIn_agg w (9998 + 1) ty _ _ ht hp]
  exact eqFields_run tok w 9998 _ _ _ sp 0 us vs hf rfl rfl hok

theorem str_beq' (s t : ByteArray) : (s.toList == t.toList) = decide (s = t) := by
  rw [Bool.eq_iff_iff]
  simp only [beq_iff_eq, decide_eq_true_eq]
  constructor
  · intro h
    rw [ByteArray.toList_eq, ByteArray.toList_eq] at h
    cases s; cases t
    simp only [ByteArray.mk.injEq]
    exact Array.toList_inj.1 h
  · intro h; rw [h]

end Go.Proofs.Ytejjemeaponbaaa
