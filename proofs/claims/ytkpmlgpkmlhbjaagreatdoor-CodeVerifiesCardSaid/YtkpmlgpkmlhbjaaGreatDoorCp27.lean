/- Texts joined by pack.py: XSxE2 XCd40 XCd27 XCd28 XSxMk -/
import Derived.Test.YtkpmlgpkmlhbjaaGreatDoorCp13
import Derived.Laws.StructEq
import Derived.Test.YtkpmlgpkmlhbjaaGreatDoorCp26
import Derived.Test.YtkpmlgpkmlhbjaaGreatDoorCp17
namespace Go.Proofs.YtkpmlgpkmlhbjaaGreatDoor
open Go.RowKit
def kindOk (T : Tab) (ty : Nat) (x y : Value) : Bool :=
  match T ty with
  | some ⟨_, _, false, _, .int _⟩ => match x, y with | .int k _, .int k' _ => decide (k = k') | _, _ => false
  | some ⟨_, _, false, _, .string⟩ => match x, y with | .string _, .string _ => true | _, _ => false
  | some ⟨_, _, false, _, .bool⟩ => match x, y with | .bool _, .bool _ => true | _, _ => false
  | _ => false
def eqPl : List Value → List Value → Bool
  | .int _ a :: xs, .int _ b :: ys => (a == b) && eqPl xs ys
  | .string a :: xs, .string b :: ys => (a.toList == b.toList) && eqPl xs ys
  | .bool a :: xs, .bool b :: ys => (a == b) && eqPl xs ys
  | _, _ => true
def okPl (T : Tab) : List (String × Nat × Nat) → Nat → List Value → List Value → Bool
  | [], _, [], [] => true
  | (n, ty, o) :: sp, off, x :: xs, y :: ys => n != "_" && (o == off && (kindOk T ty x y && okPl T sp (off + 1) xs ys))
  | _, _, _, _ => false
theorem dropE_cons {α : Type} {xs : List α} {off : Nat} {x : α} {l : List α} (h : xs.drop off = x :: l) : xs[off]? = some x ∧ xs.drop (off + 1) = l := by
  constructor
  · have := List.getElem?_drop (xs := xs) (i := off) (j := 0)
    rw [h] at this; simpa using this.symm
  · rw [← List.drop_drop, h]; rfl
theorem eqFields_run {P : Program} {T : Tab} (hT : TOk P T) (w : World) (d : Nat) (xs ys : Array Value) : ∀ (fs : List Field) (sp : List (String × Nat × Nat)) (off : Nat) (l1 l2 : List Value), fs.map (fun f => (f.name, f.type, f.offset)) = sp →
    xs.toList.drop off = l1 → ys.toList.drop off = l2 → okPl T sp off l1 l2 = true → (Op.eqFields (d + 1) xs ys fs).run P w = .ok (eqPl l1 l2) w := by
  intro fs
  induction fs with
  | nil =>
    intro sp off l1 l2 hsp h1 h2 hok
    subst hsp
    cases l1 <;> cases l2 <;> first | (cases hok; done) | simp [Op.eqFields, eqPl]
  | cons f fs ih =>
    intro sp off l1 l2 hsp h1 h2 hok
    subst hsp
    cases l1 with
    | nil => cases hok
    | cons x l1 =>
      cases l2 with
      | nil => cases hok
      | cons y l2 =>
        simp only [List.map_cons, okPl, Bool.and_eq_true, beq_iff_eq] at hok
        obtain ⟨hn, ho, hk, hrest⟩ := hok
        obtain ⟨hx, hx'⟩ := dropE_cons h1
        obtain ⟨hy, hy'⟩ := dropE_cons h2
        have hr := ih _ (off + 1) l1 l2 rfl hx' hy' hrest
        have hn' : f.name ≠ "_" := by simpa using hn
        have step : ∀ (r : Bool), (part f.type xs f.offset).run P w = .ok x w → (part f.type ys f.offset).run P w = .ok y w → (Op.equalIn (d + 1) f.type x y).run P w = .ok r w → (Op.eqFields (d + 1) xs ys (f :: fs)).run P w = .ok (r && eqPl l1 l2) w := by
          intro r p1 p2 p3
          simp only [Op.eqFields, hn', ne_eq, not_false_eq_true, if_true, Sem.run_bind, p1, p2, p3, Result.andThen_ok, Sem.run_ite]
          cases r
          · simp
          · simp [hr]
        have part : ∀ {i : TI} {zs : Array Value} {z : Value}, T f.type = some i → i.agg = false → zs.toList[off]? = some z → (part f.type zs f.offset).run P w = .ok z w := by
          intro i zs z hi hag hz
          rw [Array.getElem?_toList] at hz
          simp [Go.part, hT.agg hi, hag, ho, hz]
        unfold kindOk at hk
        split at hk
        · rename_i hti
          cases x <;> cases y <;> simp only at hk <;> try (cases hk; done)
          simp only [decide_eq_true_eq] at hk
          subst hk
          exact step _ (part hti rfl hx) (part hti rfl hy) (run_equalIn_int w d f.type _ _ _ _ (hT.kd_int hti rfl))
        · rename_i hti
          cases x <;> cases y <;> simp only at hk <;> try (cases hk; done)
          exact step _ (part hti rfl hx) (part hti rfl hy) (run_equalIn_string w d f.type _ _ (hT.kd_string hti rfl))
        · rename_i hti
          cases x <;> cases y <;> simp only at hk <;> try (cases hk; done)
          exact step _ (part hti rfl hx) (part hti rfl hy) (run_equalIn_bool' w d f.type _ _ (hT.kd_bool hti rfl))
        · cases hk
theorem eq_cells {w : World} {cs : List V} {us : Array Value} (h : RelV (fun _ => none) (fun _ _ => False) w (.ag cs) (.agg us)) {ws : List Value} (hv : valsL cs = some ws) : us = ws.toArray := by
  have := val2_eq h (u' := .agg ws.toArray) (by simp [V.val2, hv])
  cases this; rfl
theorem eq_ok {ty : Nat} {xs ys : List V} {us vs : List Value} {sp : List (String × Nat × Nat)} (hx : valsL xs = some us) (hy : valsL ys = some vs) (ht : Tryz.prog.underlying ty = some (.struct (Tryz.prog.fieldsOf ty))) (hp : Tryz.prog.stoodInHeld ty = false) (hg : Tryz.prog.eqGuardType Tryz.prog.depth ty = false)
    (hf : (Tryz.prog.fieldsOf ty).toList.map (fun f => (f.name, f.type, f.offset)) = sp) (hok : okPl TT sp 0 us vs = true) : EqOk Tryz.prog ty xs ys (eqPl us vs) := by
  intro w us' vs' hu hv
  have e1 := eq_cells hu hx
  have e2 := eq_cells hv hy
  subst e1 e2
  refine ⟨?_, hg⟩
  rw [Op.equal, show Op.maxDepth = 9998 + 1 + 1 from rfl, run_equalIn_agg w (9998 + 1) ty _ _ ht hp]
  exact eqFields_run tok w 9998 _ _ _ sp 0 us vs hf rfl rfl hok
end Go.Proofs.YtkpmlgpkmlhbjaaGreatDoor
namespace Go.Proofs.YtkpmlgpkmlhbjaaGreatDoor
open Go.RowKit
def all2 {α : Type} (p : α → α → Bool) : List α → List α → Bool
  | [], [] => true
  | a :: l, b :: r => p a b && all2 p l r
  | _, _ => false
theorem all2_len {α : Type} {p : α → α → Bool} : ∀ {l r : List α}, l.length ≠ r.length → all2 p l r = false
  | [], [], h => absurd rfl h
  | [], _ :: _, _ => rfl
  | _ :: _, [], _ => rfl
  | a :: l, b :: r, h => by
    unfold all2
    rw [all2_len (by simpa using h), Bool.and_false]
theorem all2_drop {α : Type} {p : α → α → Bool} {l r : List α} {k : Nat} (h1 : k < l.length) (h2 : k < r.length) : all2 p (l.drop k) (r.drop k) = (p l[k] r[k] && all2 p (l.drop (k + 1)) (r.drop (k + 1))) := by
  rw [List.drop_eq_getElem_cons h1, List.drop_eq_getElem_cons h2]; rfl
theorem all2_eq {α : Type} {p : α → α → Bool} (hp : ∀ a b, p a b = true ↔ a = b) : ∀ {l r : List α}, all2 p l r = true ↔ l = r
  | [], [] => by simp [all2]
  | [], _ :: _ => by simp [all2]
  | _ :: _, [] => by simp [all2]
  | a :: l, b :: r => by
    unfold all2
    rw [Bool.and_eq_true, hp, all2_eq hp]
    simp
def strB (a b : Bs) : Bool := a == b
def fnB (f g : Fn) : Bool := f.nm == g.nm && (f.ps == g.ps && (f.ls == g.ls && (f.en == g.en && f.ed == g.ed)))
def inBq (x y : In) : Bool := x.op == y.op && x.a == y.a && x.s == y.s && all2 strB x.ks y.ks
def sameC (a b : Cd) : Bool := all2 fnB a.fs b.fs && all2 inBq a.is b.is
theorem strB_eq (a b : Bs) : strB a b = true ↔ a = b := by unfold strB; simp
theorem fnB_eq (f g : Fn) : fnB f g = true ↔ f = g := by
  obtain ⟨a, b, c, d, e⟩ := f
  obtain ⟨a', b', c', d', e'⟩ := g
  unfold fnB
  simp [Bool.and_eq_true]
theorem inBq_eq (x y : In) : inBq x y = true ↔ x = y := by
  obtain ⟨a, b, c, d⟩ := x
  obtain ⟨a', b', c', d'⟩ := y
  unfold inBq
  rw [Bool.and_eq_true, all2_eq strB_eq]
  simp [Bool.and_eq_true, and_assoc]
theorem sameC_eq (a b : Cd) : sameC a b = true ↔ a = b := by
  obtain ⟨f, i⟩ := a
  obtain ⟨f', i'⟩ := b
  unfold sameC
  rw [Bool.and_eq_true, all2_eq fnB_eq, all2_eq inBq_eq]
  simp
structure CdBig (c : Cd) : Prop where
  fs : c.fs.length ≤ 8796093022207
  is : c.is.length ≤ 8796093022207
  ks : ∀ x ∈ c.is, x.ks.length ≤ 8796093022207
theorem eq_fn (f g : Fn) : EqOk Tryz.prog 50 [.cv (.string (mk f.nm)), .cv (.int .i64 f.ps), .cv (.int .i64 f.ls), .cv (.int .i64 f.en), .cv (.int .i64 f.ed)] [.cv (.string (mk g.nm)), .cv (.int .i64 g.ps), .cv (.int .i64 g.ls), .cv (.int .i64 g.en), .cv (.int .i64 g.ed)]
    (eqPl [.string (mk f.nm), .int .i64 f.ps, .int .i64 f.ls, .int .i64 f.en, .int .i64 f.ed] [.string (mk g.nm), .int .i64 g.ps, .int .i64 g.ls, .int .i64 g.en, .int .i64 g.ed]) :=
  eq_ok rfl rfl (by kernel_rfl) (by kernel_rfl) (by kernel_rfl) (sp := [("Name", 9, 0), ("Params", 3, 1), ("Locals", 3, 2), ("Entry", 3, 3), ("End", 3, 4)]) (by kernel_rfl) rfl
theorem eqPl_fn (f g : Fn) : eqPl [.string (mk f.nm), .int .i64 f.ps, .int .i64 f.ls, .int .i64 f.en, .int .i64 f.ed] [.string (mk g.nm), .int .i64 g.ps, .int .i64 g.ls, .int .i64 g.en, .int .i64 g.ed] = fnB f g := by
  unfold fnB
  rw [← sEq_mk f.nm g.nm]
  simp only [eqPl, sEq, Bool.and_true]
set_option maxHeartbeats 2000000 in
set_option maxRecDepth 100000 in
theorem x_equalF (a b : List Fn) (ha : a.length ≤ 8796093022207) : DCalls Tryz.prog 36 [.sl true 5 (a.map fnD), .sl true 5 (b.map fnD)] (boo (all2 fnB a b)) := by
  have hla : (a.map fnD).length = a.length := List.length_map _
  have hlb : (b.map fnD).length = b.length := List.length_map _
  refine sx Tryz.func36 (by kernel_rfl) ?_
  conv => whnf
  rintro (_ | _) h0
  rotate_left
  · have h0 : a.length ≠ b.length := by rw [hla, hlb] at h0; simp at h0; omega
    rw [all2_len h0]
    (conv => whnf) <;> rfl
  have h0 : a.length = b.length := by rw [hla, hlb] at h0; simp at h0; omega
  conv => whnf
  refine ⟨[], Nat, fun k => [(13, int k)], fun _ => [], fun k => k ≤ a.length ∧ all2 fnB (a.drop k) (b.drop k) = all2 fnB a b, fun k => a.length - k, 0, ⟨Nat.zero_le _, rfl⟩, ?_, ?_⟩
  · refine ⟨rfl, ?_, ?_⟩ <;> repeat' (first | exact trivial | exact rfl | refine and_rfl ?_ | refine and_two ?_ ?_)
  rintro k ⟨hk1, hk⟩
  conv => whnf
  rintro (_ | _) h1
  · have h1 : a.length ≤ k := by rw [← hla]; simpa using h1
    rw [List.drop_eq_nil_of_le h1, List.drop_eq_nil_of_le (by omega), show all2 fnB [] [] = true from rfl] at hk
    rw [← hk]
    (conv => whnf) <;> rfl
  have h1 : k < a.length := by rw [← hla]; simpa using h1
  have h2 : k < b.length := by omega
  rw [all2_drop h1 h2] at hk
  conv => whnf
  refine ⟨none, by kernel_rfl, ?_⟩
  conv => whnf
  refine ⟨by omega, _, get_map fnD h1, ?_⟩
  conv => whnf
  refine ⟨by omega, _, get_map fnD h2, ?_⟩
  conv => whnf
  refine ⟨_, eq_fn a[k] b[k], ?_⟩
  conv => whnf
  rw [eqPl_fn]
  rintro (_ | _) h3
  · have h3 : fnB a[k] b[k] = true := by simpa using h3
    rw [h3, Bool.true_and] at hk
    conv => whnf
    refine ⟨k + 1, ⟨h1, hk⟩, by dsimp only; omega, ?_⟩
    refine ⟨rfl, ?_, ?_⟩ <;> repeat' (first | exact trivial | exact rfl | refine and_rfl ?_ | refine and_val (wrap_succ (by omega)) ?_ | refine and_two ?_ ?_)
  · have h3 : fnB a[k] b[k] = false := by simpa using h3
    rw [h3, Bool.false_and] at hk
    rw [← hk]
    (conv => whnf) <;> rfl
set_option maxHeartbeats 2000000 in
set_option maxRecDepth 100000 in
theorem x_equalS (a b : List Bs) (ha : a.length ≤ 8796093022207) : DCalls Tryz.prog 39 [strsV a, strsV b] (boo (all2 strB a b)) := by
  have hla : (a.map strD).length = a.length := List.length_map _
  have hlb : (b.map strD).length = b.length := List.length_map _
  refine sx Tryz.func39 (by kernel_rfl) ?_
  conv => whnf
  rintro (_ | _) h0
  rotate_left
  · have h0 : a.length ≠ b.length := by rw [hla, hlb] at h0; simp at h0; omega
    rw [all2_len h0]
    (conv => whnf) <;> rfl
  have h0 : a.length = b.length := by rw [hla, hlb] at h0; simp at h0; omega
  conv => whnf
  refine ⟨[], Nat, fun k => [(13, int k)], fun _ => [], fun k => k ≤ a.length ∧ all2 strB (a.drop k) (b.drop k) = all2 strB a b, fun k => a.length - k, 0, ⟨Nat.zero_le _, rfl⟩, ?_, ?_⟩
  · refine ⟨rfl, ?_, ?_⟩ <;> repeat' (first | exact trivial | exact rfl | refine and_rfl ?_ | refine and_two ?_ ?_)
  rintro k ⟨hk1, hk⟩
  conv => whnf
  rintro (_ | _) h1
  · have h1 : a.length ≤ k := by rw [← hla]; simpa using h1
    rw [List.drop_eq_nil_of_le h1, List.drop_eq_nil_of_le (by omega), show all2 strB [] [] = true from rfl] at hk
    rw [← hk]
    (conv => whnf) <;> rfl
  have h1 : k < a.length := by rw [← hla]; simpa using h1
  have h2 : k < b.length := by omega
  rw [all2_drop h1 h2] at hk
  conv => whnf
  refine ⟨none, by kernel_rfl, ?_⟩
  conv => whnf
  refine ⟨by omega, _, get_map strD h1, ?_⟩
  conv => whnf
  refine ⟨by omega, _, get_map strD h2, ?_⟩
  conv => whnf
  rw [show ((mk a[k]).toList == (mk b[k]).toList) = strB a[k] b[k] from sEq_mk _ _]
  rintro (_ | _) h3
  · have h3 : strB a[k] b[k] = true := by simpa using h3
    rw [h3, Bool.true_and] at hk
    conv => whnf
    refine ⟨k + 1, ⟨h1, hk⟩, by dsimp only; omega, ?_⟩
    refine ⟨rfl, ?_, ?_⟩ <;> repeat' (first | exact trivial | exact rfl | refine and_rfl ?_ | refine and_val (wrap_succ (by omega)) ?_ | refine and_two ?_ ?_)
  · have h3 : strB a[k] b[k] = false := by simpa using h3
    rw [h3, Bool.false_and] at hk
    rw [← hk]
    (conv => whnf) <;> rfl
set_option maxHeartbeats 2000000 in
set_option maxRecDepth 100000 in
theorem x_same1 (x y : In) (hx : x.ks.length ≤ 8796093022207) : DCalls Tryz.prog 38 [x.V, y.V] (boo (inBq x y)) := by
  obtain ⟨op, a, s, ks⟩ := x
  obtain ⟨op', a', s', ks'⟩ := y
  refine sx Tryz.func38 (by kernel_rfl) ?_
  conv => whnf
  rintro (_ | _) h1
  · rw [show inBq ⟨op, a, s, ks⟩ ⟨op', a', s', ks'⟩ = false by unfold inBq; rw [show (op == op') = false from h1]; simp]
    (conv => whnf) <;> rfl
  conv => whnf
  rintro (_ | _) h2
  · rw [show inBq ⟨op, a, s, ks⟩ ⟨op', a', s', ks'⟩ = false by unfold inBq; rw [show (a == a') = false from h2]; simp]
    (conv => whnf) <;> rfl
  conv => whnf
  rintro (_ | _) h3
  · have h3 : (s == s') = false := (sEq_mk s s').symm.trans h3
    rw [show inBq ⟨op, a, s, ks⟩ ⟨op', a', s', ks'⟩ = false by unfold inBq; rw [h3]; simp]
    (conv => whnf) <;> rfl
  have h3 : (s == s') = true := (sEq_mk s s').symm.trans h3
  conv => whnf
  refine ⟨_, x_equalS ks ks' hx, ?_⟩
  rw [show inBq ⟨op, a, s, ks⟩ ⟨op', a', s', ks'⟩ = all2 strB ks ks' by unfold inBq; rw [show (op == op') = true from h1, show (a == a') = true from h2, h3]; rfl]
  (conv => whnf) <;> rfl
set_option maxHeartbeats 2000000 in
set_option maxRecDepth 100000 in
theorem x_ralike (x y : In) (hx : x.ks.length ≤ 8796093022207) : DCalls Tryz.prog 40 [x.V, y.V] (boo (inBq x y)) := by
  obtain ⟨op, a, s, l⟩ := x
  obtain ⟨op', a', s', r⟩ := y
  have hll : (l.map strD).length = l.length := List.length_map _
  have hlr : (r.map strD).length = r.length := List.length_map _
  dsimp only at hx
  refine sx Tryz.func40 (by kernel_rfl) ?_
  conv => whnf
  rintro (_ | _) h1
  rotate_left
  · have h1 : (op == op') = false := by simpa using h1
    rw [show inBq ⟨op, a, s, l⟩ ⟨op', a', s', r⟩ = false by unfold inBq; rw [h1]; simp]
    (conv => whnf) <;> rfl
  have h1 : (op == op') = true := by simpa using h1
  conv => whnf
  rintro (_ | _) h2
  rotate_left
  · have h2 : (a == a') = false := by simpa using h2
    rw [show inBq ⟨op, a, s, l⟩ ⟨op', a', s', r⟩ = false by unfold inBq; rw [h2]; simp]
    (conv => whnf) <;> rfl
  have h2 : (a == a') = true := by simpa using h2
  conv => whnf
  rintro (_ | _) h3
  rotate_left
  · have h3 : sEq (mk s) (mk s') = false := by unfold sEq; simpa using h3
    rw [sEq_mk] at h3
    rw [show inBq ⟨op, a, s, l⟩ ⟨op', a', s', r⟩ = false by unfold inBq; rw [h3]; simp]
    (conv => whnf) <;> rfl
  have h3 : sEq (mk s) (mk s') = true := by unfold sEq; simpa using h3
  rw [sEq_mk] at h3
  have hq : inBq ⟨op, a, s, l⟩ ⟨op', a', s', r⟩ = all2 strB l r := by unfold inBq; rw [h1, h2, h3]; rfl
  rw [hq]
  conv => whnf
  rintro (_ | _) h0
  rotate_left
  · have h0 : l.length ≠ r.length := by rw [hll, hlr] at h0; simp at h0; omega
    rw [all2_len h0]
    (conv => whnf) <;> rfl
  have h0 : l.length = r.length := by rw [hll, hlr] at h0; simp at h0; omega
  conv => whnf
  refine ⟨[], Nat, fun k => [(5, int k)], fun _ => [], fun k => k ≤ l.length ∧ all2 strB (l.drop k) (r.drop k) = all2 strB l r, fun k => l.length - k, 0, ⟨Nat.zero_le _, rfl⟩, ?_, ?_⟩
  · refine ⟨rfl, ?_, ?_⟩ <;> repeat' (first | exact trivial | exact rfl | refine and_rfl ?_ | refine and_two ?_ ?_)
  rintro k ⟨hk1, hk⟩
  conv => whnf
  rintro (_ | _) h4
  · have h4 : l.length ≤ k := by rw [← hll]; simpa using h4
    rw [List.drop_eq_nil_of_le h4, List.drop_eq_nil_of_le (by omega), show all2 strB [] [] = true from rfl] at hk
    rw [← hk]
    (conv => whnf) <;> rfl
  have h4 : k < l.length := by rw [← hll]; simpa using h4
  have h5 : k < r.length := by omega
  rw [all2_drop h4 h5] at hk
  conv => whnf
  refine ⟨none, by kernel_rfl, ?_⟩
  conv => whnf
  refine ⟨by omega, _, get_map strD h4, ?_⟩
  conv => whnf
  refine ⟨by omega, _, get_map strD h5, ?_⟩
  conv => whnf
  rw [show ((mk l[k]).toList == (mk r[k]).toList) = strB l[k] r[k] from sEq_mk _ _]
  rintro (_ | _) h6
  · have h6 : strB l[k] r[k] = true := by simpa using h6
    rw [h6, Bool.true_and] at hk
    conv => whnf
    refine ⟨k + 1, ⟨h4, hk⟩, by dsimp only; omega, ?_⟩
    refine ⟨rfl, ?_, ?_⟩ <;> repeat' (first | exact trivial | exact rfl | refine and_rfl ?_ | refine and_val (wrap_succ (by omega)) ?_ | refine and_two ?_ ?_)
  · have h6 : strB l[k] r[k] = false := by simpa using h6
    rw [h6, Bool.false_and] at hk
    rw [← hk]
    (conv => whnf) <;> rfl
set_option maxHeartbeats 2000000 in
set_option maxRecDepth 100000 in
theorem x_equalI (a b : List In) (ha : a.length ≤ 8796093022207) (hk : ∀ x ∈ a, x.ks.length ≤ 8796093022207) : DCalls Tryz.prog 37 [.sl true 4 (a.map inD), .sl true 4 (b.map inD), .cv (.func (.func 38) #[] #[])] (boo (all2 inBq a b)) := by
  have hla : (a.map inD).length = a.length := List.length_map _
  have hlb : (b.map inD).length = b.length := List.length_map _
  refine sx Tryz.func37 (by kernel_rfl) ?_
  conv => whnf
  rintro (_ | _) h0
  rotate_left
  · have h0 : a.length ≠ b.length := by rw [hla, hlb] at h0; simp at h0; omega
    rw [all2_len h0]
    (conv => whnf) <;> rfl
  have h0 : a.length = b.length := by rw [hla, hlb] at h0; simp at h0; omega
  conv => whnf
  refine ⟨[], Nat, fun k => [(17, int k)], fun _ => [], fun k => k ≤ a.length ∧ all2 inBq (a.drop k) (b.drop k) = all2 inBq a b, fun k => a.length - k, 0, ⟨Nat.zero_le _, rfl⟩, ?_, ?_⟩
  · refine ⟨rfl, ?_, ?_⟩ <;> repeat' (first | exact trivial | exact rfl | refine and_rfl ?_ | refine and_two ?_ ?_)
  rintro k ⟨hk1, hk2⟩
  conv => whnf
  rintro (_ | _) h1
  · have h1 : a.length ≤ k := by rw [← hla]; simpa using h1
    rw [List.drop_eq_nil_of_le h1, List.drop_eq_nil_of_le (by omega), show all2 inBq [] [] = true from rfl] at hk2
    rw [← hk2]
    (conv => whnf) <;> rfl
  have h1 : k < a.length := by rw [← hla]; simpa using h1
  have h2 : k < b.length := by omega
  rw [all2_drop h1 h2] at hk2
  conv => whnf
  refine ⟨by omega, _, get_map inD h1, ?_⟩
  conv => whnf
  refine ⟨by omega, _, get_map inD h2, ?_⟩
  conv => whnf
  refine ⟨_, x_same1 a[k] b[k] (hk _ (List.getElem_mem h1)), ?_⟩
  conv => whnf
  rintro (_ | _) h3
  · have h3 : inBq a[k] b[k] = true := by simpa using h3
    rw [h3, Bool.true_and] at hk2
    conv => whnf
    refine ⟨k + 1, ⟨h1, hk2⟩, by dsimp only; omega, ?_⟩
    refine ⟨rfl, ?_, ?_⟩ <;> repeat' (first | exact trivial | exact rfl | refine and_rfl ?_ | refine and_val (wrap_succ (by omega)) ?_ | refine and_two ?_ ?_)
  · have h3 : inBq a[k] b[k] = false := by simpa using h3
    rw [h3, Bool.false_and] at hk2
    rw [← hk2]
    (conv => whnf) <;> rfl
set_option maxHeartbeats 2000000 in
set_option maxRecDepth 100000 in
theorem x_sameC (a b : Cd) (ha : CdBig a) : DCalls Tryz.prog 19 [a.V, b.V] (boo (sameC a b)) := by
  refine sx Tryz.func19 (by kernel_rfl) ?_
  conv => whnf
  refine ⟨_, x_equalF a.fs b.fs ha.fs, ?_⟩
  conv => whnf
  rintro (_ | _) h1
  · rw [show sameC a b = false by unfold sameC; rw [show all2 fnB a.fs b.fs = false from h1]; rfl]
    (conv => whnf) <;> rfl
  conv => whnf
  refine ⟨_, x_equalI a.is b.is ha.is ha.ks, ?_⟩
  rw [show sameC a b = all2 inBq a.is b.is by unfold sameC; rw [show all2 fnB a.fs b.fs = true from h1]; rfl]
  (conv => whnf) <;> rfl
set_option maxHeartbeats 2000000 in
set_option maxRecDepth 100000 in
theorem x_rsameC (a b : Cd) (ha : CdBig a) : DCalls Tryz.prog 20 [a.V, b.V] (boo (sameC a b)) := by
  have hfa : (a.fs.map fnD).length = a.fs.length := List.length_map _
  have hfb : (b.fs.map fnD).length = b.fs.length := List.length_map _
  have hia : (a.is.map inD).length = a.is.length := List.length_map _
  have hib : (b.is.map inD).length = b.is.length := List.length_map _
  have b1 := ha.fs
  have b2 := ha.is
  refine sx Tryz.func20 (by kernel_rfl) ?_
  conv => whnf
  rintro (_ | _) h0
  rotate_left
  · have h0 : a.fs.length ≠ b.fs.length := by rw [hfa, hfb] at h0; simp at h0; omega
    rw [show sameC a b = false by unfold sameC; rw [all2_len h0]; rfl]
    (conv => whnf) <;> rfl
  have h0 : a.fs.length = b.fs.length := by rw [hfa, hfb] at h0; simp at h0; omega
  conv => whnf
  rintro (_ | _) h1
  rotate_left
  · have h1 : a.is.length ≠ b.is.length := by rw [hia, hib] at h1; simp at h1; omega
    rw [show sameC a b = false by unfold sameC; rw [all2_len h1]; simp]
    (conv => whnf) <;> rfl
  have h1 : a.is.length = b.is.length := by rw [hia, hib] at h1; simp at h1; omega
  conv => whnf
  refine ⟨[], Nat, fun k => [(5, int k)], fun _ => [], fun k => k ≤ a.fs.length ∧ all2 fnB (a.fs.drop k) (b.fs.drop k) = all2 fnB a.fs b.fs, fun k => a.fs.length - k, 0, ⟨Nat.zero_le _, rfl⟩, ?_, ?_⟩
  · refine ⟨rfl, ?_, ?_⟩ <;> repeat' (first | exact trivial | exact rfl | refine and_rfl ?_ | refine and_two ?_ ?_)
  rintro k ⟨hk1, hk⟩
  conv => whnf
  rintro (_ | _) h2
  · have h2 : a.fs.length ≤ k := by rw [← hfa]; simpa using h2
    rw [List.drop_eq_nil_of_le h2, List.drop_eq_nil_of_le (by omega), show all2 fnB [] [] = true from rfl] at hk
    rw [show sameC a b = all2 inBq a.is b.is by unfold sameC; rw [← hk]; rfl]
    conv => whnf
    refine ⟨[], Nat, fun k => [(6, int k)], fun _ => [], fun k => k ≤ a.is.length ∧ all2 inBq (a.is.drop k) (b.is.drop k) = all2 inBq a.is b.is, fun k => a.is.length - k, 0, ⟨Nat.zero_le _, rfl⟩, ?_, ?_⟩
    · refine ⟨rfl, ?_, ?_⟩ <;> repeat' (first | exact trivial | exact rfl | refine and_rfl ?_ | refine and_two ?_ ?_)
    rintro j ⟨hj1, hj⟩
    conv => whnf
    rintro (_ | _) h3
    · have h3 : a.is.length ≤ j := by rw [← hia]; simpa using h3
      rw [List.drop_eq_nil_of_le h3, List.drop_eq_nil_of_le (by omega), show all2 inBq [] [] = true from rfl] at hj
      rw [← hj]
      (conv => whnf) <;> rfl
    have h3 : j < a.is.length := by rw [← hia]; simpa using h3
    have h4 : j < b.is.length := by omega
    rw [all2_drop h3 h4] at hj
    conv => whnf
    refine ⟨none, by kernel_rfl, ?_⟩
    conv => whnf
    refine ⟨by omega, _, get_map inD h3, ?_⟩
    conv => whnf
    refine ⟨by omega, _, get_map inD h4, ?_⟩
    conv => whnf
    refine ⟨_, x_ralike a.is[j] b.is[j] (ha.ks _ (List.getElem_mem h3)), ?_⟩
    conv => whnf
    rintro (_ | _) h5
    · have h5 : inBq a.is[j] b.is[j] = true := by simpa using h5
      rw [h5, Bool.true_and] at hj
      conv => whnf
      refine ⟨j + 1, ⟨h3, hj⟩, by dsimp only; omega, ?_⟩
      refine ⟨rfl, ?_, ?_⟩ <;> repeat' (first | exact trivial | exact rfl | refine and_rfl ?_ | refine and_val (wrap_succ (by omega)) ?_ | refine and_two ?_ ?_)
    · have h5 : inBq a.is[j] b.is[j] = false := by simpa using h5
      rw [h5, Bool.false_and] at hj
      rw [← hj]
      (conv => whnf) <;> rfl
  have h2 : k < a.fs.length := by rw [← hfa]; simpa using h2
  have h3 : k < b.fs.length := by omega
  rw [all2_drop h2 h3] at hk
  conv => whnf
  refine ⟨none, by kernel_rfl, ?_⟩
  conv => whnf
  refine ⟨by omega, _, get_map fnD h2, ?_⟩
  conv => whnf
  refine ⟨by omega, _, get_map fnD h3, ?_⟩
  conv => whnf
  refine ⟨_, eq_fn a.fs[k] b.fs[k], ?_⟩
  conv => whnf
  rw [eqPl_fn]
  rintro (_ | _) h4
  · have h4 : fnB a.fs[k] b.fs[k] = true := by simpa using h4
    rw [h4, Bool.true_and] at hk
    conv => whnf
    refine ⟨k + 1, ⟨h2, hk⟩, by dsimp only; omega, ?_⟩
    refine ⟨rfl, ?_, ?_⟩ <;> repeat' (first | exact trivial | exact rfl | refine and_rfl ?_ | refine and_val (wrap_succ (by omega)) ?_ | refine and_two ?_ ?_)
  · have h4 : fnB a.fs[k] b.fs[k] = false := by simpa using h4
    rw [h4, Bool.false_and] at hk
    rw [show sameC a b = false by unfold sameC; rw [← hk]; rfl]
    (conv => whnf) <;> rfl
end Go.Proofs.YtkpmlgpkmlhbjaaGreatDoor
namespace Go.Proofs.YtkpmlgpkmlhbjaaGreatDoor
open Go.RowKit
structure CdOk (c : Cd) : Prop where
  fs : c.fs.length ≤ 16
  is : c.is.length ≤ 4000
  nm : ∀ f ∈ c.fs, f.nm.length ≤ 281474976710656
  ins : ∀ x ∈ c.is, InOk x
def psB (f : Fn) : Bool := inB f.ps 0 8 && inB f.ls f.ps 32
def orB (n : Nat) (f : Fn) (e : Int) : Bool := f.en == e && decide (f.en < f.ed) && decide (f.ed ≤ (n : Int))
def fnsF (c : Cd) : List Fn → Nat → Int → Int × Int
  | [], _, e => if e = (c.is.length : Int) then (0, 0) else (c.fs.length, 11)
  | f :: r, k, e =>
    if nameB f.nm && !decide (findF f.nm c.fs 0 < (k : Int)) then
      if psB f then
        if orB c.is.length f e then fnsF c r (k + 1) f.ed else (k, 11)
      else (k, 2)
    else (k, 4)
def fnsP (c : Cd) : Int × Int := fnsF c c.fs 0 0
abbrev ieV (p : Int × Int) : V := .tu [int p.1, int p.2]
theorem fin_ie {p q : Int × Int} (h : p = q) : V.tu [int p.1, int p.2] = ieV q := by rw [h]
theorem fnsF_cons (c : Cd) (f : Fn) (r : List Fn) (k : Nat) (e : Int) : fnsF c (f :: r) k e =
    if nameB f.nm && !decide (findF f.nm c.fs 0 < (k : Int)) then (if psB f then (if orB c.is.length f e then fnsF c r (k + 1) f.ed else (k, 11)) else (k, 2)) else (k, 4) := rfl
set_option maxHeartbeats 8000000 in
set_option maxRecDepth 100000 in
theorem x_functions (c : Cd) (hc : CdOk c) : DCalls Tryz.prog 54 [c.V] (ieV (fnsP c)) := by
  have hlf : (c.fs.map fnD).length = c.fs.length := List.length_map _
  have hli : (c.is.map inD).length = c.is.length := List.length_map _
  have hb1 := hc.fs
  have hb2 := hc.is
  refine sx Tryz.func54 (by kernel_rfl) ?_
  conv => whnf
  refine ⟨[], Nat × Int, fun ⟨k, e⟩ => [(10, int k), (4, int e)], fun _ => [], fun ⟨k, e⟩ => k ≤ c.fs.length ∧ fnsF c (c.fs.drop k) k e = fnsP c, fun x => c.fs.length - x.1, (0, 0), ⟨Nat.zero_le _, rfl⟩, ?_, ?_⟩
  · refine ⟨rfl, ?_, ?_⟩ <;> repeat' (first | exact trivial | exact rfl | refine and_rfl ?_ | refine and_two ?_ ?_)
  rintro ⟨k, e⟩ ⟨hk1, hk⟩
  conv => whnf
  rintro (_ | _) h2
  · have h2 : c.fs.length ≤ k := by rw [← hlf]; simpa using h2
    rw [List.drop_eq_nil_of_le h2] at hk
    unfold fnsF at hk
    conv => whnf
    rintro (_ | _) h3
    · have h3 : e = c.is.length := by rw [← hli]; simpa using h3
      rw [if_pos h3] at hk
      conv => whnf
      exact fin_ie (p := (0, 0)) hk
    · have h3 : ¬ e = c.is.length := by rw [← hli]; simpa using h3
      rw [if_neg h3] at hk
      conv => whnf
      rw [hlf]
      conv => whnf
      exact fin_ie (p := (_, 11)) hk
  have h2 : k < c.fs.length := by rw [← hlf]; simpa using h2
  have hw : IntKind.i64.wrap (((k : Nat) : Int) + 1) = ((k + 1 : Nat) : Int) := wrap_succ (by omega)
  rw [List.drop_eq_getElem_cons h2, fnsF_cons] at hk
  have hm : c.fs[k] ∈ c.fs := List.getElem_mem h2
  conv => whnf
  refine ⟨by omega, _, get_map fnD h2, ?_⟩
  generalize c.fs[k] = f at *
  conv => whnf
  refine ⟨_, x_name f.nm (hc.nm f hm), ?_⟩
  conv => whnf
  rintro (_ | _) h3
  rotate_left
  · have h3 : nameB f.nm = false := by simpa using h3
    rw [h3, if_neg (by simp)] at hk
    conv => whnf
    exact fin_ie (p := (_, 4)) hk
  have h3 : nameB f.nm = true := by simpa using h3
  conv => whnf
  refine ⟨_, x_find c f.nm (by omega), ?_⟩
  conv => whnf
  rintro (_ | _) h4
  rotate_left
  · rw [h3, h4, if_neg (by simp)] at hk
    conv => whnf
    exact fin_ie (p := (_, 4)) hk
  rw [h3, h4, if_pos (by rfl)] at hk
  conv => whnf
  refine ⟨_, x_in f.ps 0 8, ?_⟩
  conv => whnf
  rintro (_ | _) h5
  rotate_left
  · have h5 : inB f.ps 0 8 = false := by simpa using h5
    rw [show psB f = false by unfold psB; rw [h5]; rfl, if_neg (by simp)] at hk
    conv => whnf
    exact fin_ie (p := (_, 2)) hk
  have h5 : inB f.ps 0 8 = true := by simpa using h5
  conv => whnf
  refine ⟨_, x_in f.ls f.ps 32, ?_⟩
  conv => whnf
  rintro (_ | _) h6
  rotate_left
  · have h6 : inB f.ls f.ps 32 = false := by simpa using h6
    rw [show psB f = false by unfold psB; rw [h5, h6]; rfl, if_neg (by simp)] at hk
    conv => whnf
    exact fin_ie (p := (_, 2)) hk
  have h6 : inB f.ls f.ps 32 = true := by simpa using h6
  rw [show psB f = true by unfold psB; rw [h5, h6]; rfl, if_pos rfl] at hk
  conv => whnf
  rintro (_ | _) h7
  rotate_left
  · have h7 : f.en ≠ e := by simpa using h7
    rw [show orB c.is.length f e = false by unfold orB; simp [h7], if_neg (by simp)] at hk
    conv => whnf
    exact fin_ie (p := (_, 11)) hk
  have h7 : f.en = e := by simpa using h7
  conv => whnf
  rintro (_ | _) h8
  rotate_left
  · have h8 : ¬ f.en < f.ed := by simp at h8; omega
    rw [show orB c.is.length f e = false by unfold orB; simp [h8], if_neg (by simp)] at hk
    conv => whnf
    exact fin_ie (p := (_, 11)) hk
  have h8 : f.en < f.ed := by simp at h8; omega
  conv => whnf
  rintro (_ | _) h9
  rotate_left
  · have h9 : ¬ f.ed ≤ (c.is.length : Int) := by rw [← hli]; simp at h9 ⊢; omega
    rw [show orB c.is.length f e = false by unfold orB; simp [h9], if_neg (by simp)] at hk
    conv => whnf
    exact fin_ie (p := (_, 11)) hk
  have h9 : f.ed ≤ (c.is.length : Int) := by rw [← hli]; simp at h9 ⊢; omega
  rw [show orB c.is.length f e = true by unfold orB; simp [h7, h9]; omega, if_pos rfl] at hk
  conv => whnf
  refine ⟨(k + 1, f.ed), ⟨h2, hk⟩, by dsimp only; omega, ?_⟩
  refine ⟨rfl, ?_, ?_⟩ <;> repeat' (first | exact trivial | exact rfl | refine and_rfl ?_ | refine and_val hw ?_ | refine and_two ?_ ?_)
end Go.Proofs.YtkpmlgpkmlhbjaaGreatDoor
namespace Go.Proofs.YtkpmlgpkmlhbjaaGreatDoor
open Go.RowKit
set_option maxHeartbeats 8000000 in
set_option maxRecDepth 100000 in
theorem x_rfunctions (c : Cd) (hc : CdOk c) : DCalls Tryz.prog 57 [c.V] (ieV (fnsP c)) := by
  have hlf : (c.fs.map fnD).length = c.fs.length := List.length_map _
  have hli : (c.is.map inD).length = c.is.length := List.length_map _
  have hb1 := hc.fs
  have hb2 := hc.is
  refine sx Tryz.func57 (by kernel_rfl) ?_
  conv => whnf
  refine ⟨[], Nat × Int, fun ⟨k, e⟩ => [(5, int k), (4, int e)], fun _ => [], fun ⟨k, e⟩ => k ≤ c.fs.length ∧ fnsF c (c.fs.drop k) k e = fnsP c, fun x => c.fs.length - x.1, (0, 0), ⟨Nat.zero_le _, rfl⟩, ?_, ?_⟩
  · refine ⟨rfl, ?_, ?_⟩ <;> repeat' (first | exact trivial | exact rfl | refine and_rfl ?_ | refine and_two ?_ ?_)
  rintro ⟨k, e⟩ ⟨hk1, hk⟩
  conv => whnf
  rintro (_ | _) h2
  · have h2 : c.fs.length ≤ k := by rw [← hlf]; simpa using h2
    rw [List.drop_eq_nil_of_le h2] at hk
    unfold fnsF at hk
    conv => whnf
    rintro (_ | _) h3
    · have h3 : e = c.is.length := by rw [← hli]; simpa using h3
      rw [if_pos h3] at hk
      conv => whnf
      exact fin_ie (p := (0, 0)) hk
    · have h3 : ¬ e = c.is.length := by rw [← hli]; simpa using h3
      rw [if_neg h3] at hk
      conv => whnf
      rw [hlf]
      conv => whnf
      exact fin_ie (p := (_, 11)) hk
  have h2 : k < c.fs.length := by rw [← hlf]; simpa using h2
  have hw : IntKind.i64.wrap (((k : Nat) : Int) + 1) = ((k + 1 : Nat) : Int) := wrap_succ (by omega)
  rw [List.drop_eq_getElem_cons h2, fnsF_cons] at hk
  have hm : c.fs[k] ∈ c.fs := List.getElem_mem h2
  conv => whnf
  refine ⟨by omega, _, get_map fnD h2, ?_⟩
  generalize c.fs[k] = f at *
  conv => whnf
  refine ⟨_, x_rname f.nm (hc.nm f hm), ?_⟩
  conv => whnf
  rintro (_ | _) h3
  rotate_left
  · have h3 : nameB f.nm = false := by simpa using h3
    rw [h3, if_neg (by simp)] at hk
    conv => whnf
    exact fin_ie (p := (_, 4)) hk
  have h3 : nameB f.nm = true := by simpa using h3
  conv => whnf
  refine ⟨_, x_rfind c f.nm (by omega), ?_⟩
  conv => whnf
  rintro (_ | _) h4
  rotate_left
  · rw [h3, h4, if_neg (by simp)] at hk
    conv => whnf
    exact fin_ie (p := (_, 4)) hk
  rw [h3, h4, if_pos (by rfl)] at hk
  conv => whnf
  rintro (_ | _) ha
  rotate_left
  · have ha : f.ps < 0 := by simpa using ha
    rw [show psB f = false by unfold psB inB; simp; omega, if_neg (by simp)] at hk
    conv => whnf
    exact fin_ie (p := (_, 2)) hk
  have ha : 0 ≤ f.ps := by simp at ha; omega
  conv => whnf
  rintro (_ | _) hb
  rotate_left
  · have hb : 8 < f.ps := by simpa using hb
    rw [show psB f = false by unfold psB inB; simp; omega, if_neg (by simp)] at hk
    conv => whnf
    exact fin_ie (p := (_, 2)) hk
  have hb : f.ps ≤ 8 := by simp at hb; omega
  conv => whnf
  rintro (_ | _) hcc
  rotate_left
  · have hcc : f.ls < f.ps := by simpa using hcc
    rw [show psB f = false by unfold psB inB; simp; omega, if_neg (by simp)] at hk
    conv => whnf
    exact fin_ie (p := (_, 2)) hk
  have hcc : f.ps ≤ f.ls := by simp at hcc; omega
  conv => whnf
  rintro (_ | _) hd
  rotate_left
  · have hd : 32 < f.ls := by simpa using hd
    rw [show psB f = false by unfold psB inB; simp; omega, if_neg (by simp)] at hk
    conv => whnf
    exact fin_ie (p := (_, 2)) hk
  have hd : f.ls ≤ 32 := by simp at hd; omega
  rw [show psB f = true by unfold psB inB; simp; omega, if_pos rfl] at hk
  conv => whnf
  rintro (_ | _) h7
  rotate_left
  · have h7 : f.en ≠ e := by simpa using h7
    rw [show orB c.is.length f e = false by unfold orB; simp [h7], if_neg (by simp)] at hk
    conv => whnf
    exact fin_ie (p := (_, 11)) hk
  have h7 : f.en = e := by simpa using h7
  conv => whnf
  rintro (_ | _) h8
  rotate_left
  · have h8 : ¬ f.en < f.ed := by simp at h8; omega
    rw [show orB c.is.length f e = false by unfold orB; simp [h8], if_neg (by simp)] at hk
    conv => whnf
    exact fin_ie (p := (_, 11)) hk
  have h8 : f.en < f.ed := by simp at h8; omega
  conv => whnf
  rintro (_ | _) h9
  rotate_left
  · have h9 : ¬ f.ed ≤ (c.is.length : Int) := by rw [← hli]; simp at h9 ⊢; omega
    rw [show orB c.is.length f e = false by unfold orB; simp [h9], if_neg (by simp)] at hk
    conv => whnf
    exact fin_ie (p := (_, 11)) hk
  have h9 : f.ed ≤ (c.is.length : Int) := by rw [← hli]; simp at h9 ⊢; omega
  rw [show orB c.is.length f e = true by unfold orB; simp [h7, h9]; omega, if_pos rfl] at hk
  conv => whnf
  refine ⟨(k + 1, f.ed), ⟨h2, hk⟩, by dsimp only; omega, ?_⟩
  refine ⟨rfl, ?_, ?_⟩ <;> repeat' (first | exact trivial | exact rfl | refine and_rfl ?_ | refine and_val hw ?_ | refine and_two ?_ ?_)
end Go.Proofs.YtkpmlgpkmlhbjaaGreatDoor
namespace Go.Proofs.YtkpmlgpkmlhbjaaGreatDoor
open Go.RowKit
theorem rep_get {n i j : Nat} {z : Value} {d : D} (h : ((List.replicate n [D.cv z])[i]?.bind fun x => x[j]?) = some d) : j = 0 ∧ i < n ∧ d = .cv z := by
  rw [List.getElem?_replicate] at h
  split at h
  · rename_i hlt
    cases j with
    | zero => simp at h; exact ⟨rfl, hlt, h.symm⟩
    | succ j => simp at h
  · cases h
theorem ot_makeZ {P : Program} {o : Oper} {E : Operand → V} {m : List (Option Bk)} {ty e n dst : Nat} {i : TypeInfo} {l c : Operand} {z : Value} (ho : o.op = .makeSlice ty l c) (hl : E l = .cv (.int .i64 (n : Nat))) (hc : E c = .cv (.int .i64 (n : Nat))) (hd : o.dst = some dst) (hm : m[dst]? = some none)
    (ht : P.underlying ty = some (.slice e)) (hi : P.info? e = some i) (hz : i.zero = some z) (hzc : z.cells = #[z]) (hz1 : z.oneCell' = true) (hsz : i.size = 1) (hb : i.bytes * n ≤ 281474976710656) (hn : n ≤ 281474976710656) :
    OpTr P o E m (.ow dst 0) (m.set dst (some (.row 0 e 1 true (List.replicate n [.cv z])))) := by
  intro B w0 N S t a w hs hr
  have h1 := hr l (by rw [ho]; simp [Op.operands])
  have h2 := hr c (by rw [ho]; simp [Op.operands])
  rw [hl] at h1; rw [hc] at h2
  generalize hu1 : a.eval l = u1 at h1
  generalize hu2 : a.eval c = u2 at h2
  cases h1; cases h2
  have hb' : (i.bytes : Int) * (n : Int) ≤ 281474976710656 := by
    have : ((i.bytes : Int) * (n : Int)) = ((i.bytes * n : Nat) : Int) := by simp
    omega
  have hrun := run_make (P := P) w ty e i z ht hi hz .i64 .i64 n n (by omega) (by omega) hb' (by omega)
  rw [hsz, Nat.mul_one] at hrun
  have hlen : (List.replicate n [D.cv z]).length = n := by simp
  have hpost := newK_row hs (dst := o.dst) (f := true) (xs := List.replicate n [D.cv z]) (us := madeCells z.cells n) (ty := e) (sz := 1) (cap := n) (w1 := w) (.inl rfl) (by omega)
    (fun x hx => by rw [List.eq_of_mem_replicate hx]; rfl) (by rw [size_madeCells]; omega) (by omega) (by simp only [maxLen]; omega)
    (fun i' j d' hd' => by
      obtain ⟨rfl, hlt, rfl⟩ := rep_get hd'
      refine ⟨z, ?_, .cv _ hz1⟩
      rw [hzc]
      simp [madeCells, hlt]
      rw [Nat.mod_one]; rfl)
    (K := fun v m' => v = .ow dst 0 ∧ m' = m.set dst (some (.row 0 e 1 true (List.replicate n [.cv z])))) (by
      unfold newK
      rw [hd]
      simp [hm, setK_eq])
  refine opOk_val (u := .slice (some ⟨w.heap.size, 0, none⟩) n n) (w' := w.alloc (.cells (madeCells z.cells n) e)) ?_ ?_
  · unfold execOp
    simp only [ho]
    refine run_v ?_
    rw [hu1, hu2]
    simpa using hrun
  · rw [hlen] at hpost
    obtain ⟨N', S', v, m', h3, h4, rfl, rfl⟩ := hpost
    exact ⟨N', S', h3, h4⟩
end Go.Proofs.YtkpmlgpkmlhbjaaGreatDoor
