/- Texts joined by pack.py: XCd16 XCd17 XCd18 XCd19 XCd20 XCd21 -/
import Derived.Test.YtkpmlgpkmlhbjaaGreatDoorCp22
import Derived.Test.YtkpmlgpkmlhbjaaGreatDoorCp23
import Derived.Maps.OwnSet
import Derived.ChangeMaps4
import Derived.Carry
namespace Go.Proofs.YtkpmlgpkmlhbjaaGreatDoor
open Go.RowKit
structure Fn where
  nm : Bs
  ps : Int
  ls : Int
  en : Int
  ed : Int
structure In where
  op : Int
  a : Int
  s : Bs
  ks : List Bs
structure Cd where
  fs : List Fn
  is : List In
def fnD (f : Fn) : List D := [.cv (.string (mk f.nm)), .cv (.int .i64 f.ps), .cv (.int .i64 f.ls), .cv (.int .i64 f.en), .cv (.int .i64 f.ed)]
def inD (x : In) : List D := [.cv (.int .i64 x.op), .cv (.int .i64 x.a), .cv (.string (mk x.s)), .sl 1 (x.ks.map strD)]
abbrev Fn.V (f : Fn) : V := .ag [bstr f.nm, int f.ps, int f.ls, int f.en, int f.ed]
abbrev In.V (x : In) : V := .ag [int x.op, int x.a, bstr x.s, strsV x.ks]
abbrev Cd.V (c : Cd) : V := .ag [.sl true 5 (c.fs.map fnD), .sl true 4 (c.is.map inD)]
def nameB (l : Bs) : Bool := wholeB l && !kwL l
theorem textT_name (l : Bs) (h : nameB l = true) : textT ⟨1, l, 0, 0⟩ = (l, 0) := by
  unfold nameB at h
  simp only [Bool.and_eq_true, Bool.not_eq_true'] at h
  unfold textT
  simp [h.1, h.2]
theorem textT_name0 (l : Bs) : ((textT ⟨1, l, 0, 0⟩).2 == 0) = nameB l := by
  cases h : nameB l with
  | true => rw [textT_name l h]; rfl
  | false =>
    unfold nameB at h
    unfold textT
    simp only [show ¬ ((1 : Int) = 3) by omega, show ¬ ((1 : Int) = 2) by omega, show ¬ ((1 : Int) = 5) by omega, show ¬ ((1 : Int) = 6) by omega, show ¬ ((1 : Int) = 4) by omega, false_and, if_false, or_false, ne_eq, not_true_eq_false, true_and]
    rw [if_neg (by cases h1 : wholeB l <;> cases h2 : kwL l <;> simp_all)]
    rfl
theorem tokens_name {l : Bs} {t : Tok} {a : Nat} (h : tokens l = ([t], a, 0)) (h1 : t.kind = 1) (h2 : t.text = l) : nameB l = true := by
  have ho := tokens_own (s := l) (by rw [h])
  rw [h] at ho
  obtain ⟨k, _, h3, _⟩ := ho
  obtain ⟨K, x, v, at_⟩ := t
  simp only at h1 h2
  subst h1 h2
  unfold textT at h3
  unfold nameB
  simp only [show ¬ ((1 : Int) = 3) by omega, show ¬ ((1 : Int) = 2) by omega, show ¬ ((1 : Int) = 5) by omega, show ¬ ((1 : Int) = 6) by omega, show ¬ ((1 : Int) = 4) by omega, false_and, if_false, or_false, true_and] at h3
  split at h3
  · cases h3
  · split at h3
    · rename_i h4; simp [h4.1, h4.2]
    · cases h3
theorem name_tokens {l : Bs} (h : nameB l = true) : tokens l = ([⟨1, l, 0, 0⟩], 0, 0) := by
  have ht := textT_name l h
  have hl : l.length ≤ 24 := by unfold nameB wholeB at h; simp at h; omega
  have hj : joinT [⟨1, l, 0, 0⟩] = (l, 0) := by
    unfold joinT
    have : texts [⟨1, l, 0, 0⟩] = ([l], 0) := by unfold texts; rw [ht]; simp [texts]
    rw [this]
    simp [joinSp]; omega
  exact (join_back hj).1
set_option maxHeartbeats 2000000 in
set_option maxRecDepth 100000 in
theorem x_rname (l : Bs) (hl : l.length ≤ 281474976710656) : DCalls Tryz.prog 84 [bstr l] (boo (nameB l)) := by
  refine sx Tryz.func84 (by kernel_rfl) ?_
  conv => whnf
  refine ⟨_, x_rtextOfG ⟨1, l, 0, 0⟩ hl, ?_⟩
  conv => whnf
  rw [← textT_name0]
set_option maxHeartbeats 2000000 in
set_option maxRecDepth 100000 in
theorem x_name (l : Bs) (hl : l.length ≤ 281474976710656) : DCalls Tryz.prog 78 [bstr l] (boo (nameB l)) := by
  have hL := x_tokens l hl
  have e1 := @tokens_err l
  have e2 := @name_tokens l
  have e3 := @tokens_name l
  generalize tokens l = T at *
  obtain ⟨ts, a, e⟩ := T
  dsimp only at *
  refine sx Tryz.func78 (by kernel_rfl) ?_
  conv => whnf
  refine ⟨_, hL, ?_⟩
  conv => whnf
  rintro (_ | _) h
  · have h : e ≠ 0 := by simpa using h
    rw [show nameB l = false by cases hn : nameB l with
      | false => rfl
      | true => rw [(Prod.mk.inj (Prod.mk.inj (e2 hn)).2).2] at h; exact absurd rfl h]
    (conv => whnf) <;> rfl
  have h : e = 0 := by simpa using h
  subst h
  match ts with
  | [] =>
    rw [show nameB l = false by cases hn : nameB l with
      | false => rfl
      | true => cases (Prod.mk.inj (e2 hn)).1]
    conv => whnf
    refine known false rfl ?_
    (conv => whnf) <;> rfl
  | t :: u :: r =>
    rw [show nameB l = false by cases hn : nameB l with
      | false => rfl
      | true => have := (Prod.mk.inj (e2 hn)).1; simp at this]
    conv => whnf
    refine known false (by simp; omega) ?_
    (conv => whnf) <;> rfl
  | [t] =>
    conv => whnf
    refine known true rfl ?_
    conv => whnf
    refine ⟨by omega, _, rfl, ?_⟩
    conv => whnf
    rintro (_ | _) h1
    · have h1 : t.kind ≠ 1 := by simpa using h1
      rw [show nameB l = false by cases hn : nameB l with
        | false => rfl
        | true => have := (Prod.mk.inj (e2 hn)).1; simp at this; rw [this] at h1; exact absurd rfl h1]
      (conv => whnf) <;> rfl
    have h1 : t.kind = 1 := by simpa using h1
    conv => whnf
    refine ⟨by omega, _, rfl, ?_⟩
    conv => whnf
    have e : (sEq (mk t.text) (mk l)) = nameB l := by
      rw [sEq_mk]
      cases hn : nameB l with
      | false =>
        cases h2 : t.text == l with
        | false => rfl
        | true => rw [e3 rfl h1 (by simpa using h2)] at hn; cases hn
      | true =>
        have := (Prod.mk.inj (e2 hn)).1
        simp at this
        rw [this]; simp
    unfold sEq at e
    rw [e]
end Go.Proofs.YtkpmlgpkmlhbjaaGreatDoor
namespace Go.Proofs.YtkpmlgpkmlhbjaaGreatDoor
open Go.RowKit
def leS (a b : Bs) : Bool := Op.bytesLess (mk a).toList (mk b).toList || ((mk a).toList == (mk b).toList)
def keysF : Option Bs → List Bs → Bool
  | _, [] => true
  | p, s :: r => contB s && !(match p with | none => false | some q => leS s q) && keysF (some s) r
def keysB (l : List Bs) : Bool := keysF none l
def prv (l : List Bs) : Nat → Option Bs
  | 0 => none
  | k + 1 => l[k]?
def tokS (l : Bs) : Bs := (textT ⟨4, l, 0, 0⟩).1
theorem textT_str0 (l : Bs) : ((textT ⟨4, l, 0, 0⟩).2 == 0) = contB l := by
  unfold textT
  simp only [show ¬ ((4 : Int) = 3) by omega, show ¬ ((4 : Int) = 2) by omega, show ¬ ((4 : Int) = 5) by omega, show ¬ ((4 : Int) = 6) by omega, show ¬ ((4 : Int) = 1) by omega, false_and, if_false, or_false, ne_eq, not_true_eq_false, true_and]
  cases h : contB l <;> simp
set_option maxHeartbeats 2000000 in
set_option maxRecDepth 100000 in
theorem x_rtoken (l : Bs) (hl : l.length ≤ 281474976710656) : DCalls Tryz.prog 77 [bstr l] (.tu [bstr (tokS l), boo (contB l)]) := by
  refine sx Tryz.func77 (by kernel_rfl) ?_
  conv => whnf
  refine ⟨_, x_rtextOfG ⟨4, l, 0, 0⟩ hl, ?_⟩
  conv => whnf
  rw [← textT_str0]
  rfl
theorem i_pred {k : Nat} (h : k < 9223372036854775807) : IntKind.i64.wrap (((k + 1 : Nat) : Int) - 1) = (k : Int) := by
  rw [IntWalk.i64_in _ (by omega)]; omega
theorem keysF_at {l : List Bs} {k : Nat} (h : k < l.length) : keysF (prv l k) (l.drop k) = (contB l[k] && !(match prv l k with | none => false | some q => leS l[k] q) && keysF (prv l (k + 1)) (l.drop (k + 1))) := by
  rw [List.drop_eq_getElem_cons h, show prv l (k + 1) = some l[k] from List.getElem?_eq_getElem h]; rfl
set_option maxHeartbeats 2000000 in
set_option maxRecDepth 100000 in
theorem x_keys (l : List Bs) (hn : l.length ≤ 8796093022207) (hl : ∀ b ∈ l, b.length ≤ 281474976710656) : DCalls Tryz.prog 121 [strsV l] (boo (keysB l)) := by
  refine sx Tryz.func121 (by kernel_rfl) ?_
  conv => whnf
  refine ⟨[], Nat, fun k => [(7, int k)], fun _ => [], fun k => k ≤ l.length ∧ keysF (prv l k) (l.drop k) = keysB l, fun k => l.length - k, 0, ⟨Nat.zero_le _, rfl⟩, ?_, ?_⟩
  · refine ⟨rfl, ?_, ?_⟩ <;> repeat' (first | exact trivial | exact rfl | refine and_rfl ?_ | refine and_two ?_ ?_)
  rintro k ⟨hk1, hk⟩
  conv => whnf
  rintro (_ | _) h2
  · have h2 : l.length ≤ k := by simp at h2; omega
    rw [List.drop_eq_nil_of_le h2] at hk
    rw [← hk]
    (conv => whnf) <;> rfl
  have h2 : k < l.length := by simp at h2; omega
  have hw : IntKind.i64.wrap (((k : Nat) : Int) + 1) = ((k + 1 : Nat) : Int) := wrap_succ (by omega)
  rw [keysF_at h2] at hk
  conv => whnf
  refine ⟨by omega, _, get_map strD h2, ?_⟩
  conv => whnf
  refine ⟨_, x_ctext l[k] (hl _ (List.getElem_mem h2)), ?_⟩
  conv => whnf
  rintro (_ | _) h3
  rotate_left
  · have h3 : contB l[k] = false := by simpa using h3
    rw [show keysB l = false by rw [← hk, h3]; rfl]
    (conv => whnf) <;> rfl
  have h3 : contB l[k] = true := by simpa using h3
  rw [h3, Bool.true_and] at hk
  cases k with
  | zero =>
    conv => whnf
    refine known false rfl ?_
    conv => whnf
    refine ⟨1, ⟨h2, hk⟩, by dsimp only; omega, ?_⟩
    refine ⟨rfl, ?_, ?_⟩ <;> repeat' (first | exact trivial | exact rfl | refine and_rfl ?_ | refine and_val hw ?_ | refine and_two ?_ ?_)
  | succ k =>
    rw [show prv l (k + 1) = some l[k] from List.getElem?_eq_getElem (by omega)] at hk
    conv => whnf
    refine known true (by simp <;> omega) ?_
    conv => whnf
    refine ⟨(by (rw [i_pred (by omega)]) <;> omega), _, (by rw [i_pred (by omega)]; exact get_map strD (by omega)), ?_⟩
    conv => whnf
    rintro (_ | _) h4
    rotate_left
    · have h4 : leS l[k + 1] l[k] = true := h4
      rw [show keysB l = false by rw [← hk]; simp [h4]]
      (conv => whnf) <;> rfl
    have h4 : leS l[k + 1] l[k] = false := h4
    simp only [h4, Bool.not_false, Bool.true_and] at hk
    conv => whnf
    refine ⟨k + 1 + 1, ⟨h2, hk⟩, by dsimp only; omega, ?_⟩
    refine ⟨rfl, ?_, ?_⟩ <;> repeat' (first | exact trivial | exact rfl | refine and_rfl ?_ | refine and_val hw ?_ | refine and_two ?_ ?_)
set_option maxHeartbeats 2000000 in
set_option maxRecDepth 100000 in
theorem x_ascend (l : List Bs) (hn : l.length ≤ 8796093022207) (hl : ∀ b ∈ l, b.length ≤ 281474976710656) : DCalls Tryz.prog 86 [strsV l] (boo (keysB l)) := by
  refine sx Tryz.func86 (by kernel_rfl) ?_
  conv => whnf
  refine ⟨[], Nat, fun k => [(3, int k)], fun _ => [], fun k => k ≤ l.length ∧ keysF (prv l k) (l.drop k) = keysB l, fun k => l.length - k, 0, ⟨Nat.zero_le _, rfl⟩, ?_, ?_⟩
  · refine ⟨rfl, ?_, ?_⟩ <;> repeat' (first | exact trivial | exact rfl | refine and_rfl ?_ | refine and_two ?_ ?_)
  rintro k ⟨hk1, hk⟩
  conv => whnf
  rintro (_ | _) h2
  · have h2 : l.length ≤ k := by simp at h2; omega
    rw [List.drop_eq_nil_of_le h2] at hk
    rw [← hk]
    (conv => whnf) <;> rfl
  have h2 : k < l.length := by simp at h2; omega
  have hw : IntKind.i64.wrap (((k : Nat) : Int) + 1) = ((k + 1 : Nat) : Int) := wrap_succ (by omega)
  rw [keysF_at h2] at hk
  conv => whnf
  refine ⟨by omega, _, get_map strD h2, ?_⟩
  conv => whnf
  refine ⟨_, x_rtoken l[k] (hl _ (List.getElem_mem h2)), ?_⟩
  conv => whnf
  refine ⟨none, by kernel_rfl, ?_⟩
  conv => whnf
  rintro (_ | _) h3
  rotate_left
  · have h3 : contB l[k] = false := by simpa using h3
    rw [show keysB l = false by rw [← hk, h3]; rfl]
    (conv => whnf) <;> rfl
  have h3 : contB l[k] = true := by simpa using h3
  rw [h3, Bool.true_and] at hk
  cases k with
  | zero =>
    conv => whnf
    refine known false rfl ?_
    conv => whnf
    refine ⟨1, ⟨h2, hk⟩, by dsimp only; omega, ?_⟩
    refine ⟨rfl, ?_, ?_⟩ <;> repeat' (first | exact trivial | exact rfl | refine and_rfl ?_ | refine and_val hw ?_ | refine and_two ?_ ?_)
  | succ k =>
    rw [show prv l (k + 1) = some l[k] from List.getElem?_eq_getElem (by omega)] at hk
    conv => whnf
    refine known true (by simp <;> omega) ?_
    conv => whnf
    refine ⟨by omega, _, get_map strD h2, ?_⟩
    conv => whnf
    refine ⟨(by (rw [i_pred (by omega)]) <;> omega), _, (by rw [i_pred (by omega)]; exact get_map strD (by omega)), ?_⟩
    conv => whnf
    rintro (_ | _) h4
    rotate_left
    · have h4 : leS l[k + 1] l[k] = true := h4
      rw [show keysB l = false by rw [← hk]; simp [h4]]
      (conv => whnf) <;> rfl
    have h4 : leS l[k + 1] l[k] = false := h4
    simp only [h4, Bool.not_false, Bool.true_and] at hk
    conv => whnf
    refine ⟨k + 1 + 1, ⟨h2, hk⟩, by dsimp only; omega, ?_⟩
    refine ⟨rfl, ?_, ?_⟩ <;> repeat' (first | exact trivial | exact rfl | refine and_rfl ?_ | refine and_val hw ?_ | refine and_two ?_ ?_)
end Go.Proofs.YtkpmlgpkmlhbjaaGreatDoor
namespace Go.Proofs.YtkpmlgpkmlhbjaaGreatDoor
open Go.RowKit
theorem run_insert_lit {P : Program} {w : World} {t k e : TypeId} {b clock : Nat} {es : Array MapEntry} {s : ByteArray} {v : Value} (ht : P.underlying t = some (.map k e)) (hk : P.underlying k = some .string)
    (hb : w.heap[b]? = some (.map es clock)) (hf : Instr.findNow .string (.string s) es.toList 0 = some none) :
    (Instr.mapUpdate t (.map (some b)) (.string s) v).run P w = .ok () { w with heap := w.heap.setIfInBounds b (.map (es.push ⟨.string s, v, clock⟩) (clock + 1)) } := by
  simp [Instr.mapUpdate, run_underlying ht, MapKept.run_getObj_map hb, MapKept.run_checkKey (k := .string s) hk (by trivial), MapKept.run_findKey hk hf, MapKept.run_setObj_map _ hb, Result.andThen]
theorem run_lookup_lit {P : Program} {w : World} {t k e : TypeId} {b clock : Nat} {es : Array MapEntry} {s : ByteArray} {r : Option (Nat × Value)} {z : Value} (ht : P.underlying t = some (.map k e)) (hk : P.underlying k = some .string)
    (hz : (zeroValue e).run P w = .ok z w) (hb : w.heap[b]? = some (.map es clock)) (hf : Instr.findNow .string (.string s) es.toList 0 = some r) :
    (Instr.lookup t (.map (some b)) (.string s) true).run P w = .ok (.tuple #[(r.map (·.2)).getD z, .bool r.isSome]) w := by
  cases r <;> simp [Instr.lookup, run_underlying ht, MapKept.run_getObj_map hb, MapKept.run_checkKey (k := .string s) hk (by trivial), MapKept.run_findKey hk hf, hz, Result.andThen]
theorem setBelow {w : World} {b B : Nat} (hB : B ≤ b) (o : Obj) : Below B w { w with heap := w.heap.setIfInBounds b o } :=
  ⟨rfl, rfl, rfl, by simp, fun k hk => by simp [show b ≠ k by omega]⟩
theorem wpList_insert_lit {P : Program} {w : World} {ops : Array Oper} {rest : List Oper} {o : Oper} {a : Act} {Q} (hg : o.guard = none) (m x v : Operand) (t : TypeId) (hop : o.op = Op.insert t m x v)
    (k e : TypeId) (ht : P.underlying t = some (.map k e)) (hk : P.underlying k = some .string) (b clock : Nat) (es : Array MapEntry) (s : ByteArray) (val : Value)
    (hm : a.eval m = .map (some b)) (hx : a.eval x = .string s) (hv : a.eval v = val) (hb : w.heap[b]? = some (.map es clock)) (hf : Instr.findNow .string (.string s) es.toList 0 = some none)
    (hK : ∀ w', w'.heap[b]? = some (.map (es.push ⟨.string s, val, clock⟩) (clock + 1)) → Below b w w' → wpList P ops Q rest (a.put o.dst undef) w') : wpList P ops Q (o :: rest) a w := by
  refine wpList_plain hg fun K' hK' => ?_
  have hrun := run_insert_lit (v := val) ht hk hb hf
  unfold Oper.wp
  simp [execOp, hop, hm, hx, hv, hrun, Result.andThen]
  exact hK' _ _ (hK _ (by simp [(Array.getElem?_eq_some_iff.1 hb).1]) (setBelow (Nat.le_refl _) _))
def litE : Nat → List (Bs × Int) → List MapEntry
  | _, [] => []
  | c, (s, n) :: r => ⟨.string (mk s), .int .i64 n, c⟩ :: litE (c + 1) r
def lookT (s : Bs) : List (Bs × Int) → Int × Bool
  | [] => (0, false)
  | (k, n) :: r => if s == k then (n, true) else lookT s r
theorem litE_app : ∀ (c : Nat) (L : List (Bs × Int)) (p : Bs × Int), litE c (L ++ [p]) = litE c L ++ [⟨.string (mk p.1), .int .i64 p.2, c + L.length⟩]
  | c, [], p => rfl
  | c, (s, n) :: r, p => by
    rw [List.cons_append]
    simp only [litE, List.cons_append, litE_app (c + 1) r p, List.length_cons]
    rw [show c + 1 + r.length = c + (r.length + 1) by omega]
theorem mk_beq (a b : Bs) : (mk a == mk b) = (a == b) := by
  rw [Bool.eq_iff_iff]
  simp only [MapKept.bytes_beq, beq_iff_eq]
  exact ⟨mk_inj, fun h => by rw [h]⟩
theorem findNow_lit (s : Bs) : ∀ (L : List (Bs × Int)) (c i : Nat), ∃ r, Instr.findNow .string (.string (mk s)) (litE c L) i = some r ∧ (r.map (·.2)).getD (.int .i64 0) = .int .i64 (lookT s L).1 ∧ r.isSome = (lookT s L).2
  | [], c, i => ⟨none, rfl, rfl, rfl⟩
  | (k, n) :: r, c, i => by
    simp only [litE, Instr.findNow, Instr.sameNow, lookT, mk_beq]
    cases h : s == k with
    | true => exact ⟨_, rfl, rfl, rfl⟩
    | false => exact findNow_lit s r (c + 1) (i + 1)
theorem wpList_insert_int {P : Program} {w : World} {ops : Array Oper} {rest : List Oper} {o : Oper} {a : Act} {Q} (hg : o.guard = none) (m x v : Operand) (t : TypeId) (hop : o.op = Op.insert t m x v)
    (k e : TypeId) (ht : P.underlying t = some (.map k e)) (hk : P.underlying k = some .string) (b : Nat) (L : List (Bs × Int)) (s : Bs) (n : Int)
    (hm : a.eval m = .map (some b)) (hx : a.eval x = .string (mk s)) (hv : a.eval v = .int .i64 n) (hb : w.heap[b]? = some (.map (litE 0 L).toArray L.length)) (hf : Instr.findNow .string (.string (mk s)) (litE 0 L) 0 = some none)
    (hK : ∀ w', w'.heap[b]? = some (.map (litE 0 (L ++ [(s, n)])).toArray (L ++ [(s, n)]).length) → Below b w w' → wpList P ops Q rest (a.put o.dst undef) w') : wpList P ops Q (o :: rest) a w :=
  wpList_insert_lit hg m x v t hop k e ht hk b _ _ _ _ hm hx hv hb (by simpa using hf) fun w' h1 h2 => hK w' (by rw [h1, litE_app]; simp) h2
theorem tyM : Tryz.prog.underlying 171 = some (.map 9 3) := by kernel_rfl
theorem tyS : Tryz.prog.underlying 9 = some .string := by kernel_rfl
theorem zeroI (w : World) : (zeroValue 3).run Tryz.prog w = .ok (.int .i64 0) w := by kernel_rfl
set_option maxHeartbeats 1000000 in
set_option maxRecDepth 100000 in
theorem arity_at (b : Nat) (s : Bs) (w : World) (L : List (Bs × Int)) (h : w.heap[b]? = some (.map (litE 0 L).toArray L.length)) :
    Calls Tryz.prog 154 #[.map (some b), .string (mk s)] w fun e w' => e = .returned (.tuple #[.int .i64 (lookT s L).1, .bool (lookT s L).2]) ∧ w' = w := by
  obtain ⟨r, hf, e1, e2⟩ := findNow_lit s L 0 0
  have hrun := run_lookup_lit tyM tyS (zeroI w) h (by simpa using hf)
  rw [e1, e2] at hrun
  go_enter Tryz.func154, Tryz.ntmps154
  go_wp2
  go_ret2
  exact ⟨rfl, rfl⟩
def builtT : List (Bs × Int) := [([108, 101, 110], 1), ([115, 116, 114], 1), ([105, 110, 116], 1), ([112, 117, 115, 104], 2), ([112, 117, 116], 3), ([107, 101, 121, 115], 1), ([104, 97, 115], 2), ([102, 97, 105, 108], 1)]
set_option maxHeartbeats 1000000 in
set_option maxRecDepth 100000 in
theorem builtin_at (s : Bs) (w : World) : Calls Tryz.prog 122 #[.string (mk s)] w fun e w' => e = .returned (.tuple #[.int .i64 (lookT s builtT).1, .bool (lookT s builtT).2]) ∧ Below w.heap.size w w' := by
  obtain ⟨b, w1, hm, hsz, hb0, hB0⟩ : ∃ b w1, (Instr.makeMap 171 none).run Tryz.prog w = .ok (.map (some b)) w1 ∧ w.heap.size = b ∧ w1.heap[b]? = some (.map (litE 0 []).toArray ([] : List (Bs × Int)).length) ∧ Below b w w1 :=
    ⟨_, _, run_makeMap _ w, rfl, by show (w.heap.push _)[w.heap.size]? = _; simp [litE], Below.alloc (Below.refl _ _) (Nat.le_refl _) _⟩
  go_enter Tryz.func122, Tryz.ntmps122
  go_wp2_with (first
    | (refine wpList_insert_int rfl _ _ _ 171 rfl _ _ tyM tyS b _ _ _ rfl rfl rfl (by assumption) (by kernel_rfl) ?_; intro w' hb' hB')
    | (go_at_call 154; refine (arity_at b s _ _ (by assumption)).mono ?_; rintro e w' ⟨rfl, rfl⟩)
    | go_in)
  go_ret2
  refine ⟨rfl, ?_⟩
  rw [hsz]
  repeat (first | assumption | refine Below.trans (by assumption) ?_)
def hostT : List (Bs × Int) := [([103, 101, 116], 1), ([112, 117, 116], 2), ([100, 101, 108, 101, 116, 101], 1), ([115, 101, 110, 100], 2), ([116, 105, 109, 101, 114], 3), ([115, 105, 103, 110, 97, 108], 2), ([115, 101, 99, 114, 101, 116], 1), ([102, 101, 116, 99, 104], 2), ([110, 111, 119], 0), ([108, 111, 103], 1)]
set_option maxHeartbeats 1000000 in
set_option maxRecDepth 100000 in
theorem hostop_at (s : Bs) (w : World) : Calls Tryz.prog 123 #[.string (mk s)] w fun e w' => e = .returned (.tuple #[.int .i64 (lookT s hostT).1, .bool (lookT s hostT).2]) ∧ Below w.heap.size w w' := by
  obtain ⟨b, w1, hm, hsz, hb0, hB0⟩ : ∃ b w1, (Instr.makeMap 171 none).run Tryz.prog w = .ok (.map (some b)) w1 ∧ w.heap.size = b ∧ w1.heap[b]? = some (.map (litE 0 []).toArray ([] : List (Bs × Int)).length) ∧ Below b w w1 :=
    ⟨_, _, run_makeMap _ w, rfl, by show (w.heap.push _)[w.heap.size]? = _; simp [litE], Below.alloc (Below.refl _ _) (Nat.le_refl _) _⟩
  go_enter Tryz.func123, Tryz.ntmps123
  go_wp2_with (first
    | (refine wpList_insert_int rfl _ _ _ 171 rfl _ _ tyM tyS b _ _ _ rfl rfl rfl (by assumption) (by kernel_rfl) ?_; intro w' hb' hB')
    | (go_at_call 154; refine (arity_at b s _ _ (by assumption)).mono ?_; rintro e w' ⟨rfl, rfl⟩)
    | go_in)
  go_ret2
  refine ⟨rfl, ?_⟩
  rw [hsz]
  repeat (first | assumption | refine Below.trans (by assumption) ?_)
theorem x_built (l : Bs) : DCalls Tryz.prog 122 [bstr l] (.tu [int (lookT l builtT).1, boo (lookT l builtT).2]) :=
  dcalls_val Tryz.func122 (by kernel_rfl) (by kernel_rfl) rfl rfl fun w _ => builtin_at l w
theorem x_hostop (l : Bs) : DCalls Tryz.prog 123 [bstr l] (.tu [int (lookT l hostT).1, boo (lookT l hostT).2]) :=
  dcalls_val Tryz.func123 (by kernel_rfl) (by kernel_rfl) rfl rfl fun w _ => hostop_at l w
end Go.Proofs.YtkpmlgpkmlhbjaaGreatDoor
namespace Go.Proofs.YtkpmlgpkmlhbjaaGreatDoor
open Go.RowKit
theorem lit_eq (a : Bs) (d : Array UInt8) : ((mk a).toList == (⟨d⟩ : ByteArray).toList) = (a == d.toList) := sEq_mk a d.toList
theorem sne {a b : Bs} (h : a ≠ b) : ((mk a).toList == (mk b).toList) = false := by
  have := sEq_mk a b
  unfold sEq at this
  rw [this]
  exact beq_eq_false_iff_ne.2 h
set_option maxHeartbeats 4000000 in
set_option maxRecDepth 100000 in
theorem x_rbuilt (l : Bs) : DCalls Tryz.prog 125 [bstr l] (.tu [int (lookT l builtT).1, boo (lookT l builtT).2]) := by
  by_cases h0 : l = [108, 101, 110]
  · subst h0
    refine sx Tryz.func125 (by kernel_rfl) ?_
    repeat ((conv => whnf); first | refine known true ((lit_eq _ _).trans rfl) ?_ | refine known false ((lit_eq _ _).trans rfl) ?_)
    (conv => whnf) <;> rfl
  by_cases h1 : l = [115, 116, 114]
  · subst h1
    refine sx Tryz.func125 (by kernel_rfl) ?_
    repeat ((conv => whnf); first | refine known true ((lit_eq _ _).trans rfl) ?_ | refine known false ((lit_eq _ _).trans rfl) ?_)
    (conv => whnf) <;> rfl
  by_cases h2 : l = [105, 110, 116]
  · subst h2
    refine sx Tryz.func125 (by kernel_rfl) ?_
    repeat ((conv => whnf); first | refine known true ((lit_eq _ _).trans rfl) ?_ | refine known false ((lit_eq _ _).trans rfl) ?_)
    (conv => whnf) <;> rfl
  by_cases h3 : l = [112, 117, 115, 104]
  · subst h3
    refine sx Tryz.func125 (by kernel_rfl) ?_
    repeat ((conv => whnf); first | refine known true ((lit_eq _ _).trans rfl) ?_ | refine known false ((lit_eq _ _).trans rfl) ?_)
    (conv => whnf) <;> rfl
  by_cases h4 : l = [112, 117, 116]
  · subst h4
    refine sx Tryz.func125 (by kernel_rfl) ?_
    repeat ((conv => whnf); first | refine known true ((lit_eq _ _).trans rfl) ?_ | refine known false ((lit_eq _ _).trans rfl) ?_)
    (conv => whnf) <;> rfl
  by_cases h5 : l = [107, 101, 121, 115]
  · subst h5
    refine sx Tryz.func125 (by kernel_rfl) ?_
    repeat ((conv => whnf); first | refine known true ((lit_eq _ _).trans rfl) ?_ | refine known false ((lit_eq _ _).trans rfl) ?_)
    (conv => whnf) <;> rfl
  by_cases h6 : l = [104, 97, 115]
  · subst h6
    refine sx Tryz.func125 (by kernel_rfl) ?_
    repeat ((conv => whnf); first | refine known true ((lit_eq _ _).trans rfl) ?_ | refine known false ((lit_eq _ _).trans rfl) ?_)
    (conv => whnf) <;> rfl
  by_cases h7 : l = [102, 97, 105, 108]
  · subst h7
    refine sx Tryz.func125 (by kernel_rfl) ?_
    repeat ((conv => whnf); first | refine known true ((lit_eq _ _).trans rfl) ?_ | refine known false ((lit_eq _ _).trans rfl) ?_)
    (conv => whnf) <;> rfl
  rw [show lookT l builtT = (0, false) by simp [builtT, lookT, h0, h1, h2, h3, h4, h5, h6, h7]]
  refine sx Tryz.func125 (by kernel_rfl) ?_
  iterate 8 ((conv => whnf); first | refine known false (sne h0) ?_ | refine known false (sne h1) ?_ | refine known false (sne h2) ?_ | refine known false (sne h3) ?_ | refine known false (sne h4) ?_ | refine known false (sne h5) ?_ | refine known false (sne h6) ?_ | refine known false (sne h7) ?_)
  (conv => whnf) <;> rfl
set_option maxHeartbeats 4000000 in
set_option maxRecDepth 100000 in
theorem x_rhostop (l : Bs) : DCalls Tryz.prog 126 [bstr l] (.tu [int (lookT l hostT).1, boo (lookT l hostT).2]) := by
  by_cases h0 : l = [103, 101, 116]
  · subst h0
    refine sx Tryz.func126 (by kernel_rfl) ?_
    repeat ((conv => whnf); first | refine known true ((lit_eq _ _).trans rfl) ?_ | refine known false ((lit_eq _ _).trans rfl) ?_)
    (conv => whnf) <;> rfl
  by_cases h1 : l = [112, 117, 116]
  · subst h1
    refine sx Tryz.func126 (by kernel_rfl) ?_
    repeat ((conv => whnf); first | refine known true ((lit_eq _ _).trans rfl) ?_ | refine known false ((lit_eq _ _).trans rfl) ?_)
    (conv => whnf) <;> rfl
  by_cases h2 : l = [100, 101, 108, 101, 116, 101]
  · subst h2
    refine sx Tryz.func126 (by kernel_rfl) ?_
    repeat ((conv => whnf); first | refine known true ((lit_eq _ _).trans rfl) ?_ | refine known false ((lit_eq _ _).trans rfl) ?_)
    (conv => whnf) <;> rfl
  by_cases h3 : l = [115, 101, 110, 100]
  · subst h3
    refine sx Tryz.func126 (by kernel_rfl) ?_
    repeat ((conv => whnf); first | refine known true ((lit_eq _ _).trans rfl) ?_ | refine known false ((lit_eq _ _).trans rfl) ?_)
    (conv => whnf) <;> rfl
  by_cases h4 : l = [116, 105, 109, 101, 114]
  · subst h4
    refine sx Tryz.func126 (by kernel_rfl) ?_
    repeat ((conv => whnf); first | refine known true ((lit_eq _ _).trans rfl) ?_ | refine known false ((lit_eq _ _).trans rfl) ?_)
    (conv => whnf) <;> rfl
  by_cases h5 : l = [115, 105, 103, 110, 97, 108]
  · subst h5
    refine sx Tryz.func126 (by kernel_rfl) ?_
    repeat ((conv => whnf); first | refine known true ((lit_eq _ _).trans rfl) ?_ | refine known false ((lit_eq _ _).trans rfl) ?_)
    (conv => whnf) <;> rfl
  by_cases h6 : l = [115, 101, 99, 114, 101, 116]
  · subst h6
    refine sx Tryz.func126 (by kernel_rfl) ?_
    repeat ((conv => whnf); first | refine known true ((lit_eq _ _).trans rfl) ?_ | refine known false ((lit_eq _ _).trans rfl) ?_)
    (conv => whnf) <;> rfl
  by_cases h7 : l = [102, 101, 116, 99, 104]
  · subst h7
    refine sx Tryz.func126 (by kernel_rfl) ?_
    repeat ((conv => whnf); first | refine known true ((lit_eq _ _).trans rfl) ?_ | refine known false ((lit_eq _ _).trans rfl) ?_)
    (conv => whnf) <;> rfl
  by_cases h8 : l = [110, 111, 119]
  · subst h8
    refine sx Tryz.func126 (by kernel_rfl) ?_
    repeat ((conv => whnf); first | refine known true ((lit_eq _ _).trans rfl) ?_ | refine known false ((lit_eq _ _).trans rfl) ?_)
    (conv => whnf) <;> rfl
  by_cases h9 : l = [108, 111, 103]
  · subst h9
    refine sx Tryz.func126 (by kernel_rfl) ?_
    repeat ((conv => whnf); first | refine known true ((lit_eq _ _).trans rfl) ?_ | refine known false ((lit_eq _ _).trans rfl) ?_)
    (conv => whnf) <;> rfl
  rw [show lookT l hostT = (0, false) by simp [hostT, lookT, h0, h1, h2, h3, h4, h5, h6, h7, h8, h9]]
  refine sx Tryz.func126 (by kernel_rfl) ?_
  iterate 10 ((conv => whnf); first | refine known false (sne h0) ?_ | refine known false (sne h1) ?_ | refine known false (sne h2) ?_ | refine known false (sne h3) ?_ | refine known false (sne h4) ?_ | refine known false (sne h5) ?_ | refine known false (sne h6) ?_ | refine known false (sne h7) ?_ | refine known false (sne h8) ?_ | refine known false (sne h9) ?_)
  (conv => whnf) <;> rfl
end Go.Proofs.YtkpmlgpkmlhbjaaGreatDoor
namespace Go.Proofs.YtkpmlgpkmlhbjaaGreatDoor
open Go.RowKit
def idxS (s : Bs) : List Bs → Nat → Int
  | [], _ => -1
  | k :: r, i => if s == k then i else idxS s r (i + 1)
theorem idxS_cons (s k : Bs) (r : List Bs) (i : Nat) : idxS s (k :: r) i = if s == k then (i : Int) else idxS s r (i + 1) := rfl
def hasS (s : Bs) (l : List Bs) : Bool := decide (idxS s l 0 ≥ 0)
def binOps : List Bs := [[43], [45], [42], [47], [37], [61, 61], [33, 61], [60], [60, 61], [62], [62, 61]]
set_option maxHeartbeats 2000000 in
set_option maxRecDepth 100000 in
theorem x_indexS (l : List Bs) (s : Bs) (hn : l.length ≤ 8796093022207) : DCalls Tryz.prog 153 [strsV l, bstr s] (int (idxS s l 0)) := by
  refine sx Tryz.func153 (by kernel_rfl) ?_
  conv => whnf
  refine ⟨[], Nat, fun k => [(8, int k)], fun _ => [], fun k => k ≤ l.length ∧ idxS s (l.drop k) k = idxS s l 0, fun k => l.length - k, 0, ⟨Nat.zero_le _, rfl⟩, ?_, ?_⟩
  · refine ⟨rfl, ?_, ?_⟩ <;> repeat' (first | exact trivial | exact rfl | refine and_rfl ?_ | refine and_two ?_ ?_)
  rintro k ⟨hk1, hk⟩
  conv => whnf
  rintro (_ | _) h2
  · have h2 : l.length ≤ k := by simp at h2; omega
    rw [List.drop_eq_nil_of_le h2] at hk
    rw [← hk]
    (conv => whnf) <;> rfl
  have h2 : k < l.length := by simp at h2; omega
  have hw : IntKind.i64.wrap (((k : Nat) : Int) + 1) = ((k + 1 : Nat) : Int) := wrap_succ (by omega)
  rw [List.drop_eq_getElem_cons h2, idxS_cons] at hk
  conv => whnf
  refine ⟨by omega, _, get_map strD h2, ?_⟩
  conv => whnf
  rintro (_ | _) h3
  · have h3 : (s == l[k]) = false := by rw [← sEq_mk]; exact h3
    rw [h3, if_neg (by simp)] at hk
    conv => whnf
    refine ⟨k + 1, ⟨h2, hk⟩, by dsimp only; omega, ?_⟩
    refine ⟨rfl, ?_, ?_⟩ <;> repeat' (first | exact trivial | exact rfl | refine and_rfl ?_ | refine and_val hw ?_ | refine and_two ?_ ?_)
  · have h3 : (s == l[k]) = true := by rw [← sEq_mk]; exact h3
    rw [h3, if_pos rfl] at hk
    rw [← hk]
    (conv => whnf) <;> rfl
set_option maxHeartbeats 2000000 in
set_option maxRecDepth 100000 in
theorem x_containsS (l : List Bs) (s : Bs) (hn : l.length ≤ 8796093022207) : DCalls Tryz.prog 120 [strsV l, bstr s] (boo (hasS s l)) := by
  refine sx Tryz.func120 (by kernel_rfl) ?_
  conv => whnf
  refine ⟨_, x_indexS l s hn, ?_⟩
  (conv => whnf) <;> rfl
set_option maxHeartbeats 4000000 in
set_option maxRecDepth 100000 in
theorem x_rbinary (l : Bs) : DCalls Tryz.prog 87 [bstr l] (boo (hasS l binOps)) := by
  by_cases h0 : l = [43]
  · subst h0
    refine sx Tryz.func87 (by kernel_rfl) ?_
    repeat ((conv => whnf); first | refine known true ((lit_eq _ _).trans rfl) ?_ | refine known false ((lit_eq _ _).trans rfl) ?_)
    try ((conv => whnf) <;> first | rfl | (rw [lit_eq]; rfl))
  by_cases h1 : l = [45]
  · subst h1
    refine sx Tryz.func87 (by kernel_rfl) ?_
    repeat ((conv => whnf); first | refine known true ((lit_eq _ _).trans rfl) ?_ | refine known false ((lit_eq _ _).trans rfl) ?_)
    try ((conv => whnf) <;> first | rfl | (rw [lit_eq]; rfl))
  by_cases h2 : l = [42]
  · subst h2
    refine sx Tryz.func87 (by kernel_rfl) ?_
    repeat ((conv => whnf); first | refine known true ((lit_eq _ _).trans rfl) ?_ | refine known false ((lit_eq _ _).trans rfl) ?_)
    try ((conv => whnf) <;> first | rfl | (rw [lit_eq]; rfl))
  by_cases h3 : l = [47]
  · subst h3
    refine sx Tryz.func87 (by kernel_rfl) ?_
    repeat ((conv => whnf); first | refine known true ((lit_eq _ _).trans rfl) ?_ | refine known false ((lit_eq _ _).trans rfl) ?_)
    try ((conv => whnf) <;> first | rfl | (rw [lit_eq]; rfl))
  by_cases h4 : l = [37]
  · subst h4
    refine sx Tryz.func87 (by kernel_rfl) ?_
    repeat ((conv => whnf); first | refine known true ((lit_eq _ _).trans rfl) ?_ | refine known false ((lit_eq _ _).trans rfl) ?_)
    try ((conv => whnf) <;> first | rfl | (rw [lit_eq]; rfl))
  by_cases h5 : l = [61, 61]
  · subst h5
    refine sx Tryz.func87 (by kernel_rfl) ?_
    repeat ((conv => whnf); first | refine known true ((lit_eq _ _).trans rfl) ?_ | refine known false ((lit_eq _ _).trans rfl) ?_)
    try ((conv => whnf) <;> first | rfl | (rw [lit_eq]; rfl))
  by_cases h6 : l = [33, 61]
  · subst h6
    refine sx Tryz.func87 (by kernel_rfl) ?_
    repeat ((conv => whnf); first | refine known true ((lit_eq _ _).trans rfl) ?_ | refine known false ((lit_eq _ _).trans rfl) ?_)
    try ((conv => whnf) <;> first | rfl | (rw [lit_eq]; rfl))
  by_cases h7 : l = [60]
  · subst h7
    refine sx Tryz.func87 (by kernel_rfl) ?_
    repeat ((conv => whnf); first | refine known true ((lit_eq _ _).trans rfl) ?_ | refine known false ((lit_eq _ _).trans rfl) ?_)
    try ((conv => whnf) <;> first | rfl | (rw [lit_eq]; rfl))
  by_cases h8 : l = [60, 61]
  · subst h8
    refine sx Tryz.func87 (by kernel_rfl) ?_
    repeat ((conv => whnf); first | refine known true ((lit_eq _ _).trans rfl) ?_ | refine known false ((lit_eq _ _).trans rfl) ?_)
    try ((conv => whnf) <;> first | rfl | (rw [lit_eq]; rfl))
  by_cases h9 : l = [62]
  · subst h9
    refine sx Tryz.func87 (by kernel_rfl) ?_
    repeat ((conv => whnf); first | refine known true ((lit_eq _ _).trans rfl) ?_ | refine known false ((lit_eq _ _).trans rfl) ?_)
    try ((conv => whnf) <;> first | rfl | (rw [lit_eq]; rfl))
  by_cases h10 : l = [62, 61]
  · subst h10
    refine sx Tryz.func87 (by kernel_rfl) ?_
    repeat ((conv => whnf); first | refine known true ((lit_eq _ _).trans rfl) ?_ | refine known false ((lit_eq _ _).trans rfl) ?_)
    try ((conv => whnf) <;> first | rfl | (rw [lit_eq]; rfl))
  rw [show hasS l binOps = false by simp [hasS, idxS, binOps, h0, h1, h2, h3, h4, h5, h6, h7, h8, h9, h10]]
  refine sx Tryz.func87 (by kernel_rfl) ?_
  iterate 10 ((conv => whnf); first | refine known false (sne h0) ?_ | refine known false (sne h1) ?_ | refine known false (sne h2) ?_ | refine known false (sne h3) ?_ | refine known false (sne h4) ?_ | refine known false (sne h5) ?_ | refine known false (sne h6) ?_ | refine known false (sne h7) ?_ | refine known false (sne h8) ?_ | refine known false (sne h9) ?_)
  conv => whnf
  rw [show ((mk l).toList == (⟨#[62, 61]⟩ : ByteArray).toList) = false from sne h10]
theorem op20 {n : Int} (h1 : 1 ≤ n) (h2 : n ≤ 20) : n = 1 ∨ n = 2 ∨ n = 3 ∨ n = 4 ∨ n = 5 ∨ n = 6 ∨ n = 7 ∨ n = 8 ∨ n = 9 ∨ n = 10 ∨ n = 11 ∨ n = 12 ∨ n = 13 ∨ n = 14 ∨ n = 15 ∨ n = 16 ∨ n = 17 ∨ n = 18 ∨ n = 19 ∨ n = 20 := by omega
def bareB (n : Int) : Bool := n == 1 || n == 4 || n == 7 || n == 8 || n == 9 || n == 10 || n == 15 || n == 16 || n == 20
set_option maxHeartbeats 4000000 in
set_option maxRecDepth 100000 in
theorem x_rbare (n : Int) (h1 : 1 ≤ n) (h2 : n ≤ 20) : DCalls Tryz.prog 76 [int n] (boo (bareB n)) := by
  rcases op20 h1 h2 with h | h | h | h | h | h | h | h | h | h | h | h | h | h | h | h | h | h | h | h <;> subst h
  all_goals
    refine sx Tryz.func76 (by kernel_rfl) ?_
    repeat ((conv => whnf); first | refine known true rfl ?_ | refine known false rfl ?_)
    try ((conv => whnf) <;> rfl)
def knownB (n : Int) : Bool := decide (1 ≤ n) && decide (n ≤ 20)
set_option maxHeartbeats 2000000 in
theorem x_known (n : Int) : DCalls Tryz.prog 80 [int n] (boo (knownB n)) := by
  refine sx Tryz.func80 (by kernel_rfl) ?_
  conv => whnf
  rintro (_ | _) h
  · have h : ¬ 1 ≤ n := by simp at h; omega
    rw [show knownB n = false by unfold knownB; simp [h]]
    (conv => whnf) <;> rfl
  · have h : 1 ≤ n := by simp at h; omega
    rw [show knownB n = decide (n ≤ 20) by unfold knownB; simp [h]]
    (conv => whnf) <;> rfl
def inB (n a b : Int) : Bool := decide (a ≤ n) && decide (n ≤ b)
set_option maxHeartbeats 2000000 in
theorem x_in (n a b : Int) : DCalls Tryz.prog 79 [int n, int a, int b] (boo (inB n a b)) := by
  refine sx Tryz.func79 (by kernel_rfl) ?_
  conv => whnf
  rintro (_ | _) h
  · have h : ¬ a ≤ n := by simp at h; omega
    rw [show inB n a b = false by unfold inB; simp [h]]
    (conv => whnf) <;> rfl
  · have h : a ≤ n := by simp at h; omega
    rw [show inB n a b = decide (n ≤ b) by unfold inB; simp [h]]
    (conv => whnf) <;> rfl
end Go.Proofs.YtkpmlgpkmlhbjaaGreatDoor
namespace Go.Proofs.YtkpmlgpkmlhbjaaGreatDoor
open Go.RowKit
def opdB (nf : Nat) (f : Fn) (x : In) : Bool :=
  if bareB x.op then x.a == 0
  else if x.op == 2 then (x.a == 0 || x.a == 1)
  else if x.op == 3 then validB x.a
  else if x.op == 5 || x.op == 6 then (decide (x.a ≥ 0) && decide (x.a < f.ls))
  else if x.op == 11 then (decide (x.a ≥ 0) && decide (x.a ≤ 64))
  else if x.op == 12 then (x.a == (x.ks.length : Int) && decide (x.a ≤ 64))
  else if x.op == 13 || x.op == 14 then (decide (x.a ≥ f.en) && decide (x.a < f.ed))
  else if x.op == 17 then (decide (x.a ≥ 0) && decide (x.a < (nf : Int)))
  else if x.op == 18 then ((lookT x.s builtT).2 && x.a == (lookT x.s builtT).1)
  else ((lookT x.s hostT).2 && x.a == (lookT x.s hostT).1)
theorem fin_b {a b : Bool} (h : a = b) : V.cv (.bool a) = boo b := by rw [h]
set_option maxHeartbeats 8000000 in
set_option maxRecDepth 100000 in
theorem x_roperand (c : Cd) (f : Fn) (x : In) (h1 : 1 ≤ x.op) (h2 : x.op ≤ 20) : DCalls Tryz.prog 85 [c.V, f.V, x.V] (boo (opdB c.fs.length f x)) := by
  obtain ⟨op, a, s, ks⟩ := x
  dsimp only at h1 h2
  by_cases hb : bareB op = true
  · refine sx Tryz.func85 (by kernel_rfl) ?_
    conv => whnf
    refine ⟨_, x_rbare op h1 h2, ?_⟩
    conv => whnf
    refine known true hb ?_
    conv => whnf
    rw [show opdB c.fs.length f ⟨op, a, s, ks⟩ = (a == 0) by unfold opdB; rw [if_pos hb]]
  have ho : op = 2 ∨ op = 3 ∨ op = 5 ∨ op = 6 ∨ op = 11 ∨ op = 12 ∨ op = 13 ∨ op = 14 ∨ op = 17 ∨ op = 18 ∨ op = 19 := by
    unfold bareB at hb
    simp at hb
    omega
  refine sx Tryz.func85 (by kernel_rfl) ?_
  conv => whnf
  refine ⟨_, x_rbare op h1 h2, ?_⟩
  conv => whnf
  refine known false (by simpa using hb) ?_
  rcases ho with h | h | h | h | h | h | h | h | h | h | h <;> subst h
  all_goals repeat ((conv => whnf); first | refine known true rfl ?_ | refine known false rfl ?_)
  · conv => whnf
    rintro (_ | _) h
    · conv => whnf
      exact fin_b (show (a == 1) = ((a == 0) || (a == 1)) by rw [show (a == 0) = false from h]; rfl)
    · conv => whnf
      exact fin_b (show true = ((a == 0) || (a == 1)) by rw [show (a == 0) = true from h]; rfl)
  · conv => whnf
    refine ⟨_, x_rvalid a, ?_⟩
    (conv => whnf) <;> rfl
  iterate 2
    · conv => whnf
      rintro (_ | _) h
      · conv => whnf
        exact fin_b (show false = (decide (a ≥ 0) && decide (a < f.ls)) by rw [show decide (a ≥ 0) = false from h]; rfl)
      · conv => whnf
        exact fin_b (show decide (a < f.ls) = (decide (a ≥ 0) && decide (a < f.ls)) by rw [show decide (a ≥ 0) = true from h]; rfl)
  · conv => whnf
    rintro (_ | _) h
    · conv => whnf
      exact fin_b (show false = (decide (a ≥ 0) && decide (a ≤ 64)) by rw [show decide (a ≥ 0) = false from h]; rfl)
    · conv => whnf
      exact fin_b (show decide (a ≤ 64) = (decide (a ≥ 0) && decide (a ≤ 64)) by rw [show decide (a ≥ 0) = true from h]; rfl)
  · conv => whnf
    rintro (_ | _) h
    · conv => whnf
      exact fin_b (show false = ((a == (ks.length : Int)) && decide (a ≤ 64)) by rw [show (a == (ks.length : Int)) = false by rw [← show (ks.map strD).length = ks.length from List.length_map _]; exact h]; rfl)
    · conv => whnf
      exact fin_b (show decide (a ≤ 64) = ((a == (ks.length : Int)) && decide (a ≤ 64)) by rw [show (a == (ks.length : Int)) = true by rw [← show (ks.map strD).length = ks.length from List.length_map _]; exact h]; rfl)
  iterate 2
    · conv => whnf
      rintro (_ | _) h
      · conv => whnf
        exact fin_b (show false = (decide (a ≥ f.en) && decide (a < f.ed)) by rw [show decide (a ≥ f.en) = false from h]; rfl)
      · conv => whnf
        exact fin_b (show decide (a < f.ed) = (decide (a ≥ f.en) && decide (a < f.ed)) by rw [show decide (a ≥ f.en) = true from h]; rfl)
  · conv => whnf
    rintro (_ | _) h
    · conv => whnf
      exact fin_b (show false = (decide (a ≥ 0) && decide (a < (c.fs.length : Int))) by rw [show decide (a ≥ 0) = false from h]; rfl)
    · conv => whnf
      exact fin_b (show decide (a < ((c.fs.map fnD).length : Int)) = (decide (a ≥ 0) && decide (a < (c.fs.length : Int))) by rw [show decide (a ≥ 0) = true from h, List.length_map]; rfl)
  · conv => whnf
    refine ⟨_, x_rbuilt s, ?_⟩
    conv => whnf
    refine known false rfl ?_
    conv => whnf
    rintro (_ | _) h
    · conv => whnf
      exact fin_b (show false = ((lookT s builtT).2 && a == (lookT s builtT).1) by rw [show (lookT s builtT).2 = false from h]; rfl)
    · conv => whnf
      exact fin_b (show (a == (lookT s builtT).1) = ((lookT s builtT).2 && a == (lookT s builtT).1) by rw [show (lookT s builtT).2 = true from h]; rfl)
  · conv => whnf
    refine ⟨_, x_rbuilt s, ?_⟩
    conv => whnf
    refine known true rfl ?_
    conv => whnf
    refine ⟨_, x_rhostop s, ?_⟩
    conv => whnf
    rintro (_ | _) h
    · conv => whnf
      exact fin_b (show false = ((lookT s hostT).2 && a == (lookT s hostT).1) by rw [show (lookT s hostT).2 = false from h]; rfl)
    · conv => whnf
      exact fin_b (show (a == (lookT s hostT).1) = ((lookT s hostT).2 && a == (lookT s hostT).1) by rw [show (lookT s hostT).2 = true from h]; rfl)
end Go.Proofs.YtkpmlgpkmlhbjaaGreatDoor
