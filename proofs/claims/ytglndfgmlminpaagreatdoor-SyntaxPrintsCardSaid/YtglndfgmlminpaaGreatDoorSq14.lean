/- Texts joined by pack.py: XSxU XLx1 XLx0 XSxC0 XLx2 XLx3 -/
import Derived.Test.YtglndfgmlminpaaGreatDoorSq13
import Derived.IntWalk
import Derived.Laws.BytesArg
import Derived.Laws.Runes
set_option maxHeartbeats 4000000
set_option maxRecDepth 100000
namespace Go.Proofs.YtglndfgmlminpaaGreatDoor
section
open Go.RowKit
theorem bg_ {a b : Int} (h : a = b) : int a = int b := by rw [h]
theorem S_ {a b : Bool} (h : a = b) : boo a = boo b := by rw [h]
theorem W_ {α : Type} (f : α → List D) {l : List α} {k : Nat} (h : k < l.length) : (l.map f)[(k : Int).toNat]? = some (f l[k]) := by
 simp [h]
theorem ci_ {n : Int} (h : -9223372036854775808 ≤ n ∧ n ≤ 9223372036854775807) : IntKind.i64.wrap n = n := A_ _ h
theorem R_ {k : Nat} (h : k < 9223372036854775807) : IntKind.i64.wrap ((k : Int) + 1) = ((k + 1 : Nat) : Int) := by
 rw [A_ _ oM]; rfl
theorem am_ {α : Type} {a : α} {p : Prop} (h : p) : a = a ∧ p := ⟨rfl, h⟩
theorem ah_ {p q : Prop} (h : p) (h' : q) : p ∧ q := ⟨h, h'⟩
theorem aw_ {a b : Int} {p : Prop} (e : a = b) (h : p) : V.cv (.int .i64 a) = V.cv (.int .i64 b) ∧ p := ⟨by rw [e], h⟩
theorem eN {p : Prop} (h : p := by refine ⟨rfl, ?_, ?_⟩ <;> repeat' (first | exact trivial | exact rfl | refine am_ ?_ | refine ah_ ?_ ?_)) : p := h
theorem eA {p : Prop} (h : p := by refine ⟨rfl, ?_, ?_⟩ <;> repeat' (first | exact trivial | exact rfl | refine am_ ?_ | refine aw_ (by assumption) ?_ | refine ah_ ?_ ?_)) : p := h
theorem eW {p : Prop} (h : p := by refine ⟨rfl, ?_, ?_⟩ <;> repeat' (first | exact trivial | exact rfl | refine am_ ?_ | refine aw_ (R_ (by omega)) ?_ | refine ah_ ?_ ?_)) : p := h
def V.val1 : V → Option Value
 | .cv v => some v
 | .kb b => some (.bool b)
 | _ => none
def valsL : List V → Option (List Value)
 | [] => some []
 | v :: l => match v.val1, valsL l with
  | some u, some us => some (u :: us)
  | _, _ => none
def V.val2 : V → Option Value
 | .ag cs => (valsL cs).map fun us => .agg us.toArray
 | v => v.val1
def m1_ : List V → Option (List Value)
 | [] => some []
 | v :: l => match v.val2, m1_ l with
  | some u, some us => some (u :: us)
  | _, _ => none
def V.val : V → Option Value
 | .tu vs => (m1_ vs).map fun us => .tuple us.toArray
 | v => v.val2
section
variable {N : ax_} {S : cs_} {w : World}
theorem val1_eq {v : V} {u u' : Value} (h : RelV N S w v u) (hv : v.val1 = some u') : u = u' := by
 cases h <;> simp [V.val1] at hv <;> exact hv
theorem om_ : ∀ (cs : List V) (us : List Value), valsL cs = some us → us.length = cs.length ∧ ∀ (i : Nat) (v : V), cs[i]? = some v → ∃ u, us[i]? = some u ∧ v.val1 = some u
 | [], us, h => by simp [valsL] at h; subst h; simp
 | c :: cs, us, h => by
  simp only [valsL] at h
  split at h
  ·rename_i u us' h1 h2
   cases h
   obtain ⟨e1, e2⟩ := om_ cs us' h2
   refine ⟨by simp [e1], fun i v hv => ?_⟩
   cases i with
   | zero => simp at hv; subst hv; exact ⟨u, by simp, h1⟩
   | succ i => simpa using e2 i v (by simpa using hv)
  ·cases h
theorem val2_eq {v : V} {u u' : Value} (h : RelV N S w v u) (hv : v.val2 = some u') : u = u' := by
 cases v with
 | ag cs =>
  simp only [V.val2, o_] at hv
  obtain ⟨us', h1, rfl⟩ := hv
  obtain ⟨e1, e2⟩ := om_ cs us' h1
  cases h with
  | ag _ us hl h =>
   congr 1
   apply Array.ext'
   refine List.ext_getElem? fun i => ?_
   cases hi : cs[i]? with
   | none =>
    have h1 : cs.length ≤ i := List.getElem?_eq_none_iff.1 hi
    rw [J_ sO, J_ sO]
   | some v =>
    obtain ⟨u, h3, h4⟩ := e2 i v hi
    have := val1_eq (h i v hi) h4
    have hlt : i < us.size := by have := U_ hi; omega
    rw [get_of_lt hlt, this]
    simpa using h3.symm
 | _ => exact val1_eq h hv
theorem of_val1 {v : V} {u : Value} (hv : v.val1 = some u) : RelV N S w v u := by
 cases v <;> simp [V.val1] at hv <;> subst hv
 ·exact .cv _
 ·exact .kb _
theorem of_val2 {v : V} {u : Value} (hv : v.val2 = some u) : RelV N S w v u := by
 cases v with
 | ag cs =>
  simp only [V.val2, o_] at hv
  obtain ⟨us', h1, rfl⟩ := hv
  obtain ⟨e1, e2⟩ := om_ cs us' h1
  refine .ag _ _ (by simp [e1]) fun i v hi => ?_
  obtain ⟨u, h3, h4⟩ := e2 i v hi
  rw [cp_ (us := us'.toArray) (by simpa using h3)]
  exact of_val1 h4
 | _ => exact of_val1 hv
theorem kx_ : ∀ (cs : List V) (us : List Value), m1_ cs = some us → us.length = cs.length ∧ ∀ (i : Nat) (v : V), cs[i]? = some v → ∃ u, us[i]? = some u ∧ v.val2 = some u
 | [], us, h => by simp [m1_] at h; subst h; simp
 | c :: cs, us, h => by
  simp only [m1_] at h
  split at h
  ·rename_i u us' h1 h2
   cases h
   obtain ⟨e1, e2⟩ := kx_ cs us' h2
   refine ⟨by simp [e1], fun i v hv => ?_⟩
   cases i with
   | zero => simp at hv; subst hv; exact ⟨u, by simp, h1⟩
   | succ i => simpa using e2 i v (by simpa using hv)
  ·cases h
theorem of_val {v : V} {u : Value} (hv : v.val = some u) : RelV N S w v u := by
 cases v with
 | tu cs =>
  simp only [V.val, o_] at hv
  obtain ⟨us', h1, rfl⟩ := hv
  obtain ⟨e1, e2⟩ := kx_ cs us' h1
  refine .tu _ _ (by simp [e1]) fun i v hi => ?_
  obtain ⟨u, h3, h4⟩ := e2 i v hi
  rw [cp_ (us := us'.toArray) (by simpa using h3)]
  exact of_val2 h4
 | _ => exact of_val2 hv
end
theorem dv_ {f : FuncId} {fn : Func} {args : List V} {res : V} {us : List Value} {v : Value} (hf : Tryz.prog.funcs[f]? = some fn) (hn : (fn.name == "runtime.NumGoroutine") = false) (hb : fn.body.isNone = false) (ha : m1_ args = some us) (hr : res.val = some v)
  (h : ∀ w, jj_ w → Calls Tryz.prog f us.toArray w fun e w' => e = .returned v ∧ Below w.heap.size w w') : DCalls Tryz.prog f args res := by
 refine ⟨⟨fn, hf, hn, hb⟩, fun w vs hg hvs => ?_⟩
 obtain ⟨e1, e2⟩ := kx_ args us ha
 have : vs = us := by
  refine List.ext_getElem? fun i => ?_
  cases hi : args[i]? with
  | none =>
   have h1 : args.length ≤ i := List.getElem?_eq_none_iff.1 hi
   rw [J_ (by rw [← hvs.1]; exact h1), J_ oM]
  | some v =>
   obtain ⟨u, h3, h4⟩ := e2 i v hi
   have h5 := val2_eq (hvs.2 i v hi) h4
   have hlt : i < vs.length := by rw [← hvs.1]; exact U_ hi
   rw [h3, h_ hlt, ← h5, v_, h_ hlt]
   rfl
 subst this
 exact (h w hg).mono fun e w' ⟨he, hb⟩ => ⟨v, he, of_val hr, hb⟩
end
section
open Go.RowKit
theorem Q_ {c : Bool} (b : Bool) {K : Bool → Prop} (hc : c = b) (h : K b) : ∀ b', c = b' → K b' := fun b' e => by subst e; rw [hc]; exact h
theorem kT {K : Bool → Prop} (h : K true) : ∀ b', true = b' → K b' := fun _ e => e ▸ h
theorem kF {K : Bool → Prop} (h : K false) : ∀ b', false = b' → K b' := fun _ e => e ▸ h
def sEq (a b : ByteArray) : Bool := a.toList == b.toList
def kws : List ByteArray := [⟨#[102, 117, 110, 99]⟩, ⟨#[108, 101, 116]⟩, ⟨#[105, 102]⟩, ⟨#[101, 108, 115, 101]⟩, ⟨#[119, 104, 105, 108, 101]⟩, ⟨#[114, 101, 116, 117, 114, 110]⟩, ⟨#[97, 110, 100]⟩, ⟨#[111, 114]⟩, ⟨#[110, 111, 116]⟩, ⟨#[110, 117, 108, 108]⟩, ⟨#[116, 114, 117, 101]⟩, ⟨#[102, 97, 108, 115, 101]⟩]
def kwB (s : ByteArray) : Bool := kws.any fun k => sEq s k
theorem x_keyword (s : ByteArray) : DCalls Tryz.prog 84 [str s] (boo (kwB s)) := by
 refine sx Tryz.func84 kR ?_
 iterate 12 ((conv => whnf); rintro (_ | _) h; rotate_left; ((conv => whnf); exact S_ (by simp_all [kwB, kws, sEq])))
 conv => whnf
 exact S_ (by simp_all [kwB, kws, sEq])
theorem x_rkeyword (s : ByteArray) : DCalls Tryz.prog 102 [str s] (boo (kwB s)) := by
 refine sx Tryz.func102 kR ?_
 iterate 11 ((conv => whnf); rintro (_ | _) h; rotate_left; ((conv => whnf); exact S_ (by simp_all [kwB, kws, sEq])))
 conv => whnf
 exact S_ (by simp only [kwB, kws, sEq, List.any_cons, List.any_nil, *, Bool.false_or, Bool.or_false])
end
section
open Go.RowKit
abbrev Bs := List UInt8
def mk (l : Bs) : ByteArray := ⟨l.toArray⟩
abbrev bc_ (l : Bs) : V := str (mk l)
theorem mk_of (s : ByteArray) : mk s.data.toList = s := rfl
theorem P_ (l : Bs) : (mk l).size = l.length := by simp [mk, ByteArray.size]
theorem ni_ (l : Bs) (i : Nat) : (mk l)[i]? = l[i]? := by
 by_cases h : i < l.length
 ·rw [getElem?_pos (mk l) i (by rw [P_]; exact h), h_ h]
  simp [mk, ByteArray.getElem_eq_getElem_data]
 ·rw [getElem?_neg (mk l) i (by rw [P_]; exact h), J_ oM]
theorem ba_ext {a b : ByteArray} (h : a.data.toList = b.data.toList) : a = b := by
 rw [← mk_of a, ← mk_of b, h]
theorem j0_ (l : Bs) (a b : Nat) : (mk l).extract a b = mk ((l.take b).drop a) := by
 apply ba_ext
 simp [mk, ByteArray.data_extract, List.extract]
 rw [List.drop_take]
theorem mk_from (l : Bs) (a : Nat) : (mk l).extract a l.length = mk (l.drop a) := by rw [j0_, List.take_length]
theorem mk_to (l : Bs) (b : Nat) : (mk l).extract 0 b = mk (l.take b) := by rw [j0_, List.drop_zero]
theorem a3_ (a b : Bs) : mk a ++ mk b = mk (a ++ b) := by
 apply ba_ext
 simp [mk, ByteArray.data_append]
theorem a2_ (a b : Bs) : sEq (mk a) (mk b) = (a == b) := by
 have e : ∀ l : Bs, (mk l).toList = l := by
  intro l
  rw [ByteArray.toList_eq]
  simp [mk]
 unfold sEq
 rw [e, e]
def isBl (c : UInt8) : Bool := c == 32 || c == 9 || c == 10
def lr_ (c : UInt8) : Bool := (decide (97 ≤ c) && decide (c ≤ 122)) || c == 95
def ht_ (c : UInt8) : Bool := decide (48 ≤ c) && decide (c ≤ 57)
def syms : Bs := [40, 41, 123, 125, 91, 93, 44, 59, 58, 61, 33, 60, 62, 43, 45, 42, 47, 37]
def isSy (c : UInt8) : Bool := syms.contains c
def cls (c : UInt8) : Int := if isBl c then 1 else if lr_ c then 2 else if ht_ c then 3 else if c == 34 then 4 else if c == 64 then 5 else if isSy c then 6 else 0
def g3_ : Bs → Nat
 | [] => 0
 | c :: l => if lr_ c || ht_ c then g3_ l + 1 else 0
def bk_ : Bs → Nat
 | [] => 0
 | c :: l => if lr_ c then g3_ l + 1 else 0
def gc_ : Bs → Nat
 | [] => 0
 | c :: l => if ht_ c then gc_ l + 1 else 0
def skp : Bool → Bs → Nat
 | _, [] => 0
 | false, c :: l => if isBl c then skp false l + 1 else if c == 47 && l.head? == some 47 then skp true l + 1 else 0
 | true, c :: l => if c == 10 then skp false l + 1 else skp true l + 1
abbrev skip (l : Bs) : Nat := skp false l
def txt : Bs → Nat → Bs → Bs × Nat × Int
 | [], _, _ => ([], 0, 1)
 | c :: l, i, out => if c < 32 || c > 126 then ([], i, 1) else if c == 34 then (out, i + 1, 0) else
  if c == 92 then (match l with
   | [] => ([], i, 1)
   | d :: l' => if d == 34 || d == 92 then (if out.length = 200 then ([], 0, 3) else txt l' (i + 2) (out ++ [d])) else ([], i, 1))
  else if out.length = 200 then ([], 0, 3) else txt l (i + 1) (out ++ [c])
def eu_ : Bs → Nat → Nat
 | [], n => n
 | c :: l, n => eu_ l (10 * n + (c.toNat - 48))
def kf_ (l : Bs) : Int × Int := if l.length > 1 ∧ l.head? = some 48 then (0, 1) else if eu_ l 0 > 1000000000000 then (0, 2) else (eu_ l 0, 0)
structure Tok where
 kind : Int
 text : Bs
 val : Int
 at_ : Int
def mi_ (t : Tok) : List D := [.cv (.int .i64 t.kind), .cv (.string (mk t.text)), .cv (.int .i64 t.val), .cv (.int .i64 t.at_)]
abbrev toks (l : List Tok) : V := .sl true 4 (l.map mi_)
abbrev Tok.V (t : Tok) : V := .ag [int t.kind, bc_ t.text, int t.val, int t.at_]
def noTok : Tok := ⟨0, [], 0, 0⟩
def kwL (l : Bs) : Bool := kwB (mk l)
def kd_ (l : Bs) : Bool := l == [61, 61] || l == [33, 61] || l == [60, 61] || l == [62, 61] || (l.length == 1 && l != [33] && isSy (l.headD 0))
def cb_ (l : Bs) : Tok × Nat × Int :=
 match l with
 | [] => (noTok, 0, 1)
 | c :: r =>
  if lr_ c then
   (if bk_ l > 24 then (noTok, 0, 3) else if kwL (l.take (bk_ l)) then (⟨2, l.take (bk_ l), 0, 0⟩, bk_ l, 0) else (⟨1, l.take (bk_ l), 0, 0⟩, bk_ l, 0))
  else if ht_ c then
   (if (kf_ (l.take (gc_ l))).2 = 0 then (⟨3, [], (kf_ (l.take (gc_ l))).1, 0⟩, gc_ l, 0) else (noTok, 0, (kf_ (l.take (gc_ l))).2))
  else if c == 34 then
   (if (txt r 1 []).2.2 = 0 then (⟨4, (txt r 1 []).1, 0, 0⟩, (txt r 1 []).2.1, 0) else (noTok, (txt r 1 []).2.1, (txt r 1 []).2.2))
  else if c == 64 then
   (if bk_ r = 0 then (noTok, 0, 1) else if bk_ r > 24 then (noTok, 0, 3) else (⟨6, r.take (bk_ r), 0, 0⟩, bk_ r + 1, 0))
  else if 2 ≤ l.length ∧ kd_ (l.take 2) then (⟨5, l.take 2, 0, 0⟩, 2, 0)
  else if kd_ (l.take 1) then (⟨5, l.take 1, 0, 0⟩, 1, 0)
  else (noTok, 0, 1)
def ex_ : Nat → Bs → Nat → List Tok → List Tok × Nat × Int
 | 0, _, _, out => (out, 0, 0)
 | f + 1, l, at_, out =>
  if l = [] then (out, 0, 0) else
  if out.length = 1000 then ([], at_, 3) else
  if (cb_ l).2.2 = 0 then
   ex_ f (l.drop ((cb_ l).2.1 + skip (l.drop (cb_ l).2.1))) (at_ + (cb_ l).2.1 + skip (l.drop (cb_ l).2.1)) (out ++ [{ (cb_ l).1 with at_ := at_ }])
  else ([], at_ + (cb_ l).2.1, (cb_ l).2.2)
def al_ (l : Bs) : List Tok × Nat × Int := if l.length > 4000 then ([], 0, 3) else ex_ l.length (l.drop (skip l)) (skip l) []
def ba_ (l : Bs) : Bool := !l.isEmpty && decide (bk_ l = l.length) && decide (l.length ≤ 24)
def cl_ (l : Bs) : Bool := decide (l.length ≤ 200) && l.all fun c => !(decide (c < 32) || decide (c > 126))
def esc : Bs → Bs
 | [] => []
 | c :: l => if c == 34 || c == 92 then 92 :: c :: esc l else c :: esc l
def en_ (n : Int) : Bool := decide (-1000000000000 ≤ n) && decide (n ≤ 1000000000000)
def aa_ (t : Tok) : Bs × Int :=
 if t.kind = 3 ∧ t.text = [] ∧ 0 ≤ t.val ∧ en_ t.val then (Lib.itoa t.val, 0)
 else if t.val ≠ 0 then ([], 1)
 else if (t.kind = 1 ∧ ba_ t.text ∧ ¬ kwL t.text) ∨ (t.kind = 2 ∧ kwL t.text) ∨ (t.kind = 5 ∧ kd_ t.text) then (t.text, 0)
 else if t.kind = 6 ∧ ba_ t.text then (64 :: t.text, 0)
 else if t.kind = 4 ∧ cl_ t.text then (34 :: (esc t.text ++ [34]), 0)
 else ([], 1)
def texts : List Tok → List Bs × Int
 | [] => ([], 0)
 | t :: l => if (aa_ t).2 = 0 then (if (texts l).2 = 0 then ((aa_ t).1 :: (texts l).1, 0) else ([], (texts l).2)) else ([], (aa_ t).2)
end
section
open Go.RowKit
def a0_ (b : UInt8) : List D := [.cv (.int .u8 (b.toNat : Nat))]
abbrev bytesV (f : Bool) (l : List UInt8) : V := .sl f 1 (l.map a0_)
section
variable {P : Program} {o : Oper} {E : Operand → V} {m : List (Option Bk)} {s d : TypeId} {x : Operand}
theorem ot_rune {k : IntKind} {n : Int} (ho : o.op = .convert s d x) (hx : E x = .cv (.int k n)) (hs : (P.underlying s).isSome = true) (hd : P.underlying d = some .string) : ey_ P o E m (.cv (.string (Utf8.encode n))) m := by
 intro B w0 N S t a w hsat hr
 have h := hr x (by rw [ho]; simp [Op.operands])
 rw [hx] at h
 generalize hu : a.eval x = u at h
 cases h
 refine af_ (u := .string (Utf8.encode n)) (w' := w) ?_ ⟨N, S, hsat, .cv _⟩
 unfold execOp
 simp only [ho]
 refine cz_ ?_
 rw [hu]
 exact run_convert_int_string w s d k n hs hd
theorem oy_ {b : ByteArray} {e : TypeId} (ho : o.op = .convert s d x) (hx : E x = .cv (.string b)) (hs : P.underlying s = some .string) (hd : P.underlying d = some (.slice e)) (he : P.underlying e = some (.int .u8)) : ey_ P o E m (bytesV true b.data.toList) m := by
 intro B w0 N S t a w hsat hr
 have h := hr x (by rw [ho]; simp [Op.operands])
 rw [hx] at h
 generalize hu : a.eval x = u at h
 cases h
 have hb : Below w.heap.size w (w.drew.alloc (.cells (bytesRow b (grownCap w b.size 0 e)) e ((bytesRow b (grownCap w b.size 0 e)).size, (bytesRow b (grownCap w b.size 0 e)).size + 1))) :=
  ⟨rfl, rfl, rfl, by simp, fun k hk => Below.heap_alloc _ _ _ hk⟩
 refine af_ (u := .slice (some ⟨w.heap.size, 0, none⟩) b.size (grownCap w b.size 0 e)) (w' := w.drew.alloc _) ?_ ⟨N, _, hsat.called hb, ?_⟩
 ·unfold execOp
  simp only [ho]
  refine cz_ ?_
  rw [hu]
  exact run_bytes_of_string w s d e b hs hd he
 ·have hl : b.data.size = b.size := rfl
  refine .sl _ _ _ _ ?_
  have hlen : (b.data.toList.map a0_).length = b.size := by simp [hl]
  rw [show (Value.slice (some ⟨w.heap.size, 0, none⟩) b.size (grownCap w b.size 0 e)) = .slice (some ⟨w.heap.size, 0, none⟩) (b.data.toList.map a0_).length (grownCap w b.size 0 e) by rw [hlen]]
  have hd' : ∀ i j d, ((b.data.toList.map a0_)[i]?.bind fun x => x[j]?) = some d → j = 0 ∧ ∃ h : i < b.data.size, d = .cv (.int .u8 (b.data[i].toNat : Int)) := by
   intro i j d h
   rw [e_] at h
   cases hi : b.data.toList[i]? with
   | none => rw [hi] at h; cases h
   | some c =>
    rw [hi] at h
    have hlt : i < b.data.size := by have := U_ hi; simpa using this
    have hc : b.data[i] = c := by
     have := hi
     rw [h_ (by simpa using hlt)] at this
     simpa using this
    cases j with
    | zero => simp [a0_] at h; exact ⟨rfl, hlt, by rw [← h, hc]⟩
    | succ j => simp [a0_] at h
  refine .sl 1 _ _ 0 _ (fun i j => ((bytesRow b (grownCap w b.size 0 e))[i]?).getD undef) (.inr ⟨f_ _, by simp⟩) (fun x hx => ?_) ?_ (fun i j d h => ?_) (fun i j d h => ?_)
  ·obtain ⟨c, _, rfl⟩ := List.mem_map.1 hx; rfl
  ·rw [hlen]; exact grownCap_ge w b.size 0 e
  ·obtain ⟨rfl, hi, rfl⟩ := hd' i j d h
   have := bytesRow_at b (grownCap w b.size 0 e) i hi
   simp only [this, Option.getD_some]
   exact (World.cell?_alloc_mark w.drew _ e _ (0 + i * 1 + 0)).trans (by rw [show 0 + i * 1 + 0 = i by omega]; exact this)
  ·obtain ⟨rfl, hi, rfl⟩ := hd' i j d h
   have := bytesRow_at b (grownCap w b.size 0 e) i hi
   rw [this]
   exact .cv _ rfl
theorem gj_ {n k et : Nat} {f : Bool} {l : List UInt8} {e : TypeId} (ho : o.op = .convert s d x) (hx : E x = .ow n k) (hm : m[n]? = some (some (.row k et 1 f (l.map a0_))))
  (hs : P.underlying s = some (.slice e)) (he : P.underlying e = some (.int .u8)) (hd : P.underlying d = some .string) : ey_ P o E m (.cv (.string ⟨l.toArray⟩)) m := by
 intro B w0 N S t a w hsat hr
 have h := hr x (by rw [ho]; simp [Op.operands])
 rw [hx] at h
 generalize hu : a.eval x = u at h
 cases h
 rename_i hu1 hn
 obtain ⟨k', v, hn, hk, hv⟩ := hn
 obtain ⟨rfl, h1, h2, h3⟩ := az_ hsat hm hn
 obtain rfl := hv rfl
 refine af_ (u := .string ⟨l.toArray⟩) (w' := w) ?_ ⟨N, S, hsat, .cv _⟩
 unfold execOp
 simp only [ho]
 refine cz_ ?_
 rw [hu]
 rcases h3 with ⟨rfl, h3⟩ | ⟨g, cap, us, rfl, h4, h5, h6, h7, h8⟩
 ·have : l = [] := by simpa using h3
  subst this
  exact run_convert_bytes_nil w s e hs he 0 0 d hd
 ·rw [d_]
  refine run_convert_bytes_back w s d e ⟨g, 0, none⟩ cap l hs he hd fun j hj => ?_
  obtain ⟨h9, h10⟩ := h8 j 0 (.cv (.int .u8 (l[j].toNat : Nat))) (by simp [hj, a0_])
  rw [c5_]
  have e1 : us.getD (j * 1 + 0) undef = .int .u8 (l[j].toNat : Nat) := by
   generalize us.getD (j * 1 + 0) undef = z at h10
   cases h10; rfl
  rw [show 0 + j = j * 1 + 0 by omega]
  unfold World.cell?
  simp only [h4]
  rw [← e1]
  have h9' : j < us.size := by omega
  simp [Array.getD_eq_getD_getElem?, Array.getElem?_eq_getElem h9']
end
end
section
open Go.RowKit
abbrev u8 (c : UInt8) : V := .cv (.int .u8 (c.toNat : Nat))
theorem cr_ (c d : UInt8) : (c == d) = decide ((c.toNat : Int) = (d.toNat : Int)) := by
 rw [z_]
 simp only [beq_iff_eq, decide_eq_true_eq]
 rw [← UInt8.toNat_inj]; omega
theorem u8_le (c d : UInt8) : (decide (c ≤ d)) = decide ((c.toNat : Int) ≤ (d.toNat : Int)) := by
 rw [z_]
 simp only [decide_eq_true_eq, UInt8.le_iff_toNat_le]; omega
theorem u8_lt (c d : UInt8) : (decide (c < d)) = decide ((c.toNat : Int) < (d.toNat : Int)) := by
 rw [z_]
 simp only [decide_eq_true_eq, UInt8.lt_iff_toNat_lt]; omega
theorem id_ (c : UInt8) : lr_ c = (decide ((97 : Int) ≤ (c.toNat : Int)) && decide ((c.toNat : Int) ≤ 122) || decide ((c.toNat : Int) = 95)) := by
 unfold lr_; rw [cr_, u8_le, u8_le]; rfl
theorem ie_ (c : UInt8) : ht_ c = (decide ((48 : Int) ≤ (c.toNat : Int)) && decide ((c.toNat : Int) ≤ 57)) := by
 unfold ht_; rw [u8_le, u8_le]; rfl
theorem gy_ (c : UInt8) : isBl c = (decide ((c.toNat : Int) = 32) || decide ((c.toNat : Int) = 9) || decide ((c.toNat : Int) = 10)) := by
 unfold isBl; rw [cr_, cr_, cr_]; rfl
theorem x_head (c : UInt8) : DCalls Tryz.prog 142 [u8 c] (boo (lr_ c)) := by
 refine sx Tryz.func142 kR ?_
 repeat' (first | exact S_ (by rw [id_, z_]; simp at *; omega) | ((conv => whnf); rintro (_ | _) h))
theorem x_digit (c : UInt8) : DCalls Tryz.prog 98 [u8 c] (boo (ht_ c)) := by
 refine sx Tryz.func98 kR ?_
 repeat' (first | exact S_ (by rw [ie_, z_]; simp at *; omega) | ((conv => whnf); rintro (_ | _) h))
theorem ao_ {l : Bs} {n : Nat} (h : n < l.length) : l.drop n = l[n] :: l.drop (n + 1) := r_ h
theorem bn_ {l : Bs} {n : Nat} (h : n < l.length) : (mk l)[((n : Nat) : Int).toNat]? = some l[n] := by rw [i_, ni_, h_ h]
theorem x_rrun (l : Bs) (n : Nat) (hn : n ≤ l.length) (hl : l.length < 9223372036854775807) : DCalls Tryz.prog 101 [bc_ l, int n] (int (n + bk_ (l.drop n) : Nat)) := by
 refine sx Tryz.func101 kR ?_
 conv => whnf
 rintro (_ | _) h0
 rotate_left
 ·simp [P_] at h0
  conv => whnf
  exact bg_ (by rw [k_ h0]; simp [bk_])
 simp [P_] at h0
 conv => whnf
 refine ⟨oM, _, bn_ h0, ?_⟩
 conv => whnf
 refine ⟨_, x_head l[n], ?_⟩
 conv => whnf
 rintro (_ | _) h1
 rotate_left
 ·simp at h1
  conv => whnf
  exact bg_ (by rw [ao_ h0]; simp [bk_, h1])
 simp at h1
 have hr : bk_ (l.drop n) = g3_ (l.drop n) := by rw [ao_ h0]; simp [bk_, g3_, h1]
 rw [hr]
 conv => whnf
 refine ⟨[], Nat, fun k => [(1, int k)], fun _ => [], fun k => n ≤ k ∧ k ≤ l.length ∧ k + g3_ (l.drop k) = n + g3_ (l.drop n), fun k => l.length - k, n, ⟨f_ _, hn, rfl⟩, ?_, ?_⟩
 ·exact eN
 rintro k ⟨hk1, hk2, hk⟩
 conv => whnf
 rintro (_ | _) h2
 ·simp [P_] at h2
  rw [k_ h2] at hk
  conv => whnf
  exact bg_ (by simp [g3_] at hk; omega)
 simp [P_] at h2
 conv => whnf
 refine ⟨oM, _, bn_ h2, ?_⟩
 have hrk : g3_ (l.drop k) = if lr_ l[k] || ht_ l[k] then g3_ (l.drop (k + 1)) + 1 else 0 := by rw [ao_ h2]; rfl
 conv => whnf
 refine ⟨_, x_head l[k], ?_⟩
 conv => whnf
 rintro (_ | _) h3
 ·conv => whnf
  refine ⟨oM, _, bn_ h2, ?_⟩
  conv => whnf
  refine ⟨_, x_digit l[k], ?_⟩
  conv => whnf
  rintro (_ | _) h4
  ·rw [h3, h4] at hrk
   conv => whnf
   exact bg_ (by simp at hrk; omega)
  rw [h3, h4] at hrk
  simp at hrk
  conv => whnf
  refine ⟨k + 1, ⟨oM, h2, oM⟩, by dsimp only; omega, ?_⟩
  exact eW
 ·rw [h3] at hrk
  simp at hrk
  conv => whnf
  refine ⟨k + 1, ⟨oM, h2, oM⟩, by dsimp only; omega, ?_⟩
  exact eW
end
section
open Go.RowKit
theorem skp_bl {c : UInt8} {l : Bs} (h : isBl c = true) : skp false (c :: l) = skp false l + 1 := by simp [skp, h]
theorem skp_end {c : UInt8} {l : Bs} (h : isBl c = false) (h2 : (c == 47 && l.head? == some 47) = false) : skp false (c :: l) = 0 := by simp [skp, h, h2]
theorem skp_com {l : Bs} (h : l.head? = some 47) : skp false (47 :: l) = skp true l + 1 := by simp [skp, h, show isBl 47 = false from rfl]
theorem skp_nl {l : Bs} : skp true (10 :: l) = skp false (10 :: l) := by simp [skp, show isBl 10 = true from rfl]
theorem skp_in {c : UInt8} {l : Bs} (h : (c == 10) = false) : skp true (c :: l) = skp true l + 1 := by simp [skp, h]
theorem x_rskip (l : Bs) (n : Nat) (hn : n ≤ l.length) (hl : l.length < 9223372036854775807) : DCalls Tryz.prog 57 [bc_ l, int n] (int (n + skip (l.drop n) : Nat)) := by
 refine sx Tryz.func57 kR ?_
 conv => whnf
 refine ⟨[], Nat, fun k => [(1, int k)], fun _ => [], fun k => n ≤ k ∧ k ≤ l.length ∧ k + skip (l.drop k) = n + skip (l.drop n), fun k => l.length - k, n, ⟨f_ _, hn, rfl⟩, ?_, ?_⟩
 ·exact eN
 rintro k ⟨hk1, hk2, hk⟩
 conv => whnf
 rintro (_ | _) h2
 ·simp [P_] at h2
  rw [k_ h2] at hk
  conv => whnf
  exact bg_ (by simp [skp] at hk; omega)
 simp [P_] at h2
 have hsk : skip (l.drop k) = skp false (l[k] :: l.drop (k + 1)) := by rw [ao_ h2]
 have blank : isBl l[k] = true → (k + 1) + skip (l.drop (k + 1)) = n + skip (l.drop n) := by
  intro h; rw [hsk, skp_bl h] at hk; show k + 1 + skp false _ = _; omega
 conv => whnf
 refine ⟨oM, _, bn_ h2, ?_⟩
 conv => whnf
 rintro (_ | _) h3
 rotate_left
 ·conv => whnf
  refine ⟨k + 1, ⟨oM, h2, blank (by rw [gy_]; simp at *; omega)⟩, by dsimp only; omega, ?_⟩
  exact eW
 conv => whnf
 refine ⟨oM, _, bn_ h2, ?_⟩
 conv => whnf
 rintro (_ | _) h4
 rotate_left
 ·conv => whnf
  refine ⟨k + 1, ⟨oM, h2, blank (by rw [gy_]; simp at *; omega)⟩, by dsimp only; omega, ?_⟩
  exact eW
 conv => whnf
 refine ⟨oM, _, bn_ h2, ?_⟩
 conv => whnf
 rintro (_ | _) h5
 rotate_left
 ·conv => whnf
  refine ⟨k + 1, ⟨oM, h2, blank (by rw [gy_]; simp at *; omega)⟩, by dsimp only; omega, ?_⟩
  exact eW
 have hnb : isBl l[k] = false := by rw [gy_]; simp at *; omega
 clear blank
 have stop : (l[k] == 47 && (l.drop (k + 1)).head? == some 47) = false → k = n + skip (l.drop n) := by
  intro h; rw [hsk, skp_end hnb h] at hk; omega
 conv => whnf
 rw [R_ oM]
 rintro (_ | _) h6
 rotate_left
 ·simp [P_] at h6
  conv => whnf
  exact bg_ (by rw [← stop (by rw [k_ oM]; simp)])
 simp [P_] at h6
 have hhd : (l.drop (k + 1)).head? = some l[k + 1] := by rw [ao_ oM]; rfl
 conv => whnf
 refine ⟨oM, _, bn_ h2, ?_⟩
 conv => whnf
 rintro (_ | _) h7
 rotate_left
 ·have h7' : (l[k] == 47) = false := by rw [cr_]; simp at *; omega
  conv => whnf
  exact bg_ (by rw [← stop (by rw [h7']; rfl)])
 have h7' : l[k] = 47 := by have : (l[k] == 47) = true := by rw [cr_]; simp at *; omega
                            simpa using this
 conv => whnf
 refine ⟨by rw [R_ oM]; omega, _, (by rw [R_ oM]; exact bn_ oM), ?_⟩
 conv => whnf
 rintro (_ | _) h8
 rotate_left
 ·have h8' : (l[k + 1] == 47) = false := by rw [cr_]; simp at *; omega
  conv => whnf
  exact bg_ (by rw [← stop (by rw [hhd]; simp at h8' ⊢; intro _; exact h8')])
 have h8' : l[k + 1] = 47 := by have : (l[k + 1] == 47) = true := by rw [cr_]; simp at *; omega
                                simpa using this
 have hcom : k + skp true (l.drop k) = n + skip (l.drop n) := by
  rw [hsk, h7', skp_com (by rw [hhd, h8'])] at hk
  rw [ao_ h2, h7', skp_in rfl]; omega
 clear stop hsk
 conv => whnf
 refine ⟨[], Nat, fun j => [(1, int j)], fun _ => [], fun j => k ≤ j ∧ j ≤ l.length ∧ j + skp true (l.drop j) = n + skip (l.drop n), fun j => l.length - j, k, ⟨f_ _, hk2, hcom⟩, ?_, ?_⟩
 ·exact eN
 rintro j ⟨hj1, hj2, hj⟩
 have fin : ¬ (j < l.length ∧ ¬ l[j]? = some 10) → n ≤ j ∧ j ≤ l.length ∧ j + skip (l.drop j) = n + skip (l.drop n) ∧ k < j := by
  intro h
  have hkj : k < j := by
   rcases s_ k j with h0 | h0
   ·exact h0
   ·have : j = k := by omega
    subst this
    exact absurd ⟨h2, by rw [h_ h2, h7']; simp⟩ h
  refine ⟨oM, hj2, ?_, hkj⟩
  rcases s_ j l.length with h1 | h1
  ·have : l[j]? = some 10 := Classical.not_not.1 fun h3 => h ⟨h1, h3⟩
   rw [h_ h1] at this
   rw [ao_ h1, Option.some.inj this, skp_nl] at hj
   rw [ao_ h1, Option.some.inj this]; exact hj
  ·rw [k_ h1] at hj ⊢; exact hj
 conv => whnf
 rintro (_ | _) h9
 ·simp [P_] at h9
  obtain ⟨f1, f2, f3, f4⟩ := fin oM
  conv => whnf
  refine ⟨j, ⟨f1, f2, f3⟩, by dsimp only; omega, ?_⟩
  exact eW
 simp [P_] at h9
 conv => whnf
 refine ⟨oM, _, bn_ h9, ?_⟩
 conv => whnf
 rintro (_ | _) h10
 ·have : (l[j] == 10) = true := by rw [cr_]; simp at *; omega
  obtain ⟨f1, f2, f3, f4⟩ := fin (by rw [h_ h9]; simp at this; simp [this])
  conv => whnf
  refine ⟨j, ⟨f1, f2, f3⟩, by dsimp only; omega, ?_⟩
  exact eW
 have h10' : (l[j] == 10) = false := by rw [cr_]; simp at *; omega
 conv => whnf
 refine ⟨j + 1, ⟨oM, oM, by rw [ao_ h9, skp_in h10'] at hj; omega⟩, by dsimp only; omega, ?_⟩
 exact eW
end
end Go.Proofs.YtglndfgmlminpaaGreatDoor
