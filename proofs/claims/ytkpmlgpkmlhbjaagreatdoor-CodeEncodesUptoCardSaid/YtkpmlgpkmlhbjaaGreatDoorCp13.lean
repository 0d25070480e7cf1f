/- Texts joined by pack.py: XSxU XLx1 XLx0 XCd3 XSxC0 XLx2 XCd4 XCd5 XCd6 -/
import Derived.Test.YtkpmlgpkmlhbjaaGreatDoorCp12
import Derived.IntWalk
import Derived.Lib.ItoaNum
import Derived.Laws.IdiomStrings
import Derived.Laws.BytesArg
import Derived.Laws.Runes
namespace Go.Proofs.YtkpmlgpkmlhbjaaGreatDoor
open Go.RowKit
theorem fin_int {a b : Int} (h : a = b) : int a = int b := by rw [h]
theorem fin_boo {a b : Bool} (h : a = b) : boo a = boo b := by rw [h]
theorem get_map {α : Type} (f : α → List D) {l : List α} {k : Nat} (h : k < l.length) : (l.map f)[(k : Int).toNat]? = some (f l[k]) := by
  simp [h]
theorem wrap_succ {k : Nat} (h : k < 9223372036854775807) : IntKind.i64.wrap ((k : Int) + 1) = ((k + 1 : Nat) : Int) := by
  rw [IntWalk.i64_in _ (by omega)]; rfl
theorem and_rfl {α : Type} {a : α} {p : Prop} (h : p) : a = a ∧ p := ⟨rfl, h⟩
theorem and_two {p q : Prop} (h : p) (h' : q) : p ∧ q := ⟨h, h'⟩
theorem and_val {a b : Int} {p : Prop} (e : a = b) (h : p) : V.cv (.int .i64 a) = V.cv (.int .i64 b) ∧ p := ⟨by rw [e], h⟩
def V.val1 : V → Option Value
  | .cv v => some v
  | .kb b => some (.bool b)
  | _ => none
def valsL : List V → Option (List Value)
  | [] => some []
  | v :: l => match v.val1, valsL l with
    | some u, some us => some (u :: us)
    | _, _ => none
def V.val2 : V → Option Value
  | .ag cs => (valsL cs).map fun us => .agg us.toArray
  | v => v.val1
def valsL2 : List V → Option (List Value)
  | [] => some []
  | v :: l => match v.val2, valsL2 l with
    | some u, some us => some (u :: us)
    | _, _ => none
def V.val : V → Option Value
  | .tu vs => (valsL2 vs).map fun us => .tuple us.toArray
  | v => v.val2
section
variable {N : Names} {S : Sets} {w : World}
theorem val1_eq {v : V} {u u' : Value} (h : RelV N S w v u) (hv : v.val1 = some u') : u = u' := by
  cases h <;> simp [V.val1] at hv <;> exact hv
theorem valsL_eq : ∀ (cs : List V) (us : List Value), valsL cs = some us → us.length = cs.length ∧ ∀ (i : Nat) (v : V), cs[i]? = some v → ∃ u, us[i]? = some u ∧ v.val1 = some u
  | [], us, h => by simp [valsL] at h; subst h; simp
  | c :: cs, us, h => by
    simp only [valsL] at h
    split at h
    · rename_i u us' h1 h2
      cases h
      obtain ⟨e1, e2⟩ := valsL_eq cs us' h2
      refine ⟨by simp [e1], fun i v hv => ?_⟩
      cases i with
      | zero => simp at hv; subst hv; exact ⟨u, by simp, h1⟩
      | succ i => simpa using e2 i v (by simpa using hv)
    · cases h
theorem val2_eq {v : V} {u u' : Value} (h : RelV N S w v u) (hv : v.val2 = some u') : u = u' := by
  cases v with
  | ag cs =>
    simp only [V.val2, Option.map_eq_some_iff] at hv
    obtain ⟨us', h1, rfl⟩ := hv
    obtain ⟨e1, e2⟩ := valsL_eq cs us' h1
    cases h with
    | ag _ us hl h =>
      congr 1
      apply Array.ext'
      refine List.ext_getElem? fun i => ?_
      cases hi : cs[i]? with
      | none =>
        have h1 : cs.length ≤ i := List.getElem?_eq_none_iff.1 hi
        rw [List.getElem?_eq_none (by simp; omega), List.getElem?_eq_none (by simp; omega)]
      | some v =>
        obtain ⟨u, h3, h4⟩ := e2 i v hi
        have := val1_eq (h i v hi) h4
        have hlt : i < us.size := by have := lt_of_get hi; omega
        rw [get_of_lt hlt, this]
        simpa using h3.symm
  | _ => exact val1_eq h hv
theorem of_val1 {v : V} {u : Value} (hv : v.val1 = some u) : RelV N S w v u := by
  cases v <;> simp [V.val1] at hv <;> subst hv
  · exact .cv _
  · exact .kb _
theorem of_val2 {v : V} {u : Value} (hv : v.val2 = some u) : RelV N S w v u := by
  cases v with
  | ag cs =>
    simp only [V.val2, Option.map_eq_some_iff] at hv
    obtain ⟨us', h1, rfl⟩ := hv
    obtain ⟨e1, e2⟩ := valsL_eq cs us' h1
    refine .ag _ _ (by simp [e1]) fun i v hi => ?_
    obtain ⟨u, h3, h4⟩ := e2 i v hi
    rw [getD_of_get (us := us'.toArray) (by simpa using h3)]
    exact of_val1 h4
  | _ => exact of_val1 hv
theorem valsL2_eq : ∀ (cs : List V) (us : List Value), valsL2 cs = some us → us.length = cs.length ∧ ∀ (i : Nat) (v : V), cs[i]? = some v → ∃ u, us[i]? = some u ∧ v.val2 = some u
  | [], us, h => by simp [valsL2] at h; subst h; simp
  | c :: cs, us, h => by
    simp only [valsL2] at h
    split at h
    · rename_i u us' h1 h2
      cases h
      obtain ⟨e1, e2⟩ := valsL2_eq cs us' h2
      refine ⟨by simp [e1], fun i v hv => ?_⟩
      cases i with
      | zero => simp at hv; subst hv; exact ⟨u, by simp, h1⟩
      | succ i => simpa using e2 i v (by simpa using hv)
    · cases h
theorem of_val {v : V} {u : Value} (hv : v.val = some u) : RelV N S w v u := by
  cases v with
  | tu cs =>
    simp only [V.val, Option.map_eq_some_iff] at hv
    obtain ⟨us', h1, rfl⟩ := hv
    obtain ⟨e1, e2⟩ := valsL2_eq cs us' h1
    refine .tu _ _ (by simp [e1]) fun i v hi => ?_
    obtain ⟨u, h3, h4⟩ := e2 i v hi
    rw [getD_of_get (us := us'.toArray) (by simpa using h3)]
    exact of_val2 h4
  | _ => exact of_val2 hv
end
theorem dcalls_val {f : FuncId} {fn : Func} {args : List V} {res : V} {us : List Value} {v : Value} (hf : Tryz.prog.funcs[f]? = some fn) (hn : (fn.name == "runtime.NumGoroutine") = false) (hb : fn.body.isNone = false) (ha : valsL2 args = some us) (hr : res.val = some v)
    (h : ∀ w, ginv w → Calls Tryz.prog f us.toArray w fun e w' => e = .returned v ∧ Below w.heap.size w w') : DCalls Tryz.prog f args res := by
  refine ⟨⟨fn, hf, hn, hb⟩, fun w vs hg hvs => ?_⟩
  obtain ⟨e1, e2⟩ := valsL2_eq args us ha
  have : vs = us := by
    refine List.ext_getElem? fun i => ?_
    cases hi : args[i]? with
    | none =>
      have h1 : args.length ≤ i := List.getElem?_eq_none_iff.1 hi
      rw [List.getElem?_eq_none (by rw [← hvs.1]; exact h1), List.getElem?_eq_none (by omega)]
    | some v =>
      obtain ⟨u, h3, h4⟩ := e2 i v hi
      have h5 := val2_eq (hvs.2 i v hi) h4
      have hlt : i < vs.length := by rw [← hvs.1]; exact lt_of_get hi
      rw [h3, List.getElem?_eq_getElem hlt, ← h5, List.getD_eq_getElem?_getD, List.getElem?_eq_getElem hlt]
      rfl
  subst this
  exact (h w hg).mono fun e w' ⟨he, hb⟩ => ⟨v, he, of_val hr, hb⟩
end Go.Proofs.YtkpmlgpkmlhbjaaGreatDoor
namespace Go.Proofs.YtkpmlgpkmlhbjaaGreatDoor
open Go.RowKit
theorem known {c : Bool} (b : Bool) {K : Bool → Prop} (hc : c = b) (h : K b) : ∀ b', c = b' → K b' := fun b' e => by subst e; rw [hc]; exact h
def sEq (a b : ByteArray) : Bool := a.toList == b.toList
def kws : List ByteArray := [⟨#[102, 117, 110, 99]⟩, ⟨#[108, 101, 116]⟩, ⟨#[105, 102]⟩, ⟨#[101, 108, 115, 101]⟩, ⟨#[119, 104, 105, 108, 101]⟩, ⟨#[114, 101, 116, 117, 114, 110]⟩, ⟨#[97, 110, 100]⟩, ⟨#[111, 114]⟩, ⟨#[110, 111, 116]⟩, ⟨#[110, 117, 108, 108]⟩, ⟨#[116, 114, 117, 101]⟩, ⟨#[102, 97, 108, 115, 101]⟩]
def kwB (s : ByteArray) : Bool := kws.any fun k => sEq s k
set_option maxRecDepth 100000 in
theorem x_keyword (s : ByteArray) : DCalls Tryz.prog 139 [str s] (boo (kwB s)) := by
  refine sx Tryz.func139 (by kernel_rfl) ?_
  iterate 12 ((conv => whnf); rintro (_ | _) h; rotate_left; ((conv => whnf); exact fin_boo (by simp_all [kwB, kws, sEq])))
  conv => whnf
  exact fin_boo (by simp_all [kwB, kws, sEq])
set_option maxRecDepth 100000 in
theorem x_rkeyword (s : ByteArray) : DCalls Tryz.prog 147 [str s] (boo (kwB s)) := by
  refine sx Tryz.func147 (by kernel_rfl) ?_
  iterate 11 ((conv => whnf); rintro (_ | _) h; rotate_left; ((conv => whnf); exact fin_boo (by simp_all [kwB, kws, sEq])))
  conv => whnf
  exact fin_boo (by simp only [kwB, kws, sEq, List.any_cons, List.any_nil, *, Bool.false_or, Bool.or_false])
end Go.Proofs.YtkpmlgpkmlhbjaaGreatDoor
namespace Go.Proofs.YtkpmlgpkmlhbjaaGreatDoor
open Go.RowKit
abbrev Bs := List UInt8
def mk (l : Bs) : ByteArray := ⟨l.toArray⟩
abbrev bstr (l : Bs) : V := str (mk l)
theorem mk_of (s : ByteArray) : mk s.data.toList = s := rfl
theorem mk_size (l : Bs) : (mk l).size = l.length := by simp [mk, ByteArray.size]
theorem mk_get (l : Bs) (i : Nat) : (mk l)[i]? = l[i]? := by
  by_cases h : i < l.length
  · rw [getElem?_pos (mk l) i (by rw [mk_size]; exact h), List.getElem?_eq_getElem h]
    simp [mk, ByteArray.getElem_eq_getElem_data]
  · rw [getElem?_neg (mk l) i (by rw [mk_size]; exact h), List.getElem?_eq_none (by omega)]
theorem mk_inj {a b : Bs} (h : mk a = mk b) : a = b := by
  have := congrArg (fun s : ByteArray => s.data.toList) h
  simpa [mk] using this
theorem ba_ext {a b : ByteArray} (h : a.data.toList = b.data.toList) : a = b := by
  rw [← mk_of a, ← mk_of b, h]
theorem mk_ext (l : Bs) (a b : Nat) : (mk l).extract a b = mk ((l.take b).drop a) := by
  apply ba_ext
  simp [mk, ByteArray.data_extract, List.extract]
  rw [List.drop_take]
theorem mk_from (l : Bs) (a : Nat) : (mk l).extract a l.length = mk (l.drop a) := by rw [mk_ext, List.take_length]
theorem mk_to (l : Bs) (b : Nat) : (mk l).extract 0 b = mk (l.take b) := by rw [mk_ext, List.drop_zero]
theorem mk_app (a b : Bs) : mk a ++ mk b = mk (a ++ b) := by
  apply ba_ext
  simp [mk, ByteArray.data_append]
theorem sEq_mk (a b : Bs) : sEq (mk a) (mk b) = (a == b) := by
  have e : ∀ l : Bs, (mk l).toList = l := by
    intro l
    rw [ByteArray.toList_eq]
    simp [mk]
  unfold sEq
  rw [e, e]
def isBl (c : UInt8) : Bool := c == 32 || c == 9 || c == 10
def isHd (c : UInt8) : Bool := (decide (97 ≤ c) && decide (c ≤ 122)) || c == 95
def isDg (c : UInt8) : Bool := decide (48 ≤ c) && decide (c ≤ 57)
def syms : Bs := [40, 41, 123, 125, 91, 93, 44, 59, 58, 61, 33, 60, 62, 43, 45, 42, 47, 37]
def isSy (c : UInt8) : Bool := syms.contains c
def cls (c : UInt8) : Int := if isBl c then 1 else if isHd c then 2 else if isDg c then 3 else if c == 34 then 4 else if c == 64 then 5 else if isSy c then 6 else 0
def runT : Bs → Nat
  | [] => 0
  | c :: l => if isHd c || isDg c then runT l + 1 else 0
def runL : Bs → Nat
  | [] => 0
  | c :: l => if isHd c then runT l + 1 else 0
def digL : Bs → Nat
  | [] => 0
  | c :: l => if isDg c then digL l + 1 else 0
def skp : Bool → Bs → Nat
  | _, [] => 0
  | false, c :: l => if isBl c then skp false l + 1 else if c == 47 && l.head? == some 47 then skp true l + 1 else 0
  | true, c :: l => if c == 10 then skp false l + 1 else skp true l + 1
abbrev skip (l : Bs) : Nat := skp false l
def txt : Bs → Nat → Bs → Bs × Nat × Int
  | [], _, _ => ([], 0, 1)
  | c :: l, i, out => if c < 32 || c > 126 then ([], i, 1) else if c == 34 then (out, i + 1, 0) else
    if c == 92 then (match l with
      | [] => ([], i, 1)
      | d :: l' => if d == 34 || d == 92 then (if out.length = 200 then ([], 0, 3) else txt l' (i + 2) (out ++ [d])) else ([], i, 1))
    else if out.length = 200 then ([], 0, 3) else txt l (i + 1) (out ++ [c])
def dval : Bs → Nat → Nat
  | [], n => n
  | c :: l, n => dval l (10 * n + (c.toNat - 48))
def pnum (l : Bs) : Int × Int := if l.length > 1 ∧ l.head? = some 48 then (0, 1) else if dval l 0 > 1000000000000 then (0, 2) else (dval l 0, 0)
structure Tok where
  kind : Int
  text : Bs
  val : Int
  at_ : Int
def tokD (t : Tok) : List D := [.cv (.int .i64 t.kind), .cv (.string (mk t.text)), .cv (.int .i64 t.val), .cv (.int .i64 t.at_)]
abbrev toks (l : List Tok) : V := .sl true 4 (l.map tokD)
abbrev Tok.V (t : Tok) : V := .ag [int t.kind, bstr t.text, int t.val, int t.at_]
def noTok : Tok := ⟨0, [], 0, 0⟩
def kwL (l : Bs) : Bool := kwB (mk l)
def symB (l : Bs) : Bool := l == [61, 61] || l == [33, 61] || l == [60, 61] || l == [62, 61] || (l.length == 1 && l != [33] && isSy (l.headD 0))
def tok1 (l : Bs) : Tok × Nat × Int :=
  match l with
  | [] => (noTok, 0, 1)
  | c :: r =>
    if isHd c then
      (if runL l > 24 then (noTok, 0, 3) else if kwL (l.take (runL l)) then (⟨2, l.take (runL l), 0, 0⟩, runL l, 0) else (⟨1, l.take (runL l), 0, 0⟩, runL l, 0))
    else if isDg c then
      (if (pnum (l.take (digL l))).2 = 0 then (⟨3, [], (pnum (l.take (digL l))).1, 0⟩, digL l, 0) else (noTok, 0, (pnum (l.take (digL l))).2))
    else if c == 34 then
      (if (txt r 1 []).2.2 = 0 then (⟨4, (txt r 1 []).1, 0, 0⟩, (txt r 1 []).2.1, 0) else (noTok, (txt r 1 []).2.1, (txt r 1 []).2.2))
    else if c == 64 then
      (if runL r = 0 then (noTok, 0, 1) else if runL r > 24 then (noTok, 0, 3) else (⟨6, r.take (runL r), 0, 0⟩, runL r + 1, 0))
    else if 2 ≤ l.length ∧ symB (l.take 2) then (⟨5, l.take 2, 0, 0⟩, 2, 0)
    else if symB (l.take 1) then (⟨5, l.take 1, 0, 0⟩, 1, 0)
    else (noTok, 0, 1)
def toksF : Nat → Bs → Nat → List Tok → List Tok × Nat × Int
  | 0, _, _, out => (out, 0, 0)
  | f + 1, l, at_, out =>
    if l = [] then (out, 0, 0) else
    if out.length = 1000 then ([], at_, 3) else
    if (tok1 l).2.2 = 0 then
      toksF f (l.drop ((tok1 l).2.1 + skip (l.drop (tok1 l).2.1))) (at_ + (tok1 l).2.1 + skip (l.drop (tok1 l).2.1)) (out ++ [{ (tok1 l).1 with at_ := at_ }])
    else ([], at_ + (tok1 l).2.1, (tok1 l).2.2)
def tokens (l : Bs) : List Tok × Nat × Int := if l.length > 4000 then ([], 0, 3) else toksF l.length (l.drop (skip l)) (skip l) []
def wholeB (l : Bs) : Bool := !l.isEmpty && decide (runL l = l.length) && decide (l.length ≤ 24)
def contB (l : Bs) : Bool := decide (l.length ≤ 200) && l.all fun c => !(decide (c < 32) || decide (c > 126))
def esc : Bs → Bs
  | [] => []
  | c :: l => if c == 34 || c == 92 then 92 :: c :: esc l else c :: esc l
def validB (n : Int) : Bool := decide (-1000000000000 ≤ n) && decide (n ≤ 1000000000000)
def textT (t : Tok) : Bs × Int :=
  if t.kind = 3 ∧ t.text = [] ∧ 0 ≤ t.val ∧ validB t.val then (Lib.itoa t.val, 0)
  else if t.val ≠ 0 then ([], 1)
  else if (t.kind = 1 ∧ wholeB t.text ∧ ¬ kwL t.text) ∨ (t.kind = 2 ∧ kwL t.text) ∨ (t.kind = 5 ∧ symB t.text) then (t.text, 0)
  else if t.kind = 6 ∧ wholeB t.text then (64 :: t.text, 0)
  else if t.kind = 4 ∧ contB t.text then (34 :: (esc t.text ++ [34]), 0)
  else ([], 1)
def texts : List Tok → List Bs × Int
  | [] => ([], 0)
  | t :: l => if (textT t).2 = 0 then (if (texts l).2 = 0 then ((textT t).1 :: (texts l).1, 0) else ([], (texts l).2)) else ([], (textT t).2)
def joinSp : List Bs → Bs
  | [] => []
  | [a] => a
  | a :: b :: l => a ++ 32 :: joinSp (b :: l)
def joinT (l : List Tok) : Bs × Int :=
  if l.length > 1000 then ([], 3) else if (texts l).2 ≠ 0 then ([], (texts l).2) else if (joinSp (texts l).1).length > 4000 then ([], 3) else (joinSp (texts l).1, 0)
end Go.Proofs.YtkpmlgpkmlhbjaaGreatDoor
namespace Go.Proofs.YtkpmlgpkmlhbjaaGreatDoor
open Go.RowKit
def sh1 (x : Nat) : Nat := if x % 2 = 1 then (x / 2) ^^^ 3988292384 else x / 2
def shN : Nat → Nat → Nat
  | 0, x => x
  | n + 1, x => shN n (sh1 x)
def crcB (r : Nat) (c : UInt8) : Nat := shN 8 (r ^^^ c.toNat)
def crcF (l : Bs) (r : Nat) : Nat := l.foldl crcB r
def crc (l : Bs) : Nat := 4294967295 ^^^ crcF l 4294967295
theorem xor_lt {a b : Nat} (h1 : a < 4294967296) (h2 : b < 4294967296) : a ^^^ b < 4294967296 := Nat.xor_lt_two_pow (n := 32) h1 h2
theorem sh1_lt {x : Nat} (h : x < 4294967296) : sh1 x < 4294967296 := by
  unfold sh1
  split
  · exact xor_lt (by omega) (by omega)
  · omega
theorem shN_lt : ∀ (n : Nat) {x : Nat}, x < 4294967296 → shN n x < 4294967296
  | 0, _, h => h
  | n + 1, _, h => shN_lt n (sh1_lt h)
theorem crcB_lt {r : Nat} (h : r < 4294967296) (c : UInt8) : crcB r c < 4294967296 := shN_lt 8 (xor_lt h (by have := c.toNat_lt; omega))
theorem crcF_lt : ∀ (l : Bs) {r : Nat}, r < 4294967296 → crcF l r < 4294967296
  | [], _, h => h
  | c :: l, _, h => crcF_lt l (crcB_lt h c)
theorem xor_half (a b : Nat) : (a ^^^ b) / 2 = a / 2 ^^^ b / 2 := by
  refine Nat.eq_of_testBit_eq fun i => ?_
  rw [Nat.testBit_div_two, Nat.testBit_xor, Nat.testBit_xor, Nat.testBit_div_two, Nat.testBit_div_two]
theorem xor_odd (a b : Nat) : (a ^^^ b) % 2 = (a + b) % 2 := by
  have h := Nat.testBit_xor a b 0
  rw [Nat.testBit_zero, Nat.testBit_zero, Nat.testBit_zero] at h
  rcases Nat.mod_two_eq_zero_or_one (a ^^^ b) with h0 | h0 <;> rcases Nat.mod_two_eq_zero_or_one a with h1 | h1 <;> rcases Nat.mod_two_eq_zero_or_one b with h2 | h2 <;>
    simp [h0, h1, h2] at h <;> omega
theorem sh1_xor (a b : Nat) : sh1 (a ^^^ b) = sh1 a ^^^ sh1 b := by
  unfold sh1
  rw [xor_half, xor_odd]
  rcases Nat.mod_two_eq_zero_or_one a with h1 | h1 <;> rcases Nat.mod_two_eq_zero_or_one b with h2 | h2
  · rw [if_neg (by omega), if_neg (by omega), if_neg (by omega)]
  · rw [if_pos (by omega), if_neg (by omega), if_pos (by omega), Nat.xor_assoc]
  · rw [if_pos (by omega), if_pos (by omega), if_neg (by omega), Nat.xor_assoc, Nat.xor_comm (b / 2), ← Nat.xor_assoc]
  · rw [if_neg (by omega), if_pos (by omega), if_pos (by omega), Nat.xor_assoc, Nat.xor_comm (b / 2), ← Nat.xor_assoc 3988292384, Nat.xor_self, Nat.zero_xor]
theorem shN_xor : ∀ (n a b : Nat), shN n (a ^^^ b) = shN n a ^^^ shN n b
  | 0, _, _ => rfl
  | n + 1, a, b => by simp only [shN]; rw [sh1_xor, shN_xor n]
theorem sh1_even (m : Nat) : sh1 (2 * m) = m := by
  unfold sh1
  rw [if_neg (by omega)]; omega
theorem shN_mul : ∀ (n m : Nat), shN n (2 ^ n * m) = m
  | 0, m => by simp [shN]
  | n + 1, m => by
    rw [shN, Nat.pow_succ, show 2 ^ n * 2 * m = 2 * (2 ^ n * m) by rw [Nat.mul_comm (2 ^ n) 2, Nat.mul_assoc], sh1_even]
    exact shN_mul n m
theorem split_byte (r : Nat) : r = 256 * (r / 256) ^^^ r % 256 := by
  refine Nat.eq_of_testBit_eq fun i => ?_
  rw [show (256 : Nat) = 2 ^ 8 from rfl, Nat.testBit_xor, Nat.testBit_two_pow_mul, Nat.testBit_mod_two_pow, Nat.testBit_div_two_pow]
  by_cases hi : i < 8
  · have h8 : ¬ 8 ≤ i := by omega
    simp [hi, h8]
  · have : i - 8 + 8 = i := by omega
    have h8 : 8 ≤ i := by omega
    simp [hi, this, h8]
theorem crcB_table (r : Nat) (c : UInt8) : crcB r c = shN 8 (r % 256 ^^^ c.toNat) ^^^ r / 256 := by
  unfold crcB
  conv => lhs; rw [split_byte r]
  rw [Nat.xor_assoc, shN_xor, show 256 * (r / 256) = 2 ^ 8 * (r / 256) from rfl, shN_mul, Nat.xor_comm]
theorem xorW32 {a b : Nat} (h1 : a < 4294967296) (h2 : b < 4294967296) : IntKind.u32.wrap ((BitVec.ofInt IntKind.u32.bits (a : Int) ^^^ BitVec.ofInt IntKind.u32.bits (b : Int)).toNat : Nat) = ((a ^^^ b : Nat) : Int) := by
  have hb : IntKind.u32.bits = 32 := rfl
  have hx := xor_lt h1 h2
  rw [BitVec.toNat_xor, hb, BitVec.toNat_ofInt, BitVec.toNat_ofInt]
  have e1 : ((a : Int) % ((2 ^ 32 : Nat) : Int)).toNat = a := by omega
  have e2 : ((b : Int) % ((2 ^ 32 : Nat) : Int)).toNat = b := by omega
  rw [e1, e2, IntWalk.u32_in _ (by omega)]
theorem xorW8 {a b : Nat} (h1 : a < 256) (h2 : b < 256) : IntKind.u8.wrap ((BitVec.ofInt IntKind.u8.bits (a : Int) ^^^ BitVec.ofInt IntKind.u8.bits (b : Int)).toNat : Nat) = ((a ^^^ b : Nat) : Int) := by
  have hb : IntKind.u8.bits = 8 := rfl
  have hx : a ^^^ b < 256 := Nat.xor_lt_two_pow (n := 8) h1 h2
  rw [BitVec.toNat_xor, hb, BitVec.toNat_ofInt, BitVec.toNat_ofInt]
  have e1 : ((a : Int) % ((2 ^ 8 : Nat) : Int)).toNat = a := by omega
  have e2 : ((b : Int) % ((2 ^ 8 : Nat) : Int)).toNat = b := by omega
  rw [e1, e2, IntWalk.u8_in _ (by omega)]
theorem and1W32 {a : Nat} (h1 : a < 4294967296) : IntKind.u32.wrap ((BitVec.ofInt IntKind.u32.bits (a : Int) &&& BitVec.ofInt IntKind.u32.bits (1 : Int)).toNat : Nat) = ((a % 2 : Nat) : Int) := by
  have hb : IntKind.u32.bits = 32 := rfl
  rw [BitVec.toNat_and, hb, BitVec.toNat_ofInt, BitVec.toNat_ofInt]
  have e1 : ((a : Int) % ((2 ^ 32 : Nat) : Int)).toNat = a := by omega
  have e2 : ((1 : Int) % ((2 ^ 32 : Nat) : Int)).toNat = 1 := rfl
  rw [e1, e2, Nat.and_one_is_mod, IntWalk.u32_in _ (by omega)]
theorem shr_nat (a n : Nat) : (a : Int).fdiv (2 ^ n) = ((a / 2 ^ n : Nat) : Int) := by
  rw [Int.fdiv_eq_ediv_of_nonneg _ (by exact Int.le_of_lt (Int.pow_pos (by decide)))]
  simp
end Go.Proofs.YtkpmlgpkmlhbjaaGreatDoor
namespace Go.Proofs.YtkpmlgpkmlhbjaaGreatDoor
open Go.RowKit
def byteD (b : UInt8) : List D := [.cv (.int .u8 (b.toNat : Nat))]
theorem bytesOf_map : ∀ l : List UInt8, bytesOf (l.map byteD) = some l
  | [] => rfl
  | c :: l => by
    have := c.toNat_lt
    simp only [List.map_cons, byteD, bytesOf, bytesOf_map l]
    rw [show decide ((0 : Int) ≤ ((c.toNat : Nat) : Int) ∧ ((c.toNat : Nat) : Int) < 256) = true by simp; omega]
    simp
abbrev bytesV (f : Bool) (l : List UInt8) : V := .sl f 1 (l.map byteD)
section
variable {P : Program} {o : Oper} {E : Operand → V} {m : List (Option Bk)} {s d : TypeId} {x : Operand}
theorem ot_rune {k : IntKind} {n : Int} (ho : o.op = .convert s d x) (hx : E x = .cv (.int k n)) (hs : (P.underlying s).isSome = true) (hd : P.underlying d = some .string) : OpTr P o E m (.cv (.string (Utf8.encode n))) m := by
  intro B w0 N S t a w hsat hr
  have h := hr x (by rw [ho]; simp [Op.operands])
  rw [hx] at h
  generalize hu : a.eval x = u at h
  cases h
  refine opOk_val (u := .string (Utf8.encode n)) (w' := w) ?_ ⟨N, S, hsat, .cv _⟩
  unfold execOp
  simp only [ho]
  refine run_v ?_
  rw [hu]
  exact run_convert_int_string w s d k n hs hd
theorem ot_bytes {b : ByteArray} {e : TypeId} (ho : o.op = .convert s d x) (hx : E x = .cv (.string b)) (hs : P.underlying s = some .string) (hd : P.underlying d = some (.slice e)) (he : P.underlying e = some (.int .u8)) : OpTr P o E m (bytesV true b.data.toList) m := by
  intro B w0 N S t a w hsat hr
  have h := hr x (by rw [ho]; simp [Op.operands])
  rw [hx] at h
  generalize hu : a.eval x = u at h
  cases h
  have hb : Below w.heap.size w (w.drew.alloc (.cells (bytesRow b (grownCap w b.size 0 e)) e ((bytesRow b (grownCap w b.size 0 e)).size, (bytesRow b (grownCap w b.size 0 e)).size + 1))) :=
    ⟨rfl, rfl, rfl, by simp, fun k hk => Below.heap_alloc _ _ _ hk⟩
  refine opOk_val (u := .slice (some ⟨w.heap.size, 0, none⟩) b.size (grownCap w b.size 0 e)) (w' := w.drew.alloc _) ?_ ⟨N, _, hsat.called hb, ?_⟩
  · unfold execOp
    simp only [ho]
    refine run_v ?_
    rw [hu]
    exact run_bytes_of_string w s d e b hs hd he
  · have hl : b.data.size = b.size := rfl
    refine .sl _ _ _ _ ?_
    have hlen : (b.data.toList.map byteD).length = b.size := by simp [hl]
    rw [show (Value.slice (some ⟨w.heap.size, 0, none⟩) b.size (grownCap w b.size 0 e)) = .slice (some ⟨w.heap.size, 0, none⟩) (b.data.toList.map byteD).length (grownCap w b.size 0 e) by rw [hlen]]
    have hd' : ∀ i j d, ((b.data.toList.map byteD)[i]?.bind fun x => x[j]?) = some d → j = 0 ∧ ∃ h : i < b.data.size, d = .cv (.int .u8 (b.data[i].toNat : Int)) := by
      intro i j d h
      rw [List.getElem?_map] at h
      cases hi : b.data.toList[i]? with
      | none => rw [hi] at h; cases h
      | some c =>
        rw [hi] at h
        have hlt : i < b.data.size := by have := lt_of_get hi; simpa using this
        have hc : b.data[i] = c := by
          have := hi
          rw [List.getElem?_eq_getElem (by simpa using hlt)] at this
          simpa using this
        cases j with
        | zero => simp [byteD] at h; exact ⟨rfl, hlt, by rw [← h, hc]⟩
        | succ j => simp [byteD] at h
    refine .sl 1 _ _ 0 _ (fun i j => ((bytesRow b (grownCap w b.size 0 e))[i]?).getD undef) (.inr ⟨Nat.le_refl _, by simp⟩) (fun x hx => ?_) ?_ (fun i j d h => ?_) (fun i j d h => ?_)
    · obtain ⟨c, _, rfl⟩ := List.mem_map.1 hx; rfl
    · rw [hlen]; exact grownCap_ge w b.size 0 e
    · obtain ⟨rfl, hi, rfl⟩ := hd' i j d h
      have := bytesRow_at b (grownCap w b.size 0 e) i hi
      simp only [this, Option.getD_some]
      exact (World.cell?_alloc_mark w.drew _ e _ (0 + i * 1 + 0)).trans (by rw [show 0 + i * 1 + 0 = i by omega]; exact this)
    · obtain ⟨rfl, hi, rfl⟩ := hd' i j d h
      have := bytesRow_at b (grownCap w b.size 0 e) i hi
      rw [this]
      exact .cv _ rfl
theorem ot_string {n k et : Nat} {f : Bool} {l : List UInt8} {e : TypeId} (ho : o.op = .convert s d x) (hx : E x = .ow n k) (hm : m[n]? = some (some (.row k et 1 f (l.map byteD))))
    (hs : P.underlying s = some (.slice e)) (he : P.underlying e = some (.int .u8)) (hd : P.underlying d = some .string) : OpTr P o E m (.cv (.string ⟨l.toArray⟩)) m := by
  intro B w0 N S t a w hsat hr
  have h := hr x (by rw [ho]; simp [Op.operands])
  rw [hx] at h
  generalize hu : a.eval x = u at h
  cases h
  rename_i hu1 hn
  obtain ⟨k', v, hn, hk, hv⟩ := hn
  obtain ⟨rfl, h1, h2, h3⟩ := row_cells hsat hm hn
  obtain rfl := hv rfl
  refine opOk_val (u := .string ⟨l.toArray⟩) (w' := w) ?_ ⟨N, S, hsat, .cv _⟩
  unfold execOp
  simp only [ho]
  refine run_v ?_
  rw [hu]
  rcases h3 with ⟨rfl, h3⟩ | ⟨g, cap, us, rfl, h4, h5, h6, h7, h8⟩
  · have : l = [] := by simpa using h3
    subst this
    exact run_convert_bytes_nil w s e hs he 0 0 d hd
  · rw [List.length_map]
    refine run_convert_bytes_back w s d e ⟨g, 0, none⟩ cap l hs he hd fun j hj => ?_
    obtain ⟨h9, h10⟩ := h8 j 0 (.cv (.int .u8 (l[j].toNat : Nat))) (by simp [hj, byteD])
    rw [add_mk]
    have e1 : us.getD (j * 1 + 0) undef = .int .u8 (l[j].toNat : Nat) := by
      generalize us.getD (j * 1 + 0) undef = z at h10
      cases h10; rfl
    rw [show 0 + j = j * 1 + 0 by omega]
    unfold World.cell?
    simp only [h4]
    rw [← e1]
    have h9' : j < us.size := by omega
    simp [Array.getD_eq_getD_getElem?, Array.getElem?_eq_getElem h9']
end
end Go.Proofs.YtkpmlgpkmlhbjaaGreatDoor
namespace Go.Proofs.YtkpmlgpkmlhbjaaGreatDoor
open Go.RowKit
abbrev u8 (c : UInt8) : V := .cv (.int .u8 (c.toNat : Nat))
theorem u8_eq (c d : UInt8) : (c == d) = decide ((c.toNat : Int) = (d.toNat : Int)) := by
  rw [Bool.eq_iff_iff]
  simp only [beq_iff_eq, decide_eq_true_eq]
  rw [← UInt8.toNat_inj]; omega
theorem u8_le (c d : UInt8) : (decide (c ≤ d)) = decide ((c.toNat : Int) ≤ (d.toNat : Int)) := by
  rw [Bool.eq_iff_iff]
  simp only [decide_eq_true_eq, UInt8.le_iff_toNat_le]; omega
theorem u8_lt (c d : UInt8) : (decide (c < d)) = decide ((c.toNat : Int) < (d.toNat : Int)) := by
  rw [Bool.eq_iff_iff]
  simp only [decide_eq_true_eq, UInt8.lt_iff_toNat_lt]; omega
theorem isHd_int (c : UInt8) : isHd c = (decide ((97 : Int) ≤ (c.toNat : Int)) && decide ((c.toNat : Int) ≤ 122) || decide ((c.toNat : Int) = 95)) := by
  unfold isHd; rw [u8_eq, u8_le, u8_le]; rfl
theorem isDg_int (c : UInt8) : isDg c = (decide ((48 : Int) ≤ (c.toNat : Int)) && decide ((c.toNat : Int) ≤ 57)) := by
  unfold isDg; rw [u8_le, u8_le]; rfl
theorem isBl_int (c : UInt8) : isBl c = (decide ((c.toNat : Int) = 32) || decide ((c.toNat : Int) = 9) || decide ((c.toNat : Int) = 10)) := by
  unfold isBl; rw [u8_eq, u8_eq, u8_eq]; rfl
theorem x_head (c : UInt8) : DCalls Tryz.prog 169 [u8 c] (boo (isHd c)) := by
  refine sx Tryz.func169 (by kernel_rfl) ?_
  repeat' (first | exact fin_boo (by rw [isHd_int, Bool.eq_iff_iff]; simp at *; omega) | ((conv => whnf); rintro (_ | _) h))
theorem x_digit (c : UInt8) : DCalls Tryz.prog 170 [u8 c] (boo (isDg c)) := by
  refine sx Tryz.func170 (by kernel_rfl) ?_
  repeat' (first | exact fin_boo (by rw [isDg_int, Bool.eq_iff_iff]; simp at *; omega) | ((conv => whnf); rintro (_ | _) h))
theorem drop_cons {l : Bs} {n : Nat} (h : n < l.length) : l.drop n = l[n] :: l.drop (n + 1) := List.drop_eq_getElem_cons h
theorem mk_at {l : Bs} {n : Nat} (h : n < l.length) : (mk l)[((n : Nat) : Int).toNat]? = some l[n] := by rw [Int.toNat_natCast, mk_get, List.getElem?_eq_getElem h]
set_option maxRecDepth 100000 in
theorem x_rrun (l : Bs) (n : Nat) (hn : n ≤ l.length) (hl : l.length < 9223372036854775807) : DCalls Tryz.prog 146 [bstr l, int n] (int (n + runL (l.drop n) : Nat)) := by
  refine sx Tryz.func146 (by kernel_rfl) ?_
  conv => whnf
  rintro (_ | _) h0
  rotate_left
  · simp [mk_size] at h0
    conv => whnf
    exact fin_int (by rw [List.drop_eq_nil_of_le h0]; simp [runL])
  simp [mk_size] at h0
  conv => whnf
  refine ⟨by omega, _, mk_at h0, ?_⟩
  conv => whnf
  refine ⟨_, x_head l[n], ?_⟩
  conv => whnf
  rintro (_ | _) h1
  rotate_left
  · simp at h1
    conv => whnf
    exact fin_int (by rw [drop_cons h0]; simp [runL, h1])
  simp at h1
  have hr : runL (l.drop n) = runT (l.drop n) := by rw [drop_cons h0]; simp [runL, runT, h1]
  rw [hr]
  conv => whnf
  refine ⟨[], Nat, fun k => [(1, int k)], fun _ => [], fun k => n ≤ k ∧ k ≤ l.length ∧ k + runT (l.drop k) = n + runT (l.drop n), fun k => l.length - k, n, ⟨Nat.le_refl _, hn, rfl⟩, ?_, ?_⟩
  · refine ⟨rfl, ?_, ?_⟩ <;> repeat' (first | exact trivial | exact rfl | refine and_rfl ?_ | refine and_two ?_ ?_)
  rintro k ⟨hk1, hk2, hk⟩
  conv => whnf
  rintro (_ | _) h2
  · simp [mk_size] at h2
    rw [List.drop_eq_nil_of_le h2] at hk
    conv => whnf
    exact fin_int (by simp [runT] at hk; omega)
  simp [mk_size] at h2
  conv => whnf
  refine ⟨by omega, _, mk_at h2, ?_⟩
  have hrk : runT (l.drop k) = if isHd l[k] || isDg l[k] then runT (l.drop (k + 1)) + 1 else 0 := by rw [drop_cons h2]; rfl
  conv => whnf
  refine ⟨_, x_head l[k], ?_⟩
  conv => whnf
  rintro (_ | _) h3
  · conv => whnf
    refine ⟨by omega, _, mk_at h2, ?_⟩
    conv => whnf
    refine ⟨_, x_digit l[k], ?_⟩
    conv => whnf
    rintro (_ | _) h4
    · rw [h3, h4] at hrk
      conv => whnf
      exact fin_int (by simp at hrk; omega)
    rw [h3, h4] at hrk
    simp at hrk
    conv => whnf
    refine ⟨k + 1, ⟨by omega, h2, by omega⟩, by dsimp only; omega, ?_⟩
    refine ⟨rfl, ?_, ?_⟩ <;> repeat' (first | exact trivial | exact rfl | refine and_rfl ?_ | refine and_val (wrap_succ (by omega)) ?_ | refine and_two ?_ ?_)
  · rw [h3] at hrk
    simp at hrk
    conv => whnf
    refine ⟨k + 1, ⟨by omega, h2, by omega⟩, by dsimp only; omega, ?_⟩
    refine ⟨rfl, ?_, ?_⟩ <;> repeat' (first | exact trivial | exact rfl | refine and_rfl ?_ | refine and_val (wrap_succ (by omega)) ?_ | refine and_two ?_ ?_)
end Go.Proofs.YtkpmlgpkmlhbjaaGreatDoor
namespace Go.Proofs.YtkpmlgpkmlhbjaaGreatDoor
open Go.RowKit
abbrev u32 (n : Nat) : V := .cv (.int .u32 (n : Int))
theorem fin_u32 {a b : Int} (h : a = b) : V.cv (.int .u32 a) = V.cv (.int .u32 b) := by rw [h]
theorem shr1W {a : Nat} : (a : Int).fdiv (2 ^ (min (Int.toNat 1) IntKind.u32.bits)) = ((a / 2 : Nat) : Int) := shr_nat a 1
theorem shr8W {a : Nat} : (a : Int).fdiv (2 ^ (min (Int.toNat 8) IntKind.u32.bits)) = ((a / 256 : Nat) : Int) := shr_nat a 8
theorem polyW {a : Nat} (h : a < 4294967296) : IntKind.u32.wrap ((BitVec.ofInt IntKind.u32.bits (a : Int) ^^^ BitVec.ofInt IntKind.u32.bits (3988292384 : Int)).toNat : Nat) = ((a ^^^ 3988292384 : Nat) : Int) := xorW32 (b := 3988292384) h (by omega)
theorem notW {a : Nat} (h : a < 4294967296) : IntKind.u32.wrap ((BitVec.ofInt IntKind.u32.bits (if IntKind.u32.signed then -1 else IntKind.u32.max) ^^^ BitVec.ofInt IntKind.u32.bits (a : Int)).toNat : Nat) = ((4294967295 ^^^ a : Nat) : Int) := xorW32 (a := 4294967295) (by omega) h
theorem u8u32 (c : UInt8) : IntKind.u32.wrap ((c.toNat : Nat) : Int) = ((c.toNat : Nat) : Int) := by have := c.toNat_lt; rw [IntWalk.u32_in _ (by omega)]
set_option maxHeartbeats 1000000 in
set_option maxRecDepth 100000 in
theorem x_rcrc (l : Bs) (hl : l.length ≤ 281474976710656) : DCalls Tryz.prog 105 [bstr l] (u32 (crc l)) := by
  refine sx Tryz.func105 (by kernel_rfl) ?_
  generalize hR : crcF l 4294967295 = R
  have hRc : crc l = 4294967295 ^^^ R := by unfold crc; rw [hR]
  rw [hRc]
  conv => whnf
  refine ⟨[], Nat × Nat, fun ⟨k, r⟩ => [(4, int k), (3, u32 r)], fun _ => [], fun ⟨k, r⟩ => k ≤ l.length ∧ r < 4294967296 ∧ crcF (l.drop k) r = R, fun x => l.length - x.1, (0, 4294967295), ⟨Nat.zero_le _, by omega, hR⟩, ?_, ?_⟩
  · refine ⟨rfl, ?_, ?_⟩ <;> repeat' (first | exact trivial | exact rfl | refine and_rfl ?_ | refine and_two ?_ ?_)
  rintro ⟨k, r⟩ ⟨hk1, hr, hk⟩
  conv => whnf
  rintro (_ | _) h2
  · have h2 : l.length ≤ k := by simp [mk_size] at h2; omega
    rw [List.drop_eq_nil_of_le h2] at hk
    subst hk
    conv => whnf
    exact fin_u32 (notW hr)
  have h2 : k < l.length := by simp [mk_size] at h2; omega
  rw [drop_cons h2] at hk
  have hk : crcF (l.drop (k + 1)) (crcB r l[k]) = R := hk
  conv => whnf
  refine ⟨by omega, _, mk_at h2, ?_⟩
  conv => whnf
  rw [u8u32, xorW32 hr (by have := l[k].toNat_lt; omega)]
  have hx : r ^^^ l[k].toNat < 4294967296 := xor_lt hr (by have := l[k].toNat_lt; omega)
  have hC : shN 8 (r ^^^ l[k].toNat) = crcB r l[k] := rfl
  have hCl : crcB r l[k] < 4294967296 := crcB_lt hr _
  generalize r ^^^ l[k].toNat = x0 at *
  generalize crcB r l[k] = C at *
  refine ⟨[], Nat × Nat, fun ⟨q, x⟩ => [(5, int q), (3, u32 x)], fun _ => [], fun ⟨q, x⟩ => q ≤ 8 ∧ x < 4294967296 ∧ shN (8 - q) x = C, fun x => 8 - x.1, (0, x0), ⟨by omega, hx, hC⟩, ?_, ?_⟩
  · refine ⟨rfl, ?_, ?_⟩ <;> repeat' (first | exact trivial | exact rfl | refine and_rfl ?_ | refine and_two ?_ ?_)
  rintro ⟨q, x⟩ ⟨hq1, hx1, hq⟩
  conv => whnf
  rintro (_ | _) h3
  · have h3 : q = 8 := by simp at h3; omega
    subst h3
    have hq : x = C := hq
    subst hq
    conv => whnf
    refine ⟨(k + 1, x), ⟨h2, hCl, hk⟩, by dsimp only; omega, ?_⟩
    refine ⟨rfl, ?_, ?_⟩ <;> repeat' (first | exact trivial | exact rfl | refine and_rfl ?_ | refine and_val (wrap_succ (by omega)) ?_ | refine and_two ?_ ?_)
  have h3 : q < 8 := by simp at h3; omega
  have hs : shN (8 - (q + 1)) (sh1 x) = C := by rw [show 8 - q = (8 - (q + 1)) + 1 by omega] at hq; exact hq
  have hs1 := sh1_lt hx1
  conv => whnf
  rw [and1W32 hx1]
  rintro (_ | _) h4
  · have h4 : ¬ x % 2 = 1 := by simp at h4; omega
    unfold sh1 at hs hs1
    rw [if_neg h4] at hs hs1
    conv => whnf
    refine ⟨by omega, ?_⟩
    conv => whnf
    rw [shr1W]
    refine ⟨(q + 1, x / 2), ⟨by omega, hs1, hs⟩, by dsimp only; omega, ?_⟩
    refine ⟨rfl, ?_, ?_⟩ <;> repeat' (first | exact trivial | exact rfl | refine and_rfl ?_ | refine and_val (wrap_succ (by omega)) ?_ | refine and_two ?_ ?_)
  · have h4 : x % 2 = 1 := by simp at h4; omega
    unfold sh1 at hs hs1
    rw [if_pos h4] at hs hs1
    conv => whnf
    refine ⟨by omega, ?_⟩
    conv => whnf
    rw [shr1W, polyW (by omega)]
    refine ⟨(q + 1, x / 2 ^^^ 3988292384), ⟨by omega, hs1, hs⟩, by dsimp only; omega, ?_⟩
    refine ⟨rfl, ?_, ?_⟩ <;> repeat' (first | exact trivial | exact rfl | refine and_rfl ?_ | refine and_val (wrap_succ (by omega)) ?_ | refine and_two ?_ ?_)
end Go.Proofs.YtkpmlgpkmlhbjaaGreatDoor
namespace Go.Proofs.YtkpmlgpkmlhbjaaGreatDoor
open Go.RowKit
def tv (i j : Nat) : Int := if j < i then (shN 8 j : Nat) else 0
def TB (i : Nat) : List V := (List.range 256).map fun j => .cv (.int .u32 (tv i j))
theorem TB_len (i : Nat) : (TB i).length = 256 := by simp [TB]
theorem TB_get {i j : Nat} (h : j < 256) : (TB i)[j]? = some (.cv (.int .u32 (tv i j))) := by simp [TB, h]
theorem TB_set {i : Nat} (h : i < 256) : (TB i).set i (u32 (shN 8 i)) = TB (i + 1) := by
  refine List.ext_getElem? fun j => ?_
  rw [List.getElem?_set, TB_len]
  by_cases hj : i = j
  · subst hj
    rw [if_pos rfl, if_pos h, TB_get h]
    simp [tv]
  · rw [if_neg hj]
    by_cases h2 : j < 256
    · rw [TB_get h2, TB_get h2]
      unfold tv
      by_cases h3 : j < i
      · rw [if_pos h3, if_pos (by omega)]
      · rw [if_neg h3, if_neg (by omega)]
    · rw [List.getElem?_eq_none (by rw [TB_len]; omega), List.getElem?_eq_none (by rw [TB_len]; omega)]
theorem fill_one : ∀ (cs : List V) (off : Nat) (v : V), off < cs.length → fillV cs off [v] = some (cs.set off v)
  | [], off, v, h => by simp at h
  | c :: cs, 0, v, h => by simp [fillV]
  | c :: cs, off + 1, v, h => by simp [fillV, fill_one cs off v (by simpa using h)]
theorem closed_tb (m : List (Option Bk)) : ∀ l : List V, (∀ v ∈ l, ∃ k n, v = .cv (.int k n)) → closedL m l = true
  | [], _ => rfl
  | v :: l, h => by
    obtain ⟨k, n, rfl⟩ := h v (by simp)
    simp only [closedL, V.closed, Bool.true_and]
    exact closed_tb m l fun x hx => h x (by simp [hx])
theorem wk_tb (m m' : List (Option Bk)) : ∀ l : List V, (∀ v ∈ l, ∃ k n, v = .cv (.int k n)) → WkL m m' l l
  | [], _ => trivial
  | v :: l, h => by
    obtain ⟨k, n, rfl⟩ := h v (by simp)
    exact ⟨rfl, wk_tb m m' l fun x hx => h x (by simp [hx])⟩
theorem clM {m l : List (Option Bk)} {cs : List V} (h1 : closedL m cs = true) (h2 : closedM m l = true) : closedM m (some (.box cs) :: l) = true := by simp [closedM, h1, h2]
theorem and3 {a b c : Bool} (h1 : a = true) (h2 : b = true) (h3 : c = true) : (a && (b && c)) = true := by rw [h1, h2, h3]; rfl
theorem TB_cv (i : Nat) : ∀ v ∈ TB i, ∃ k n, v = V.cv (.int k n) := by
  intro v hv
  simp only [TB, List.mem_map] at hv
  obtain ⟨j, _, rfl⟩ := hv
  exact ⟨_, _, rfl⟩
set_option maxHeartbeats 1000000 in
set_option maxRecDepth 100000 in
theorem x_table : DCalls Tryz.prog 133 [] (.ag (TB 256)) := by
  refine sx Tryz.func133 (by kernel_rfl) ?_
  conv => whnf
  refine ⟨[], Nat × List V, fun ⟨i, _⟩ => [(5, int i)], fun ⟨_, cs⟩ => [(1, some (.box cs))], fun ⟨i, cs⟩ => i ≤ 256 ∧ cs = TB i, fun x => 256 - x.1, (0, TB 0), ⟨by omega, rfl⟩, ?_, ?_⟩
  · refine ⟨rfl, ?_, ?_⟩ <;> repeat' (first | exact trivial | exact rfl | refine and_rfl ?_ | refine and_two ?_ ?_)
  rintro ⟨i, cs⟩ ⟨hi, hcs⟩
  have hcl := fun m => closed_tb m (TB i) (TB_cv i)
  rw [← hcs] at hcl
  conv => whnf
  rw [forceL_eq]
  conv => whnf
  rintro (_ | _) h2
  · have h2 : i = 256 := by simp at h2; omega
    subst h2
    subst hcs
    (conv => whnf) <;> rfl
  have h2 : i < 256 := by simp at h2; omega
  conv => whnf
  have hw : IntKind.u32.wrap (i : Int) = (i : Int) := by rw [IntWalk.u32_in _ (by omega)]
  rw [hw]
  have hi32 : i < 4294967296 := by omega
  have hCl := shN_lt 8 hi32
  have hTS := TB_set h2
  rw [← hcs] at hTS
  have hTL := TB_len i
  rw [← hcs] at hTL
  have hcv := TB_cv i
  rw [← hcs] at hcv
  generalize hC : shN 8 i = C at *
  refine ⟨[], Nat × Nat, fun ⟨q, x⟩ => [(10, int q), (3, u32 x), (4, .un)], fun _ => [], fun ⟨q, x⟩ => q ≤ 8 ∧ x < 4294967296 ∧ shN (8 - q) x = C, fun x => 8 - x.1, (0, i), ⟨by omega, hi32, hC⟩, ?_, ?_⟩
  · conv => whnf
    rw [forceL_eq]
    conv => whnf
    refine ⟨?_, ?_, ?_⟩
    · exact and3 rfl (clM rfl (clM (hcl _) rfl)) rfl
    · repeat' (first | exact trivial | exact rfl | refine and_rfl ?_ | refine and_two ?_ ?_)
    · repeat' (first | exact trivial | exact rfl | refine and_rfl ?_ | exact wk_tb _ _ _ hcv | refine and_two ?_ ?_)
  rintro ⟨q, x⟩ ⟨hq1, hx1, hq⟩
  conv => whnf
  rw [forceL_eq]
  conv => whnf
  rintro (_ | _) h3
  · have h3 : q = 8 := by simp at h3; omega
    subst h3
    have hq : x = C := hq
    subst hq
    conv => whnf
    refine ⟨by omega, by omega, ?_⟩
    conv => whnf
    split
    rotate_left
    · rename_i hn
      have hn : fillV cs (0 + (i : Int).toNat) [u32 x] = none := hn
      rw [fill_one _ _ _ (by rw [hTL]; simp; omega)] at hn
      cases hn
    rename_i cs' hf0
    have hf : fillV cs (0 + (i : Int).toNat) [u32 x] = some cs' := hf0
    rw [fill_one _ _ _ (by rw [hTL]; simp; omega)] at hf
    have hf : (cs.set i (u32 x)) = cs' := by simpa using hf
    clear hf0
    rw [hTS] at hf
    subst hf
    rw [forceL_eq]
    have hcl' := fun m => closed_tb m (TB (i + 1)) (TB_cv (i + 1))
    have hcv' := TB_cv (i + 1)
    generalize hT' : TB (i + 1) = T' at *
    conv => whnf
    have hI : i + 1 ≤ 256 ∧ T' = TB (i + 1) := ⟨h2, hT'.symm⟩
    have hmu : 256 - (i + 1) < 256 - i := by omega
    clear hf hTS hcs
    refine ⟨(i + 1, T'), ?_, ?_, ?_⟩
    · exact hI
    · exact hmu
    rw [head_eq]
    refine ⟨?_, ?_, ?_⟩
    · exact and3 rfl (clM rfl (clM (hcl' _) rfl)) rfl
    · repeat' (first | exact trivial | exact rfl | refine and_rfl ?_ | refine and_val (wrap_succ (by omega)) ?_ | refine and_two ?_ ?_)
    · conv => whnf
      refine and_two ?_ ?_
      · repeat' (first | exact trivial | exact rfl | refine and_rfl ?_ | refine and_two ?_ ?_)
      · conv => whnf
        refine and_two ?_ ?_
        · exact wk_tb _ _ _ hcv'
        · repeat' (first | exact trivial | exact rfl | refine and_rfl ?_ | refine and_two ?_ ?_)
  have h3 : q < 8 := by simp at h3; omega
  have hs : shN (8 - (q + 1)) (sh1 x) = C := by rw [show 8 - q = (8 - (q + 1)) + 1 by omega] at hq; exact hq
  have hs1 := sh1_lt hx1
  conv => whnf
  rw [and1W32 hx1]
  conv => whnf
  refine ⟨by omega, ?_⟩
  conv => whnf
  rw [shr1W]
  rintro (_ | _) h4
  · have h4 : ¬ x % 2 = 1 := by simp at h4; omega
    unfold sh1 at hs hs1
    rw [if_neg h4] at hs hs1
    conv => whnf
    refine ⟨(q + 1, x / 2), ⟨by omega, hs1, hs⟩, by dsimp only; omega, ?_⟩
    conv => whnf
    rw [forceL_eq]
    conv => whnf
    refine ⟨?_, ?_, ?_⟩
    · exact and3 rfl (clM rfl (clM (hcl _) rfl)) rfl
    · repeat' (first | exact trivial | exact rfl | refine and_rfl ?_ | refine and_val (wrap_succ (by omega)) ?_ | refine and_two ?_ ?_)
    · repeat' (first | exact trivial | exact rfl | refine and_rfl ?_ | exact wk_tb _ _ _ hcv | refine and_two ?_ ?_)
  · have h4 : x % 2 = 1 := by simp at h4; omega
    unfold sh1 at hs hs1
    rw [if_pos h4] at hs hs1
    conv => whnf
    rw [polyW (by omega)]
    refine ⟨(q + 1, x / 2 ^^^ 3988292384), ⟨by omega, hs1, hs⟩, by dsimp only; omega, ?_⟩
    conv => whnf
    rw [forceL_eq]
    conv => whnf
    refine ⟨?_, ?_, ?_⟩
    · exact and3 rfl (clM rfl (clM (hcl _) rfl)) rfl
    · repeat' (first | exact trivial | exact rfl | refine and_rfl ?_ | refine and_val (wrap_succ (by omega)) ?_ | refine and_two ?_ ?_)
    · repeat' (first | exact trivial | exact rfl | refine and_rfl ?_ | exact wk_tb _ _ _ hcv | refine and_two ?_ ?_)
end Go.Proofs.YtkpmlgpkmlhbjaaGreatDoor
namespace Go.Proofs.YtkpmlgpkmlhbjaaGreatDoor
open Go.RowKit
theorem tv_get {j : Nat} (h : j < 256) : tv 256 j = ((shN 8 j : Nat) : Int) := by unfold tv; rw [if_pos h]
theorem u8W {r : Nat} : IntKind.u8.wrap (r : Int) = ((r % 256 : Nat) : Int) := by rw [IntKind.wrap_u8]; omega
set_option maxHeartbeats 1000000 in
set_option maxRecDepth 100000 in
theorem x_crc (l : Bs) (hl : l.length ≤ 281474976710656) : DCalls Tryz.prog 103 [bstr l] (u32 (crc l)) := by
  refine sx Tryz.func103 (by kernel_rfl) ?_
  generalize hR : crcF l 4294967295 = R
  have hRc : crc l = 4294967295 ^^^ R := by unfold crc; rw [hR]
  rw [hRc]
  conv => whnf
  refine ⟨_, x_table, ?_⟩
  conv => whnf
  refine ⟨[], Nat × Nat, fun ⟨k, r⟩ => [(9, int k), (4, u32 r)], fun _ => [], fun ⟨k, r⟩ => k ≤ l.length ∧ r < 4294967296 ∧ crcF (l.drop k) r = R, fun x => l.length - x.1, (0, 4294967295), ⟨Nat.zero_le _, by omega, hR⟩, ?_, ?_⟩
  · refine ⟨rfl, ?_, ?_⟩ <;> repeat' (first | exact trivial | exact rfl | refine and_rfl ?_ | refine and_two ?_ ?_)
  rintro ⟨k, r⟩ ⟨hk1, hr, hk⟩
  conv => whnf
  rintro (_ | _) h2
  · have h2 : l.length ≤ k := by simp [mk_size] at h2; omega
    rw [List.drop_eq_nil_of_le h2] at hk
    subst hk
    conv => whnf
    exact fin_u32 (notW hr)
  have h2 : k < l.length := by simp [mk_size] at h2; omega
  rw [drop_cons h2] at hk
  have hk : crcF (l.drop (k + 1)) (crcB r l[k]) = R := hk
  rw [crcB_table] at hk
  have hcl := l[k].toNat_lt
  have hj : r % 256 ^^^ l[k].toNat < 256 := Nat.xor_lt_two_pow (n := 8) (by omega) (by omega)
  conv => whnf
  refine ⟨by omega, _, mk_at h2, ?_⟩
  conv => whnf
  rw [u8W (r := r), xorW8 (by omega) (by omega)]
  have hs := shN_lt 8 (x := r % 256 ^^^ l[k].toNat) (by omega)
  have hT := TB_get (i := 256) hj
  rw [tv_get hj] at hT
  generalize r % 256 ^^^ l[k].toNat = j at *
  refine ⟨by omega, by omega, ?_⟩
  conv => whnf
  split
  rotate_left
  · rename_i he
    have he : (TB 256)[0 + (j : Int).toNat]? = none := he
    rw [Nat.zero_add, Int.toNat_natCast, hT] at he
    cases he
  rename_i v he
  have he : (TB 256)[0 + (j : Int).toNat]? = some v := he
  rw [Nat.zero_add, Int.toNat_natCast, hT] at he
  cases he
  conv => whnf
  refine ⟨by omega, ?_⟩
  conv => whnf
  rw [shr8W, xorW32 hs (by omega)]
  refine ⟨(k + 1, shN 8 j ^^^ r / 256), ⟨h2, xor_lt hs (by omega), hk⟩, by dsimp only; omega, ?_⟩
  refine ⟨rfl, ?_, ?_⟩ <;> repeat' (first | exact trivial | exact rfl | refine and_rfl ?_ | refine and_val (wrap_succ (by omega)) ?_ | refine and_two ?_ ?_)
end Go.Proofs.YtkpmlgpkmlhbjaaGreatDoor
