/- Texts joined by pack.py: XLx17 XLxP0 XLx18 -/
import Derived.Test.YtglndfgmlminpaaGreatDoorSq18
set_option maxHeartbeats 4000000
set_option maxRecDepth 100000
namespace Go.Proofs.YtglndfgmlminpaaGreatDoor
section
open Go.RowKit
def sp (c : UInt8) : Bool := c == 34 || c == 92
def ex (l : Bs) : Nat := l.count 92 + l.count 34
structure RepOk (cs : List D) : Prop where
 too : cs[256]? = some (.sl 1 [[.cv (.string (mk [92]))], [.cv (.string (mk [34]))]])
 qt : cs[34]? = some (.sl 1 ([92, 34].map a0_))
 bs : cs[92]? = some (.sl 1 ([92, 92].map a0_))
 no : ∀ c : UInt8, sp c = false → cs[c.toNat]? = some (.cv (.slice none 0 0))
theorem oh_ (s : ByteArray) (c : UInt8) : DCalls Tryz.prog 258 [str s, bc_ [c]] (int (s.data.toList.count c : Nat)) :=
 dv_ Tryz.func258 kR kR rfl rfl fun w _ => (Tryz.strings_Count_one s c w).mono fun e w' ⟨h1, h2⟩ => ⟨h1, h2 ▸ Below.refl _ _⟩
theorem d6_ : ∀ l : Bs, (esc l).length = l.length + ex l
 | [] => rfl
 | c :: l => by
  have := d6_ l
  unfold ex at *
  simp only [esc, List.count_cons]
  by_cases h1 : c = 34
  ·subst h1; simp; omega
  ·by_cases h2 : c = 92
   ·subst h2; simp; omega
   ·simp [h1, h2]; omega
theorem esc_no : ∀ l : Bs, ex l = 0 → esc l = l
 | [], _ => rfl
 | c :: l, h => by
  unfold ex at h
  simp only [List.count_cons] at h
  have h1 : c ≠ 34 := by intro e; subst e; simp at h
  have h2 : c ≠ 92 := by intro e; subst e; simp at h
  have := esc_no l (by unfold ex; simp [h1, h2] at h; omega)
  simp [esc, h1, h2, this]
theorem esc_app (a b : Bs) : esc (a ++ b) = esc a ++ esc b := by
 induction a with
 | nil => rfl
 | cons c a ih => simp only [List.cons_append, esc]; split <;> simp [ih]
theorem esc_one (c : UInt8) : esc [c] = if sp c then [92, c] else [c] := by unfold sp; rfl
theorem ex_app (a b : Bs) : ex (a ++ b) = ex a + ex b := by unfold ex; simp only [List.count_append]; omega
theorem ex_one (c : UInt8) : ex [c] = if sp c then 1 else 0 := by
 unfold ex sp
 by_cases h1 : c = 34
 ·subst h1; rfl
 ·by_cases h2 : c = 92
  ·subst h2; rfl
  ·simp [h1, h2]
theorem iw_ {l : Bs} {k : Nat} (h : k < l.length) : l.take (k + 1) = l.take k ++ [l[k]] := List.take_succ_eq_append_getElem h
theorem RepOk.sp {cs : List D} (h : RepOk cs) {c : UInt8} (hc : sp c = true) : cs[0 + ((c.toNat : Nat) : Int).toNat]? = some (.sl 1 ([92, c].map a0_)) := by
 rw [i_, Nat.zero_add]
 unfold Go.Proofs.YtglndfgmlminpaaGreatDoor.sp at hc
 simp only [C_, beq_iff_eq] at hc
 rcases hc with rfl | rfl
 ·exact h.qt
 ·exact h.bs
theorem RepOk.nsp {cs : List D} (h : RepOk cs) {c : UInt8} (hc : Go.Proofs.YtglndfgmlminpaaGreatDoor.sp c = false) : cs[0 + ((c.toNat : Nat) : Int).toNat]? = some (.cv (.slice none 0 0)) := by
 rw [i_, Nat.zero_add]; exact h.no c hc
theorem ex_le (l : Bs) : ex l ≤ l.length := by
 induction l with
 | nil => simp [ex]
 | cons c l ih =>
  rw [show c :: l = [c] ++ l from rfl, ex_app, ex_one]
  simp only [a_, G_]; split <;> omega
theorem ex_take (l : Bs) (k : Nat) : ex (l.take k) ≤ ex l := by
 have : ex l = ex (l.take k) + ex (l.drop k) := by rw [← ex_app, List.take_append_drop]
 omega
theorem byteInfo : ∃ i, Tryz.prog.info? 5 = some i ∧ i.zero = some (.int .u8 0) ∧ i.size = 1 ∧ i.bytes = 1 := by
 have h : (Tryz.prog.info? 5).map (fun i => (i.zero, i.size, i.bytes)) = some (some (.int .u8 0), 1, 1) := kR
 cases hi : Tryz.prog.info? 5 with
 | none => rw [hi] at h; cases h
 | some i =>
  rw [hi] at h
  simp only [Option.map_some, Option.some.injEq, Prod.mk.injEq] at h
  exact ⟨i, rfl, h.1, h.2.1, h.2.2⟩
theorem seg_end {a : Bs} {n : Nat} (x y : UInt8) (_h : 2 ≤ n) : (a ++ List.replicate n 0).take a.length ++ [x, y] ++ (a ++ List.replicate n 0).drop (a.length + 2) = (a ++ [x, y]) ++ List.replicate (n - 2) 0 := by
 rw [List.take_left, List.drop_append, k_ oM, List.nil_append, show a.length + 2 - a.length = 2 by omega, List.drop_replicate]
theorem set_end {a : Bs} {n : Nat} (h : 0 < n) (c : UInt8) : (a ++ List.replicate n 0).set a.length c = (a ++ [c]) ++ List.replicate (n - 1) 0 := by
 obtain ⟨n, rfl⟩ : ∃ k, n = k + 1 := ⟨n - 1, oM⟩
 rw [List.set_append_right _ _ (f_ _), Nat.sub_self, List.replicate_succ]
 simp
theorem x_bsReplace (cs : List D) (hcs : RepOk cs) (l : Bs) (hl : l.length ≤ 1000000) :
  DCalls Tryz.prog 303 [.el true cs 0, bc_ l] (bc_ (esc l)) := by
 have hto : (cs.map (D.v false))[0 + 256]? = some (.sl false 1 [[.cv (.string (mk [92]))], [.cv (.string (mk [34]))]]) := by rw [e_, show 0 + 256 = 256 from rfl, hcs.too]; rfl
 have hex := ex_le l
 obtain ⟨bi, i1, i2, i3, i4⟩ := byteInfo
 refine sxm [(1000009, false)] Tryz.func303 kR ?_
 conv => whnf
 rw [hto]
 conv => whnf
 rintro (_ | _) h0
 ·clear h0
  conv => whnf
  refine ⟨[], Nat, fun k => [(10, int k), (5, int (l.length + ex (l.take k) : Nat)), (6, boo (decide (ex (l.take k) ≠ 0)))], fun _ => [], fun k => k ≤ l.length, fun k => l.length - k, 0, l_ _, ?_, ?_⟩
  ·exact eN
  rintro k hk1
  conv => whnf
  rintro (_ | _) h2
  ·have h2 : l.length ≤ k := by simp only [P_] at h2; simp at h2; omega
   rw [M_ h2]
   conv => whnf
   rintro (_ | _) h6
   rotate_left
   ·have h6 : ex l = 0 := by simpa using h6
    rw [esc_no l h6]
    (conv => whnf) <;> rfl
   have h6 : ex l ≠ 0 := by simpa using h6
   conv => whnf
   refine ⟨_, _, ot_make (dst := 85) (n := l.length + ex l) rfl rfl rfl rfl rfl kR i1 i2 i3 i4 oM, ?_⟩
   conv => whnf
   refine ⟨[], Nat, fun k => [(14, int k), (13, int ((esc (l.take k)).length : Nat)), (12, .ow 85 0)], fun k => [(85, some (.row 0 5 1 true ((esc (l.take k) ++ List.replicate (l.length + ex l - (esc (l.take k)).length) 0).map a0_)))], fun k => k ≤ l.length, fun k => l.length - k, 0, l_ _, ?_, ?_⟩
   ·exact eN
   rintro k hk1
   have el := d6_ l
   conv => whnf
   rintro (_ | _) h7
   ·have h7 : l.length ≤ k := by simp only [P_] at h7; simp at h7; omega
    rw [M_ h7, el, Nat.sub_self, List.replicate_zero, List.append_nil]
    conv => whnf
    refine ⟨_, _, gj_ (e := 5) rfl rfl rfl kR kR kR, ?_⟩
    (conv => whnf) <;> rfl
   have h7 : k < l.length := by simp only [P_] at h7; simp at h7; omega
   have e1 := d6_ (l.take k)
   have e2 := d6_ (l.take (k + 1))
   have e3 := ex_take l (k + 1)
   have e4 : esc (l.take (k + 1)) = esc (l.take k) ++ (if sp l[k] then [92, l[k]] else [l[k]]) := by rw [iw_ h7, esc_app, esc_one]
   rw [B_] at e1 e2
   conv => whnf
   refine ⟨oM, _, bn_ h7, ?_⟩
   cases hsp : sp l[k] with
   | false =>
    rw [hsp] at e4
    simp only [y_, if_false] at e4
    have e5 : (esc (l.take (k + 1))).length = (esc (l.take k)).length + 1 := by rw [e4]; simp
    conv => whnf
    refine ⟨oM, by have := l[k].toNat_lt; omega, _, hcs.nsp hsp, ?_⟩
    conv => whnf
    refine kF ?_
    conv => whnf
    refine ⟨oM, by simp; omega, ?_⟩
    have hget : ((esc (l.take k) ++ List.replicate (l.length + ex l - (esc (l.take k)).length) 0).map a0_)[(((esc (l.take k)).length : Nat) : Int).toNat]? = some (a0_ 0) := by
     rw [i_, e_, L_ (f_ _), Nat.sub_self, N_, if_pos oM]; rfl
    conv => whnf
    refine ⟨_, hget, by simp [a0_], ?_⟩
    conv => whnf
    refine ⟨k + 1, h7, by dsimp only; omega, ?_⟩
    have hw : IntKind.i64.wrap (((esc (l.take k)).length : Nat) + 1 : Int) = (((esc (l.take (k + 1))).length : Nat) : Int) := by rw [R_ oM, e5]
    have hk' : IntKind.i64.wrap ((k : Int) + 1) = ((k + 1 : Nat) : Int) := R_ oM
    have hrow : ((esc (l.take k) ++ List.replicate (l.length + ex l - (esc (l.take k)).length) 0).map a0_).set (((esc (l.take k)).length : Nat) : Int).toNat (List.take 0 (a0_ 0) ++ [D.cv (Value.int IntKind.u8 (l[k].toNat : Nat))] ++ List.drop (0 + [D.cv (Value.int IntKind.u8 (l[k].toNat : Nat))].length) (a0_ 0)) = (esc (l.take (k + 1)) ++ List.replicate (l.length + ex l - (esc (l.take (k + 1))).length) 0).map a0_ := by
     rw [show (List.take 0 (a0_ 0) ++ [D.cv (Value.int IntKind.u8 (l[k].toNat : Nat))] ++ List.drop (0 + [D.cv (Value.int IntKind.u8 (l[k].toNat : Nat))].length) (a0_ 0)) = a0_ l[k] from rfl, ← List.map_set, i_, set_end oM, ← e4, e5, Nat.sub_sub]
    refine ⟨rfl, ?_, ?_⟩ <;> repeat' (first | exact trivial | exact rfl | refine am_ ?_ | refine aw_ hk' ?_ | refine aw_ hw ?_ | exact hrow | refine ah_ ?_ ?_)
   | true =>
    rw [hsp] at e4
    simp only [if_true] at e4
    have e5 : (esc (l.take (k + 1))).length = (esc (l.take k)).length + 2 := by rw [e4]; simp
    conv => whnf
    refine ⟨oM, by have := l[k].toNat_lt; omega, _, hcs.sp hsp, ?_⟩
    conv => whnf
    refine ⟨by simp, ?_⟩
    conv => whnf
    refine kT ?_
    conv => whnf
    refine ⟨none, kR, ?_⟩
    conv => whnf
    refine ⟨oM, by simp; omega, oM, ?_⟩
    conv => whnf
    refine ⟨oM, by have := l[k].toNat_lt; omega, _, hcs.sp hsp, ?_⟩
    refine ⟨_, _, ot_copy (ys := [92, l[k]]) (l := esc (l.take k) ++ List.replicate (l.length + ex l - (esc (l.take k)).length) 0) rfl rfl rfl rfl rfl rfl rfl sI sO sI kR kR rfl, ?_⟩
    rw [i_, show ([92, l[k]] : Bs).length = 2 from rfl, seg_end 92 l[k] oM, ← e4, Nat.sub_sub, ← e5]
    have hw : IntKind.i64.wrap (((esc (l.take k)).length : Nat) + (2 : Nat) : Int) = (((esc (l.take (k + 1))).length : Nat) : Int) := by rw [A_ _ oM, e5]; rfl
    have hk' : IntKind.i64.wrap ((k : Int) + 1) = ((k + 1 : Nat) : Int) := R_ oM
    conv => whnf
    refine ⟨k + 1, h7, by dsimp only; omega, ?_⟩
    refine ⟨rfl, ?_, ?_⟩ <;> repeat' (first | exact trivial | exact rfl | refine am_ ?_ | refine aw_ hk' ?_ | refine aw_ hw ?_ | refine ah_ ?_ ?_)
  have h2 : k < l.length := by simp only [P_] at h2; simp at h2; omega
  have x1 : ex (l.take (k + 1)) = ex (l.take k) + (if sp l[k] then 1 else 0) := by rw [iw_ h2, ex_app, ex_one]
  have x2 := ex_take l (k + 1)
  have hk' : IntKind.i64.wrap ((k : Int) + 1) = ((k + 1 : Nat) : Int) := R_ oM
  conv => whnf
  refine ⟨oM, _, bn_ h2, ?_⟩
  cases hsp : sp l[k] with
  | false =>
   rw [hsp] at x1
   simp only [y_, if_false, Nat.add_zero] at x1
   conv => whnf
   refine ⟨oM, by have := l[k].toNat_lt; omega, _, hcs.nsp hsp, ?_⟩
   conv => whnf
   refine kF ?_
   conv => whnf
   refine ⟨k + 1, h2, by dsimp only; omega, ?_⟩
   refine ⟨rfl, ?_, ?_⟩ <;> repeat' (first | exact trivial | exact rfl | refine am_ ?_ | refine aw_ hk' ?_ | refine ah_ (by (rw [x1]) <;> exact rfl) ?_ | refine ah_ ?_ ?_)
  | true =>
   rw [hsp] at x1
   simp only [if_true] at x1
   conv => whnf
   refine ⟨oM, by have := l[k].toNat_lt; omega, _, hcs.sp hsp, ?_⟩
   conv => whnf
   refine ⟨by simp, ?_⟩
   conv => whnf
   refine kT ?_
   conv => whnf
   refine ⟨oM, by have := l[k].toNat_lt; omega, _, hcs.sp hsp, ?_⟩
   have hw : IntKind.i64.wrap (((l.length + ex (l.take k) : Nat) : Int) + IntKind.i64.wrap ((([92, l[k]].map a0_).length : Nat) - 1 : Int)) = ((l.length + ex (l.take (k + 1)) : Nat) : Int) := by
    rw [show IntKind.i64.wrap ((([92, l[k]].map a0_).length : Nat) - 1 : Int) = 1 from rfl, R_ oM, x1, Nat.add_assoc]
   have hb : decide (ex (l.take (k + 1)) ≠ 0) = true := by simp; omega
   conv => whnf
   refine ⟨k + 1, h2, by dsimp only; omega, ?_⟩
   refine ⟨rfl, ?_, ?_⟩ <;> repeat' (first | exact trivial | exact rfl | refine am_ ?_ | refine aw_ hk' ?_ | refine aw_ hw ?_ | refine ah_ (by (rw [hb]) <;> exact rfl) ?_ | refine ah_ ?_ ?_)
 clear h0
 have c1 := ex_le l
 have hc : ex l = l.count 92 + l.count 34 := rfl
 conv => whnf
 rw [hto]
 conv => whnf
 refine ⟨[], Nat × Nat × Bool, fun ⟨k, n, b⟩ => [(32, int k), (5, int n), (6, boo b)], fun _ => [], fun ⟨k, n, b⟩ => (k = 0 ∧ n = l.length ∧ b = false) ∨ (k = 1 ∧ n = l.length + l.count 92 ∧ b = decide (l.count 92 ≠ 0)) ∨ (k = 2 ∧ n = l.length + ex l ∧ b = decide (ex l ≠ 0)), fun x => 2 - x.1, (0, l.length, false), .inl ⟨rfl, rfl, rfl⟩, ?_, ?_⟩
 ·refine ⟨rfl, ?_, ?_⟩ <;> repeat' (first | exact trivial | exact rfl | refine am_ ?_ | refine ah_ ?_ ?_ | ((rw [P_]) <;> exact rfl))
 rintro ⟨k, n, b⟩ (⟨rfl, rfl, rfl⟩ | ⟨rfl, rfl, rfl⟩ | ⟨rfl, rfl, rfl⟩)
 ·have c2 : l.count 92 ≤ l.length := by omega
  conv => whnf
  refine kT ?_
  conv => whnf
  refine ⟨oM, _, rfl, ?_⟩
  conv => whnf
  refine ⟨_, oh_ (mk l) 92, ?_⟩
  rw [show (mk l).data.toList.count 92 = l.count 92 from rfl]
  conv => whnf
  rintro (_ | _) h2
  ·have h2 : l.count 92 = 0 := by simp at h2; simpa using h2
   conv => whnf
   refine ⟨(1, l.length + l.count 92, decide (l.count 92 ≠ 0)), .inr (.inl ⟨rfl, rfl, rfl⟩), by dsimp only; omega, ?_⟩
   refine ⟨rfl, ?_, ?_⟩ <;> repeat' (first | exact trivial | exact rfl | refine am_ ?_ | refine ah_ (by (rw [h2]) <;> exact rfl) ?_ | refine ah_ ?_ ?_)
  have h2 : l.count 92 ≠ 0 := by simp at h2; simpa using h2
  conv => whnf
  refine ⟨none, kR, ?_⟩
  conv => whnf
  refine ⟨oM, _, (show (mk [92])[0]? = some 92 from rfl), ?_⟩
  conv => whnf
  refine ⟨oM, dC, _, hcs.sp (c := 92) rfl, ?_⟩
  have hw : IntKind.i64.wrap (((l.length : Nat) : Int) + IntKind.i64.wrap (((l.count 92 : Nat) : Int) * IntKind.i64.wrap ((([92, 92].map a0_).length : Nat) - 1 : Int))) = ((l.length + l.count 92 : Nat) : Int) := by
   rw [show IntKind.i64.wrap ((([92, 92].map a0_).length : Nat) - 1 : Int) = 1 from rfl, Int.mul_one, A_ ((l.count 92 : Nat) : Int) oM, A_ _ oM]; omega
  have hb : decide (l.count 92 ≠ 0) = true := by simp; omega
  conv => whnf
  refine ⟨(1, l.length + l.count 92, decide (l.count 92 ≠ 0)), .inr (.inl ⟨rfl, rfl, rfl⟩), by dsimp only; omega, ?_⟩
  refine ⟨rfl, ?_, ?_⟩ <;> repeat' (first | exact trivial | exact rfl | refine am_ ?_ | refine aw_ hw ?_ | refine ah_ (by (rw [hb]) <;> exact rfl) ?_ | refine ah_ ?_ ?_)
 ·have c2 : l.count 34 ≤ l.length := by omega
  conv => whnf
  refine kT ?_
  conv => whnf
  refine ⟨oM, _, rfl, ?_⟩
  conv => whnf
  refine ⟨_, oh_ (mk l) 34, ?_⟩
  rw [show (mk l).data.toList.count 34 = l.count 34 from rfl]
  conv => whnf
  rintro (_ | _) h2
  ·have h2 : l.count 34 = 0 := by simp at h2; simpa using h2
   conv => whnf
   refine ⟨(2, l.length + ex l, decide (ex l ≠ 0)), .inr (.inr ⟨rfl, rfl, rfl⟩), by dsimp only; omega, ?_⟩
   refine ⟨rfl, ?_, ?_⟩ <;> repeat' (first | exact trivial | exact rfl | refine am_ ?_ | refine ah_ (by (rw [hc, h2, Nat.add_zero]) <;> exact rfl) ?_ | refine ah_ ?_ ?_)
  have h2 : l.count 34 ≠ 0 := by simp at h2; simpa using h2
  conv => whnf
  refine ⟨none, kR, ?_⟩
  conv => whnf
  refine ⟨oM, _, (show (mk [34])[0]? = some 34 from rfl), ?_⟩
  conv => whnf
  refine ⟨oM, dC, _, hcs.sp (c := 34) rfl, ?_⟩
  have hw : IntKind.i64.wrap (((l.length + l.count 92 : Nat) : Int) + IntKind.i64.wrap (((l.count 34 : Nat) : Int) * IntKind.i64.wrap ((([92, 34].map a0_).length : Nat) - 1 : Int))) = ((l.length + ex l : Nat) : Int) := by
   rw [show IntKind.i64.wrap ((([92, 34].map a0_).length : Nat) - 1 : Int) = 1 from rfl, Int.mul_one, A_ ((l.count 34 : Nat) : Int) oM, A_ _ oM]; omega
  have hb : decide (ex l ≠ 0) = true := by simp; omega
  conv => whnf
  refine ⟨(2, l.length + ex l, decide (ex l ≠ 0)), .inr (.inr ⟨rfl, rfl, rfl⟩), by dsimp only; omega, ?_⟩
  refine ⟨rfl, ?_, ?_⟩ <;> repeat' (first | exact trivial | exact rfl | refine am_ ?_ | refine aw_ hw ?_ | refine ah_ (by (rw [hb]) <;> exact rfl) ?_ | refine ah_ ?_ ?_)
 ·conv => whnf
  refine kF ?_
  conv => whnf
  rintro (_ | _) h6
  rotate_left
  ·have h6 : ex l = 0 := by simpa using h6
   rw [esc_no l h6]
   (conv => whnf) <;> rfl
  have h6 : ex l ≠ 0 := by simpa using h6
  conv => whnf
  refine ⟨_, _, ot_make (dst := 85) (n := l.length + ex l) rfl rfl rfl rfl rfl kR i1 i2 i3 i4 oM, ?_⟩
  conv => whnf
  refine ⟨[], Nat, fun k => [(14, int k), (13, int ((esc (l.take k)).length : Nat)), (12, .ow 85 0)], fun k => [(85, some (.row 0 5 1 true ((esc (l.take k) ++ List.replicate (l.length + ex l - (esc (l.take k)).length) 0).map a0_)))], fun k => k ≤ l.length, fun k => l.length - k, 0, l_ _, ?_, ?_⟩
  ·exact eN
  rintro k hk1
  have el := d6_ l
  conv => whnf
  rintro (_ | _) h7
  ·have h7 : l.length ≤ k := by simp only [P_] at h7; simp at h7; omega
   rw [M_ h7, el, Nat.sub_self, List.replicate_zero, List.append_nil]
   conv => whnf
   refine ⟨_, _, gj_ (e := 5) rfl rfl rfl kR kR kR, ?_⟩
   (conv => whnf) <;> rfl
  have h7 : k < l.length := by simp only [P_] at h7; simp at h7; omega
  have e1 := d6_ (l.take k)
  have e2 := d6_ (l.take (k + 1))
  have e3 := ex_take l (k + 1)
  have e4 : esc (l.take (k + 1)) = esc (l.take k) ++ (if sp l[k] then [92, l[k]] else [l[k]]) := by rw [iw_ h7, esc_app, esc_one]
  rw [B_] at e1 e2
  conv => whnf
  refine ⟨oM, _, bn_ h7, ?_⟩
  cases hsp : sp l[k] with
  | false =>
   rw [hsp] at e4
   simp only [y_, if_false] at e4
   have e5 : (esc (l.take (k + 1))).length = (esc (l.take k)).length + 1 := by rw [e4]; simp
   conv => whnf
   refine ⟨oM, by have := l[k].toNat_lt; omega, _, hcs.nsp hsp, ?_⟩
   conv => whnf
   refine kF ?_
   conv => whnf
   refine ⟨oM, by simp; omega, ?_⟩
   have hget : ((esc (l.take k) ++ List.replicate (l.length + ex l - (esc (l.take k)).length) 0).map a0_)[(((esc (l.take k)).length : Nat) : Int).toNat]? = some (a0_ 0) := by
    rw [i_, e_, L_ (f_ _), Nat.sub_self, N_, if_pos oM]; rfl
   conv => whnf
   refine ⟨_, hget, by simp [a0_], ?_⟩
   conv => whnf
   refine ⟨k + 1, h7, by dsimp only; omega, ?_⟩
   have hw : IntKind.i64.wrap (((esc (l.take k)).length : Nat) + 1 : Int) = (((esc (l.take (k + 1))).length : Nat) : Int) := by rw [R_ oM, e5]
   have hk' : IntKind.i64.wrap ((k : Int) + 1) = ((k + 1 : Nat) : Int) := R_ oM
   have hrow : ((esc (l.take k) ++ List.replicate (l.length + ex l - (esc (l.take k)).length) 0).map a0_).set (((esc (l.take k)).length : Nat) : Int).toNat (List.take 0 (a0_ 0) ++ [D.cv (Value.int IntKind.u8 (l[k].toNat : Nat))] ++ List.drop (0 + [D.cv (Value.int IntKind.u8 (l[k].toNat : Nat))].length) (a0_ 0)) = (esc (l.take (k + 1)) ++ List.replicate (l.length + ex l - (esc (l.take (k + 1))).length) 0).map a0_ := by
    rw [show (List.take 0 (a0_ 0) ++ [D.cv (Value.int IntKind.u8 (l[k].toNat : Nat))] ++ List.drop (0 + [D.cv (Value.int IntKind.u8 (l[k].toNat : Nat))].length) (a0_ 0)) = a0_ l[k] from rfl, ← List.map_set, i_, set_end oM, ← e4, e5, Nat.sub_sub]
   refine ⟨rfl, ?_, ?_⟩ <;> repeat' (first | exact trivial | exact rfl | refine am_ ?_ | refine aw_ hk' ?_ | refine aw_ hw ?_ | exact hrow | refine ah_ ?_ ?_)
  | true =>
   rw [hsp] at e4
   simp only [if_true] at e4
   have e5 : (esc (l.take (k + 1))).length = (esc (l.take k)).length + 2 := by rw [e4]; simp
   conv => whnf
   refine ⟨oM, by have := l[k].toNat_lt; omega, _, hcs.sp hsp, ?_⟩
   conv => whnf
   refine ⟨by simp, ?_⟩
   conv => whnf
   refine kT ?_
   conv => whnf
   refine ⟨none, kR, ?_⟩
   conv => whnf
   refine ⟨oM, by simp; omega, oM, ?_⟩
   conv => whnf
   refine ⟨oM, by have := l[k].toNat_lt; omega, _, hcs.sp hsp, ?_⟩
   refine ⟨_, _, ot_copy (ys := [92, l[k]]) (l := esc (l.take k) ++ List.replicate (l.length + ex l - (esc (l.take k)).length) 0) rfl rfl rfl rfl rfl rfl rfl sI sO sI kR kR rfl, ?_⟩
   rw [i_, show ([92, l[k]] : Bs).length = 2 from rfl, seg_end 92 l[k] oM, ← e4, Nat.sub_sub, ← e5]
   have hw : IntKind.i64.wrap (((esc (l.take k)).length : Nat) + (2 : Nat) : Int) = (((esc (l.take (k + 1))).length : Nat) : Int) := by rw [A_ _ oM, e5]; rfl
   have hk' : IntKind.i64.wrap ((k : Int) + 1) = ((k + 1 : Nat) : Int) := R_ oM
   conv => whnf
   refine ⟨k + 1, h7, by dsimp only; omega, ?_⟩
   refine ⟨rfl, ?_, ?_⟩ <;> repeat' (first | exact trivial | exact rfl | refine am_ ?_ | refine aw_ hk' ?_ | refine aw_ hw ?_ | refine ah_ ?_ ?_)
end
section
open Go.RowKit
theorem ik_ : ∀ (l : Bs) (c : UInt8) (n : Nat), eu_ (l ++ [c]) n = 10 * eu_ l n + (c.toNat - 48)
 | [], c, n => rfl
 | d :: l, c, n => by simp only [List.cons_append, eu_]; exact ik_ l c _
theorem ofNat_dig {c : UInt8} (h : ht_ c = true) : UInt8.ofNat (48 + (c.toNat - 48)) = c := by
 have h1 := fn_ h
 rw [show 48 + (c.toNat - 48) = c.toNat by omega]
 exact UInt8.ofNat_toNat
theorem g7_ : ∀ (k : Nat) (d : Bs), d.length = k + 1 → (∀ c ∈ d, ht_ c = true) → (1 < d.length → d.head? ≠ some 48) → Lib.decDigits (eu_ d 0) = d ∧ (1 < d.length → 1 ≤ eu_ d 0) ∧ (d.head? ≠ some 48 → 1 ≤ eu_ d 0)
 | 0, d, hk, hd, _ => by
  obtain ⟨c, rfl⟩ : ∃ c, d = [c] := List.length_eq_one_iff.1 hk
  have hc := hd c sI
  have h1 := fn_ hc
  have hv : eu_ [c] 0 = c.toNat - 48 := by simp [eu_]
  refine ⟨?_, by simp, fun h => ?_⟩
  ·rw [hv, dg_ oM, ofNat_dig hc]
  ·rw [hv]
   have : c ≠ 48 := by simpa using h
   have : c.toNat ≠ 48 := fun e => this (UInt8.toNat_inj.1 (by rw [e]; rfl))
   omega
 | k + 1, d, hk, hd, h0 => by
  obtain ⟨e, c, rfl⟩ : ∃ e c, d = e ++ [c] := ⟨d.dropLast, d.getLast (by intro h; rw [h] at hk; simp at hk), (List.dropLast_concat_getLast _).symm⟩
  have hke : e.length = k + 1 := by simpa using hk
  have hc := hd c sI
  have h1 := fn_ hc
  have hh : (e ++ [c]).head? = e.head? := by cases e with
   | nil => simp at hke
   | cons a b => rfl
  have hne : e.head? ≠ some 48 := by rw [← hh]; exact h0 sO
  obtain ⟨i1, i2, i3⟩ := g7_ k e hke (fun x hx => hd x (by simp [hx])) (fun _ => hne)
  have := i3 hne
  refine ⟨?_, fun _ => ?_, fun _ => ?_⟩
  ·rw [ik_, e2_ oM, show (10 * eu_ e 0 + (c.toNat - 48)) / 10 = eu_ e 0 by omega, i1, show (10 * eu_ e 0 + (c.toNat - 48)) % 10 = c.toNat - 48 by omega, ofNat_dig hc]
  ·rw [ik_]; omega
  ·rw [ik_]; omega
theorem itoa_dval {d : Bs} (h : digs d) (h0 : hl_ d = true) : Lib.itoa (eu_ d 0 : Int) = d := by
 obtain ⟨h1, h2⟩ := h
 have hl : d.length ≠ 0 := by simpa using h1
 rw [Lib.itoa_nonneg]
 refine (g7_ (d.length - 1) d oM h2 fun h3 h4 => ?_).1
 unfold hl_ at h0
 rw [h4] at h0
 simp at h0
 rw [h0] at h3
 simp at h3
def sep (r : Bs) : Prop := ∀ c, r.head? = some c → isBl c = true
theorem qn_ : ∀ l : Bs, g3_ (l.take (g3_ l)) = g3_ l
 | [] => rfl
 | c :: l => by
  simp only [g3_]
  split
  ·rename_i h; simp only [List.take_succ_cons, g3_, h, if_true, qn_ l]
  ·rfl
theorem runL_take (l : Bs) : bk_ (l.take (bk_ l)) = bk_ l := by
 cases l with
 | nil => rfl
 | cons c l =>
  cases h : lr_ c with
  | true => simp only [bk_, h, if_true, List.take_succ_cons, qn_ l]
  | false => simp only [bk_, h, y_, if_false, List.take_zero]
theorem my_ {l : Bs} (h1 : 1 ≤ bk_ l) (h2 : bk_ l ≤ 24) : ba_ (l.take (bk_ l)) = true := by
 have hl := hh_ l
 have h3 : (l.take (bk_ l)).length = bk_ l := by rw [B_]; omega
 unfold ba_
 rw [runL_take, h3]
 have : (l.take (bk_ l)).isEmpty = false := by
  cases hx : l.take (bk_ l) with
  | nil => rw [hx] at h3; simp at h3; omega
  | cons a b => rfl
 simp [this, h2]
theorem mz_ {x : Bs} (h : ba_ x = true) : x ≠ [] ∧ bk_ x = x.length ∧ x.length ≤ 24 := by
 unfold ba_ at h; simp at h
 exact ⟨h.1.1, h.1.2, h.2⟩
end
section
open Go.RowKit
def olds : List (List D) := [[.cv (.string (mk [34]))], [.cv (.string (mk [92, 34]))], [.cv (.string (mk [92]))], [.cv (.string (mk [92, 92]))]]
def repl0 : List Bk := [.box [.cv (.int .u32 0), .cv (.int .i32 0), .cv (.int .u32 0), .cv .nilIface, .ow 1 0], .row 0 9 1 true olds]
theorem fq_ : bm_ Tryz.prog 92 [.sl false 1 olds] [] (.bx 0 0) repl0 := by
 refine msx Tryz.func92 kR kR ?_
 conv => whnf
 refine ⟨dC, ?_⟩
 conv => whnf
 refine kF ?_
 conv => whnf
 refine ⟨fun x hx d hd => ?_, dC, ?_⟩
 ·simp [olds] at hx
  rcases hx with rfl | rfl | rfl | rfl <;> (simp at hd; subst hd; exact ⟨_, rfl⟩)
 exact ⟨rfl, rfl, rfl⟩
def repl1 : List Bk := [.box [.cv (.int .u32 0), .cv (.int .i32 1), .cv (.int .u32 0), .cv .nilIface, .ow 1 0], .row 0 9 1 false olds]
def brCells : List V := ((List.replicate 256 (V.cv (.slice none 0 0))).set 92 (.sl true 1 ([92, 92].map a0_))).set 34 (.sl true 1 ([92, 34].map a0_))
def brRow : Bk := .row 0 9 1 true [[.cv (.string (mk [92]))], [.cv (.string (mk [34]))]]
theorem strInfo : ∃ i, Tryz.prog.info? 9 = some i ∧ i.zero = some (.string ⟨#[]⟩) ∧ i.size = 1 ∧ i.bytes = 16 := by
 have h : (Tryz.prog.info? 9).map (fun i => (i.zero, i.size, i.bytes)) = some (some (.string ⟨#[]⟩), 1, 16) := kR
 cases hi : Tryz.prog.info? 9 with
 | none => rw [hi] at h; cases h
 | some i =>
  rw [hi] at h
  simp only [Option.map_some, Option.some.injEq, Prod.mk.injEq] at h
  exact ⟨i, rfl, h.1, h.2.1, h.2.2⟩
section
variable {P : Program} {o : Oper} {E : Operand → V} {m : List (Option Bk)}
theorem ot_make0 {ty e n sz dst : Nat} {i : TypeInfo} {z : Value} {l c : Operand} (ho : o.op = .makeSlice ty l c) (hl : E l = .cv (.int .i64 0)) (hc : E c = .cv (.int .i64 (n : Nat))) (hd : o.dst = some dst) (hm : m[dst]? = some none)
  (ht : P.underlying ty = some (.slice e)) (hi : P.info? e = some i) (hz : i.zero = some z) (hsz : i.size = sz) (h0 : 0 < sz) (hb : i.bytes * n ≤ 281474976710656) (hn : n ≤ 281474976710656) :
  ey_ P o E m (.ow dst 0) (m.set dst (some (.row 0 e sz true []))) := by
 subst hsz
 intro B w0 N S t a w hs hr
 have h1 := hr l (by rw [ho]; simp [Op.operands])
 have h2 := hr c (by rw [ho]; simp [Op.operands])
 rw [hl] at h1; rw [hc] at h2
 generalize hu1 : a.eval l = u1 at h1
 generalize hu2 : a.eval c = u2 at h2
 cases h1; cases h2
 have hb' : (i.bytes : Int) * (n : Int) ≤ 281474976710656 := by
  have h : ((i.bytes * n : Nat) : Int) ≤ 281474976710656 := by omega
  rwa [Int.natCast_mul] at h
 have hrun := run_make (P := P) w ty e i z ht hi hz .i64 .i64 0 n oM oM hb' oM
 have hpost := o1_ hs (dst := o.dst) (f := true) (xs := []) (us := madeCells z.cells (n * i.size)) (ty := e) (sz := i.size) (cap := n) (w1 := w) (.inl rfl) h0
  (fun x hx => by cases hx) (size_madeCells _ _) sI (by simp only [maxLen]; omega)
  (fun i' j d' hd' => by simp at hd')
  (K := fun v m' => v = .ow dst 0 ∧ m' = m.set dst (some (.row 0 e i.size true []))) (by
   unfold i9_
   rw [hd]
   simp [hm, bj_])
 refine af_ (u := .slice (some ⟨w.heap.size, 0, none⟩) 0 n) (w' := w.alloc (.cells (madeCells z.cells (n * i.size)) e)) ?_ ?_
 ·unfold execOp
  simp only [ho]
  refine cz_ ?_
  rw [hu1, hu2]
  simpa using hrun
 ·obtain ⟨N', S', v, m', h3, h4, rfl, rfl⟩ := hpost
  exact ⟨N', S', h3, h4⟩
end
theorem x_build : bm_ Tryz.prog 171 [.bx 0 0] repl1 (.ic 210 2) (repl1 ++ [.box (brCells ++ [.ow 3 0]), brRow]) := by
 obtain ⟨si, s1, s2, s3, s4⟩ := strInfo
 refine msxm [(1000009, false), (1000066, false)] Tryz.func171 kR kR ?_
 conv => whnf
 refine kF ?_
 conv => whnf
 refine ⟨[], Nat × Bool, fun ⟨k, b⟩ => [(5, int k), (4, boo b)], fun _ => [], fun ⟨k, b⟩ => (k = 0 ∧ b = true) ∨ (k = 2 ∧ b = false) ∨ (k = 4 ∧ b = false), fun x => 4 - x.1, (0, true), .inl ⟨rfl, rfl⟩, ?_, ?_⟩
 ·exact eN
 rintro ⟨k, b⟩ (⟨rfl, rfl⟩ | ⟨rfl, rfl⟩ | ⟨rfl, rfl⟩)
 ·conv => whnf
  refine kT ?_
  conv => whnf
  refine ⟨dC, dC, ?_⟩
  conv => whnf
  refine ⟨_, rfl, ?_⟩
  conv => whnf
  refine kF ?_
  conv => whnf
  refine ⟨dC, dC, ?_⟩
  conv => whnf
  refine ⟨_, rfl, ?_⟩
  conv => whnf
  refine kT ?_
  conv => whnf
  refine ⟨(2, false), .inr (.inl ⟨rfl, rfl⟩), dC, ?_⟩
  exact eN
 ·conv => whnf
  refine kT ?_
  conv => whnf
  refine ⟨dC, dC, ?_⟩
  conv => whnf
  refine ⟨_, rfl, ?_⟩
  conv => whnf
  refine kF ?_
  conv => whnf
  refine ⟨dC, dC, ?_⟩
  conv => whnf
  refine ⟨_, rfl, ?_⟩
  conv => whnf
  refine kT ?_
  conv => whnf
  refine ⟨(4, false), .inr (.inr ⟨rfl, rfl⟩), dC, ?_⟩
  exact eN
 conv => whnf
 refine kF ?_
 conv => whnf
 refine kF ?_
 conv => whnf
 refine ⟨dC, ?_⟩
 conv => whnf
 refine ⟨_, _, ot_make0 (n := 2) (sz := 1) (dst := 94) rfl rfl rfl rfl rfl kR s1 s2 s3 oM (by rw [s4]; omega) oM, ?_⟩
 conv => whnf
 refine ⟨[], Int × List V × List (List D), fun ⟨i, cs, rs⟩ => [(12, int i), (94, .un), (95, .un)], fun ⟨i, cs, rs⟩ => [(11, some (.box (cs ++ [.ow 94 0]))), (94, some (.row 0 9 1 true rs))],
  fun ⟨i, cs, rs⟩ => (i = 2 ∧ cs = List.replicate 256 (V.cv (.slice none 0 0)) ∧ rs = []) ∨ (i = 0 ∧ cs = (List.replicate 256 (V.cv (.slice none 0 0))).set 92 (.sl true 1 ([92, 92].map a0_)) ∧ rs = [[.cv (.string (mk [92]))]]) ∨ (i = -2 ∧ cs = brCells ∧ rs = [[.cv (.string (mk [92]))], [.cv (.string (mk [34]))]]),
  fun x => (x.1 + 2).toNat, (2, List.replicate 256 (V.cv (.slice none 0 0)), []), .inl ⟨rfl, rfl, rfl⟩, ?_, ?_⟩
 ·exact eN
 rintro ⟨i, cs, rs⟩ (⟨rfl, rfl, rfl⟩ | ⟨rfl, rfl, rfl⟩ | ⟨rfl, rfl, rfl⟩)
 ·conv => whnf
  refine kT ?_
  conv => whnf
  refine ⟨dC, dC, ?_⟩
  conv => whnf
  refine ⟨_, rfl, ?_⟩
  conv => whnf
  refine ⟨dC, 92, rfl, ?_⟩
  conv => whnf
  refine ⟨dC, dC, ?_⟩
  conv => whnf
  refine ⟨_, rfl, ?_⟩
  conv => whnf
  refine ⟨dC, dC, ?_⟩
  conv => whnf
  refine kT ?_
  conv => whnf
  refine ⟨_, _, gj_ (l := [92]) (e := 5) rfl rfl rfl kR kR kR, ?_⟩
  conv => whnf
  refine ⟨dC, ?_⟩
  conv => whnf
  refine ⟨_, _, oy_ (b := mk [92, 92]) (e := 5) rfl rfl kR kR kR, ?_⟩
  conv => whnf
  refine ⟨dC, dC, ?_⟩
  conv => whnf
  refine ⟨(0, (List.replicate 256 (V.cv (.slice none 0 0))).set 92 (.sl true 1 ([92, 92].map a0_)), [[.cv (.string (mk [92]))]]), .inr (.inl ⟨rfl, rfl, rfl⟩), dC, ?_⟩
  exact eN
 ·conv => whnf
  refine kT ?_
  conv => whnf
  refine ⟨dC, dC, ?_⟩
  conv => whnf
  refine ⟨_, rfl, ?_⟩
  conv => whnf
  refine ⟨dC, 34, rfl, ?_⟩
  conv => whnf
  refine ⟨dC, dC, ?_⟩
  conv => whnf
  refine ⟨_, rfl, ?_⟩
  conv => whnf
  refine ⟨dC, dC, ?_⟩
  conv => whnf
  refine kT ?_
  conv => whnf
  refine ⟨_, _, gj_ (l := [34]) (e := 5) rfl rfl rfl kR kR kR, ?_⟩
  conv => whnf
  refine ⟨dC, ?_⟩
  conv => whnf
  refine ⟨_, _, oy_ (b := mk [92, 34]) (e := 5) rfl rfl kR kR kR, ?_⟩
  conv => whnf
  refine ⟨dC, dC, ?_⟩
  conv => whnf
  refine ⟨(-2, brCells, [[.cv (.string (mk [92]))], [.cv (.string (mk [34]))]]), .inr (.inr ⟨rfl, rfl, rfl⟩), dC, ?_⟩
  exact eN
 ·conv => whnf
  refine kF ?_
  exact ⟨rfl, rfl, rfl⟩
end
end Go.Proofs.YtglndfgmlminpaaGreatDoor
