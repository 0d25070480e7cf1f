/- Texts joined by pack.py: XSyWB XSxBu XSxAs XSxFl XSyXA XLx23h XLx23a XLx23b -/
import Derived.Test.YtglndfgmlminpaaGreatDoorSq25
import Derived.Lib.Builder
import Derived.Lib.AppendStr
set_option maxHeartbeats 8000000
set_option maxRecDepth 100000
namespace Go.Proofs.YtglndfgmlminpaaGreatDoor
section
open Go.RowKit
theorem qb_ {l : Bs} (h : l.length < 1 ∨ 24 < l.length) : ba_ l = false := by
 unfold ba_
 rcases h with h | h
 ·have : l = [] := O_ oM
  subst this; rfl
 ·rw [show decide (l.length ≤ 24) = false by simp; omega]; simp
theorem whole_run {l : Bs} (h : 1 ≤ l.length) (h2 : l.length ≤ 24) : ba_ l = decide (bk_ l = l.length) := by
 unfold ba_
 cases l with
 | nil => simp at h
 | cons c r => simp only [List.isEmpty_cons, Bool.not_false, n_]; rw [decide_eq_true h2, Bool.and_true]
theorem x_srun (l : Bs) (hl : l.length ≤ 281474976710656) : DCalls Tryz.prog 108 [bc_ l] (boo (ba_ l)) := by
 refine sx Tryz.func108 kR ?_
 conv => whnf
 rintro (_ | _) h1
 rotate_left
 ·have h1 : l.length < 1 := by simp [P_] at h1; omega
  rw [qb_ (.inl h1)]
  (conv => whnf) <;> rfl
 have h1 : 1 ≤ l.length := by simp [P_] at h1; omega
 conv => whnf
 rintro (_ | _) h2
 rotate_left
 ·have h2 : 24 < l.length := by simp [P_] at h2; omega
  rw [qb_ (.inr h2)]
  (conv => whnf) <;> rfl
 have h2 : l.length ≤ 24 := by simp [P_] at h2; omega
 rw [whole_run h1 h2]
 conv => whnf
 refine ⟨[], Nat, fun k => [(15, int k)], fun _ => [], fun k => k ≤ l.length ∧ k + (if k = 0 then bk_ l else g3_ (l.drop k)) = bk_ l, fun k => l.length - k, 0, ⟨l_ _, by simp⟩, ?_, ?_⟩
 ·exact eN
 rintro k ⟨hk1, hk⟩
 conv => whnf
 rintro (_ | _) h3
 ·have h3 : l.length ≤ k := by simp [P_] at h3; omega
  rw [if_neg oM, k_ h3] at hk
  rw [show decide (bk_ l = l.length) = true by simp [g3_] at hk ⊢; omega]
  (conv => whnf) <;> rfl
 have h3 : k < l.length := by simp [P_] at h3; omega
 have hw : IntKind.i64.wrap (((k : Nat) : Int) + 1) = ((k + 1 : Nat) : Int) := R_ oM
 have next : (if k = 0 then bk_ l else g3_ (l.drop k)) = g3_ (l.drop (k + 1)) + 1 → (k + 1) + (if k + 1 = 0 then bk_ l else g3_ (l.drop (k + 1))) = bk_ l := by
  intro h; rw [if_neg oM]; omega
 have hd0 : k = 0 → bk_ l = if lr_ l[k] then g3_ (l.drop (k + 1)) + 1 else 0 := by
  intro e; subst e
  cases l with
  | nil => simp at h3
  | cons c l => rfl
 have hdk : g3_ (l.drop k) = if lr_ l[k] || ht_ l[k] then g3_ (l.drop (k + 1)) + 1 else 0 := by rw [ao_ h3]; rfl
 rw [id_] at hd0 hdk
 rw [ie_] at hdk
 conv => whnf
 refine ⟨oM, _, bn_ h3, ?_⟩
 have go : ((((97 : Int) ≤ (l[k].toNat : Int) ∧ (l[k].toNat : Int) ≤ 122) ∨ (l[k].toNat : Int) = 95) ∨ (0 < k ∧ (48 : Int) ≤ (l[k].toNat : Int) ∧ (l[k].toNat : Int) ≤ 57)) → k + 1 ≤ l.length ∧ k + 1 + (if k + 1 = 0 then bk_ l else g3_ (l.drop (k + 1))) = bk_ l := by
  intro h
  refine ⟨h3, next ?_⟩
  split
  ·rw [hd0 (by assumption), if_pos sO]
  ·rw [hdk, if_pos sO]
 have no : ¬ ((((97 : Int) ≤ (l[k].toNat : Int) ∧ (l[k].toNat : Int) ≤ 122) ∨ (l[k].toNat : Int) = 95) ∨ (0 < k ∧ (48 : Int) ≤ (l[k].toNat : Int) ∧ (l[k].toNat : Int) ≤ 57)) → false = decide (bk_ l = l.length) := by
  intro h
  symm
  rw [decide_eq_false_iff_not]
  split at hk
  ·have := hd0 (by assumption); rw [if_neg sO] at this; omega
  ·rw [hdk, if_neg sO] at hk; omega
 clear hk hd0 hdk next
 repeat' ((conv => whnf); rintro (_ | _) _)
 all_goals simp only [decide_eq_true_eq, decide_eq_false_iff_not, bne_iff_ne, bne_eq_false_iff_eq, beq_iff_eq, beq_eq_false_iff_ne, ne_eq] at *
 all_goals first
  | ((conv => whnf); exact S_ (no oM))
  | ((conv => whnf); refine ⟨k + 1, go oM, by (try dsimp only); omega, ?_⟩
     exact eA)
theorem x_sname (l : Bs) (hl : l.length ≤ 281474976710656) : DCalls Tryz.prog 65 [bc_ l] (boo (a7_ l)) := by
 refine sx Tryz.func65 kR ?_
 conv => whnf
 refine ⟨_, x_srun l hl, ?_⟩
 unfold a7_
 cases h : ba_ l with
 | false =>
  conv => whnf
  refine kF ?_
  (conv => whnf) <;> rfl
 | true =>
  conv => whnf
  refine kT ?_
  conv => whnf
  refine ⟨_, ef_ l, ?_⟩
  (conv => whnf) <;> rfl
theorem bq_ (a : Bs) (d : Array UInt8) : ((mk a).toList == (⟨d⟩ : ByteArray).toList) = (a == d.toList) := a2_ a d.toList
theorem snE {a b : Bs} (h : a ≠ b) : ((mk a).toList == (mk b).toList) = false := by rw [show ((mk a).toList == (mk b).toList) = (a == b) from a2_ a b]; simpa using h
theorem kq_ (l : Bs) : DCalls Tryz.prog 178 [bc_ l] (int (b1_ l)) := by
 by_cases h0 : l = [111, 114]
 ·subst h0
  refine sx Tryz.func178 kR ?_
  repeat ((conv => whnf); first | refine Q_ true ((bq_ _ _).trans rfl) ?_ | refine Q_ false ((bq_ _ _).trans rfl) ?_)
  try ((conv => whnf) <;> rfl)
 by_cases h1 : l = [97, 110, 100]
 ·subst h1
  refine sx Tryz.func178 kR ?_
  repeat ((conv => whnf); first | refine Q_ true ((bq_ _ _).trans rfl) ?_ | refine Q_ false ((bq_ _ _).trans rfl) ?_)
  try ((conv => whnf) <;> rfl)
 by_cases h2 : l = [61, 61]
 ·subst h2
  refine sx Tryz.func178 kR ?_
  repeat ((conv => whnf); first | refine Q_ true ((bq_ _ _).trans rfl) ?_ | refine Q_ false ((bq_ _ _).trans rfl) ?_)
  try ((conv => whnf) <;> rfl)
 by_cases h3 : l = [33, 61]
 ·subst h3
  refine sx Tryz.func178 kR ?_
  repeat ((conv => whnf); first | refine Q_ true ((bq_ _ _).trans rfl) ?_ | refine Q_ false ((bq_ _ _).trans rfl) ?_)
  try ((conv => whnf) <;> rfl)
 by_cases h4 : l = [60]
 ·subst h4
  refine sx Tryz.func178 kR ?_
  repeat ((conv => whnf); first | refine Q_ true ((bq_ _ _).trans rfl) ?_ | refine Q_ false ((bq_ _ _).trans rfl) ?_)
  try ((conv => whnf) <;> rfl)
 by_cases h5 : l = [60, 61]
 ·subst h5
  refine sx Tryz.func178 kR ?_
  repeat ((conv => whnf); first | refine Q_ true ((bq_ _ _).trans rfl) ?_ | refine Q_ false ((bq_ _ _).trans rfl) ?_)
  try ((conv => whnf) <;> rfl)
 by_cases h6 : l = [62]
 ·subst h6
  refine sx Tryz.func178 kR ?_
  repeat ((conv => whnf); first | refine Q_ true ((bq_ _ _).trans rfl) ?_ | refine Q_ false ((bq_ _ _).trans rfl) ?_)
  try ((conv => whnf) <;> rfl)
 by_cases h7 : l = [62, 61]
 ·subst h7
  refine sx Tryz.func178 kR ?_
  repeat ((conv => whnf); first | refine Q_ true ((bq_ _ _).trans rfl) ?_ | refine Q_ false ((bq_ _ _).trans rfl) ?_)
  try ((conv => whnf) <;> rfl)
 by_cases h8 : l = [43]
 ·subst h8
  refine sx Tryz.func178 kR ?_
  repeat ((conv => whnf); first | refine Q_ true ((bq_ _ _).trans rfl) ?_ | refine Q_ false ((bq_ _ _).trans rfl) ?_)
  try ((conv => whnf) <;> rfl)
 by_cases h9 : l = [45]
 ·subst h9
  refine sx Tryz.func178 kR ?_
  repeat ((conv => whnf); first | refine Q_ true ((bq_ _ _).trans rfl) ?_ | refine Q_ false ((bq_ _ _).trans rfl) ?_)
  try ((conv => whnf) <;> rfl)
 by_cases h10 : l = [42]
 ·subst h10
  refine sx Tryz.func178 kR ?_
  repeat ((conv => whnf); first | refine Q_ true ((bq_ _ _).trans rfl) ?_ | refine Q_ false ((bq_ _ _).trans rfl) ?_)
  try ((conv => whnf) <;> rfl)
 by_cases h11 : l = [47]
 ·subst h11
  refine sx Tryz.func178 kR ?_
  repeat ((conv => whnf); first | refine Q_ true ((bq_ _ _).trans rfl) ?_ | refine Q_ false ((bq_ _ _).trans rfl) ?_)
  try ((conv => whnf) <;> rfl)
 by_cases h12 : l = [37]
 ·subst h12
  refine sx Tryz.func178 kR ?_
  repeat ((conv => whnf); first | refine Q_ true ((bq_ _ _).trans rfl) ?_ | refine Q_ false ((bq_ _ _).trans rfl) ?_)
  try ((conv => whnf) <;> rfl)
 rw [show b1_ l = 0 by simp [b1_, wOr, qc_, opCmp, opAdd, opMul, h0, h1, h2, h3, h4, h5, h6, h7, h8, h9, h10, h11, h12]]
 refine sx Tryz.func178 kR ?_
 repeat ((conv => whnf); first | refine Q_ false (snE h0) ?_ | refine Q_ false (snE h1) ?_ | refine Q_ false (snE h2) ?_ | refine Q_ false (snE h3) ?_ | refine Q_ false (snE h4) ?_ | refine Q_ false (snE h5) ?_ | refine Q_ false (snE h6) ?_ | refine Q_ false (snE h7) ?_ | refine Q_ false (snE h8) ?_ | refine Q_ false (snE h9) ?_ | refine Q_ false (snE h10) ?_ | refine Q_ false (snE h11) ?_ | refine Q_ false (snE h12) ?_)
 try ((conv => whnf) <;> rfl)
theorem x_soperator (l : Bs) : DCalls Tryz.prog 150 [bc_ l] (boo (decide (0 < b1_ l))) := by
 refine sx Tryz.func150 kR ?_
 conv => whnf
 refine ⟨_, kq_ l, ?_⟩
 (conv => whnf) <;> rfl
theorem px_ (n : Int) : DCalls Tryz.prog 151 [int n] (boo (hg_ n)) := by
 refine sx Tryz.func151 kR ?_
 unfold hg_
 conv => whnf
 rintro (_ | _) h
 ·(conv => whnf); exact S_ (by simp at *; omega)
 ·(conv => whnf); exact S_ (by simp at *; omega)
theorem hx_ (n : Int) : DCalls Tryz.prog 152 [int n] (boo (an_ n)) := by
 refine sx Tryz.func152 kR ?_
 unfold an_
 conv => whnf
 rintro (_ | _) h
 ·(conv => whnf); exact S_ (by simp at *; omega)
 ·(conv => whnf); exact S_ (by simp at *; omega)
end
section
open Go.RowKit Go.Shelf
section
variable {P : Program} {o : Oper} {E : Operand → V} {m : List (Option Bk)} {x : Operand}
theorem jh_ {w : World} {g ty : Nat} {us : Array Value} {fr : Nat × Nat} (h : w.heap[g]? = some (.cells us ty fr)) : w.shape? g = some (ty, us.size) := by
 simp [World.shape?, h]
theorem ot_unsafe {n ty sp dp t sz : Nat} {cs : List V} (ho : o.op = .convert sp dp x) (hx : E x = .bx n 0) (hm : m[n]? = some (some (.box cs (some ty)))) (hs : P.underlying sp = some (.pointer t)) (hd : P.underlying dp = some .unsafePointer)
  (ht : (P.info? t).map (·.size) = some sz) (h0 : (sz != 0 && decide (0 < cs.length)) = true) : ey_ P o E m (.bx n 0) m := by
 intro B w0 N S tt a w hsat hr
 have h := hr x (by rw [ho]; simp [Op.operands])
 rw [hx] at h
 generalize hv : a.eval x = u at h
 cases h
 rename_i b hn
 simp only [j_, bne_iff_ne, ne_eq, decide_eq_true_eq] at h0
 obtain ⟨g, ty', us, e1, e2, e3, _⟩ := hsat.blk n _ hm
 rw [hn] at e1; cases e1
 obtain ⟨j, hj, hjs⟩ := Option.map_eq_some_iff.1 ht
 refine af_ (u := .pointer (some ⟨b, 0, none⟩)) (w' := w) ?_ ⟨N, S, hsat, .bx n 0 b hn⟩
 unfold execOp
 simp only [ho]
 refine cz_ ?_
 rw [hv]
 exact Lib.run_to_unsafe w ⟨b, 0, none⟩ hs hd hj (by rw [hjs]; exact h0.1) (jh_ e2) (by simp only; omega)
theorem ot_safe {n ty sp dp t sz len : Nat} {cs : List V} (ho : o.op = .convert sp dp x) (hx : E x = .bx n 0) (hm : m[n]? = some (some (.box cs (some ty)))) (hs : P.underlying sp = some .unsafePointer) (hd : P.underlying dp = some (.pointer t))
  (ht : (P.info? t).map (·.size) = some sz) (hl : cs.length = len) (hlies : liesAt P P.depth ty (len / P.cellsOf ty) 0 t 1 = true) : ey_ P o E m (.bx n 0) m := by
 intro B w0 N S tt a w hsat hr
 have h := hr x (by rw [ho]; simp [Op.operands])
 rw [hx] at h
 generalize hv : a.eval x = u at h
 cases h
 rename_i b hn
 obtain ⟨g, ty', us, e1, e2, e3, _⟩ := hsat.blk n _ hm
 rw [hn] at e1; cases e1
 obtain ⟨j, hj, hjs⟩ := Option.map_eq_some_iff.1 ht
 refine af_ (u := .pointer (some ⟨b, 0, none⟩)) (w' := w) ?_ ⟨N, S, hsat, .bx n 0 b hn⟩
 unfold execOp
 simp only [ho]
 refine cz_ ?_
 rw [hv]
 exact Lib.run_from_unsafe w ⟨b, 0, none⟩ hs hd hj (jh_ e2) (by
  show liesAt P P.depth ((some ty).getD ty') (us.size / P.cellsOf ((some ty).getD ty')) 0 t 1 = true
  rw [← e3, hl]
  exact hlies)
theorem ot_noescape {f : FuncId} {fn : Func} {c : Call} {v : V} (hf : P.funcs[f]? = some fn) (hname : (fn.name == "runtime.NumGoroutine") = false) (hb : fn.body.isNone = true) (hn : Extern.findNext fn = none) (he : Extern.find fn = some Extern.AbiNoEscape.same)
  (ho : o.op = .call c) (hc : c.callee = .value (.func f)) (hargs : c.args.toList = [x]) (hx : E x = v) : ey_ P o E m v m := by
 intro B w0 N S tt a w hsat hr
 have e1 : c.args = #[x] := by apply Array.ext'; simpa using hargs
 have h := hr x (by rw [ho]; simp [Op.operands, Call.operands, e1])
 rw [hx] at h
 generalize hv : a.eval x = u at h
 refine af_ (u := u) (w' := w) ?_ ⟨N, S, hsat, h⟩
 have hrun := run_callFunc_extern hf hname hb hn he #[u] w
 rw [Lib.run_noEscape] at hrun
 simp only [Result.andThen] at hrun
 have hcal : a.eval (.func f) = .func (.func f) #[] #[] := rfl
 unfold execOp
 simp only [ho]
 simp [resolve, hc, e1, hv, hcal, Deferred.ofValue, invoke, hrun]
end
section
variable {P : Program} {ρ : Ren}
theorem string_row (L : Lays.n169 P ρ) (X : Builder.Extra P ρ) (b g cap cells : Nat) (l : List UInt8) (w : World) (h0 : l ≠ []) (c1 : w.cell? ⟨b, 1, none⟩ = some (.slice (some ⟨g, 0, none⟩) l.length cap)) (hsh : w.shape? g = some (ρ.t 5, cells)) (hle : l.length ≤ cells) (hlc : l.length ≤ cap) (hcap : cap ≤ maxLen)
  (hcell : ∀ j x, l[j]? = some x → w.cell? ((⟨g, 0, none⟩ : Addr).add j) = some (.int .u8 x.toNat)) :
  Calls P (ρ.f 169) #[.pointer (some ⟨b, 0, none⟩)] w fun e w' => e = .returned (.string ⟨l.toArray⟩) ∧ w' = w.drew.freeze ⟨g, 0, none⟩ l.length := by
 have hl0 : l.length ≠ 0 := by simpa using h0
 replace c1 : w.drew.cell? ⟨b, 1, none⟩ = some (.slice (some ⟨g, 0, none⟩) l.length cap) := c1
 have hSD : (Builtin.unsafeSliceData_ #[(ρ.t 37)] (ρ.t 127) #[.slice (some ⟨g, 0, none⟩) l.length cap]).run P w.drew = .ok (.pointer (some ⟨g, 0, none⟩)) w.drew :=
  Lib.run_unsafeSliceData_row _ _ _ _ _ _ oM
 have hUS : (Builtin.unsafeString_ #[(ρ.t 127), (ρ.t 3)] (ρ.t 9) #[.pointer (some ⟨g, 0, none⟩), .int .i64 l.length]).run P w.drew = .ok (.string ⟨l.toArray⟩) (w.drew.freeze ⟨g, 0, none⟩ l.length) :=
  Lib.run_unsafeString_row w.drew (ρ.t 127) (ρ.t 3) (ρ.t 9) (ρ.t 5) L.t127 X.cellsByte g cells hsh l h0 hle (by unfold maxLen at hcap; omega) hcell
 have mixed := L.mixed
 have t72 := L.t72; have a72 := L.a72; have z72 := L.z72; have v72 := L.v72; have u72 := run_underlying L.t72
 have t70 := L.t70; have a70 := L.a70; have z70 := L.z70; have v70 := L.v70; have u70 := run_underlying L.t70
 have t37 := L.t37; have a37 := L.a37; have z37 := L.z37; have v37 := L.v37; have u37 := run_underlying L.t37
 have t127 := L.t127; have a127 := L.a127; have z127 := L.z127; have v127 := L.v127; have u127 := run_underlying L.t127
 have t3 := L.t3; have a3 := L.a3; have z3 := L.z3; have v3 := L.v3; have u3 := run_underlying L.t3
 have t9 := L.t9; have a9 := L.a9; have z9 := L.z9; have v9 := L.v9; have u9 := run_underlying L.t9
 have t5 := X.t5; have a5 := X.a5; have z5 := X.z5; have v5 := X.v5; have u5 := run_underlying X.t5
 clear hcell hsh hcap hlc hle
 go_enter L.f169, Body.n169_ntmps ρ
 go_wp2
 go_region_o
 all_goals (go_wp2; go_ret; exact ⟨rfl, rfl⟩)
theorem freeze_heap (w : World) (g n : Nat) (h0 : n ≠ 0) (us : Array Value) (E : Nat) (fr : Nat × Nat) (h : w.heap[g]? = some (.cells us E fr)) : (∃ fr', (w.drew.freeze ⟨g, 0, none⟩ n).heap[g]? = some (.cells us E fr')) ∧ (∀ k, k ≠ g → (w.drew.freeze ⟨g, 0, none⟩ n).heap[k]? = w.heap[k]?) ∧
  (w.drew.freeze ⟨g, 0, none⟩ n).heap.size = w.heap.size ∧ (w.drew.freeze ⟨g, 0, none⟩ n).os = w.os ∧ (w.drew.freeze ⟨g, 0, none⟩ n).tape = w.tape ∧ (w.drew.freeze ⟨g, 0, none⟩ n).output = w.output := by
 have e : w.drew.heap = w.heap := rfl
 unfold World.freeze
 rw [if_neg h0]
 refine ⟨?_, fun k hk => ?_, ?_, rfl, rfl, rfl⟩
 ·obtain ⟨lo, hi⟩ := fr
  simp only [e]
  rw [Array.getElem?_modify, if_pos rfl, h]
  exact ⟨_, rfl⟩
 ·simp only [e]
  rw [Array.getElem?_modify, if_neg (fun h => hk h.symm)]
 ·simp [e]
variable {o : Oper} {E : Operand → V} {m : List (Option Bk)} {x : Operand}
theorem qk_ (L : Lays.n169 P ρ) (X : Builder.Extra P ρ) {n r k : Nat} {bt : Option Nat} {cs : List V} {l : List UInt8} {c : Call} (ho : o.op = .call c) (hc : c.callee = .value (.func (ρ.f 169))) (hargs : c.args.toList = [x]) (hx : E x = .bx n 0)
  (hm : m[n]? = some (some (.box cs bt))) (h1 : cs[1]? = some (.ow r k)) (h0 : l ≠ []) {b0 : Bk} (hb0 : m[r]? = some (some b0))
  (hb : ∀ (N : ax_) (S : cs_) (w : World) (H : Nat), Holds H N S w r b0 → ∃ g cap us fr, N r = some (k, .slice (some ⟨g, 0, none⟩) l.length cap) ∧ w.heap[g]? = some (.cells us (ρ.t 5) fr) ∧ l.length ≤ cap ∧ cap ≤ maxLen ∧ us.size = cap ∧ ∀ (j : Nat) (x : UInt8), l[j]? = some x → us[j]? = some (Value.int .u8 (x.toNat : Nat))) :
  ey_ P o E m (.cv (.string ⟨l.toArray⟩)) (m.set r (some (.fz k (ρ.t 5) l))) := by
 intro B w0 N S tt a w hsat hr
 have e1 : c.args = #[x] := by apply Array.ext'; simpa using hargs
 have h := hr x (by rw [ho]; simp [Op.operands, Call.operands, e1])
 rw [hx] at h
 generalize hv : a.eval x = u at h
 cases h
 rename_i b hn
 obtain ⟨g0, ty0, us0, q1, q2, q3, q4⟩ := hsat.blk n _ hm
 rw [hn] at q1; cases q1
 obtain ⟨g, cap, us, fr, p1, p2, p3, p4, p5, p6⟩ := hb N S w _ (hsat.blk r b0 hb0)
 have hr1 := q4 1 _ h1
 have hlt1 := U_ h1
 generalize hz : us0.getD 1 undef = z at hr1
 cases hr1
 rename_i hz1 hnr
 obtain ⟨k', v', s1, s2, s3⟩ := hnr
 rw [p1] at s1; cases s1
 have hzv := s3 rfl
 have hl0 : l.length ≠ 0 := by simpa using h0
 have c1 : w.cell? ⟨b, 1, none⟩ = some (.slice (some ⟨g, 0, none⟩) l.length cap) := by
  rw [cell_of_row w b 1 us0 _ _ q2, ← hzv, ← hz, t_, I_ oM]
  rfl
 have hcall := string_row L X b g cap us.size l w h0 c1 (jh_ p2) oM p3 p4 (fun j y hj => by
  have : (⟨g, 0, none⟩ : Addr).add j = ⟨g, j, none⟩ := by unfold Addr.add; split <;> simp_all
  rw [this, cell_of_row w g j us _ _ p2]
  exact p6 j y hj)
 obtain ⟨⟨fr', f1⟩, f2, f3, f4, f5, f6⟩ := freeze_heap w g l.length hl0 us _ fr p2
 generalize hw' : w.drew.freeze ⟨g, 0, none⟩ l.length = w' at hcall f1 f2 f3 f4 f5 f6
 have hown := hsat.own r _ _ g p1 rfl
 obtain ⟨N', g1, g2, g3⟩ := hsat.set (w' := w') (d := r) (k := k) (v := .slice (some ⟨g, 0, none⟩) l.length cap) (b := .fz k (ρ.t 5) l) (U_ hb0)
  (fun k0 v0 h => by rw [p1] at h; cases h; exact .inl ⟨rfl, rfl⟩)
  ⟨f4.trans hsat.low.os, f5.trans hsat.low.tape, f6.trans hsat.low.output, by rw [f3]; exact hsat.low.size, fun j hj => (f2 j fun e => hown.1 (e ▸ hj)).trans (hsat.low.block j hj)⟩
  (by rw [f3]; exact f_ _) (fun j hj hk => f2 j fun e => hk _ _ p1 (by rw [e]; rfl))
  (fun j hj => by cases hj; exact ⟨by rw [f3]; exact hown.2, .inr ⟨_, _, p1, rfl⟩⟩)
  (fun N' g1 g2 g3 => ⟨g, cap, us, fr', g1, f1, p3, p4, p5, p6⟩)
 refine eh_ (f := ρ.f 169) (args := #[.pointer (some ⟨b, 0, none⟩)]) ?_ (hcall.mono ?_)
 ·have e169 : ∀ args w, (callFunc (ρ.f 169) args).run P w = .ok (.enter (ρ.f 169) args) w := enters_of L.f169 kR rfl
  have hcal : a.eval (.func (ρ.f 169)) = .func (.func (ρ.f 169)) #[] #[] := rfl
  unfold execOp
  simp only [ho]
  simp [resolve, hc, e1, hv, hcal, Deferred.ofValue, invoke, e169]
 ·rintro e w2 ⟨rfl, rfl⟩
  exact ⟨_, rfl, N', S, g3, .cv _⟩
theorem ot_string1 (L : Lays.n169 P ρ) (X : Builder.Extra P ρ) {n r k : Nat} {bt : Option Nat} {f : Bool} {cs : List V} {l : List UInt8} {c : Call} (ho : o.op = .call c) (hc : c.callee = .value (.func (ρ.f 169))) (hargs : c.args.toList = [x]) (hx : E x = .bx n 0)
  (hm : m[n]? = some (some (.box cs bt))) (h1 : cs[1]? = some (.ow r k)) (h0 : l ≠ []) (hb0 : m[r]? = some (some (.row k (ρ.t 5) 1 f (l.map a0_)))) : ey_ P o E m (.cv (.string ⟨l.toArray⟩)) (m.set r (some (.fz k (ρ.t 5) l))) := by
 refine qk_ L X ho hc hargs hx hm h1 h0 hb0 fun N S w H h => ?_
 obtain ⟨v, us, b1, b2, b3, b4, b5, b6⟩ := h
 rw [d_] at b2
 have hl0 : l.length ≠ 0 := by simpa using h0
 rcases b2.2 with ⟨_, hz⟩ | ⟨g, cap, cu, rfl, _, hg, hle, hcm, hcs, htk⟩
 ·exact absurd hz hl0
 ·refine ⟨g, cap, cu, _, b1, hg, hle, hcm, by simpa using hcs, fun j y hj => ?_⟩
  obtain ⟨u, hu, hr⟩ := b5 j 0 (.cv (.int .u8 (y.toNat : Nat))) (by rw [e_, hj]; rfl)
  cases hr
  rw [Nat.mul_one, Nat.add_zero, ← htk, D_] at hu
  split at hu
  ·rw [Array.getElem?_toList] at hu; exact hu
  ·cases hu
theorem ot_string2 (L : Lays.n169 P ρ) (X : Builder.Extra P ρ) {n r k : Nat} {bt : Option Nat} {cs : List V} {l : List UInt8} {c : Call} (ho : o.op = .call c) (hc : c.callee = .value (.func (ρ.f 169))) (hargs : c.args.toList = [x]) (hx : E x = .bx n 0)
  (hm : m[n]? = some (some (.box cs bt))) (h1 : cs[1]? = some (.ow r k)) (h0 : l ≠ []) (hb0 : m[r]? = some (some (.fz k (ρ.t 5) l))) : ey_ P o E m (.cv (.string ⟨l.toArray⟩)) (m.set r (some (.fz k (ρ.t 5) l))) :=
 qk_ L X ho hc hargs hx hm h1 h0 hb0 fun _ _ _ _ h => h
end
end
section
open Go.RowKit
section
variable {P : Program} {o : Oper} {E : Operand → V} {m : List (Option Bk)} {x y : Operand}
theorem nf_ {n k : Nat} {f : Bool} {l : List UInt8} {s : ByteArray} {c : Call} {ty tu e : TypeId} (ho : o.op = .call c) (hc : c.callee = .builtin .append) (hargs : c.args.toList = [x, y]) (htys : c.argTypes.toList = [ty, tu])
  (hx : E x = .ow n k) (hy : E y = .cv (.string s)) (hm : m[n]? = some (some (.row k e 1 f (l.map a0_))))
  (ht : P.underlying ty = some (.slice e)) (hu : P.underlying tu = some .string) (hi : (P.info? e).map (fun i => (i.size, i.bytes, i.zero)) = some (1, 1, some (.int .u8 0))) (hb : l.length + s.size ≤ 140737488355328) :
  ey_ P o E m (.ow n (k + 1)) (m.set n (some (.row (k + 1) e 1 f ((l ++ s.data.toList).map a0_)))) := by
 intro B w0 N S t a w hsat hr
 obtain ⟨i, hi, hie⟩ := Option.map_eq_some_iff.1 hi
 simp only [Prod.mk.injEq] at hie
 obtain ⟨hsz, hby, hz⟩ := hie
 have e1 := arr2 hargs
 have e2 := arr2 htys
 have hrx := hr x (by rw [ho]; simp [Op.operands, Call.operands, e1])
 have hry := hr y (by rw [ho]; simp [Op.operands, Call.operands, e1])
 rw [hx] at hrx
 rw [hy] at hry
 generalize hux : a.eval x = u at hrx
 generalize huy : a.eval y = uy at hry
 cases hry
 cases hrx
 rename_i hu1 hn
 obtain ⟨k0, v, hn, hk, he⟩ := hn
 obtain ⟨v2, us, b1, b2, b3, b4, b5, b6⟩ := hsat.blk n _ hm
 rw [hn] at b1; cases b1
 have := he rfl
 subst this
 rw [d_] at b2
 obtain ⟨v', w', hrun, hown, hgr, _⟩ := Lib.run_append_own_string (P := P) w 0 ty tu o.type e i ht hu hi hz hsz hby u l.length us b2 s (by simp only [maxLen]; omega) hb (l_ _)
 have hvs0 : ∃ A l c, u = .slice A l c := by obtain ⟨A, c, h⟩ := cf_ b2; exact ⟨_, _, _, h⟩
 have hvs : ∃ A l c, v' = .slice A l c := by obtain ⟨A, c, h⟩ := cf_ hown; exact ⟨_, _, _, h⟩
 have hv1 : v'.oneCell' = true := by obtain ⟨A, l, c, rfl⟩ := hvs; rfl
 have hat : ∀ g, b3_ v' = some g → w.heap.size ≤ g ∨ b3_ u = some g := by
  intro g hg
  rcases b2.2 with ⟨rfl, hl0⟩ | ⟨g0, cap0, cu, rfl, hbg, hg0, hnc, hcm, hcs, htake⟩
  ·have hl : us = [] := O_ (by have := b2.1; omega)
   subst hl
   have hown2 : w.ownsRow w.heap.size e 1 (.slice none 0 0) l.length [] := by rw [hl0]; exact World.ownsRow_nil w _ e 1
   obtain ⟨v3, w3, hr3, hown3, _⟩ := Lib.run_append_own_string (P := P) w w.heap.size ty tu o.type e i ht hu hi hz hsz hby _ l.length [] hown2 s (by simp only [maxLen]; omega) hb (f_ _)
   rw [hrun] at hr3; cases hr3
   rcases hown3.2 with ⟨rfl, _⟩ | ⟨g1, cap1, cu1, rfl, hb1, _⟩
   ·simp [b3_] at hg
   ·simp [b3_] at hg; subst hg; exact .inl hb1
  ·by_cases hroom : l.length + s.size ≤ cap0
   ·have hcs' : cu.size = cap0 := by simpa using hcs
    have hr2 := Lib.run_append_room_string (P := P) w ty tu o.type e i ht hu hi hsz g0 l.length cap0 cu hg0 s hroom oM
    rw [hrun] at hr2; cases hr2
    exact .inr hg
   ·have holds : ∀ j u, us[j]? = some u → w.cell? ((⟨g0, 0, none⟩ : Addr).add j) = some u := b2.cells (g := g0) rfl
    have hxl : us.length = l.length := by simpa using b2.1
    have hr2 := Lib.run_append_grow_string (P := P) w ty tu o.type e i (.int .u8 0) ht hu hi hz ⟨g0, 0, none⟩ l.length cap0 us (by rw [hsz]; simpa using hxl) holds s oM oM (by rw [hby]; exact growslice_fits oM oM)
    rw [hrun] at hr2; cases hr2
    simp [b3_] at hg; subst hg; exact .inl (f_ _)
 obtain ⟨N', g1, g2, g3⟩ := hsat.set (w' := w') (d := n) (k := k + 1) (v := v') (b := .row (k + 1) e 1 f ((l ++ s.data.toList).map a0_)) (U_ hm)
  (fun k0 v0 h => by rw [hn] at h; cases h; exact .inr ⟨hvs0, oM⟩)
  (hsat.low.grown hgr hsat.base (fun q hq => (hsat.own n _ _ q hn (by rw [← f6_ hvs0]; exact hq)).1)) hgr.size (fun g hg hk => hgr.block g hg (by rw [f6_ hvs0]; exact fun e => hk _ _ hn e.symm))
  (fun g hg => by
   have hlt := hown.lt g (by rw [f6_ hvs]; exact hg)
   refine ⟨hlt.2, ?_⟩
   rcases hat g hg with h | h
   ·exact .inl h
   ·exact .inr ⟨_, _, hn, h⟩)
  (fun N' g1 g2 g3 => ⟨v', us ++ Lib.strCells s, g1, by rw [d_, a_]; exact hown, (fun x hx => by
    obtain ⟨c, _, rfl⟩ := List.mem_map.1 hx; rfl), oM, (fun i' j' d' hd' => by
   have hul : us.length = l.length := by simpa using b2.1
   rw [e_] at hd'
   cases hq : (l ++ s.data.toList)[i']? with
   | none => rw [hq] at hd'; cases hd'
   | some c =>
    rw [hq] at hd'
    cases j' with
    | succ j' => simp [a0_] at hd'
    | zero =>
     obtain rfl : D.cv (.int .u8 (c.toNat : Nat)) = d' := by simpa [a0_] using hd'
     rw [List.getElem?_append] at hq
     split at hq
     ·rename_i hlt
      obtain ⟨u', hu1', hu2'⟩ := b5 i' 0 (.cv (.int .u8 (c.toNat : Nat))) (by rw [e_, hq]; rfl)
      refine ⟨u', ?_, g3 _ _ _ hu2'⟩
      rw [E_ (U_ hu1')]; exact hu1'
     ·rename_i hlt
      refine ⟨.int .u8 (c.toNat : Nat), ?_, .cv _ rfl⟩
      rw [L_ oM, hul, show i' * 1 + 0 - l.length = i' - l.length by omega]
      simp [Lib.strCells, hq]), fun e g hg => by
   rcases hat g hg with h | h
   ·exact w_ hsat.size h
   ·exact b6 e g h⟩)
 refine af_ (u := v') (w' := w') ?_ ⟨N', S, g3, .ow n (k + 1) _ hv1 ⟨k + 1, v', g1, f_ _, fun _ => rfl⟩⟩
 unfold execOp
 simp only [ho]
 simp [resolve, hc, e1, e2, invoke, builtin, hux, huy, hrun]
end
end
section
open Go.RowKit
section
variable {P : Program} {T : Tab}
theorem op_own {o : Oper} {E : Operand → V} {m m' : List (Option Bk)} {v : V} {n k k2 E1 sz1 E2 sz2 : Nat} {xs1 xs2 : List (List D)} (h : ey_ P o E m v m') (hm : m[n]? = some (some (.row k E1 sz1 true xs1)))
  (hm' : m'[n]? = some (some (.row k2 E2 sz2 false xs2))) (hf : Flat xs2) : ey_ P o E m v (m'.set n (some (.row k2 E2 sz2 true xs2))) := by
 intro B w0 N S t a w hs hx
 obtain ⟨v0, us, e1, e2, e3, e4, e5, e6⟩ := hs.blk n _ hm
 let B' : Fr := { B with stay := fun j => if j = n then some (b3_ v0) else B.stay j, free := true }
 have hs' : Sat B' w0 N S t m a w := ⟨hs.low, hs.nodef, hs.tmps, hs.blk, hs.non, hs.apart, hs.data, hs.fresh, hs.own, hs.base, hs.old, hs.lent, ⟨hs.more.size, hs.more.ghost, hs.more.aside, hs.more.inv⟩, fun j og hj => by
  refine ⟨.inl rfl, ?_⟩
  simp only [B'] at hj
  split at hj
  ·rename_i hjn; subst hjn; cases hj; exact ⟨_, v0, e1, fun g hg => .inl hg⟩
  ·exact (hs.stay j og hj).2⟩
 intro Q
 refine Oper.wp_mono' (h B' w0 N S t a w hs' hx Q) ?_
 rintro a' w' ⟨u, he, N', S', h2, hr⟩
 refine ⟨u, he, N', S', ?_, hr⟩
 obtain ⟨v2, us2, f1, f2, f3, f4, f5, f6⟩ := h2.blk n _ hm'
 have hnew : ∀ g, b3_ v2 = some g → w0.heap.size ≤ g := by
  obtain ⟨_, x, v3, g1, g2⟩ := h2.stay n (b3_ v0) (by simp [B'])
  rw [f1] at g1; cases g1
  intro g hg
  rcases g2 g hg with g3 | g3
  ·exact e6 rfl g g3
  ·exact g3
 have hlt := U_ hm'
 refine ⟨h2.low, h2.nodef, h2.tmps, fun j b hb => ?_, fun j hj => ?_, h2.apart, h2.data, h2.fresh, h2.own, h2.base, h2.old, h2.lent, ⟨h2.more.size, h2.more.ghost, h2.more.aside, h2.more.inv⟩, fun j og hj => ?_⟩
 ·by_cases hjn : j = n
  ·subst hjn
   rw [F_ hlt] at hb
   cases hb
   refine ⟨v2, us2, f1, f2, f3, f4, fun i q d hd => ?_, fun _ g hg => hnew g hg⟩
   obtain ⟨u, hu, hrel⟩ := f5 i q d hd
   refine ⟨u, hu, ?_⟩
   obtain ⟨x, hx1, hx2⟩ := Option.bind_eq_some_iff.1 hd
   obtain ⟨c, rfl⟩ := hf x (m_ hx1) d (m_ hx2)
   cases hrel
   exact .cv _ (by assumption)
  ·rw [x_ (Ne.symm hjn)] at hb
   exact h2.blk j b hb
 ·by_cases hjn : j = n
  ·subst hjn
   exact absurd (F_ hlt) (hj _)
  ·exact h2.non j fun b hb => hj b (by rw [x_ (Ne.symm hjn)]; exact hb)
 ·refine ⟨(hs.stay j og hj).1, ?_⟩
  by_cases hjn : j = n
  ·subst hjn
   exact ⟨_, v2, f1, fun g hg => .inr (hnew g hg)⟩
  ·exact (h2.stay j og (by simp only [B']; rw [if_neg hjn]; exact hj)).2
theorem mcallR {st : Bool} {o : Oper} {E : Operand → V} {c : Call} {f : FuncId} {pre post av : List V} {m m1 : List (Option Bk)} {ρ φ : List Nat} {gf : Bool} {m0 m2 : List Bk} {args0 : List V} {res : V} {K : V → List (Option Bk) → Prop} {k k2 E1 sz1 E2 sz2 : Nat} {xs1 xs2 : List (List D)} (n : Nat) (hM : hr_ st P f args0 m0 res m2) (hf : Flat xs2)
  (hK : (res.co3 st (ρ ++ φ) m1 gf).k fun v => bu_ ((putM (fun n b => b.co st (ρ ++ φ) m1 gf n) (ρ ++ φ) m2 m1).set n (some (.row k2 E2 sz2 true xs2))) fun m' => K v m')
  (ln : Bool := false) (ho : o.op = .call c := by exact rfl) (hc : dw_ E c = some (f, pre, post) := by exact rfl) (hz : frzB ln m (pre ++ zA T E c.args.toList c.argTypes.toList ++ post) = some (av, m1) := by exact rfl)
  (_hr : (mo_ m1 64 (av.flatMap V.nm3) []).reverse = ρ := by exact rfl) (hg : (av.all V.fl && flM m1 ρ) = gf := by exact rfl) (hab : abM ρ m1 ρ = some m0 := by exact rfl) (ha0 : av.map (V.ab ρ m1) = args0 := by exact rfl)
  (hchk : (au_ (ρ ++ φ) && (ph_ m1 φ && (jf_ m1 ρ m2 && Nat.beq (ρ.length + φ.length) m2.length))) = true := by exact rfl)
  (hm : m[n]? = some (some (.row k E1 sz1 true xs1)) := by exact rfl) (hm' : (putM (fun n b => b.co st (ρ ++ φ) m1 gf n) (ρ ++ φ) m2 m1)[n]? = some (some (.row k2 E2 sz2 false xs2)) := by exact rfl) :
  ∃ v m', ey_ P o E m v m' ∧ v.k fun v => bu_ m' fun m' => K v m' :=
 ⟨_, _, op_own (h7_ (T := T) ho hc hz hg hab ha0 hM hchk) hm hm' hf, hK⟩
theorem mcallR2 {st : Bool} {o : Oper} {E : Operand → V} {c : Call} {f : FuncId} {pre post av : List V} {m m1 : List (Option Bk)} {ρ φ : List Nat} {gf : Bool} {m0 m2 : List Bk} {args0 : List V} {res : V} {K : V → List (Option Bk) → Prop} {k k2 E1 sz1 E2 sz2 j j2 F1 rz1 F2 rz2 : Nat} {xs1 xs2 ys1 ys2 : List (List D)} (n p : Nat) (hM : hr_ st P f args0 m0 res m2) (hf : Flat xs2) (hf2 : Flat ys2)
  (hK : (res.co3 st (ρ ++ φ) m1 gf).k fun v => bu_ (((putM (fun n b => b.co st (ρ ++ φ) m1 gf n) (ρ ++ φ) m2 m1).set n (some (.row k2 E2 sz2 true xs2))).set p (some (.row j2 F2 rz2 true ys2))) fun m' => K v m')
  (ln : Bool := false) (ho : o.op = .call c := by exact rfl) (hc : dw_ E c = some (f, pre, post) := by exact rfl) (hz : frzB ln m (pre ++ zA T E c.args.toList c.argTypes.toList ++ post) = some (av, m1) := by exact rfl)
  (_hr : (mo_ m1 64 (av.flatMap V.nm3) []).reverse = ρ := by exact rfl) (hg : (av.all V.fl && flM m1 ρ) = gf := by exact rfl) (hab : abM ρ m1 ρ = some m0 := by exact rfl) (ha0 : av.map (V.ab ρ m1) = args0 := by exact rfl)
  (hchk : (au_ (ρ ++ φ) && (ph_ m1 φ && (jf_ m1 ρ m2 && Nat.beq (ρ.length + φ.length) m2.length))) = true := by exact rfl)
  (hm : m[n]? = some (some (.row k E1 sz1 true xs1)) := by exact rfl) (hm' : (putM (fun n b => b.co st (ρ ++ φ) m1 gf n) (ρ ++ φ) m2 m1)[n]? = some (some (.row k2 E2 sz2 false xs2)) := by exact rfl)
  (hq : m[p]? = some (some (.row j F1 rz1 true ys1)) := by exact rfl) (hq' : ((putM (fun n b => b.co st (ρ ++ φ) m1 gf n) (ρ ++ φ) m2 m1).set n (some (.row k2 E2 sz2 true xs2)))[p]? = some (some (.row j2 F2 rz2 false ys2)) := by exact rfl) :
  ∃ v m', ey_ P o E m v m' ∧ v.k fun v => bu_ m' fun m' => K v m' :=
 ⟨_, _, op_own (op_own (h7_ (T := T) ho hc hz hg hab ha0 hM hchk) hm hm' hf) hq hq' hf2, hK⟩
end
end
section
open Go.RowKit
def prM : List (Nat × Bool) := [(36, false), (39, false), (40, false), (41, false), (73, false), (118, false),
 (160, false), (121, false), (161, false), (179, false), (180, false), (181, false), (182, false),
 (183, false), (184, false), (204, false), (38, false), (76, false), (1000133, false), (1000065, false)]
theorem pcx {f : FuncId} {fn : Func} (hf : Tryz.prog.funcs[f]? = some fn) (hn : (fn.name == "runtime.NumGoroutine") = false) {args : List V} {m : List Bk} {res : V} {m' : List Bk} (h16 : (decide (args.length ≤ fn.ntmps) && decide (m.length ≤ 16)) = true)
  (h : BodyM (fun vs => vs.flatMap V.bn) Tryz.prog (TM prM) fn args m res m') : bm_ Tryz.prog f args m res m' :=
 ib_ (tokM prM) mixed hf hn h16 h
abbrev wBox (a : V) (n1 : Nat) (l : List Nd) : Bk := .box [a, .ow n1 0, .sl false 5 (l.map ndD)] (some 70)
abbrev wRow (bs : Bs) : Bk := .row 0 5 1 false (bs.map a0_)
abbrev nilP : V := .cv (.pointer none)
abbrev wM (bs : Bs) (l : List Nd) : List Bk := [wBox (.bx 0 0) 1 l, wRow bs]
abbrev wF (bs : Bs) (l : List Nd) : List Bk := [wBox nilP 1 l, wRow bs]
section
variable {bs : Bs} {l : List Nd}
theorem x_ccU : bm_ Tryz.prog 73 [.bx 0 0] (wM bs l) (.tu []) (wM bs l) := by
 refine pcx Tryz.func73 kR kR ?_
 conv => whnf
 refine kF ?_
 conv => whnf
 refine ⟨rfl, rfl, ?_⟩
 conv => whnf
 refine kF ?_
 conv => whnf
 exact ⟨rfl, rfl, rfl⟩
theorem x_ccF : bm_ Tryz.prog 73 [.bx 0 0] (wF bs l) (.tu []) (wM bs l) := by
 refine pcx Tryz.func73 kR kR ?_
 conv => whnf
 refine kT ?_
 conv => whnf
 refine ⟨_, _, ot_unsafe (sz := 2) rfl rfl rfl Tryz.underlying65 Tryz.underlying133 kR rfl, ?_⟩
 conv => whnf
 refine ⟨_, _, ot_noescape Tryz.func118 kR kR kR kR rfl rfl rfl rfl, ?_⟩
 conv => whnf
 refine ⟨_, _, ot_safe (sz := 2) (len := 3) rfl rfl rfl Tryz.underlying133 Tryz.underlying65 kR rfl kR, ?_⟩
 conv => whnf
 exact ⟨rfl, rfl, rfl⟩
theorem el_ (s : Bs) (hb : bs.length + s.length ≤ 140737488355328) : bm_ Tryz.prog 36 [.bx 0 0, bc_ s] (wM bs l) (.tu [int s.length, .cv .nilIface]) (wM (bs ++ s) l) := by
 refine pcx Tryz.func36 kR kR ?_
 conv => whnf
 refine T_ (T := TM prM) (φ := []) (gf := false) x_ccU ?_
 conv => whnf
 refine ⟨_, _, nf_ (l := bs) (s := mk s) rfl rfl rfl rfl rfl rfl rfl kR kR kR (by rw [P_]; omega), ?_⟩
 conv => whnf
 exact ⟨rfl, rfl, by rw [P_]; rfl⟩
theorem x_wsF (s : Bs) (hb : bs.length + s.length ≤ 140737488355328) : bm_ Tryz.prog 36 [.bx 0 0, bc_ s] (wF bs l) (.tu [int s.length, .cv .nilIface]) (wM (bs ++ s) l) := by
 refine pcx Tryz.func36 kR kR ?_
 conv => whnf
 refine T_ (T := TM prM) (φ := []) (gf := false) x_ccF ?_
 conv => whnf
 refine ⟨_, _, nf_ (l := bs) (s := mk s) rfl rfl rfl rfl rfl rfl rfl kR kR kR (by rw [P_]; omega), ?_⟩
 conv => whnf
 exact ⟨rfl, rfl, by rw [P_]; rfl⟩
theorem e4_ (c : UInt8) (hb : bs.length + 1 ≤ 140737488355328) : bm_ Tryz.prog 39 [.bx 0 0, .cv (.int .u8 (c.toNat : Nat))] (wM bs l) (.cv .nilIface) (wM (bs ++ [c]) l) := by
 refine pcx Tryz.func39 kR kR ?_
 conv => whnf
 refine T_ (T := TM prM) (φ := []) (gf := false) x_ccU ?_
 conv => whnf
 refine ⟨by rw [d_]; show (bs.length + 1) * 1 ≤ _; omega, ?_⟩
 conv => whnf
 exact ⟨rfl, by rw [show wM (bs ++ [c]) l = [wBox (.bx 0 0) 1 l, .row 0 5 1 false (bs.map a0_ ++ [a0_ c])] by simp only [wM, wRow, List.map_append, List.map_cons, List.map_nil]]; rfl, rfl⟩
theorem x_wlen (_hb : bs.length ≤ 140737488355328) : bm_ Tryz.prog 40 [.bx 0 0] (wM bs l) (int bs.length) (wM bs l) := by
 refine pcx Tryz.func40 kR kR ?_
 conv => whnf
 exact ⟨rfl, rfl, by rw [d_]; rfl⟩
end
end
section
open Go.RowKit
theorem fp_ {l : Bs} (h : cl_ l = true) : l.length ≤ 200 := by unfold cl_ at h; simp at h; exact h.1
theorem fin_te4 {t : Tok} {a : Bs} {e : Int} (h : aa_ t = (34 :: (a ++ [34]), e)) : V.tu [.cv (.string (⟨#[34]⟩ ++ mk a ++ ⟨#[34]⟩)), int e] = teV (aa_ t) := by
 rw [h, show (⟨#[34]⟩ : ByteArray) ++ mk a ++ ⟨#[34]⟩ = mk (34 :: (a ++ [34])) by rw [show (⟨#[34]⟩ : ByteArray) = mk [34] from rfl, a3_, a3_]; rfl]
def tmS : List (Nat × Bool) := [(92, false), (93, false)]
end
section
open Go.RowKit
theorem xt_str_a (l : Bs) (v a : Int) (hl : l.length ≤ 1000000) (hw : (!(mk l).toList == (⟨#[]⟩ : ByteArray).toList) = false) : DCalls Tryz.prog 52 [(⟨4, l, v, a⟩ : Tok).V] (teV (aa_ ⟨4, l, v, a⟩)) := by
 refine sxm tmS Tryz.func52 kR ?_
 conv => whnf
 refine ⟨none, kR, ?_⟩
 conv => whnf
 refine Q_ false hw ?_
 conv => whnf
 refine kF ?_
 conv => whnf
 rintro (_ | _) v0
 rotate_left
 ·have v0 : v ≠ 0 := by simpa using v0
  conv => whnf
  exact V_ (by rw [dd_]; simp [v0])
 have v0 : v = 0 := by simpa using v0
 conv => whnf
 refine kF ?_
 conv => whnf
 refine kF ?_
 conv => whnf
 refine kF ?_
 conv => whnf
 refine kF ?_
 conv => whnf
 refine kT ?_
 conv => whnf
 refine ⟨_, it_ l, ?_⟩
 conv => whnf
 rintro (_ | _) i4
 ·conv => whnf
  exact V_ (by rw [dd_]; simp [v0, i4])
 have hlc := fp_ i4
 have hel := d6_ l
 have hxl := ex_le l
 have hs1 : (⟨#[34]⟩ : ByteArray).size + (mk (esc l)).size ≤ 9223372036854775807 := by rw [P_, show (⟨#[34]⟩ : ByteArray).size = 1 from rfl]; omega
 have hs2 : ((⟨#[34]⟩ : ByteArray) ++ mk (esc l)).size + (⟨#[34]⟩ : ByteArray).size ≤ 9223372036854775807 := by
  rw [show (⟨#[34]⟩ : ByteArray) ++ mk (esc l) = mk (34 :: esc l) from a3_ [34] _, P_, show (⟨#[34]⟩ : ByteArray).size = 1 from rfl, b_]; omega
 conv => whnf
 refine ⟨some (.alt 0 (.alt 1 (.one 2 (.one 3 (.one 4 (.one 5 (.one 6 (.one 7 (.one 8 (.done)))))))) (.alt 2 (.alt 1 (.one 3 (.one 4 (.one 5 (.one 6 (.one 7 (.one 8 (.done))))))) (.alt 3 (.one 1 (.one 4 (.one 5 (.one 6 (.one 7 (.one 8 (.done))))))) (.stop))) (.stop))) (.alt 2 (.alt 0 (.alt 1 (.one 3 (.one 4 (.one 5 (.one 6 (.one 7 (.one 8 (.done))))))) (.alt 3 (.one 1 (.one 4 (.one 5 (.one 6 (.one 7 (.one 8 (.done))))))) (.stop))) (.alt 3 (.one 0 (.one 1 (.one 4 (.one 5 (.one 6 (.one 7 (.one 8 (.done)))))))) (.stop))) (.stop))), kR, ?_⟩
 have hfin : V.tu [.cv (.string (⟨#[34]⟩ ++ mk (esc l) ++ ⟨#[34]⟩)), int 0] = teV (aa_ ⟨4, l, v, a⟩) := fin_te4 (by rw [dd_]; simp [v0, i4])
 repeat' ((conv => whnf); first
   | exact trivial
   | exact hfin
   | with_reducible refine And.intro ?_ ?_
   | refine T_ (T := TM tmS) (φ := [5, 6]) fq_ ?_
   | refine T_ (T := TM tmS) (φ := []) (ks_ l hl) ?_
   | exact hs1
   | exact hs2)
end
section
open Go.RowKit
theorem xt_str_b (l : Bs) (v a : Int) (hl : l.length ≤ 1000000) (hw : (!(mk l).toList == (⟨#[]⟩ : ByteArray).toList) = true) (hw2 : ((bk_ l : Int) == ((mk l).size : Int)) = false) : DCalls Tryz.prog 52 [(⟨4, l, v, a⟩ : Tok).V] (teV (aa_ ⟨4, l, v, a⟩)) := by
 refine sxm tmS Tryz.func52 kR ?_
 conv => whnf
 refine ⟨none, kR, ?_⟩
 conv => whnf
 refine Q_ true hw ?_
 conv => whnf
 refine ⟨_, mf_ l oM, ?_⟩
 conv => whnf
 refine Q_ false hw2 ?_
 conv => whnf
 refine kF ?_
 conv => whnf
 rintro (_ | _) v0
 rotate_left
 ·have v0 : v ≠ 0 := by simpa using v0
  conv => whnf
  exact V_ (by rw [dd_]; simp [v0])
 have v0 : v = 0 := by simpa using v0
 conv => whnf
 refine kF ?_
 conv => whnf
 refine kF ?_
 conv => whnf
 refine kF ?_
 conv => whnf
 refine kF ?_
 conv => whnf
 refine kT ?_
 conv => whnf
 refine ⟨_, it_ l, ?_⟩
 conv => whnf
 rintro (_ | _) i4
 ·conv => whnf
  exact V_ (by rw [dd_]; simp [v0, i4])
 have hlc := fp_ i4
 have hel := d6_ l
 have hxl := ex_le l
 have hs1 : (⟨#[34]⟩ : ByteArray).size + (mk (esc l)).size ≤ 9223372036854775807 := by rw [P_, show (⟨#[34]⟩ : ByteArray).size = 1 from rfl]; omega
 have hs2 : ((⟨#[34]⟩ : ByteArray) ++ mk (esc l)).size + (⟨#[34]⟩ : ByteArray).size ≤ 9223372036854775807 := by
  rw [show (⟨#[34]⟩ : ByteArray) ++ mk (esc l) = mk (34 :: esc l) from a3_ [34] _, P_, show (⟨#[34]⟩ : ByteArray).size = 1 from rfl, b_]; omega
 conv => whnf
 refine ⟨some (.alt 0 (.alt 1 (.one 2 (.one 3 (.one 4 (.one 5 (.one 6 (.one 7 (.one 8 (.done)))))))) (.alt 2 (.alt 1 (.one 3 (.one 4 (.one 5 (.one 6 (.one 7 (.one 8 (.done))))))) (.alt 3 (.one 1 (.one 4 (.one 5 (.one 6 (.one 7 (.one 8 (.done))))))) (.stop))) (.stop))) (.alt 2 (.alt 0 (.alt 1 (.one 3 (.one 4 (.one 5 (.one 6 (.one 7 (.one 8 (.done))))))) (.alt 3 (.one 1 (.one 4 (.one 5 (.one 6 (.one 7 (.one 8 (.done))))))) (.stop))) (.alt 3 (.one 0 (.one 1 (.one 4 (.one 5 (.one 6 (.one 7 (.one 8 (.done)))))))) (.stop))) (.stop))), kR, ?_⟩
 have hfin : V.tu [.cv (.string (⟨#[34]⟩ ++ mk (esc l) ++ ⟨#[34]⟩)), int 0] = teV (aa_ ⟨4, l, v, a⟩) := fin_te4 (by rw [dd_]; simp [v0, i4])
 repeat' ((conv => whnf); first
   | exact trivial
   | exact hfin
   | with_reducible refine And.intro ?_ ?_
   | refine T_ (T := TM tmS) (φ := [5, 6]) fq_ ?_
   | refine T_ (T := TM tmS) (φ := []) (ks_ l hl) ?_
   | exact hs1
   | exact hs2)
end
end Go.Proofs.YtglndfgmlminpaaGreatDoor
