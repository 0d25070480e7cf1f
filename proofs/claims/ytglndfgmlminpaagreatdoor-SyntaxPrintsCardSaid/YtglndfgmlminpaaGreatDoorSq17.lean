/- Texts joined by pack.py: XLx10 XLx11 XLx12 XLx13 -/
import Derived.Test.YtglndfgmlminpaaGreatDoorSq16
import Derived.Lib.ItoaMem
set_option maxHeartbeats 4000000
set_option maxRecDepth 100000
namespace Go.Proofs.YtglndfgmlminpaaGreatDoor
section
open Go.RowKit
theorem dval_ge : ∀ (l : Bs) (n : Nat), n ≤ eu_ l n
 | [], n => f_ _
 | c :: l, n => by
  have := dval_ge l (10 * n + (c.toNat - 48))
  simp only [eu_]; omega
theorem g5_ : ∀ (l : Bs) (n : Nat), (∀ c ∈ l, ht_ c = true) → n < 18446744073709551616 → Lib.parseUint10 n l = if eu_ l n < 18446744073709551616 then .ok (eu_ l n) else .range
 | [], n, _, hn => by rw [show eu_ [] n = n from rfl, if_pos hn]; rfl
 | c :: l, n, h, hn => by
  have hc := fn_ (h c sI)
  have hge := dval_ge l (10 * n + (c.toNat - 48))
  rw [show eu_ (c :: l) n = eu_ l (10 * n + (c.toNat - 48)) from rfl]
  simp only [Lib.parseUint10]
  rw [if_pos oM]
  split
  ·rw [if_neg oM]
  ·split
   ·rw [if_neg oM]
   ·rw [Nat.mul_comm n 10]
    exact g5_ l _ (fun c hc => h c (by simp [hc])) oM
theorem atoi_digs (d : Bs) (h : digs d) : Lib.atoiAll d = if eu_ d 0 < 9223372036854775808 then .ok (eu_ d 0 : Int) else .range := by
 obtain ⟨c, r, rfl, hc⟩ := pm_ h
 have hci := fn_ hc
 have h45 : ¬ c.toNat = 45 := by omega
 have h43 : ¬ c.toNat = 43 := by omega
 unfold Lib.atoiAll
 simp only [h45, h43, or_self, if_false]
 unfold Lib.parseMag
 rw [if_neg sI, g5_ _ 0 h.2 oM]
 by_cases hv : eu_ (c :: r) 0 < 18446744073709551616
 ·rw [if_pos hv]
  by_cases hv2 : eu_ (c :: r) 0 < 9223372036854775808
  ·rw [if_pos hv2]; simp [hv2]
  ·rw [if_neg hv2]; simp; omega
 ·rw [if_neg hv, if_neg oM]
theorem im_ (d : Bs) (h : digs d) : kf_ d = if hl_ d = false then (0, 1) else if eu_ d 0 > 1000000000000 then (0, 2) else ((eu_ d 0 : Int), 0) := by
 obtain ⟨c, r, rfl, hc⟩ := pm_ h
 have : (hl_ (c :: r) = false) ↔ ((c :: r).length > 1 ∧ (c :: r).head? = some 48) := by
  unfold hl_
  simp
  constructor
  ·rintro ⟨rfl, h⟩
   refine ⟨?_, rfl⟩
   cases r with
   | nil => simp at h
   | cons => simp
  ·rintro ⟨hr, rfl⟩
   refine ⟨rfl, ?_⟩
   cases r with
   | nil => simp at hr
   | cons => simp
 unfold kf_
 by_cases hd : hl_ (c :: r) = false
 ·rw [if_pos hd, if_pos (this.1 hd)]
 ·rw [if_neg hd, if_neg (fun e => hd (this.2 e))]
theorem DCalls.vals {P : Program} {f : FuncId} {us : List Value} {v : Value} (h : DCalls P f (us.map .cv) (.cv v)) {w : World} (hg : jj_ w) : Calls P f us.toArray w fun e w' => e = .returned v ∧ Below w.heap.size w w' := by
 refine (h.2 w us hg ⟨by simp, fun i x hx => ?_⟩).mono ?_
 ·rw [e_, o_] at hx
  obtain ⟨u, hu, rfl⟩ := hx
  rw [v_, hu]
  exact .cv _
 ·rintro e w' ⟨v', rfl, h1, h2⟩
  cases h1
  exact ⟨rfl, h2⟩
theorem ei_ {w w' : World} (h : jj_ w) (hb : Below w.heap.size w w') : jj_ w' := gz_ h (fun _ hg => ls_ h hg) hb.block
theorem atoi_ok (d : Bs) (h : digs d) (hl : d.length ≤ 281474976710656) (hv : eu_ d 0 < 9223372036854775808) (w : World) :
  Calls Tryz.prog 130 #[.string (mk d)] w fun e w' => e = .returned (.tuple #[.int .i64 (eu_ d 0 : Nat), .nilIface]) ∧ Below w.heap.size w w' := by
 refine (Tryz.strconv_Atoi_ok (mk d) (by rw [P_]; omega) (eu_ d 0 : Nat) (by rw [show (mk d).data.toList = d from rfl, atoi_digs d h, if_pos hv]) w).mono ?_
 rintro e w' ⟨rfl, hw⟩
 refine ⟨rfl, ?_⟩
 rcases hw with rfl | ⟨t, rfl⟩
 ·exact Below.refl _ _
 ·exact Lib.bytesWorld_below _ _ _
theorem atoi_range (d : Bs) (h : digs d) (hl : d.length ≤ 281474976710656) (hv : ¬ eu_ d 0 < 9223372036854775808) (w : World) (hg : jj_ w) :
  Calls Tryz.prog 130 #[.string (mk d)] w fun e w' => ∃ n t N, e = .returned (.tuple #[.int .i64 n, .iface t (.pointer (some ⟨N, 0, none⟩))]) ∧ Below w.heap.size w w' := by
 obtain ⟨⟨ev, h1, h2⟩, _⟩ := hg
 refine (Tryz.strconv_Atoi_range (mk d) (by rw [P_]; omega) (by rw [show (mk d).data.toList = d from rfl, atoi_digs d h, if_neg hv]) ev w h1 h2).mono ?_
 rintro e w' ⟨N, rfl, _, _, hb⟩
 exact ⟨_, _, N, rfl, hb⟩
theorem parse_any (d : Bs) (h : digs d) (hl : d.length ≤ 281474976710656) (w : World) (hg : jj_ w) :
  Calls Tryz.prog 86 #[.string (mk d)] w fun e w' => e = .returned (.tuple #[.int .i64 (kf_ d).1, .int .i64 (kf_ d).2]) ∧ Below w.heap.size w w' := by
 have c1 := (DCalls.vals (us := [.string (mk d)]) (x_decimal d h oM) hg)
 have hp := im_ d h
 cases hd : hl_ d with
 | false =>
  rw [hd] at c1
  rw [if_pos hd] at hp
  rw [hp]
  clear hp
  go_enter Tryz.func86, Tryz.ntmps86
  go_wp2_with (go_at_call 129; refine c1.mono ?_; rintro e W1 ⟨rfl, hb1⟩)
  go_ret2
  exact ⟨rfl, hb1⟩
 | true =>
  rw [hd] at c1
  rw [if_neg (by rw [hd]; simp)] at hp
  rw [hp]
  clear hp
  by_cases hv : eu_ d 0 < 9223372036854775808
  ·have c2 := atoi_ok d h hl hv
   have c3 : ∀ W, jj_ W → _ := fun W hW => DCalls.vals (us := [.int .i64 (eu_ d 0 : Nat)]) (oa_ (eu_ d 0 : Nat)) (w := W) hW
   have hvb : en_ (eu_ d 0 : Nat) = decide (¬ eu_ d 0 > 1000000000000) := by unfold en_; rw [z_]; simp; omega
   rw [hvb] at c3
   by_cases hm : eu_ d 0 > 1000000000000
   ·rw [if_pos hm]
    rw [show decide (¬ eu_ d 0 > 1000000000000) = false by simpa using hm] at c3
    generalize eu_ d 0 = v at *
    go_enter Tryz.func86, Tryz.ntmps86
    go_wp2_with (first
     | go_at_call 129; refine c1.mono ?_; rintro e W1 ⟨rfl, hb1⟩
     | go_at_call 130; refine (c2 _).mono ?_; rintro e W2 ⟨rfl, hb2⟩
     | go_at_call 89; refine (c3 _ (ei_ (ei_ hg (by assumption)) (by assumption))).mono ?_; rintro e W3 ⟨rfl, hb3⟩)
    go_ret2
    exact ⟨rfl, hb1.trans ((hb2.trans (hb3.mono hb2.size)).mono hb1.size)⟩
   ·rw [if_neg hm]
    rw [show decide (¬ eu_ d 0 > 1000000000000) = true by simpa using hm] at c3
    generalize eu_ d 0 = v at *
    go_enter Tryz.func86, Tryz.ntmps86
    go_wp2_with (first
     | go_at_call 129; refine c1.mono ?_; rintro e W1 ⟨rfl, hb1⟩
     | go_at_call 130; refine (c2 _).mono ?_; rintro e W2 ⟨rfl, hb2⟩
     | go_at_call 89; refine (c3 _ (ei_ (ei_ hg (by assumption)) (by assumption))).mono ?_; rintro e W3 ⟨rfl, hb3⟩)
    go_ret2
    exact ⟨rfl, hb1.trans ((hb2.trans (hb3.mono hb2.size)).mono hb1.size)⟩
  ·have c2 := atoi_range d h hl hv
   rw [if_pos oM]
   generalize eu_ d 0 = v at *
   go_enter Tryz.func86, Tryz.ntmps86
   go_wp2_with (first
    | go_at_call 129; refine c1.mono ?_; rintro e W1 ⟨rfl, hb1⟩
    | go_at_call 130; refine (c2 _ (ei_ hg (by assumption))).mono ?_; rintro e W2 ⟨n, t, N, rfl, hb2⟩)
   go_ret2
   exact ⟨rfl, hb1.trans (hb2.mono hb1.size)⟩
theorem x_parse (d : Bs) (h : digs d) (hl : d.length ≤ 281474976710656) : DCalls Tryz.prog 86 [bc_ d] (.tu [int (kf_ d).1, int (kf_ d).2]) :=
 dv_ Tryz.func86 kR kR rfl rfl fun w hg => parse_any d h hl w hg
theorem x_itoa (n : Int) (h0 : -9223372036854775808 ≤ n) (h1 : n ≤ 9223372036854775807) : DCalls Tryz.prog 131 [int n] (bc_ (Lib.itoa n)) :=
 dv_ Tryz.func131 kR kR rfl rfl fun w hg => (Tryz.strconv_Itoa n h0 h1 w hg.2.1).mono fun e w' ⟨h1, k, os, h2⟩ => ⟨h1, by
  rw [h2]
  refine ⟨rfl, rfl, rfl, by simp [Sort.grow], fun i hi => ?_⟩
  show ((w.drewN k).heap ++ os)[i]? = _
  rw [Array.getElem?_append_left (by show i < w.heap.size; omega)]
  rfl⟩
theorem of_ (n : Int) (h0 : -9223372036854775808 ≤ n) (h1 : n ≤ 9223372036854775807) : DCalls Tryz.prog 90 [int n] (bc_ (Lib.itoa n)) := by
 refine sx Tryz.func90 kR ?_
 conv => whnf
 refine ⟨_, x_itoa n h0 h1, ?_⟩
 rfl
end
section
open Go.RowKit
theorem digs_at {d : Bs} (h : digs d) {k : Nat} (hk : k < d.length) : 48 ≤ (d[k].toNat : Int) ∧ (d[k].toNat : Int) ≤ 57 := fn_ (h.2 d[k] (q_ hk))
theorem j9_ (d : Bs) (h : digs d) (hl : d.length ≤ 281474976710656) : DCalls Tryz.prog 141 [bc_ d] (.tu [int (kf_ d).1, int (kf_ d).2]) := by
 have hp := im_ d h
 have h0 : 0 < d.length := by have := h.1; cases d <;> simp at *
 have hd0 := digs_at h h0
 refine sx Tryz.func141 kR ?_
 conv => whnf
 refine Q_ true (by rw [P_]; simp; omega) ?_
 conv => whnf
 refine ⟨oM, _, bn_ h0, ?_⟩
 conv => whnf
 refine ⟨_, x_form d h oM, ?_⟩
 conv => whnf
 rintro (_ | _) h1
 rotate_left
 ·have h1 : hl_ d = false := by simpa using h1
  rw [if_pos h1] at hp
  rw [hp]
  conv => whnf
 have h1 : hl_ d = true := by simpa using h1
 rw [if_neg (by rw [h1]; simp)] at hp
 conv => whnf
 refine ⟨[], Nat × Nat, fun ⟨k, v⟩ => [(20, int k), (5, int v)], fun _ => [], fun ⟨k, v⟩ => k ≤ d.length ∧ v ≤ 1000000000000 ∧ eu_ (d.drop k) v = eu_ d 0, fun x => d.length - x.1, (0, 0), ⟨l_ _, oM, rfl⟩, ?_, ?_⟩
 ·exact eN
 rintro ⟨k, v⟩ ⟨hk1, hv1, hk⟩
 conv => whnf
 rintro (_ | _) h2
 ·simp [P_] at h2
  rw [k_ h2] at hk
  have hv : eu_ d 0 = v := hk.symm
  rw [if_neg oM, hv] at hp
  rw [hp]
  conv => whnf
  refine Q_ false (beq_false_of_ne oM) ?_
  conv => whnf
 have h2 : k < d.length := by simp only [P_] at h2; simp at h2 ⊢; omega
 have hdk := digs_at h h2
 rw [ao_ h2] at hk
 simp only [eu_] at hk
 conv => whnf
 refine ⟨oM, _, bn_ h2, ?_⟩
 conv => whnf
 refine Q_ false (beq_false_of_ne oM) ?_
 conv => whnf
 refine ⟨oM, _, bn_ h2, ?_⟩
 have hw : IntKind.i64.wrap (IntKind.i64.wrap (10 * (v : Int)) + IntKind.i64.wrap (IntKind.u8.wrap ((d[k].toNat : Int) - 48))) = ((10 * v + (d[k].toNat - 48) : Nat) : Int) := by
  rw [IntWalk.u8_in _ oM, A_ (10 * (v : Int)) oM, A_ ((d[k].toNat : Int) - 48) oM, A_ _ oM]; omega
 conv => whnf
 rw [hw]
 have hge := dval_ge (d.drop (k + 1)) (10 * v + (d[k].toNat - 48))
 rintro (_ | _) h3
 rotate_left
 ·simp at h3
  rw [if_pos oM] at hp
  rw [hp]
  conv => whnf
 simp at h3
 conv => whnf
 refine ⟨(k + 1, 10 * v + (d[k].toNat - 48)), ⟨h2, oM, hk⟩, by dsimp only; omega, ?_⟩
 exact eW
theorem dg_ {u : Nat} (h : u < 10) : Lib.decDigits u = [UInt8.ofNat (48 + u)] := by rw [Lib.decDigits, dif_pos h]
theorem e2_ {u : Nat} (h : 10 ≤ u) : Lib.decDigits u = Lib.decDigits (u / 10) ++ [UInt8.ofNat (48 + u % 10)] := by rw [Lib.decDigits, dif_neg oM]
theorem f1_ : ∀ (f u : Nat), u < 10 ^ (f + 1) → (Lib.decDigits u).length ≤ f + 1
 | 0, u, h => by rw [dg_ (by simpa using h)]; simp
 | f + 1, u, h => by
  rcases s_ u 10 with h1 | h1
  ·rw [dg_ h1]; simp
  ·rw [e2_ h1]
   have := f1_ f (u / 10) (by rw [Nat.pow_succ] at h; omega)
   simp; omega
def nd : Bs := [48, 49, 50, 51, 52, 53, 54, 55, 56, 57]
theorem nd_at (r : Nat) (h : r < 10) : (mk nd).extract ((r : Nat) : Int).toNat ((r + 1 : Nat) : Int).toNat = mk [UInt8.ofNat (48 + r)] := by
 rw [ep_ (show r < nd.length from h)]
 have : ∀ n : Fin 10, nd[n.val]'n.isLt = UInt8.ofNat (48 + n.val) := by decide
 exact congrArg (fun x => mk [x]) (this ⟨r, h⟩)
theorem p0_ (n : Nat) (h1 : n ≤ 1000000000000) : DCalls Tryz.prog 154 [int n] (bc_ (Lib.itoa n)) := by
 rw [Lib.itoa_nonneg]
 refine sx Tryz.func154 kR ?_
 conv => whnf
 refine ⟨[], Nat × Bs, fun ⟨u, acc⟩ => [(5, int u), (4, bc_ acc)], fun _ => [], fun ⟨u, acc⟩ => u ≤ 1000000000000 ∧ ((acc = [] ∧ u = n) ∨ (acc ≠ [] ∧ (if u = 0 then acc else Lib.decDigits u ++ acc) = Lib.decDigits n)), fun x => x.1 + (if x.2 = [] then 1 else 0), (n, []), ⟨h1, .inl ⟨rfl, rfl⟩⟩, ?_, ?_⟩
 ·exact eN
 rintro ⟨u, acc⟩ ⟨hu, hI⟩
 have hlen : acc.length ≤ 13 := by
  have := f1_ 12 n oM
  rcases hI with ⟨rfl, _⟩ | ⟨_, h⟩
  ·simp
  ·rw [← h] at this
   split at this
   ·exact this
   ·simp at this; omega
 have body : ∀ r : Nat, r = u % 10 → (u ≠ 0 ∨ acc = []) → (u / 10 ≤ 1000000000000 ∧ ((([UInt8.ofNat (48 + r)] ++ acc) = [] ∧ u / 10 = n) ∨ (([UInt8.ofNat (48 + r)] ++ acc) ≠ [] ∧ (if u / 10 = 0 then ([UInt8.ofNat (48 + r)] ++ acc) else Lib.decDigits (u / 10) ++ ([UInt8.ofNat (48 + r)] ++ acc)) = Lib.decDigits n))) := by
  rintro r rfl hne
  refine ⟨oM, .inr ⟨by simp, ?_⟩⟩
  rcases s_ u 10 with h | h
  ·rw [if_pos oM, Nat.mod_eq_of_lt h]
   rcases hI with ⟨rfl, rfl⟩ | ⟨h2, h3⟩
   ·rw [dg_ h]; rfl
   ·by_cases h0 : u = 0
    ·exact absurd (hne.resolve_left oM) h2
    ·rw [if_neg h0, dg_ h] at h3; exact h3
  ·rw [if_neg oM]
   rcases hI with ⟨rfl, rfl⟩ | ⟨h2, h3⟩
   ·rw [e2_ h]; simp
   ·rw [if_neg oM, e2_ h] at h3
    rw [← h3]; simp
 conv => whnf
 rintro (_ | _) h2
 ·have hu0 : u = 0 := by simpa using h2
  conv => whnf
  rintro (_ | _) h3
  ·have h3 := du_ h3
   have h3 : acc ≠ [] := by simpa using h3
   rcases hI with ⟨h, _⟩ | ⟨_, h⟩
   ·exact absurd h h3
   rw [if_pos hu0] at h
   conv => whnf
   refine Q_ false sI ?_
   rw [h]
   conv => whnf
  have h3 := du_ h3
  have h3 : acc = [] := by simpa using h3
  have body := body _ rfl (.inr h3)
  conv => whnf
  refine ⟨dC, ?_⟩
  conv => whnf
  rw [show ((u : Nat) : Int).tmod 10 = ((u % 10 : Nat) : Int) from rfl]
  refine Q_ false sO ?_
  conv => whnf
  rw [R_ oM]
  refine ⟨oM, oM, (show ((u % 10 + 1 : Nat) : Int) ≤ ((10 : Nat) : Int) by omega), ?_⟩
  rw [show (⟨#[48, 49, 50, 51, 52, 53, 54, 55, 56, 57]⟩ : ByteArray) = mk nd from rfl, nd_at (u % 10) oM]
  conv => whnf
  rw [a3_]
  refine ⟨by rw [P_, P_]; simp; omega, ?_⟩
  conv => whnf
  refine ⟨dC, ?_⟩
  have e1 : ((u : Nat) : Int).tdiv 10 = ((u / 10 : Nat) : Int) := rfl
  conv => whnf
  refine ⟨(u / 10, [UInt8.ofNat (48 + u % 10)] ++ acc), body, by dsimp only; split <;> simp_all <;> omega, ?_⟩
  refine ⟨rfl, ?_, ?_⟩ <;> repeat' (first | exact trivial | exact rfl | refine am_ ?_ | refine aw_ e1 ?_ | refine aw_ (by rw [e1, A_ _ oM]) ?_ | refine ah_ ?_ ?_)
 ·have hu0 : u ≠ 0 := by simpa using h2
  have body := body _ rfl (.inl hu0)
  conv => whnf
  refine ⟨dC, ?_⟩
  conv => whnf
  rw [show ((u : Nat) : Int).tmod 10 = ((u % 10 : Nat) : Int) from rfl]
  refine Q_ false sO ?_
  conv => whnf
  rw [R_ oM]
  refine ⟨oM, oM, (show ((u % 10 + 1 : Nat) : Int) ≤ ((10 : Nat) : Int) by omega), ?_⟩
  rw [show (⟨#[48, 49, 50, 51, 52, 53, 54, 55, 56, 57]⟩ : ByteArray) = mk nd from rfl, nd_at (u % 10) oM]
  conv => whnf
  rw [a3_]
  refine ⟨by rw [P_, P_]; simp; omega, ?_⟩
  conv => whnf
  refine ⟨dC, ?_⟩
  have e1 : ((u : Nat) : Int).tdiv 10 = ((u / 10 : Nat) : Int) := rfl
  conv => whnf
  refine ⟨(u / 10, [UInt8.ofNat (48 + u % 10)] ++ acc), body, by dsimp only; split <;> simp_all <;> omega, ?_⟩
  refine ⟨rfl, ?_, ?_⟩ <;> repeat' (first | exact trivial | exact rfl | refine am_ ?_ | refine aw_ e1 ?_ | refine aw_ (by rw [e1, A_ _ oM]) ?_ | refine ah_ ?_ ?_)
def fm_ (l : Bs) : Bs := l.take (gc_ l)
theorem lx_ : ∀ l : Bs, gc_ l ≤ l.length
 | [] => f_ _
 | c :: l => by
  have := lx_ l
  simp only [gc_, b_]; split <;> omega
theorem digL_all : ∀ (l : Bs), ∀ c ∈ l.take (gc_ l), ht_ c = true
 | [], c, h => by simp at h
 | d :: l, c, h => by
  simp only [gc_] at h
  split at h
  ·rw [List.take_succ_cons] at h
   rcases List.mem_cons.1 h with rfl | h
   ·assumption
   ·exact digL_all l c h
  ·simp at h
theorem il_ {c : UInt8} {l : Bs} (h : ht_ c = true) : digs ((c :: l).take (gc_ (c :: l))) := by
 refine ⟨?_, digL_all _⟩
 simp only [gc_, h, if_true, List.take_succ_cons]; simp
abbrev numV (n : Nat) (d : Bs) : V := if hl_ d = false then .tu [int 0, int 0, int 1] else .tu [int (kf_ d).1, int (n + d.length : Nat), int (kf_ d).2]
theorem x_number (l : Bs) (n : Nat) (hn : n < l.length) (hd : ht_ l[n] = true) (hl : l.length ≤ 281474976710656) : DCalls Tryz.prog 99 [bc_ l, int n] (numV n (fm_ (l.drop n))) := by
 have hdl := lx_ (l.drop n)
 have hdig : digs (fm_ (l.drop n)) := by unfold fm_; rw [ao_ hn]; exact il_ hd
 have hlen : (fm_ (l.drop n)).length = gc_ (l.drop n) := by unfold fm_; rw [B_]; omega
 rw [p_] at hdl
 refine sx Tryz.func99 kR ?_
 conv => whnf
 refine ⟨[], Nat, fun k => [(7, int (n + k : Nat))], fun _ => [], fun k => n + k ≤ l.length ∧ k + gc_ (l.drop (n + k)) = gc_ (l.drop n), fun k => l.length - k, 0, ⟨oM, by simp⟩, ?_, ?_⟩
 ·exact eN
 rintro k ⟨hk1, hk⟩
 have stop : gc_ (l.drop (n + k)) = 0 → k = gc_ (l.drop n) := fun h => by omega
 conv => whnf
 rintro (_ | _) h2
 ·have h2 : l.length ≤ n + k := by simp only [P_] at h2; simp at h2; omega
  have hlast : k = gc_ (l.drop n) := stop (by rw [k_ h2]; rfl)
  have hmid : (mk l).extract ((n : Nat) : Int).toNat ((n + k : Nat) : Int).toNat = mk (fm_ (l.drop n)) := by
   rw [i_, i_, j0_, List.drop_take, show n + k - n = k by omega, hlast]; rfl
  have hdB : hl_ (fm_ (l.drop n)) = !((l[n].toNat : Int) == 48 && decide (k > 1)) := by
   have hz : (l[n] == 48) = ((l[n].toNat : Int) == 48) := by rw [cr_]; rfl
   have hw : fm_ (l.drop n) = l[n] :: fm_ (l.drop (n + 1)) := by unfold fm_; rw [ao_ hn]; simp only [gc_, hd, if_true, List.take_succ_cons]
   have hk2 : (fm_ (l.drop n)).length = k := by rw [hlen, hlast]
   rw [← hz]
   generalize fm_ (l.drop n) = dd at *
   generalize fm_ (l.drop (n + 1)) = ee at *
   subst hw
   unfold hl_
   cases ee with
   | nil =>
    simp at hk2; subst hk2
    by_cases h48 : l[n] = 48 <;> simp [h48]
   | cons a b =>
    simp at hk2
    have : 1 < k := by omega
    simp [this]
  conv => whnf
  refine ⟨oM, _, bn_ hn, ?_⟩
  conv => whnf
  rintro (_ | _) h4
  ·rw [h4] at hdB
   simp at hdB
   conv => whnf
   refine ⟨oM, oM, by rw [P_]; omega, ?_⟩
   rw [hmid]
   conv => whnf
   refine ⟨_, j9_ _ hdig oM, ?_⟩
   conv => whnf
   unfold numV
   rw [if_neg (by rw [hdB]; simp), hlen, ← hlast]
  conv => whnf
  rw [R_ oM]
  rintro (_ | _) h5
  ·rw [h4, show decide (k > 1) = false by simp at h5 ⊢; omega] at hdB
   simp at hdB
   conv => whnf
   refine ⟨oM, oM, by rw [P_]; omega, ?_⟩
   rw [hmid]
   conv => whnf
   refine ⟨_, j9_ _ hdig oM, ?_⟩
   conv => whnf
   unfold numV
   rw [if_neg (by rw [hdB]; simp), hlen, ← hlast]
  rw [h4, show decide (k > 1) = true by simp at h5 ⊢; omega] at hdB
  simp at hdB
  conv => whnf
  unfold numV
  rw [if_pos hdB]
 have h2 : n + k < l.length := by simp only [P_] at h2; simp at h2; omega
 have hdk : gc_ (l.drop (n + k)) = if ht_ l[n + k] then gc_ (l.drop (n + k + 1)) + 1 else 0 := by rw [ao_ h2]; rfl
 conv => whnf
 refine ⟨oM, _, bn_ h2, ?_⟩
 conv => whnf
 refine ⟨_, x_digit l[n + k], ?_⟩
 conv => whnf
 rintro (_ | _) h3
 ·rw [h3] at hdk
  have hlast : k = gc_ (l.drop n) := stop hdk
  have hmid : (mk l).extract ((n : Nat) : Int).toNat ((n + k : Nat) : Int).toNat = mk (fm_ (l.drop n)) := by
   rw [i_, i_, j0_, List.drop_take, show n + k - n = k by omega, hlast]; rfl
  have hdB : hl_ (fm_ (l.drop n)) = !((l[n].toNat : Int) == 48 && decide (k > 1)) := by
   have hz : (l[n] == 48) = ((l[n].toNat : Int) == 48) := by rw [cr_]; rfl
   have hw : fm_ (l.drop n) = l[n] :: fm_ (l.drop (n + 1)) := by unfold fm_; rw [ao_ hn]; simp only [gc_, hd, if_true, List.take_succ_cons]
   have hk2 : (fm_ (l.drop n)).length = k := by rw [hlen, hlast]
   rw [← hz]
   generalize fm_ (l.drop n) = dd at *
   generalize fm_ (l.drop (n + 1)) = ee at *
   subst hw
   unfold hl_
   cases ee with
   | nil =>
    simp at hk2; subst hk2
    by_cases h48 : l[n] = 48 <;> simp [h48]
   | cons a b =>
    simp at hk2
    have : 1 < k := by omega
    simp [this]
  conv => whnf
  refine ⟨oM, _, bn_ hn, ?_⟩
  conv => whnf
  rintro (_ | _) h4
  ·rw [h4] at hdB
   simp at hdB
   conv => whnf
   refine ⟨oM, oM, by rw [P_]; omega, ?_⟩
   rw [hmid]
   conv => whnf
   refine ⟨_, j9_ _ hdig oM, ?_⟩
   conv => whnf
   unfold numV
   rw [if_neg (by rw [hdB]; simp), hlen, ← hlast]
  conv => whnf
  rw [R_ oM]
  rintro (_ | _) h5
  ·rw [h4, show decide (k > 1) = false by simp at h5 ⊢; omega] at hdB
   simp at hdB
   conv => whnf
   refine ⟨oM, oM, by rw [P_]; omega, ?_⟩
   rw [hmid]
   conv => whnf
   refine ⟨_, j9_ _ hdig oM, ?_⟩
   conv => whnf
   unfold numV
   rw [if_neg (by rw [hdB]; simp), hlen, ← hlast]
  rw [h4, show decide (k > 1) = true by simp at h5 ⊢; omega] at hdB
  simp at hdB
  conv => whnf
  unfold numV
  rw [if_pos hdB]
 rw [h3] at hdk
 simp at hdk
 conv => whnf
 refine ⟨k + 1, ⟨oM, by rw [show n + (k + 1) = n + k + 1 by omega]; omega⟩, by dsimp only; omega, ?_⟩
 refine ⟨rfl, ?_, ?_⟩ <;> repeat' (first | exact trivial | exact rfl | refine am_ ?_ | refine aw_ (R_ (k := n + k) oM) ?_ | refine ah_ ?_ ?_)
end
section
open Go.RowKit
theorem cls_qt (c : UInt8) : (cls c == 4) = (c == 34) := by
 have : ∀ n : Fin 256, (cls (UInt8.ofNat n.val) == 4) = (UInt8.ofNat n.val == 34) := by decide +kernel
 have := this ⟨c.toNat, c.toNat_lt⟩
 simpa using this
theorem cls_at (c : UInt8) : (cls c == 5) = (c == 64) := by
 have : ∀ n : Fin 256, (cls (UInt8.ofNat n.val) == 5) = (UInt8.ofNat n.val == 64) := by decide +kernel
 have := this ⟨c.toNat, c.toNat_lt⟩
 simpa using this
abbrev tkV (p : Tok × Nat × Int) : V := .tu [p.1.V, int p.2.1, int p.2.2]
theorem k5_ {c : UInt8} {r : Bs} (h : lr_ c = true) : cb_ (c :: r) = if bk_ (c :: r) > 24 then (noTok, 0, 3) else if kwL ((c :: r).take (bk_ (c :: r))) then (⟨2, (c :: r).take (bk_ (c :: r)), 0, 0⟩, bk_ (c :: r), 0) else (⟨1, (c :: r).take (bk_ (c :: r)), 0, 0⟩, bk_ (c :: r), 0) := by
 unfold cb_; simp only [h, if_true]
theorem k6_ {c : UInt8} {r : Bs} (h1 : lr_ c = false) (h : ht_ c = true) : cb_ (c :: r) = if (kf_ ((c :: r).take (gc_ (c :: r)))).2 = 0 then (⟨3, [], (kf_ ((c :: r).take (gc_ (c :: r)))).1, 0⟩, gc_ (c :: r), 0) else (noTok, 0, (kf_ ((c :: r).take (gc_ (c :: r)))).2) := by
 unfold cb_; simp only [h1, h, if_true, y_, if_false]
theorem k4_ {r : Bs} : cb_ (34 :: r) = if (txt r 1 []).2.2 = 0 then (⟨4, (txt r 1 []).1, 0, 0⟩, (txt r 1 []).2.1, 0) else (noTok, (txt r 1 []).2.1, (txt r 1 []).2.2) := by
 unfold cb_; rfl
theorem k7_ {r : Bs} : cb_ (64 :: r) = if bk_ r = 0 then (noTok, 0, 1) else if bk_ r > 24 then (noTok, 0, 3) else (⟨6, r.take (bk_ r), 0, 0⟩, bk_ r + 1, 0) := by
 unfold cb_; rfl
theorem k3_ {c : UInt8} {r : Bs} (h1 : lr_ c = false) (h2 : ht_ c = false) (h3 : (c == 34) = false) (h4 : (c == 64) = false) : cb_ (c :: r) = if 2 ≤ (c :: r).length ∧ kd_ ((c :: r).take 2) then (⟨5, (c :: r).take 2, 0, 0⟩, 2, 0)
  else if kd_ ((c :: r).take 1) then (⟨5, (c :: r).take 1, 0, 0⟩, 1, 0) else (noTok, 0, 1) := by
 unfold cb_; simp only [h1, h2, h3, h4, y_, if_false]
theorem runT_le : ∀ l : Bs, g3_ l ≤ l.length
 | [] => f_ _
 | c :: l => by have := runT_le l; simp only [g3_, b_]; split <;> omega
theorem hh_ : ∀ l : Bs, bk_ l ≤ l.length
 | [] => f_ _
 | c :: l => by have := runT_le l; simp only [bk_, b_]; split <;> omega
theorem nh_ (l : Bs) (k : Nat) : (mk l).extract (0 : Int).toNat ((k : Nat) : Int).toNat = mk (l.take k) := by
 rw [i_]; exact mk_to l k
theorem ef_ (l : Bs) : DCalls Tryz.prog 84 [bc_ l] (boo (kwL l)) := x_keyword (mk l)
theorem x_token (c : UInt8) (r : Bs) (hl : (c :: r).length ≤ 281474976710656) : DCalls Tryz.prog 51 [bc_ (c :: r)] (tkV (cb_ (c :: r))) := by
 refine sx Tryz.func51 kR ?_
 conv => whnf
 refine ⟨oM, _, (show (mk (c :: r))[0]? = some c by rw [ni_]; rfl), ?_⟩
 conv => whnf
 refine ⟨_, x_ofw c, ?_⟩
 conv => whnf
 rw [cls_hd]
 rintro (_ | _) h1
 rotate_left
 ·have hrl := hh_ (c :: r)
  rw [k5_ h1]
  generalize hL : c :: r = l at *
  conv => whnf
  refine ⟨_, mf_ l oM, ?_⟩
  conv => whnf
  rintro (_ | _) h2
  rotate_left
  ·simp at h2
   rw [if_pos oM]
   (conv => whnf) <;> rfl
  simp at h2
  rw [if_neg oM]
  conv => whnf
  refine ⟨oM, oM, by rw [P_]; omega, ?_⟩
  rw [nh_]
  conv => whnf
  refine ⟨_, ef_ _, ?_⟩
  conv => whnf
  rintro (_ | _) h3
  ·rw [if_neg (by rw [h3]; simp)]
   conv => whnf
   refine ⟨oM, oM, by rw [P_]; omega, ?_⟩
   rw [nh_]
   (conv => whnf) <;> rfl
  ·rw [if_pos h3]
   conv => whnf
   refine ⟨oM, oM, by rw [P_]; omega, ?_⟩
   rw [nh_]
   (conv => whnf) <;> rfl
 conv => whnf
 rw [cls_dg]
 rintro (_ | _) h2
 rotate_left
 ·have hdl := lx_ (c :: r)
  have hdig := il_ (l := r) h2
  rw [k6_ h1 h2]
  generalize hL : c :: r = l at *
  conv => whnf
  refine ⟨_, x_digits l oM, ?_⟩
  conv => whnf
  refine ⟨oM, oM, by rw [P_]; omega, ?_⟩
  rw [nh_]
  conv => whnf
  refine ⟨_, x_parse _ hdig (by rw [B_]; omega), ?_⟩
  conv => whnf
  rintro (_ | _) h3
  ·simp at h3
   rw [if_pos h3]
   (conv => whnf) <;> rfl
  ·simp at h3
   rw [if_neg h3]
   (conv => whnf) <;> rfl
 conv => whnf
 rw [cls_qt]
 rintro (_ | _) h3
 rotate_left
 ·have h3' : c = 34 := by simpa using h3
  subst h3'
  rw [k4_]
  conv => whnf
  refine ⟨_, x_text (34 :: r) sI oM, ?_⟩
  rw [show txt (List.drop 1 (34 :: r)) 1 [] = txt r 1 [] from rfl]
  conv => whnf
  rintro (_ | _) h4
  ·simp at h4
   rw [if_pos h4]
   (conv => whnf) <;> rfl
  ·simp at h4
   rw [if_neg h4]
   (conv => whnf) <;> rfl
 conv => whnf
 rw [cls_at]
 rintro (_ | _) h4
 rotate_left
 ·have h4' : c = 64 := by simpa using h4
  subst h4'
  rw [k7_]
  have hrl := hh_ r
  have hl' : (64 :: r).length = r.length + 1 := rfl
  conv => whnf
  refine ⟨oM, by rw [P_]; omega, oM, ?_⟩
  rw [show (mk (64 :: r)).extract (1 : Int).toNat (((mk (64 :: r)).size : Nat) : Int).toNat = mk r from ia_ (64 :: r) 1]
  conv => whnf
  refine ⟨_, mf_ r oM, ?_⟩
  conv => whnf
  rintro (_ | _) h5
  rotate_left
  ·simp at h5
   rw [if_pos oM]
   (conv => whnf) <;> rfl
  simp at h5
  rw [if_neg oM]
  conv => whnf
  rintro (_ | _) h6
  rotate_left
  ·simp at h6
   rw [if_pos oM]
   (conv => whnf) <;> rfl
  simp at h6
  rw [if_neg oM]
  have hw : IntKind.i64.wrap ((bk_ r : Int) + 1) = ((bk_ r + 1 : Nat) : Int) := R_ oM
  conv => whnf
  rw [hw]
  refine ⟨oM, oM, by rw [P_]; omega, ?_⟩
  have e : (mk (64 :: r)).extract (1 : Int).toNat ((bk_ r + 1 : Nat) : Int).toNat = mk (r.take (bk_ r)) := by
   rw [i_, j0_]; rfl
  rw [e]
  conv => whnf
  rw [hw]
 rw [k3_ h1 h2 h3 h4]
 have hpos : 1 ≤ (c :: r).length := by simp
 generalize hL : c :: r = l at *
 obtain ⟨n0, e0, a1, a2, a3⟩ : ∃ n0 : Nat, (if (((mk l).size : Nat) : Int) < 2 then (((mk l).size : Nat) : Int) else 2) = ((n0 : Nat) : Int) ∧ n0 ≤ l.length ∧ (l.length < 2 → n0 = 1) ∧ (2 ≤ l.length → n0 = 2) := by
  rw [P_]
  by_cases h : l.length < 2
  ·exact ⟨l.length, by rw [if_pos oM], oM, oM, oM⟩
  ·exact ⟨2, by rw [if_neg oM]; rfl, oM, oM, oM⟩
 conv => whnf
 rw [e0]
 refine ⟨[], Nat, fun n => [(14, int n)], fun _ => [], fun n => n ≤ l.length ∧ n ≤ 2 ∧ (if 2 ≤ l.length ∧ kd_ (l.take 2) then ((⟨5, l.take 2, 0, 0⟩ : Tok), 2, (0 : Int)) else if kd_ (l.take 1) then (⟨5, l.take 1, 0, 0⟩, 1, 0) else (noTok, 0, 1)) =
  (if 2 ≤ n ∧ kd_ (l.take 2) then ((⟨5, l.take 2, 0, 0⟩ : Tok), 2, (0 : Int)) else if 1 ≤ n ∧ kd_ (l.take 1) then (⟨5, l.take 1, 0, 0⟩, 1, 0) else (noTok, 0, 1)), fun n => n, n0, ⟨a1, oM, by
   by_cases h : l.length < 2
   ·rw [a2 h]; simp [show ¬ 2 ≤ l.length by omega]
   ·rw [a3 oM]; simp [show 2 ≤ l.length by omega]⟩, ?_, ?_⟩
 ·exact eN
 rintro n ⟨b1, b2, hI⟩
 conv => whnf
 rintro (_ | _) h5
 ·simp at h5
  subst h5
  rw [hI]
  (conv => whnf) <;> rfl
 simp at h5
 conv => whnf
 refine ⟨oM, oM, by rw [P_]; omega, ?_⟩
 rw [nh_]
 conv => whnf
 refine ⟨_, j8_ (l.take n) (by rw [B_]; omega), ?_⟩
 conv => whnf
 rintro (_ | _) h6
 ·conv => whnf
  refine ⟨n - 1, ⟨oM, oM, by
   rw [hI]
   rcases (by omega : n = 1 ∨ n = 2) with rfl | rfl
   ·rw [h6]; simp
   ·rw [h6]; simp⟩, by dsimp only; omega, ?_⟩
  have hw : IntKind.i64.wrap ((n : Int) - 1) = ((n - 1 : Nat) : Int) := by rw [A_ _ oM]; omega
  exact eA
 ·rw [hI]
  conv => whnf
  refine ⟨oM, oM, by rw [P_]; omega, ?_⟩
  rw [nh_]
  rcases (by omega : n = 1 ∨ n = 2) with rfl | rfl
  ·rw [if_neg oM, if_pos ⟨oM, h6⟩]
   (conv => whnf) <;> rfl
  ·rw [if_pos ⟨oM, h6⟩]
   (conv => whnf) <;> rfl
end
section
open Go.RowKit
def pu_ (m : Bs) : Nat := if 2 ≤ m.length ∧ kd_ (m.take 2) then 2 else if kd_ (m.take 1) then 1 else 0
theorem jz_ (l : Bs) (n k : Nat) : (mk l).extract ((n : Nat) : Int).toNat ((n + k : Nat) : Int).toNat = mk ((l.drop n).take k) := by
 rw [i_, i_, j0_, List.drop_take, show n + k - n = k by omega]
theorem x_rsym (l : Bs) (n : Nat) (hn : n < l.length) (hl : l.length ≤ 281474976710656) : DCalls Tryz.prog 103 [bc_ l, int n] (int (n + pu_ (l.drop n) : Nat)) := by
 refine sx Tryz.func103 kR ?_
 have hw2 : IntKind.i64.wrap ((n : Int) + 2) = ((n + 2 : Nat) : Int) := by rw [A_ _ oM]; rfl
 have hw1 : IntKind.i64.wrap ((n : Int) + 1) = ((n + 1 : Nat) : Int) := R_ oM
 have hsl : ∀ k, (List.take k (List.drop n l)).length < 9223372036854775807 := by intro k; rw [B_, p_]; omega
 have hdl : (l.drop n).length = l.length - n := p_ ..
 have tail : ∀ {K : V → Prop}, True := trivial
 conv => whnf
 rw [hw2]
 rintro (_ | _) h1
 ·simp [P_] at h1
  conv => whnf
  rw [hw1]
  refine ⟨oM, oM, by rw [P_]; omega, ?_⟩
  rw [jz_ l n 1]
  conv => whnf
  refine ⟨_, e8_ _ (hsl 1), ?_⟩
  conv => whnf
  rintro (_ | _) h2
  ·conv => whnf
   exact bg_ (by unfold pu_; rw [if_neg oM, h2]; simp)
  ·conv => whnf
   rw [hw1]
   exact bg_ (by unfold pu_; rw [if_neg oM, h2]; simp)
 simp [P_] at h1
 conv => whnf
 rw [hw2]
 refine ⟨oM, oM, by rw [P_]; omega, ?_⟩
 rw [jz_ l n 2]
 conv => whnf
 refine ⟨_, e8_ _ (hsl 2), ?_⟩
 conv => whnf
 rintro (_ | _) h3
 rotate_left
 ·conv => whnf
  rw [hw2]
  exact bg_ (by unfold pu_; rw [if_pos ⟨oM, h3⟩])
 conv => whnf
 rw [hw1]
 refine ⟨oM, oM, by rw [P_]; omega, ?_⟩
 rw [jz_ l n 1]
 conv => whnf
 refine ⟨_, e8_ _ (hsl 1), ?_⟩
 conv => whnf
 rintro (_ | _) h2
 ·conv => whnf
  exact bg_ (by unfold pu_; rw [h3, h2]; simp)
 ·conv => whnf
  rw [hw1]
  exact bg_ (by unfold pu_; rw [h3, h2]; simp)
def mc_ (m : Bs) (n : Nat) : Tok × Nat × Nat × Int :=
 match m with
 | [] => (noTok, 0, 0, 0)
 | c :: r =>
  if ht_ c then (if hl_ (fm_ (c :: r)) = false then (⟨3, [], 0, n⟩, 0, n, 1) else (⟨3, [], (kf_ (fm_ (c :: r))).1, n⟩, n + (fm_ (c :: r)).length, n, (kf_ (fm_ (c :: r))).2))
  else if c == 34 then (if (txt r 1 []).2.2 = 0 then (⟨4, (txt r 1 []).1, 0, n⟩, n + (txt r 1 []).2.1, 0, 0) else (⟨4, [], 0, n⟩, 0, n + (txt r 1 []).2.1, (txt r 1 []).2.2))
  else if c == 64 then (if bk_ r = 0 then (noTok, 0, n, 1) else if bk_ r > 24 then (noTok, 0, n, 3) else (⟨6, r.take (bk_ r), 0, n⟩, n + 1 + bk_ r, 0, 0))
  else if bk_ (c :: r) > 24 then (noTok, 0, n, 3)
  else if bk_ (c :: r) > 0 ∧ kwL ((c :: r).take (bk_ (c :: r))) then (⟨2, (c :: r).take (bk_ (c :: r)), 0, n⟩, n + bk_ (c :: r), 0, 0)
  else if bk_ (c :: r) > 0 then (⟨1, (c :: r).take (bk_ (c :: r)), 0, n⟩, n + bk_ (c :: r), 0, 0)
  else if pu_ (c :: r) = 0 then (noTok, 0, n, 1)
  else (⟨5, (c :: r).take (pu_ (c :: r)), 0, n⟩, n + pu_ (c :: r), 0, 0)
abbrev oneV (p : Tok × Nat × Nat × Int) : V := .tu [p.1.V, int p.2.1, int p.2.2.1, int p.2.2.2]
theorem em_ (l : Bs) : DCalls Tryz.prog 102 [bc_ l] (boo (kwL l)) := x_rkeyword (mk l)
theorem x_one (l : Bs) (n : Nat) (hn : n < l.length) (hl : l.length ≤ 281474976710656) : DCalls Tryz.prog 58 [bc_ l, int n] (oneV (mc_ (l.drop n) n)) := by
 have hd := ao_ hn
 have hw1 : IntKind.i64.wrap ((n : Int) + 1) = ((n + 1 : Nat) : Int) := R_ oM
 refine sx Tryz.func58 kR ?_
 conv => whnf
 refine ⟨oM, _, bn_ hn, ?_⟩
 conv => whnf
 refine ⟨_, x_digit l[n], ?_⟩
 conv => whnf
 rintro (_ | _) h1
 rotate_left
 ·conv => whnf
  refine ⟨_, x_number l n hn h1 hl, ?_⟩
  rw [show numV n (fm_ (l.drop n)) = numV n (fm_ (l[n] :: l.drop (n + 1))) by rw [← hd]]
  have e : mc_ (l.drop n) n = if hl_ (fm_ (l[n] :: l.drop (n + 1))) = false then (⟨3, [], 0, n⟩, 0, n, 1) else (⟨3, [], (kf_ (fm_ (l[n] :: l.drop (n + 1)))).1, n⟩, n + (fm_ (l[n] :: l.drop (n + 1))).length, n, (kf_ (fm_ (l[n] :: l.drop (n + 1)))).2) := by
   rw [hd]; unfold mc_; simp only [h1, if_true]
  rw [e]
  unfold numV
  by_cases hB : hl_ (fm_ (l[n] :: l.drop (n + 1))) = false
  ·rw [if_pos hB, if_pos hB]
   (conv => whnf) <;> rfl
  ·rw [if_neg hB, if_neg hB]
   (conv => whnf) <;> rfl
 conv => whnf
 refine ⟨oM, _, bn_ hn, ?_⟩
 conv => whnf
 rintro (_ | _) h2
 rotate_left
 ·have h2' : l[n] = 34 := by have : (l[n] == 34) = true := by rw [cr_]; simp at *; omega
                             simpa using this
  have e : mc_ (l.drop n) n = if (txt (l.drop (n + 1)) 1 []).2.2 = 0 then (⟨4, (txt (l.drop (n + 1)) 1 []).1, 0, n⟩, n + (txt (l.drop (n + 1)) 1 []).2.1, 0, 0) else (⟨4, [], 0, n⟩, 0, n + (txt (l.drop (n + 1)) 1 []).2.1, (txt (l.drop (n + 1)) 1 []).2.2) := by
   rw [hd, h2']; unfold mc_; rfl
  rw [e]
  conv => whnf
  refine ⟨_, x_rtext l n hn oM, ?_⟩
  unfold rtxV
  by_cases hB : (txt (l.drop (n + 1)) 1 []).2.2 = 0
  ·rw [if_pos hB, if_pos hB]
   (conv => whnf) <;> rfl
  ·rw [if_neg hB, if_neg hB]
   (conv => whnf) <;> rfl
 have h2' : (l[n] == 34) = false := by rw [cr_]; simp at *; omega
 conv => whnf
 refine ⟨oM, _, bn_ hn, ?_⟩
 conv => whnf
 rintro (_ | _) h3
 rotate_left
 ·have h3' : l[n] = 64 := by have : (l[n] == 64) = true := by rw [cr_]; simp at *; omega
                             simpa using this
  have hrl := hh_ (l.drop (n + 1))
  rw [p_] at hrl
  have e : mc_ (l.drop n) n = if bk_ (l.drop (n + 1)) = 0 then (noTok, 0, n, 1) else if bk_ (l.drop (n + 1)) > 24 then (noTok, 0, n, 3) else (⟨6, (l.drop (n + 1)).take (bk_ (l.drop (n + 1))), 0, n⟩, n + 1 + bk_ (l.drop (n + 1)), 0, 0) := by
   rw [hd, h3']; unfold mc_; rfl
  rw [e]
  conv => whnf
  rw [hw1]
  refine ⟨_, x_rrun l (n + 1) oM oM, ?_⟩
  conv => whnf
  rw [hw1]
  rintro (_ | _) h4
  rotate_left
  ·simp at h4
   rw [if_pos oM]
   (conv => whnf) <;> rfl
  simp at h4
  rw [if_neg oM]
  have hw25 : IntKind.i64.wrap (((n + 1 : Nat) : Int) + 24) = ((n + 1 + 24 : Nat) : Int) := by rw [A_ _ oM]; rfl
  conv => whnf
  rw [hw1, hw25]
  rintro (_ | _) h5
  rotate_left
  ·simp at h5
   rw [if_pos oM]
   (conv => whnf) <;> rfl
  simp at h5
  rw [if_neg oM]
  conv => whnf
  rw [hw1]
  refine ⟨oM, oM, by rw [P_]; omega, ?_⟩
  rw [jz_ l (n + 1)]
  (conv => whnf) <;> rfl
 have h3' : (l[n] == 64) = false := by rw [cr_]; simp at *; omega
 have e : mc_ (l.drop n) n = if bk_ (l.drop n) > 24 then (noTok, 0, n, 3)
  else if bk_ (l.drop n) > 0 ∧ kwL ((l.drop n).take (bk_ (l.drop n))) then (⟨2, (l.drop n).take (bk_ (l.drop n)), 0, n⟩, n + bk_ (l.drop n), 0, 0)
  else if bk_ (l.drop n) > 0 then (⟨1, (l.drop n).take (bk_ (l.drop n)), 0, n⟩, n + bk_ (l.drop n), 0, 0)
  else if pu_ (l.drop n) = 0 then (noTok, 0, n, 1)
  else (⟨5, (l.drop n).take (pu_ (l.drop n)), 0, n⟩, n + pu_ (l.drop n), 0, 0) := by
  rw [hd]; unfold mc_; simp only [h1, h2', h3', y_, if_false]
 rw [e]
 have hrl := hh_ (l.drop n)
 rw [p_] at hrl
 conv => whnf
 refine ⟨_, x_rrun l n oM oM, ?_⟩
 have hw24 : IntKind.i64.wrap ((n : Int) + 24) = ((n + 24 : Nat) : Int) := by rw [A_ _ oM]; rfl
 conv => whnf
 rw [hw24]
 rintro (_ | _) h4
 rotate_left
 ·simp at h4
  rw [if_pos oM]
  (conv => whnf) <;> rfl
 simp at h4
 rw [if_neg oM]
 conv => whnf
 rintro (_ | _) h5
 ·simp at h5
  rw [if_neg oM, if_neg oM]
  conv => whnf
  refine Q_ false sO ?_
  conv => whnf
  refine ⟨_, x_rsym l n hn hl, ?_⟩
  conv => whnf
  rintro (_ | _) h6
  ·simp at h6
   have hsl : pu_ (l.drop n) ≤ l.length - n := by
    unfold pu_
    rw [p_]
    split
    ·omega
    ·split <;> omega
   rw [if_neg oM]
   conv => whnf
   refine ⟨oM, oM, by rw [P_]; omega, ?_⟩
   rw [jz_ l n]
   (conv => whnf) <;> rfl
  ·simp at h6
   rw [if_pos oM]
   (conv => whnf) <;> rfl
 simp at h5
 conv => whnf
 refine ⟨oM, oM, by rw [P_]; omega, ?_⟩
 rw [jz_ l n]
 conv => whnf
 refine ⟨_, em_ _, ?_⟩
 conv => whnf
 rintro (_ | _) h6
 ·rw [if_neg (by rw [h6]; simp), if_pos oM]
  conv => whnf
  refine Q_ true sO ?_
  conv => whnf
  refine ⟨oM, oM, by rw [P_]; omega, ?_⟩
  rw [jz_ l n]
  (conv => whnf) <;> rfl
 ·rw [if_pos ⟨oM, h6⟩]
  conv => whnf
  refine ⟨oM, oM, by rw [P_]; omega, ?_⟩
  rw [jz_ l n]
  (conv => whnf) <;> rfl
end
end Go.Proofs.YtglndfgmlminpaaGreatDoor
