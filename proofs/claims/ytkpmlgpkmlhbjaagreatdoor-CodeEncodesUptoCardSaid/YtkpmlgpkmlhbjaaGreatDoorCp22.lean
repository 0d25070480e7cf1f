/- Texts joined by pack.py: XCd15 XLxP0 XLxP1 XLxP2 -/
import Derived.Test.YtkpmlgpkmlhbjaaGreatDoorCp21
import Derived.Test.YtkpmlgpkmlhbjaaGreatDoorCp18
import Derived.LoopN
import Derived.Test.YtkpmlgpkmlhbjaaGreatDoorCp20
namespace Go.Proofs.YtkpmlgpkmlhbjaaGreatDoor
open Go.RowKit
set_option maxHeartbeats 1000000 in
theorem closed_nil (A : Option Addr) (cap : Nat) (w : World) : Calls Tryz.prog 221 #[.slice A 0 cap] w fun e w' => e = .returned (.slice A 0 cap) ∧ w' = w := by
  go_enter Tryz.func221, Tryz.ntmps221
  go_wp2
  refine wp_loop_rounds 1 ?_
  rw [rounds_succ]
  go_wp2
  go_ret
  exact ⟨rfl, rfl⟩
theorem x_closed : DCalls Tryz.prog 221 [.sl true 5 []] (.sl true 5 []) := by
  refine ⟨⟨_, Tryz.func221, by kernel_rfl, by kernel_rfl⟩, fun w vs hi hvs => ?_⟩
  obtain ⟨v0, rfl⟩ : ∃ v0, vs = [v0] := by
    have := hvs.1
    match vs, this with
    | [a], _ => exact ⟨a, rfl⟩
  have r0 := hvs.2 0 _ rfl
  simp only [List.getD_eq_getElem?_getD, List.getElem?_cons_zero, Option.getD_some] at r0
  cases r0
  rename_i hr
  cases hr with
  | nil _ A cap =>
    refine (closed_nil A cap w).mono ?_
    rintro e w' ⟨rfl, rfl⟩
    exact ⟨_, rfl, .sl _ _ _ _ (.nil _ _ _), Below.refl _ _⟩
  | sl _ _ b o' cap u hS hx hcap hc hd =>
    refine (closed_nil (some ⟨b, o', none⟩) cap w).mono ?_
    rintro e w' ⟨rfl, rfl⟩
    exact ⟨_, rfl, .sl _ _ _ _ (.nil _ _ _), Below.refl _ _⟩
set_option maxHeartbeats 2000000 in
set_option maxRecDepth 100000 in
theorem x_vtext (l : Bs) (hl : l.length ≤ 281474976710656) : DCalls Tryz.prog 231 [bstr l] (boo (okB l)) := by
  refine sx Tryz.func231 (by kernel_rfl) ?_
  conv => whnf
  refine ⟨[], Nat, fun k => [(6, int k)], fun _ => [], fun k => k ≤ l.length ∧ okB (l.drop k) = okB l, fun k => l.length - k, 0, ⟨Nat.zero_le _, rfl⟩, ?_, ?_⟩
  · refine ⟨rfl, ?_, ?_⟩ <;> repeat' (first | exact trivial | exact rfl | refine and_rfl ?_ | refine and_two ?_ ?_)
  rintro k ⟨hk1, hk⟩
  conv => whnf
  rintro (_ | _) h2
  · have h2 : l.length ≤ k := by simp [mk_size] at h2; omega
    rw [List.drop_eq_nil_of_le h2] at hk
    rw [← hk]
    (conv => whnf) <;> rfl
  have h2 : k < l.length := by simp [mk_size] at h2; omega
  have hw : IntKind.i64.wrap (((k : Nat) : Int) + 1) = ((k + 1 : Nat) : Int) := wrap_succ (by omega)
  rw [drop_cons h2] at hk
  conv => whnf
  refine ⟨by omega, _, mk_at h2, ?_⟩
  conv => whnf
  rintro (_ | _) h3
  rotate_left
  · rw [show okB l = false by rw [← hk]; unfold okB; rw [List.all_cons, rangeB]; simp at *; omega]
    (conv => whnf) <;> rfl
  conv => whnf
  refine ⟨by omega, _, mk_at h2, ?_⟩
  conv => whnf
  rintro (_ | _) h4
  rotate_left
  · rw [show okB l = false by rw [← hk]; unfold okB; rw [List.all_cons, rangeB]; simp at *; omega]
    (conv => whnf) <;> rfl
  have hr : (!(decide (l[k] < 32) || decide (l[k] > 126))) = true := by rw [rangeB]; simp at *; omega
  have hk : okB (l.drop (k + 1)) = okB l := by rw [← hk]; unfold okB; rw [List.all_cons, hr]; rfl
  conv => whnf
  refine ⟨k + 1, ⟨h2, hk⟩, by dsimp only; omega, ?_⟩
  refine ⟨rfl, ?_, ?_⟩ <;> repeat' (first | exact trivial | exact rfl | refine and_rfl ?_ | refine and_val hw ?_ | refine and_two ?_ ?_)
def qlen (l : Bs) : Int := IntKind.i64.wrap (IntKind.i64.wrap (IntKind.i64.wrap ((l.length : Nat) + 2 : Int) + (l.count 34 : Nat)) + (l.count 92 : Nat))
set_option maxHeartbeats 2000000 in
set_option maxRecDepth 100000 in
theorem x_vquoted (l : Bs) : DCalls Tryz.prog 219 [bstr l] (int (qlen l)) := by
  refine sx Tryz.func219 (by kernel_rfl) ?_
  conv => whnf
  refine ⟨_, x_count (mk l) 34, ?_⟩
  conv => whnf
  refine ⟨_, x_count (mk l) 92, ?_⟩
  conv => whnf
  rw [mk_size]
  rfl
theorem qlen_eq (l : Bs) (hl : l.length ≤ 281474976710656) : qlen l = ((l.length + 2 + l.count 34 + l.count 92 : Nat) : Int) := by
  have hc := List.count_le_length (a := 34) (l := l)
  have hd := List.count_le_length (a := 92) (l := l)
  unfold qlen
  rw [IntWalk.i64_in ((l.length : Nat) + 2 : Int) (by omega), IntWalk.i64_in (_ + ((l.count 34 : Nat) : Int)) (by omega), IntWalk.i64_in _ (by omega)]
  omega
def strC (l : Bs) : List D := [.cv (.int .i64 4), .cv (.int .i64 0), .cv (.string (mk l)), .cv (.int .i64 0)]
abbrev strCV (l : Bs) : V := .ag [int 4, int 0, bstr l, int 0]
set_option maxHeartbeats 2000000 in
set_option maxRecDepth 100000 in
theorem x_vplain (l : Bs) (hl : l.length ≤ 281474976710656) : DCalls Tryz.prog 218 [strCV l] (boo (okB l)) := by
  refine sx Tryz.func218 (by kernel_rfl) ?_
  iterate 3 ((conv => whnf); refine known false rfl ?_)
  iterate 3 ((conv => whnf); refine known true rfl ?_)
  conv => whnf
  refine ⟨_, x_vtext l hl, ?_⟩
  (conv => whnf) <;> rfl
set_option maxHeartbeats 2000000 in
set_option maxRecDepth 100000 in
theorem x_vsize (l : Bs) : DCalls Tryz.prog 220 [strCV l] (int (qlen l)) := by
  refine sx Tryz.func220 (by kernel_rfl) ?_
  iterate 3 ((conv => whnf); refine known false rfl ?_)
  conv => whnf
  refine known true rfl ?_
  conv => whnf
  refine ⟨_, x_vquoted l, ?_⟩
  (conv => whnf) <;> rfl
abbrev lookV (l : Bs) : V := if okB l = true then .tu [int 1, .ag [int 1, int (qlen l), boo false, boo (decide (l.length > 200))], boo true] else .tu [int 0, .ag [int 0, int 0, boo false, boo false], boo false]
set_option maxHeartbeats 2000000 in
set_option maxRecDepth 100000 in
theorem x_vlook (f : Bool) (l : Bs) (hl : l.length ≤ 281474976710656) : DCalls Tryz.prog 208 [.sl f 4 [strC l]] (lookV l) := by
  refine sx Tryz.func208 (by kernel_rfl) ?_
  conv => whnf
  refine ⟨[], Unit, fun _ => [(13, int 0), (6, .cv (.slice none 0 0))], fun _ => [(3, some (.box [int 0, int 0, boo false, boo false])), (5, some (.box [int 0, int 0, boo false, boo false]))], fun _ => True, fun _ => 0, (), trivial, ?_, ?_⟩
  · refine ⟨rfl, ?_, ?_⟩ <;> repeat' (first | exact trivial | exact rfl | refine and_rfl ?_ | refine and_two ?_ ?_)
  rintro _ _
  conv => whnf
  refine known true rfl ?_
  conv => whnf
  refine ⟨by omega, _, rfl, ?_⟩
  conv => whnf
  refine ⟨_, x_vplain l hl, ?_⟩
  conv => whnf
  rintro (_ | _) h1
  rotate_left
  · have h1 : okB l = false := by simpa using h1
    unfold lookV
    rw [h1, if_neg (by simp)]
    conv => whnf
    refine ⟨none, by kernel_rfl, ?_⟩
    (conv => whnf) <;> rfl
  have h1 : okB l = true := by simpa using h1
  unfold lookV
  rw [if_pos h1]
  repeat ((conv => whnf); first | refine known true rfl ?_ | refine known false rfl ?_ | refine ⟨_, x_vsize l, ?_⟩ | refine ⟨none, by kernel_rfl, ?_⟩)
  conv => whnf
  refine ⟨_, x_closed, ?_⟩
  conv => whnf
  refine known true rfl ?_
  conv => whnf
  refine ⟨none, by kernel_rfl, ?_⟩
  conv => whnf
  have hq := qlen_eq l hl
  have hc := List.count_le_length (a := 34) (l := l)
  have hd := List.count_le_length (a := 92) (l := l)
  rw [show IntKind.i64.wrap (0 + qlen l) = qlen l by rw [Int.zero_add, IntWalk.i64_in _ (by omega)], mk_size]
  have e : decide (((l.length : Nat) : Int) > 200) = decide (l.length > 200) := by rw [Bool.eq_iff_iff]; simp; omega
  rw [e]
  rfl
def strE (l : Bs) : Int := if okB l then if l.length ≤ 200 then 0 else 3 else 1
theorem strE0 (l : Bs) : (strE l = 0) ↔ contB l = true := by
  rw [contB_okB]; unfold strE
  cases okB l <;> simp
set_option maxHeartbeats 2000000 in
set_option maxRecDepth 100000 in
theorem x_vcheck (l : Bs) (hl : l.length ≤ 281474976710656) : DCalls Tryz.prog 195 [.sl true 4 [strC l]] (int (strE l)) := by
  have hL := x_vlook true l hl
  have hq := qlen_eq l hl
  have hc := List.count_le_length (a := 34) (l := l)
  have hd := List.count_le_length (a := 92) (l := l)
  unfold lookV at hL
  refine sx Tryz.func195 (by kernel_rfl) ?_
  cases h : okB l with
  | false =>
    rw [h, if_neg (by simp)] at hL
    conv => whnf
    refine ⟨_, hL, ?_⟩
    conv => whnf
    refine known true rfl ?_
    conv => whnf
    rw [show strE l = 1 by unfold strE; rw [h]; rfl]
  | true =>
    rw [h, if_pos rfl] at hL
    conv => whnf
    refine ⟨_, hL, ?_⟩
    conv => whnf
    refine known false rfl ?_
    conv => whnf
    refine known false rfl ?_
    conv => whnf
    refine known false rfl ?_
    by_cases h2 : l.length ≤ 200
    · rw [show strE l = 0 by unfold strE; rw [h, if_pos rfl, if_pos h2]]
      conv => whnf
      refine known false (by simp; omega) ?_
      conv => whnf
      refine known false rfl ?_
      conv => whnf
      refine known false rfl ?_
      conv => whnf
      refine known false (by simp; omega) ?_
      (conv => whnf) <;> rfl
    · rw [show strE l = 3 by unfold strE; rw [h, if_pos rfl, if_neg h2]]
      conv => whnf
      refine known true (by simp; omega) ?_
      (conv => whnf) <;> rfl
abbrev strEV (l : Bs) : V := if strE l = 0 then .tu [.un, int 0] else .tu [.sl true 4 [], int (strE l)]
set_option maxHeartbeats 2000000 in
set_option maxRecDepth 100000 in
theorem x_vchecked (l : Bs) (hl : l.length ≤ 281474976710656) : DCalls Tryz.prog 175 [.sl true 4 [strC l]] (strEV l) := by
  refine sx Tryz.func175 (by kernel_rfl) ?_
  conv => whnf
  refine ⟨_, x_vcheck l hl, ?_⟩
  conv => whnf
  rintro (_ | _) h
  · have h : strE l = 0 := by simpa using h
    unfold strEV
    rw [if_pos h]
    conv => whnf
  · have h : strE l ≠ 0 := by simpa using h
    unfold strEV
    rw [if_neg h]
    (conv => whnf) <;> rfl
set_option maxHeartbeats 2000000 in
set_option maxRecDepth 100000 in
theorem x_vstr (l : Bs) (hl : l.length ≤ 281474976710656) : DCalls Tryz.prog 152 [bstr l] (strEV l) := by
  have hL := x_vchecked l hl
  refine sx Tryz.func152 (by kernel_rfl) ?_
  unfold strEV at *
  by_cases h : strE l = 0
  · rw [if_pos h] at *
    conv => whnf
    refine ⟨_, hL, ?_⟩
    (conv => whnf) <;> rfl
  · rw [if_neg h] at *
    conv => whnf
    refine ⟨_, hL, ?_⟩
    (conv => whnf) <;> rfl
set_option maxHeartbeats 2000000 in
set_option maxRecDepth 100000 in
theorem x_ctext (l : Bs) (hl : l.length ≤ 281474976710656) : DCalls Tryz.prog 119 [bstr l] (boo (contB l)) := by
  have hL := x_vstr l hl
  refine sx Tryz.func119 (by kernel_rfl) ?_
  unfold strEV at hL
  by_cases h : strE l = 0
  · rw [if_pos h] at hL
    conv => whnf
    refine ⟨_, hL, ?_⟩
    rw [(strE0 l).mp h]
    (conv => whnf) <;> rfl
  · rw [if_neg h] at hL
    conv => whnf
    refine ⟨_, hL, ?_⟩
    conv => whnf
    rw [show (strE l == 0) = contB l by rw [Bool.eq_iff_iff, ← strE0]; simp]
end Go.Proofs.YtkpmlgpkmlhbjaaGreatDoor
namespace Go.Proofs.YtkpmlgpkmlhbjaaGreatDoor
open Go.RowKit
theorem dval_snoc : ∀ (l : Bs) (c : UInt8) (n : Nat), dval (l ++ [c]) n = 10 * dval l n + (c.toNat - 48)
  | [], c, n => rfl
  | d :: l, c, n => by simp only [List.cons_append, dval]; exact dval_snoc l c _
theorem ofNat_dig {c : UInt8} (h : isDg c = true) : UInt8.ofNat (48 + (c.toNat - 48)) = c := by
  have h1 := dg_int h
  rw [show 48 + (c.toNat - 48) = c.toNat by omega]
  exact UInt8.ofNat_toNat
theorem decDigits_dval : ∀ (k : Nat) (d : Bs), d.length = k + 1 → (∀ c ∈ d, isDg c = true) → (1 < d.length → d.head? ≠ some 48) → Lib.decDigits (dval d 0) = d ∧ (1 < d.length → 1 ≤ dval d 0) ∧ (d.head? ≠ some 48 → 1 ≤ dval d 0)
  | 0, d, hk, hd, _ => by
    obtain ⟨c, rfl⟩ : ∃ c, d = [c] := List.length_eq_one_iff.1 hk
    have hc := hd c (by simp)
    have h1 := dg_int hc
    have hv : dval [c] 0 = c.toNat - 48 := by simp [dval]
    refine ⟨?_, by simp, fun h => ?_⟩
    · rw [hv, decDigits_lt (by omega), ofNat_dig hc]
    · rw [hv]
      have : c ≠ 48 := by simpa using h
      have : c.toNat ≠ 48 := fun e => this (UInt8.toNat_inj.1 (by rw [e]; rfl))
      omega
  | k + 1, d, hk, hd, h0 => by
    obtain ⟨e, c, rfl⟩ : ∃ e c, d = e ++ [c] := ⟨d.dropLast, d.getLast (by intro h; rw [h] at hk; simp at hk), (List.dropLast_concat_getLast _).symm⟩
    have hke : e.length = k + 1 := by simpa using hk
    have hc := hd c (by simp)
    have h1 := dg_int hc
    have hh : (e ++ [c]).head? = e.head? := by cases e with
      | nil => simp at hke
      | cons a b => rfl
    have hne : e.head? ≠ some 48 := by rw [← hh]; exact h0 (by simp; omega)
    obtain ⟨i1, i2, i3⟩ := decDigits_dval k e hke (fun x hx => hd x (by simp [hx])) (fun _ => hne)
    have := i3 hne
    refine ⟨?_, fun _ => ?_, fun _ => ?_⟩
    · rw [dval_snoc, decDigits_ge (by omega), show (10 * dval e 0 + (c.toNat - 48)) / 10 = dval e 0 by omega, i1, show (10 * dval e 0 + (c.toNat - 48)) % 10 = c.toNat - 48 by omega, ofNat_dig hc]
    · rw [dval_snoc]; omega
    · rw [dval_snoc]; omega
theorem itoa_dval {d : Bs} (h : digs d) (h0 : decB d = true) : Lib.itoa (dval d 0 : Int) = d := by
  obtain ⟨h1, h2⟩ := h
  have hl : d.length ≠ 0 := by simpa using h1
  rw [Lib.itoa_nonneg]
  refine (decDigits_dval (d.length - 1) d (by omega) h2 fun h3 h4 => ?_).1
  unfold decB at h0
  rw [h4] at h0
  simp at h0
  rw [h0] at h3
  simp at h3
theorem toNat_dig {n : Nat} (h : n < 10) : (UInt8.ofNat (48 + n)).toNat = 48 + n := by
  rw [UInt8.toNat_ofNat']; omega
theorem isDg_dig {n : Nat} (h : n < 10) : isDg (UInt8.ofNat (48 + n)) = true := by
  rw [isDg_int, toNat_dig h]; simp; omega
theorem decDigits_all : ∀ n : Nat, dval (Lib.decDigits n) 0 = n ∧ (∀ c ∈ Lib.decDigits n, isDg c = true) ∧ ((Lib.decDigits n).head? = some 48 → n = 0) := by
  intro n
  induction n using Nat.strongRecOn with
  | ind n ih =>
    by_cases h : n < 10
    · rw [decDigits_lt h]
      refine ⟨by simp only [dval, toNat_dig h]; omega, by simpa using isDg_dig h, fun e => ?_⟩
      simp only [List.head?_cons, Option.some.injEq] at e
      have := congrArg UInt8.toNat e
      rw [toNat_dig h] at this
      have h48 : (48 : UInt8).toNat = 48 := rfl
      omega
    · obtain ⟨i1, i2, i3⟩ := ih (n / 10) (by omega)
      rw [decDigits_ge (by omega)]
      refine ⟨by rw [dval_snoc, i1, toNat_dig (by omega)]; omega, fun c hc => ?_, fun e => ?_⟩
      · rcases List.mem_append.1 hc with hc | hc
        · exact i2 c hc
        · rw [List.mem_singleton.1 hc]; exact isDg_dig (by omega)
      · have hne := decDigits_ne (n / 10)
        have : (Lib.decDigits (n / 10)).head? = some 48 := by
          rw [← e]
          cases hx : Lib.decDigits (n / 10) with
          | nil => exact absurd hx hne
          | cons a b => rfl
        have := i3 this
        omega
theorem digs_itoa (n : Nat) : digs (Lib.decDigits n) := ⟨decDigits_ne n, (decDigits_all n).2.1⟩
theorem pnum_itoa {n : Nat} (h : n ≤ 1000000000000) : pnum (Lib.decDigits n) = ((n : Int), 0) := by
  obtain ⟨h1, h2, h3⟩ := decDigits_all n
  unfold pnum
  rw [if_neg, h1, if_neg (by omega)]
  rintro ⟨h4, h5⟩
  have := h3 h5
  subst this
  rw [decDigits_lt (by omega)] at h4
  simp at h4
def sep (r : Bs) : Prop := ∀ c, r.head? = some c → isBl c = true
theorem sep_nil : sep [] := fun _ h => by cases h
theorem bl_cases {c : UInt8} (h : isBl c = true) : c = 32 ∨ c = 9 ∨ c = 10 := by
  unfold isBl at h; simp at h; rcases h with (h | h) | h <;> simp [h]
theorem bl_hd {c : UInt8} (h : isBl c = true) : isHd c = false := by rcases bl_cases h with rfl | rfl | rfl <;> rfl
theorem bl_dg {c : UInt8} (h : isBl c = true) : isDg c = false := by rcases bl_cases h with rfl | rfl | rfl <;> rfl
theorem runT_app : ∀ (x r : Bs), runT x = x.length → sep r → runT (x ++ r) = x.length
  | [], r, _, hr => by
    cases r with
    | nil => rfl
    | cons c r =>
      have := hr c rfl
      simp [runT, bl_hd this, bl_dg this]
  | c :: x, r, h, hr => by
    simp only [runT, List.length_cons] at h
    split at h
    · rename_i hc
      simp only [List.cons_append, runT, hc, if_true, List.length_cons]
      rw [runT_app x r (by omega) hr]
    · omega
theorem runL_app {x r : Bs} (h0 : x ≠ []) (h : runL x = x.length) (hr : sep r) : runL (x ++ r) = x.length := by
  cases x with
  | nil => exact absurd rfl h0
  | cons c x =>
    simp only [runL, List.length_cons] at h
    split at h
    · rename_i hc
      simp only [List.cons_append, runL, hc, if_true, List.length_cons]
      rw [runT_app x r (by omega) hr]
    · omega
theorem runT_take : ∀ l : Bs, runT (l.take (runT l)) = runT l
  | [] => rfl
  | c :: l => by
    simp only [runT]
    split
    · rename_i h; simp only [List.take_succ_cons, runT, h, if_true, runT_take l]
    · rfl
theorem runL_take (l : Bs) : runL (l.take (runL l)) = runL l := by
  cases l with
  | nil => rfl
  | cons c l =>
    cases h : isHd c with
    | true => simp only [runL, h, if_true, List.take_succ_cons, runT_take l]
    | false => simp only [runL, h, Bool.false_eq_true, if_false, List.take_zero]
theorem whole_take {l : Bs} (h1 : 1 ≤ runL l) (h2 : runL l ≤ 24) : wholeB (l.take (runL l)) = true := by
  have hl := runL_le l
  have h3 : (l.take (runL l)).length = runL l := by rw [List.length_take]; omega
  unfold wholeB
  rw [runL_take, h3]
  have : (l.take (runL l)).isEmpty = false := by
    cases hx : l.take (runL l) with
    | nil => rw [hx] at h3; simp at h3; omega
    | cons a b => rfl
  simp [this, h2]
theorem whole_elim {x : Bs} (h : wholeB x = true) : x ≠ [] ∧ runL x = x.length ∧ x.length ≤ 24 := by
  unfold wholeB at h; simp at h
  exact ⟨h.1.1, h.1.2, h.2⟩
theorem digL_app : ∀ (x r : Bs), (∀ c ∈ x, isDg c = true) → sep r → digL (x ++ r) = x.length
  | [], r, _, hr => by
    cases r with
    | nil => rfl
    | cons c r => have := hr c rfl; simp [digL, bl_dg this]
  | c :: x, r, h, hr => by
    simp only [List.cons_append, digL, h c (by simp), if_true, List.length_cons]
    rw [digL_app x r (fun d hd => h d (by simp [hd])) hr]
def kwS : List Bs := [[102, 117, 110, 99], [108, 101, 116], [105, 102], [101, 108, 115, 101], [119, 104, 105, 108, 101], [114, 101, 116, 117, 114, 110], [97, 110, 100], [111, 114], [110, 111, 116], [110, 117, 108, 108], [116, 114, 117, 101], [102, 97, 108, 115, 101]]
theorem kwL_any (l : Bs) : kwL l = kwS.any fun k => l == k := by
  unfold kwL kwB
  have : kws = kwS.map mk := rfl
  rw [this, List.any_map]
  congr 1
  funext k
  exact sEq_mk l k
theorem kwL_whole {x : Bs} (h : kwL x = true) : wholeB x = true := by
  rw [kwL_any, List.any_eq_true] at h
  obtain ⟨k, hk, he⟩ := h
  have he : x = k := by simpa using he
  subst he
  exact (show ∀ k ∈ kwS, wholeB k = true by decide) _ hk
def symS : List Bs := [[61, 61], [33, 61], [60, 61], [62, 61]] ++ sg.map fun c => [c]
theorem symB_mem {x : Bs} (h : symB x = true) : x ∈ symS := by
  by_cases hl : x.length = 2
  · unfold symB at h
    simp [hl] at h
    unfold symS
    rcases h with ((h | h) | h) | h <;> simp [h]
  · rw [sym_sg x hl, List.any_eq_true] at h
    obtain ⟨c, hc, he⟩ := h
    have he : x = [c] := by simpa using he
    subst he
    unfold symS
    exact List.mem_append_right _ (List.mem_map.2 ⟨c, hc, rfl⟩)
end Go.Proofs.YtkpmlgpkmlhbjaaGreatDoor
namespace Go.Proofs.YtkpmlgpkmlhbjaaGreatDoor
open Go.RowKit
theorem esc_cons (c : UInt8) (s : Bs) : esc (c :: s) = if sp c then 92 :: c :: esc s else c :: esc s := rfl
theorem sp_range {c : UInt8} (h : sp c = true) : (decide (c < 32) || decide (c > 126)) = false := by
  unfold sp at h; simp at h; rcases h with rfl | rfl <;> rfl
theorem okB_cons (c : UInt8) (s : Bs) : okB (c :: s) = (!(decide (c < 32) || decide (c > 126)) && okB s) := List.all_cons
theorem not_sp {c : UInt8} (h2 : c ≠ 34) (h3 : c ≠ 92) : sp c = false := by unfold sp; simp [h2, h3]
theorem txt_ok : ∀ (l : Bs) (i : Nat) (out : Bs), (txt l i out).2.2 = 0 → out.length ≤ 200 →
    ∃ s r, l = esc s ++ 34 :: r ∧ (txt l i out).1 = out ++ s ∧ (out ++ s).length ≤ 200 ∧ okB s = true ∧ (txt l i out).2.1 = i + (esc s).length + 1
  | [], i, out, h, _ => by simp [txt] at h
  | c :: l, i, out, h, ho => by
    by_cases h1 : (decide (c < 32) || decide (c > 126)) = true
    · rw [txt_bad h1] at h; simp at h
    have h1 : (decide (c < 32) || decide (c > 126)) = false := by simpa using h1
    by_cases h2 : c = 34
    · subst h2
      rw [txt_end]
      exact ⟨[], l, rfl, by simp, by simpa using ho, rfl, rfl⟩
    by_cases h3 : c = 92
    · subst h3
      cases l with
      | nil => rw [txt_bs0] at h; simp at h
      | cons d l =>
        by_cases h4 : (d == 34 || d == 92) = true
        · rw [txt_bs2 h4] at h ⊢
          split at h
          · simp at h
          · rename_i h5
            rw [if_neg h5]
            obtain ⟨s, r, e1, e2, e3, e4, e5⟩ := txt_ok l (i + 2) (out ++ [d]) h (by simp; omega)
            have hs : sp d = true := h4
            refine ⟨d :: s, r, ?_, ?_, ?_, ?_, ?_⟩
            · rw [esc_cons, if_pos hs, e1]; rfl
            · rw [e2]; simp
            · simpa using e3
            · rw [okB_cons, sp_range hs, e4]; rfl
            · rw [e5, esc_cons, if_pos hs]; simp only [List.length_cons]; omega
        · rw [txt_bs1 (by simpa using h4)] at h; simp at h
    rw [txt_go h1 h2 h3] at h ⊢
    split at h
    · simp at h
    · rename_i h5
      rw [if_neg h5]
      obtain ⟨s, r, e1, e2, e3, e4, e5⟩ := txt_ok l (i + 1) (out ++ [c]) h (by simp; omega)
      have hs : ¬ sp c = true := by rw [not_sp h2 h3]; simp
      refine ⟨c :: s, r, ?_, ?_, ?_, ?_, ?_⟩
      · rw [esc_cons, if_neg hs, e1]; rfl
      · rw [e2]; simp
      · simpa using e3
      · rw [okB_cons, h1, e4]; rfl
      · rw [e5, esc_cons, if_neg hs]; simp only [List.length_cons]; omega
theorem txt_esc : ∀ (s : Bs) (i : Nat) (out r : Bs), okB s = true → (out ++ s).length ≤ 200 → txt (esc s ++ 34 :: r) i out = (out ++ s, i + (esc s).length + 1, 0)
  | [], i, out, r, _, _ => by rw [show esc [] ++ 34 :: r = 34 :: r from rfl, txt_end, List.append_nil]; rfl
  | c :: s, i, out, r, h, ho => by
    rw [okB_cons, Bool.and_eq_true] at h
    obtain ⟨h1, h2⟩ := h
    have h1 : (decide (c < 32) || decide (c > 126)) = false := by simpa using h1
    simp only [List.length_append, List.length_cons] at ho
    have hrec : ∀ j, txt (esc s ++ 34 :: r) j (out ++ [c]) = (out ++ [c] ++ s, j + (esc s).length + 1, 0) := fun j => txt_esc s j (out ++ [c]) r h2 (by simp; omega)
    rw [esc_cons]
    cases hs : sp c with
    | true =>
      rw [if_pos rfl]
      show txt (92 :: c :: (esc s ++ 34 :: r)) i out = _
      rw [txt_bs2 hs, if_neg (by omega), hrec]
      simp only [List.append_assoc, List.singleton_append, List.length_cons, Prod.mk.injEq, true_and, and_true]
      omega
    | false =>
      rw [if_neg (by simp)]
      show txt (c :: (esc s ++ 34 :: r)) i out = _
      have hn : c ≠ 34 ∧ c ≠ 92 := by unfold sp at hs; simpa using hs
      rw [txt_go h1 hn.1 hn.2, if_neg (by omega), hrec]
      simp only [List.append_assoc, List.singleton_append, List.length_cons, Prod.mk.injEq, true_and, and_true]
      omega
theorem tok1_text (c : UInt8) (r : Bs) (k : Int) (h : (tok1 (c :: r)).2.2 = 0) :
    textT { (tok1 (c :: r)).1 with at_ := k } = ((c :: r).take (tok1 (c :: r)).2.1, 0) ∧ (tok1 (c :: r)).1.at_ = 0 := by
  cases h1 : isHd c with
  | true =>
    have a := runL_pos (r := r) h1
    rw [tok1_hd h1] at h ⊢
    split at h
    · simp at h
    · rename_i h2; rw [if_neg h2]
      split
      · rename_i h3
        refine ⟨?_, rfl⟩
        show textT ⟨2, _, 0, k⟩ = _
        rw [te_word]; simp [h3]
      · rename_i h3
        refine ⟨?_, rfl⟩
        show textT ⟨1, _, 0, k⟩ = _
        rw [te_name]; simp [whole_take a (by omega), h3]
  | false =>
  cases h2 : isDg c with
  | true =>
    rw [tok1_dg h1 h2] at h ⊢
    split at h
    · rename_i h3; rw [if_pos h3]
      refine ⟨?_, rfl⟩
      have hd := digs_take (l := r) h2
      generalize (c :: r).take (digL (c :: r)) = d at h3 hd
      show textT ⟨3, [], (pnum d).1, k⟩ = _
      have hp := decB_pnum d hd
      rw [hp] at h3 ⊢
      split at h3
      · simp at h3
      · rename_i h4
        rw [if_neg h4]
        split at h3
        · simp at h3
        · rename_i h5
          rw [if_neg h5, te_int, if_pos, itoa_dval hd (by simpa using h4)]
          refine ⟨rfl, by simp, ?_⟩
          unfold validB; simp; omega
    · rename_i h3; exact absurd h h3
  | false =>
  cases h3 : (c == 34) with
  | true =>
    have : c = 34 := by simpa using h3
    subst this
    rw [tok1_qt] at h ⊢
    split at h
    · rename_i h4; rw [if_pos h4]
      obtain ⟨s, r', e1, e2, e3, e4, e5⟩ := txt_ok r 1 [] h4 (by simp)
      refine ⟨?_, rfl⟩
      show textT ⟨4, (txt r 1 []).1, 0, k⟩ = _
      rw [e2, e5, List.nil_append, te_str]
      have : contB s = true := by rw [contB_okB, e4]; simpa using e3
      rw [if_neg (by simp), if_pos this, e1, show 1 + (esc s).length + 1 = (esc s ++ [34]).length + 1 by simp; omega, List.take_succ_cons,
        show esc s ++ 34 :: r' = (esc s ++ [34]) ++ r' by simp, List.take_left']
      rfl
    · rename_i h4; exact absurd h h4
  | false =>
  cases h4 : (c == 64) with
  | true =>
    have : c = 64 := by simpa using h4
    subst this
    rw [tok1_at] at h ⊢
    split at h
    · simp at h
    · rename_i h5; rw [if_neg h5]
      split at h
      · simp at h
      · rename_i h6; rw [if_neg h6]
        refine ⟨?_, rfl⟩
        show textT ⟨6, _, 0, k⟩ = _
        rw [te_host]; simp [whole_take (l := r) (by omega) (by omega)]
  | false =>
    rw [tok1_sy h1 h2 h3 h4] at h ⊢
    split at h
    · rename_i h5; rw [if_pos h5]
      refine ⟨?_, rfl⟩
      show textT ⟨5, _, 0, k⟩ = _
      rw [te_sym, if_neg (by simp), if_pos h5.2]
    · rename_i h5; rw [if_neg h5]
      split at h
      · rename_i h6; rw [if_pos h6]
        refine ⟨?_, rfl⟩
        show textT ⟨5, _, 0, k⟩ = _
        rw [te_sym, if_neg (by simp), if_pos h6]
      · simp at h
theorem skip0 {c : UInt8} {l : Bs} (h1 : isBl c = false) (h2 : (c == 47 && l.head? == some 47) = false) : skip (c :: l) = 0 := by
  simp only [skip, skp, h1, h2, Bool.false_eq_true, if_false]
theorem hd_bl {c : UInt8} (h : isHd c = true) : isBl c = false ∧ (c == 47) = false := by
  constructor
  · cases hb : isBl c with
    | false => rfl
    | true => rw [bl_hd hb] at h; cases h
  · cases hb : c == 47 with
    | false => rfl
    | true => have : c = 47 := by simpa using hb
              subst this; cases h
theorem dg_bl {c : UInt8} (h : isDg c = true) : isBl c = false ∧ (c == 47) = false ∧ isHd c = false := by
  refine ⟨?_, ?_, ?_⟩
  · cases hb : isBl c with
    | false => rfl
    | true => rw [bl_dg hb] at h; cases h
  · cases hb : c == 47 with
    | false => rfl
    | true => have : c = 47 := by simpa using hb
              subst this; cases h
  · have h1 := dg_int h
    rw [isHd_int]; simp; omega
theorem symS_hd : ∀ x ∈ symS, isHd (x.headD 0) = false ∧ isDg (x.headD 0) = false ∧ (x.headD 0 == 34) = false ∧ (x.headD 0 == 64) = false ∧ isBl (x.headD 0) = false ∧ x ≠ [] ∧ (x.length = 1 ∨ (x.length = 2 ∧ (x.headD 0 == 47) = false)) := by decide
theorem symB_bl (c : UInt8) {b : UInt8} (h : isBl b = true) : symB [c, b] = false := by
  unfold symB
  rcases bl_cases h with rfl | rfl | rfl <;> simp
theorem text_tok1 (t : Tok) (x : Bs) (h : textT t = (x, 0)) (r : Bs) (hr : sep r) :
    x ≠ [] ∧ tok1 (x ++ r) = ({ t with at_ := 0 }, x.length, 0) ∧ skip (x ++ r) = 0 := by
  obtain ⟨K, l, v, a⟩ := t
  by_cases h1 : K = 1
  · subst h1
    rw [te_name] at h
    split at h
    · cases h
    rename_i hv
    split at h
    · rename_i hw
      have hx : l = x := congrArg Prod.fst h
      subst hx
      obtain ⟨w1, w2, w3⟩ := whole_elim hw.1
      have hra := runL_app w1 w2 hr
      cases l with
      | nil => exact absurd rfl w1
      | cons c l =>
        have hc : isHd c = true := by
          cases hc : isHd c with
          | true => rfl
          | false => simp [runL, hc] at w2
        have hv0 : v = 0 := by simpa using hv
        refine ⟨by simp, ?_, skip0 (hd_bl hc).1 (by rw [(hd_bl hc).2]; rfl)⟩
        rw [List.cons_append, tok1_hd hc, ← List.cons_append, hra, if_neg (by omega), List.take_left' rfl, if_neg (by rw [hw.2]; simp), hv0]
    · cases h
  by_cases h2 : K = 2
  · subst h2
    rw [te_word] at h
    split at h
    · cases h
    rename_i hv
    split at h
    · rename_i hw
      have hx : l = x := congrArg Prod.fst h
      subst hx
      obtain ⟨w1, w2, w3⟩ := whole_elim (kwL_whole hw)
      have hra := runL_app w1 w2 hr
      cases l with
      | nil => exact absurd rfl w1
      | cons c l =>
        have hc : isHd c = true := by
          cases hc : isHd c with
          | true => rfl
          | false => simp [runL, hc] at w2
        have hv0 : v = 0 := by simpa using hv
        refine ⟨by simp, ?_, skip0 (hd_bl hc).1 (by rw [(hd_bl hc).2]; rfl)⟩
        rw [List.cons_append, tok1_hd hc, ← List.cons_append, hra, if_neg (by omega), List.take_left' rfl, if_pos hw, hv0]
    · cases h
  by_cases h3 : K = 3
  · subst h3
    rw [te_int] at h
    split at h
    · rename_i hw
      obtain ⟨w1, w2, w3⟩ := hw
      have hx : Lib.itoa v = x := congrArg Prod.fst h
      obtain ⟨n, rfl⟩ : ∃ n : Nat, v = n := ⟨v.toNat, by omega⟩
      rw [Lib.itoa_nonneg] at hx
      subst hx
      have hl : l = [] := by simpa using w1
      subst hl
      have hn : n ≤ 1000000000000 := by unfold validB at w3; simp at w3; omega
      have hp := pnum_itoa hn
      obtain ⟨d1, d2⟩ := digs_itoa n
      have hda := digL_app _ r d2 hr
      cases hx : Lib.decDigits n with
      | nil => exact absurd hx d1
      | cons c x =>
        rw [hx] at hp d2 hda
        have hc := d2 c (by simp)
        have hb := dg_bl hc
        refine ⟨by simp, ?_, skip0 hb.1 (by rw [hb.2.1]; rfl)⟩
        rw [List.cons_append, tok1_dg hb.2.2 hc, ← List.cons_append, hda, List.take_left' rfl, hp, if_pos rfl]
    · cases h
  by_cases h4 : K = 4
  · subst h4
    rw [te_str] at h
    split at h
    · cases h
    rename_i hv
    split at h
    · rename_i hw
      have hx : 34 :: (esc l ++ [34]) = x := congrArg Prod.fst h
      subst hx
      have hv0 : v = 0 := by simpa using hv
      rw [contB_okB, Bool.and_eq_true, decide_eq_true_eq] at hw
      have he : (34 :: (esc l ++ [34])) ++ r = 34 :: (esc l ++ 34 :: r) := by simp
      rw [he]
      refine ⟨by simp, ?_, skip0 rfl rfl⟩
      rw [tok1_qt, txt_esc l 1 [] r hw.2 (by simpa using hw.1), if_pos rfl, hv0]
      simp only [List.nil_append, List.length_cons, List.length_append, List.length_nil, Prod.mk.injEq, true_and, and_true]
      omega
    · cases h
  by_cases h5 : K = 5
  · subst h5
    rw [te_sym] at h
    split at h
    · cases h
    rename_i hv
    split at h
    · rename_i hw
      have hx : l = x := congrArg Prod.fst h
      subst hx
      have hv0 : v = 0 := by simpa using hv
      obtain ⟨s1, s2, s3, s4, s5, s6, s7⟩ := symS_hd l (symB_mem hw)
      refine ⟨s6, ?_⟩
      match l, s1, s2, s3, s4, s5, s6, s7, hw with
      | [c], s1, s2, s3, s4, s5, s6, s7, hw =>
        simp only [List.headD_cons] at s1 s2 s3 s4 s5 s7
        rw [List.cons_append, List.nil_append]
        constructor
        · rw [tok1_sy s1 s2 s3 s4, if_neg, List.take_succ_cons, List.take_zero, if_pos hw, hv0]
          · rfl
          · rintro ⟨q1, q2⟩
            cases r with
            | nil => simp at q1
            | cons b r =>
              have := symB_bl c (hr b rfl)
              simp only [List.take_succ_cons, List.take_zero] at q2
              rw [this] at q2; cases q2
        · refine skip0 s5 ?_
          cases r with
          | nil => simp
          | cons b r =>
            have hb := hr b rfl
            have : (b == 47) = false := by rcases bl_cases hb with rfl | rfl | rfl <;> rfl
            have : b ≠ 47 := by simpa using this
            simp [this]
      | [c, d], s1, s2, s3, s4, s5, s6, s7, hw =>
        simp only [List.headD_cons] at s1 s2 s3 s4 s5 s7
        have s8 : (c == 47) = false := by
          rcases s7 with s7 | s7
          · simp at s7
          · exact s7.2
        show tok1 (c :: d :: r) = _ ∧ skip (c :: d :: r) = 0
        refine ⟨?_, skip0 s5 (by rw [s8]; rfl)⟩
        rw [tok1_sy s1 s2 s3 s4, if_pos ⟨by simp, by simpa using hw⟩, hv0]
        rfl
      | c :: d :: e :: l, s1, s2, s3, s4, s5, s6, s7, hw => simp at s7
    · cases h
  by_cases h6 : K = 6
  · subst h6
    rw [te_host] at h
    split at h
    · cases h
    rename_i hv
    split at h
    · rename_i hw
      have hx : 64 :: l = x := congrArg Prod.fst h
      subst hx
      have hv0 : v = 0 := by simpa using hv
      obtain ⟨w1, w2, w3⟩ := whole_elim hw
      have hra := runL_app w1 w2 hr
      have hl : l.length ≠ 0 := by simpa using w1
      refine ⟨by simp, ?_, skip0 rfl rfl⟩
      rw [List.cons_append, tok1_at, hra, if_neg hl, if_neg (by omega), List.take_left' rfl, hv0]
      rfl
    · cases h
  rw [te_no K l v a ⟨h1, h2, h3, h4, h5, h6⟩] at h
  cases h
end Go.Proofs.YtkpmlgpkmlhbjaaGreatDoor
namespace Go.Proofs.YtkpmlgpkmlhbjaaGreatDoor
open Go.RowKit
theorem skip_rest : ∀ (b : Bool) (l : Bs), skip (l.drop (skp b l)) = 0
  | _, [] => by simp [skip, skp]
  | false, c :: l => by
    cases h1 : isBl c with
    | true => simp only [skp, h1, if_true, List.drop_succ_cons]; exact skip_rest false l
    | false =>
      cases h2 : c == 47 && l.head? == some 47 with
      | true => simp only [skp, h1, h2, if_true, Bool.false_eq_true, if_false, List.drop_succ_cons]; exact skip_rest true l
      | false => simp only [skp, h1, h2, Bool.false_eq_true, if_false, List.drop_zero]
  | true, c :: l => by
    cases h1 : c == 10 with
    | true => simp only [skp, h1, if_true, List.drop_succ_cons]; exact skip_rest false l
    | false => simp only [skp, h1, Bool.false_eq_true, if_false, List.drop_succ_cons]; exact skip_rest true l
def LxR : Bs → Nat → List Tok → Prop
  | L, _, [] => L = []
  | L, k, t :: ts => ∃ n, L ≠ [] ∧ skip L = 0 ∧ 1 ≤ n ∧ n ≤ L.length ∧ tok1 L = ({ t with at_ := 0 }, n, 0) ∧ t.at_ = k ∧ LxR (L.drop (n + skip (L.drop n))) (k + n + skip (L.drop n)) ts
theorem toksF_Rd : ∀ (f : Nat) (L : Bs) (k : Nat) (out : List Tok), L.length ≤ f → skip L = 0 → (toksF f L k out).2.2 = 0 → ∃ ts, toksF f L k out = (out ++ ts, 0, 0) ∧ LxR L k ts
  | 0, L, k, out, hf, _, _ => by
    have : L = [] := List.length_eq_zero_iff.1 (by omega)
    subst this
    exact ⟨[], by simp [toksF], rfl⟩
  | f + 1, [], k, out, _, _, _ => ⟨[], by simp [toksF], rfl⟩
  | f + 1, c :: r, k, out, hf, hs, h => by
    rw [toksF_succ] at h ⊢
    split at h
    · simp at h
    rename_i h1
    rw [if_neg h1]
    split at h
    · rename_i h2
      rw [if_pos h2]
      obtain ⟨l1, l2⟩ := tok1_len c r h2
      obtain ⟨t1, t2⟩ := tok1_text c r k h2
      generalize ht : tok1 (c :: r) = T at h h2 l1 l2 t1 t2 ⊢
      obtain ⟨t0, n, e⟩ := T
      simp only at h h2 l1 l2 t1 t2 ⊢
      subst h2
      have hlen : ((c :: r).drop (n + skip ((c :: r).drop n))).length ≤ f := by simp only [List.length_drop, List.length_cons] at *; omega
      have hsk : skip ((c :: r).drop (n + skip ((c :: r).drop n))) = 0 := by rw [← List.drop_drop]; exact skip_rest false _
      obtain ⟨ts, e1, e2⟩ := toksF_Rd f _ _ _ hlen hsk h
      refine ⟨{ t0 with at_ := k } :: ts, by rw [e1]; simp, n, by simp, hs, l1, l2, ?_, rfl, e2⟩
      rw [ht]
      obtain ⟨a, b, d, g⟩ := t0
      simp only at t2
      subst t2
      rfl
    · rename_i h2; exact absurd h h2
theorem Rd_toksF : ∀ (ts : List Tok) (f : Nat) (L : Bs) (k : Nat) (out : List Tok), L.length ≤ f → LxR L k ts → out.length + ts.length ≤ 1000 → toksF f L k out = (out ++ ts, 0, 0)
  | [], f, L, k, out, _, h, _ => by
    have : L = [] := h
    subst this
    cases f <;> simp [toksF]
  | t :: ts, f, L, k, out, hf, h, ho => by
    obtain ⟨n, h1, h2, h3, h4, h5, h6, h7⟩ := h
    cases L with
    | nil => exact absurd rfl h1
    | cons c r =>
      cases f with
      | zero => simp at hf
      | succ f =>
        simp only [List.length_cons] at ho
        have hlen : ((c :: r).drop (n + skip ((c :: r).drop n))).length ≤ f := by simp only [List.length_drop, List.length_cons] at *; omega
        rw [toksF_succ, if_neg (by omega), h5, if_pos rfl]
        simp only
        rw [Rd_toksF ts f _ _ _ hlen h7 (by simp; omega)]
        simp only [List.append_assoc, List.singleton_append, Prod.mk.injEq, and_true]
        rw [← h6]
theorem tokens_Rd {s : Bs} (h : (tokens s).2.2 = 0) : ∃ ts, tokens s = (ts, 0, 0) ∧ s.length ≤ 4000 ∧ LxR (s.drop (skip s)) (skip s) ts := by
  unfold tokens at h ⊢
  split at h
  · simp at h
  · rename_i h1
    rw [if_neg h1]
    obtain ⟨ts, e1, e2⟩ := toksF_Rd s.length (s.drop (skip s)) (skip s) [] (by simp) (skip_rest false s) h
    exact ⟨ts, by rw [e1]; simp, by omega, e2⟩
theorem Rd_tokens {s : Bs} {ts : List Tok} (h1 : s.length ≤ 4000) (h2 : LxR (s.drop (skip s)) (skip s) ts) (h3 : ts.length ≤ 1000) : tokens s = (ts, 0, 0) := by
  unfold tokens
  rw [if_neg (by omega), Rd_toksF ts s.length _ _ [] (by simp) h2 (by simpa using h3)]
  simp
def own (s : Bs) : Nat → List Tok → Prop
  | _, [] => True
  | e, t :: ts => ∃ k : Nat, t.at_ = k ∧ (textT t).2 = 0 ∧ e ≤ k ∧ k + (textT t).1.length ≤ s.length ∧ (s.drop k).take (textT t).1.length = (textT t).1 ∧ own s (k + (textT t).1.length) ts
theorem own_le {s : Bs} {e e' : Nat} (he : e' ≤ e) : ∀ {ts : List Tok}, own s e ts → own s e' ts
  | [], _ => trivial
  | t :: ts, ⟨k, h1, h2, h3, h4⟩ => ⟨k, h1, h2, by omega, h4⟩
theorem Rd_own {s : Bs} : ∀ (ts : List Tok) (k : Nat), k ≤ s.length → LxR (s.drop k) k ts → own s k ts
  | [], k, _, _ => trivial
  | t :: ts, k, hk, ⟨n, h1, h2, h3, h4, h5, h6, h7⟩ => by
    have ht : textT t = ((s.drop k).take n, 0) := by
      cases hd : s.drop k with
      | nil => exact absurd hd h1
      | cons c r =>
        rw [hd] at h5
        have := (tok1_text c r 0 (by rw [h5])).1
        rw [h5] at this
        exact this
    rw [List.length_drop] at h4
    have hl : ((s.drop k).take n).length = n := by rw [List.length_take, List.length_drop]; omega
    rw [List.drop_drop] at h7
    have hz := skp_le false ((s.drop k).drop n)
    rw [List.length_drop, List.length_drop] at hz
    refine ⟨k, h6, by rw [ht], Nat.le_refl _, by rw [ht]; simp only [hl]; omega, by rw [ht]; simp only [hl], ?_⟩
    rw [ht]; simp only [hl]
    have h8 := Rd_own (s := s) ts (k + n + skip ((s.drop k).drop n)) (by unfold skip at *; omega) (by rw [show k + n + skip ((s.drop k).drop n) = k + (n + skip ((s.drop k).drop n)) by omega] at h7 ⊢; exact h7)
    exact own_le (by omega) h8
theorem toksF_err : ∀ (f : Nat) (L : Bs) (k : Nat) (out : List Tok), (toksF f L k out).2.2 ≠ 0 → (toksF f L k out).1 = [] ∧ (toksF f L k out).2.1 ≤ k + L.length
  | 0, L, k, out, h => by simp [toksF] at h
  | f + 1, [], k, out, h => by simp [toksF] at h
  | f + 1, c :: r, k, out, h => by
    rw [toksF_succ] at h ⊢
    split at h
    · rename_i h1; rw [if_pos h1]; exact ⟨rfl, by simp⟩
    rename_i h1
    rw [if_neg h1]
    split at h
    · rename_i h2
      rw [if_pos h2]
      obtain ⟨l1, l2⟩ := tok1_len c r h2
      obtain ⟨e1, e2⟩ := toksF_err f _ _ _ h
      refine ⟨e1, Nat.le_trans e2 ?_⟩
      have hz := skp_le false ((c :: r).drop (tok1 (c :: r)).2.1)
      rw [List.length_drop] at hz
      rw [List.length_drop]
      unfold skip
      omega
    · rename_i h2
      rw [if_neg h2]
      exact ⟨rfl, Nat.add_le_add_left (tok1_le' c r) k⟩
theorem tokens_err {s : Bs} (h : (tokens s).2.2 ≠ 0) : (tokens s).1 = [] ∧ (tokens s).2.1 ≤ s.length := by
  unfold tokens at h ⊢
  split at h
  · rename_i h1; rw [if_pos h1]; exact ⟨rfl, Nat.zero_le _⟩
  · rename_i h1
    rw [if_neg h1]
    obtain ⟨e1, e2⟩ := toksF_err _ _ _ _ h
    have := skp_le false s
    rw [List.length_drop] at e2
    simp only [skip] at *
    exact ⟨e1, by omega⟩
theorem tokens_own {s : Bs} (h : (tokens s).2.2 = 0) : own s 0 (tokens s).1 := by
  obtain ⟨ts, e1, e2, e3⟩ := tokens_Rd h
  rw [e1]
  exact own_le (Nat.zero_le _) (Rd_own ts (skip s) (skp_le false s) e3)
def placed : Nat → List Tok → List Tok
  | _, [] => []
  | k, t :: ts => { t with at_ := k } :: placed (k + (textT t).1.length + 1) ts
theorem placed_len : ∀ (k : Nat) (l : List Tok), (placed k l).length = l.length
  | _, [] => rfl
  | k, t :: ts => by simp only [placed, List.length_cons, placed_len _ ts]
theorem texts_ok {t : Tok} {l : List Tok} (h : (texts (t :: l)).2 = 0) : (textT t).2 = 0 ∧ (texts l).2 = 0 ∧ (texts (t :: l)).1 = (textT t).1 :: (texts l).1 := by
  rw [texts_cons] at h ⊢
  split at h
  · rename_i h1
    rw [if_pos h1]
    split at h
    · rename_i h2; rw [if_pos h2]; exact ⟨h1, h2, rfl⟩
    · rename_i h2; exact absurd h h2
  · rename_i h1; exact absurd h h1
theorem join_Rd : ∀ (l : List Tok) (k : Nat), (texts l).2 = 0 → LxR (joinSp (texts l).1) k (placed k l) ∧ skip (joinSp (texts l).1) = 0
  | [], k, _ => ⟨rfl, rfl⟩
  | [t], k, h => by
    obtain ⟨h1, h2, h3⟩ := texts_ok h
    rw [h3]
    obtain ⟨x1, x2, x3⟩ := text_tok1 t (textT t).1 (by rw [← h1]) [] sep_nil
    rw [List.append_nil] at x2 x3
    show LxR (textT t).1 k (placed k [t]) ∧ skip (textT t).1 = 0
    have hl : (textT t).1.length ≠ 0 := by simpa using x1
    exact ⟨⟨(textT t).1.length, x1, x3, by omega, Nat.le_refl _, x2, rfl, by
      rw [List.drop_eq_nil_of_le (by omega)]; rfl⟩, x3⟩
  | t :: u :: ts, k, h => by
    obtain ⟨h1, h2, h3⟩ := texts_ok h
    obtain ⟨g1, g2, g3⟩ := texts_ok h2
    obtain ⟨r1, r2⟩ := join_Rd (u :: ts) (k + (textT t).1.length + 1) h2
    have hj : joinSp (texts (t :: u :: ts)).1 = (textT t).1 ++ 32 :: joinSp (texts (u :: ts)).1 := by rw [h3, g3]; rfl
    rw [hj]
    generalize hJ : joinSp (texts (u :: ts)).1 = J at *
    obtain ⟨x1, x2, x3⟩ := text_tok1 t (textT t).1 (by rw [← h1]) (32 :: J) (fun c hc => by simp at hc; subst hc; rfl)
    have hl : (textT t).1.length ≠ 0 := by simpa using x1
    have hs : skip (32 :: J) = 1 := by
      show skp false (32 :: J) = 1
      simp only [skp, show isBl 32 = true from rfl, if_true]
      show skip J + 1 = 1
      rw [r2]
    refine ⟨⟨(textT t).1.length, by simp, x3, by omega, by simp, x2, rfl, ?_⟩, x3⟩
    rw [List.drop_left' rfl, hs, ← List.drop_drop, List.drop_left' rfl]
    exact r1
theorem join_back {l : List Tok} {s : Bs} (h : joinT l = (s, 0)) : tokens s = (placed 0 l, 0, 0) ∧ (texts l).2 = 0 ∧ l.length ≤ 1000 := by
  unfold joinT at h
  split at h
  · cases h
  rename_i h1
  split at h
  · rename_i h2; exact absurd (congrArg Prod.snd h) h2
  rename_i h2
  have h2 : (texts l).2 = 0 := by simpa using h2
  split at h
  · cases h
  rename_i h3
  have hs : joinSp (texts l).1 = s := congrArg Prod.fst h
  obtain ⟨r1, r2⟩ := join_Rd l 0 h2
  rw [hs] at r1 r2 h3
  refine ⟨Rd_tokens (by omega) ?_ (by rw [placed_len]; omega), h2, by omega⟩
  rw [r2]
  exact r1
end Go.Proofs.YtkpmlgpkmlhbjaaGreatDoor
