/- Texts joined by pack.py: XCd12 XSxGo XCd13 XCd14 XLx27 -/
import Derived.Test.YtkpmlgpkmlhbjaaGreatDoorCp20
import Derived.Test.YtkpmlgpkmlhbjaaGreatDoorCp12
import Derived.ScopeJumps
namespace Go.Proofs.YtkpmlgpkmlhbjaaGreatDoor
open Go.RowKit
section
variable {P : Program} {o : Oper} {E : Operand → V} {m : List (Option Bk)} {x y : Operand}
theorem ot_appendX {n k : Nat} {f : Bool} {xs : List (List D)} {s : ByteArray} {c : Call} {ty tu e : TypeId} (l : List UInt8) (ho : o.op = .call c) (hc : c.callee = .builtin .append) (hargs : c.args.toList = [x, y]) (htys : c.argTypes.toList = [ty, tu])
    (hx : E x = .ow n k) (hy : E y = .cv (.string s)) (hm : m[n]? = some (some (.row k e 1 f xs))) (hxs : xs = l.map byteD)
    (ht : P.underlying ty = some (.slice e)) (hu : P.underlying tu = some .string) (hi : (P.info? e).map (fun i => (i.size, i.bytes, i.zero)) = some (1, 1, some (.int .u8 0))) (hb : l.length + s.size ≤ 140737488355328) :
    OpTr P o E m (.ow n (k + 1)) (m.set n (some (.row (k + 1) e 1 f ((l ++ s.data.toList).map byteD)))) := by
  subst hxs
  exact ot_appendS ho hc hargs htys hx hy hm ht hu hi hb
end
def packB : List Bs → Bs → Bs × Int
  | [], acc => (acc, 0)
  | f :: l, acc => if f.length > 4000 then ([], 3) else packB l (acc ++ [UInt8.ofNat (f.length / 256), UInt8.ofNat f.length] ++ f)
def packP (l : List Bs) : Bs × Int := if l.length > 64 then ([], 3) else packB l [UInt8.ofNat l.length]
theorem hiW {b : Bs} : IntKind.u8.wrap ((((mk b).size : Nat) : Int).fdiv (2 ^ (min (Int.toNat 8) IntKind.i64.bits))) = (((UInt8.ofNat (b.length / 256)).toNat : Nat) : Int) := by
  rw [mk_size, show ((b.length : Nat) : Int).fdiv (2 ^ (min (Int.toNat 8) IntKind.i64.bits)) = ((b.length / 256 : Nat) : Int) from shr_nat b.length 8, IntKind.wrap_u8, UInt8.toNat_ofNat']; omega
theorem loW {b : Bs} : IntKind.u8.wrap (((mk b).size : Nat) : Int) = (((UInt8.ofNat b.length).toNat : Nat) : Int) := by rw [mk_size]; exact b0W
set_option maxHeartbeats 2000000 in
set_option maxRecDepth 100000 in
theorem x_pack (l : List Bs) (hl : l.length ≤ 8796093022207) : DCalls Tryz.prog 42 [strsV l] (teV (packP l)) := by
  refine sxm [(1000009, false)] Tryz.func42 (by kernel_rfl) ?_
  conv => whnf
  rintro (_ | _) h0
  rotate_left
  · rw [show packP l = ([], 3) by unfold packP; rw [if_pos (by simp at h0; omega)]]
    (conv => whnf) <;> rfl
  have h0 : l.length ≤ 64 := by simp at h0; omega
  generalize hR : packP l = R
  have hR : packB l [UInt8.ofNat l.length] = R := by rw [← hR]; unfold packP; rw [if_neg (by omega)]
  have hw0 : IntKind.u8.wrap (((l.map strD).length : Nat) : Int) = (((UInt8.ofNat l.length).toNat : Nat) : Int) := by rw [List.length_map]; exact b0W
  conv => whnf
  rw [hw0]
  refine ⟨[], Nat × Bs, fun ⟨k, acc⟩ => [(16, int k), (4, .ow 13 0), (13, .un)], fun ⟨k, acc⟩ => [(13, some (.row 0 5 1 true (acc.map byteD)))], fun ⟨k, acc⟩ => k ≤ l.length ∧ acc.length ≤ 1 + 4002 * k ∧ packB (l.drop k) acc = R, fun x => l.length - x.1, (0, [UInt8.ofNat l.length]), ⟨by omega, by simp, hR⟩, ?_, ?_⟩
  · refine ⟨rfl, ?_, ?_⟩ <;> repeat' (first | exact trivial | exact rfl | refine and_rfl ?_ | refine and_two ?_ ?_)
  rintro ⟨k, acc⟩ ⟨hk1, hk2, hk⟩
  conv => whnf
  rintro (_ | _) h2
  · have h2 : l.length ≤ k := by simp at h2; omega
    rw [List.drop_eq_nil_of_le h2] at hk
    subst hk
    conv => whnf
    refine ⟨_, _, ot_string (l := acc) (e := 5) rfl rfl rfl (by kernel_rfl) (by kernel_rfl) (by kernel_rfl), ?_⟩
    (conv => whnf) <;> rfl
  have h2 : k < l.length := by simp at h2; omega
  rw [List.drop_eq_getElem_cons h2] at hk
  unfold packB at hk
  have hg := get_map strD h2
  generalize l[k] = b at *
  conv => whnf
  refine ⟨by omega, _, hg, ?_⟩
  conv => whnf
  rintro (_ | _) h3
  rotate_left
  · have h3 : b.length > 4000 := by simp [mk_size] at h3; omega
    rw [if_pos h3] at hk
    subst hk
    (conv => whnf) <;> rfl
  have h3 : b.length ≤ 4000 := by simp [mk_size] at h3; omega
  rw [if_neg (by omega)] at hk
  conv => whnf
  refine ⟨by omega, ?_⟩
  conv => whnf
  rw [hiW, loW]
  refine ⟨by simp; omega, ?_⟩
  conv => whnf
  refine ⟨_, _, ot_appendX (acc ++ [UInt8.ofNat (b.length / 256), UInt8.ofNat b.length]) (s := mk b) rfl rfl rfl rfl rfl rfl rfl (by rw [List.map_append]; rfl) (by kernel_rfl) (by kernel_rfl) (by kernel_rfl) (by rw [mk_size]; simp; omega), ?_⟩
  conv => whnf
  refine ⟨(k + 1, acc ++ [UInt8.ofNat (b.length / 256), UInt8.ofNat b.length] ++ b), ⟨h2, by simp; omega, hk⟩, by dsimp only; omega, ?_⟩
  refine ⟨rfl, ?_, ?_⟩ <;> repeat' (first | exact trivial | exact rfl | refine and_rfl ?_ | refine and_val (wrap_succ (by omega)) ?_ | refine and_two ?_ ?_)
theorem quoW {b : Bs} (h : b.length ≤ 4000) : IntKind.u8.wrap (IntKind.i64.wrap ((((mk b).size : Nat) : Int).tdiv 256)) = (((UInt8.ofNat (b.length / 256)).toNat : Nat) : Int) := by
  have e : (((mk b).size : Nat) : Int).tdiv 256 = ((b.length / 256 : Nat) : Int) := by rw [mk_size]; exact (Int.ofNat_tdiv b.length 256).symm
  rw [e, IntWalk.i64_in _ (by omega), IntKind.wrap_u8, UInt8.toNat_ofNat']; omega
theorem remW {b : Bs} : IntKind.u8.wrap ((((mk b).size : Nat) : Int).tmod 256) = (((UInt8.ofNat b.length).toNat : Nat) : Int) := by
  have e : (((mk b).size : Nat) : Int).tmod 256 = ((b.length % 256 : Nat) : Int) := by rw [mk_size]; exact (Int.ofNat_tmod b.length 256).symm
  rw [e, IntKind.wrap_u8, UInt8.toNat_ofNat']; omega
set_option maxHeartbeats 2000000 in
set_option maxRecDepth 100000 in
theorem x_rpack (l : List Bs) (hl : l.length ≤ 8796093022207) : DCalls Tryz.prog 45 [strsV l] (teV (packP l)) := by
  refine sxm [(1000009, false)] Tryz.func45 (by kernel_rfl) ?_
  conv => whnf
  rintro (_ | _) h0
  rotate_left
  · rw [show packP l = ([], 3) by unfold packP; rw [if_pos (by simp at h0; omega)]]
    (conv => whnf) <;> rfl
  have h0 : l.length ≤ 64 := by simp at h0; omega
  generalize hR : packP l = R
  have hR : packB l [UInt8.ofNat l.length] = R := by rw [← hR]; unfold packP; rw [if_neg (by omega)]
  have hw0 : IntKind.u8.wrap (((l.map strD).length : Nat) : Int) = (((UInt8.ofNat l.length).toNat : Nat) : Int) := by rw [List.length_map]; exact b0W
  conv => whnf
  rw [hw0]
  refine ⟨[], Nat × Bs, fun ⟨k, acc⟩ => [(15, int k), (4, .ow 12 0), (12, .un)], fun ⟨k, acc⟩ => [(12, some (.row 0 5 1 true (acc.map byteD)))], fun ⟨k, acc⟩ => k ≤ l.length ∧ acc.length ≤ 1 + 4002 * k ∧ packB (l.drop k) acc = R, fun x => l.length - x.1, (0, [UInt8.ofNat l.length]), ⟨by omega, by simp, hR⟩, ?_, ?_⟩
  · refine ⟨rfl, ?_, ?_⟩ <;> repeat' (first | exact trivial | exact rfl | refine and_rfl ?_ | refine and_two ?_ ?_)
  rintro ⟨k, acc⟩ ⟨hk1, hk2, hk⟩
  conv => whnf
  rintro (_ | _) h2
  · have h2 : l.length ≤ k := by simp at h2; omega
    rw [List.drop_eq_nil_of_le h2] at hk
    subst hk
    conv => whnf
    refine ⟨_, _, ot_string (l := acc) (e := 5) rfl rfl rfl (by kernel_rfl) (by kernel_rfl) (by kernel_rfl), ?_⟩
    (conv => whnf) <;> rfl
  have h2 : k < l.length := by simp at h2; omega
  rw [List.drop_eq_getElem_cons h2] at hk
  unfold packB at hk
  have hg := get_map strD h2
  generalize l[k] = b at *
  conv => whnf
  refine ⟨by omega, _, hg, ?_⟩
  conv => whnf
  rintro (_ | _) h3
  rotate_left
  · have h3 : b.length > 4000 := by simp [mk_size] at h3; omega
    rw [if_pos h3] at hk
    subst hk
    (conv => whnf) <;> rfl
  have h3 : b.length ≤ 4000 := by simp [mk_size] at h3; omega
  rw [if_neg (by omega)] at hk
  conv => whnf
  refine ⟨none, by kernel_rfl, ?_⟩
  conv => whnf
  refine ⟨by omega, _, hg, ?_⟩
  conv => whnf
  refine ⟨by omega, ?_⟩
  conv => whnf
  refine ⟨by omega, _, hg, ?_⟩
  conv => whnf
  refine ⟨by omega, ?_⟩
  conv => whnf
  rw [quoW h3, remW]
  refine ⟨by simp; omega, ?_⟩
  conv => whnf
  refine ⟨by omega, _, hg, ?_⟩
  conv => whnf
  refine ⟨_, _, ot_appendX (acc ++ [UInt8.ofNat (b.length / 256), UInt8.ofNat b.length]) (s := mk b) rfl rfl rfl rfl rfl rfl rfl (by rw [List.map_append]; rfl) (by kernel_rfl) (by kernel_rfl) (by kernel_rfl) (by rw [mk_size]; simp; omega), ?_⟩
  conv => whnf
  refine ⟨(k + 1, acc ++ [UInt8.ofNat (b.length / 256), UInt8.ofNat b.length] ++ b), ⟨h2, by simp; omega, hk⟩, by dsimp only; omega, ?_⟩
  refine ⟨rfl, ?_, ?_⟩ <;> repeat' (first | exact trivial | exact rfl | refine and_rfl ?_ | refine and_val (wrap_succ (by omega)) ?_ | refine and_two ?_ ?_)
end Go.Proofs.YtkpmlgpkmlhbjaaGreatDoor
namespace Go.Proofs.YtkpmlgpkmlhbjaaGreatDoor
open Go.RowKit
def firstLabel : Code → Option Nat
  | .seq a b => match firstLabel a with
    | some l => some l
    | none => firstLabel b
  | .label l => some l
  | _ => none
def awpG (P : Program) (T : Tab) : Code → St → (Ex → St → Prop) → (Nat → St → Prop) → Prop
  | .skip, st, K, _ => K .normal st
  | .region _ ops draw, st, K, _ => if draw then DrawA P T ops st (K .normal) else awpOps P T ops ops.toList st (K .normal)
  | .seq a b, st, K, G => awpG P T a st (fun e st => match e with
    | .normal => awpG P T b st K G
    | .ret => K .ret st
    | .exit id => K (.exit id) st) G
  | .cond c a b, ⟨t, m⟩, K, G => match ev t c, c with
    | .kb true, _ => awpG P T a ⟨t, m⟩ K G
    | .kb false, _ => awpG P T b ⟨t, m⟩ K G
    | .cv (.bool t₁), .tmp d => ∀ t', t₁ = t' → setK t d (.kb t') fun t => match t' with
      | true => awpG P T a ⟨t, m⟩ K G
      | false => awpG P T b ⟨t, m⟩ K G
    | _, _ => False
  | .block id a, st, K, G => awpG P T a st (fun e st => match e with
    | .normal => K .normal st
    | .ret => K .ret st
    | .exit id' => if id' = id then K .normal st else K (.exit id') st) G
  | .loop a, st, K, G => LoopA (fun st K => awpG P T a st K G) a st K
  | .exit id, st, K, _ => K (.exit id) st
  | .ret, st, K, _ => K .ret st
  | .label _, st, K, _ => K .normal st
  | .goto l, st, _, G => G l st
  | _, _, _, _ => False
def awpTop (P : Program) (T : Tab) : Code → St → (Ex → St → Prop) → Prop
  | .seq a b, st, K => awp P T a st fun e st => match e with
    | .normal => awpTop P T b st K
    | .ret => K .ret st
    | .exit id => K (.exit id) st
  | .scope a, st, K => match firstLabel a with
    | some l => match findLabel a l with
      | some rest => awpG P T a st K fun l' st => match Nat.beq l' l with
        | true => awp P T rest st K
        | false => False
      | none => False
    | none => False
  | _, _, _ => False
section
variable {P : Program} {T : Tab} {B : Fr} {w0 : World}
def QKG (B : Fr) (w0 : World) (K : Ex → St → Prop) (G : Nat → St → Prop) : Exit → Act → World → Prop
  | .normal, a, w => OkSt B w0 (K .normal) a w
  | .ret, a, w => OkSt B w0 (K .ret) a w
  | .exit id, a, w => OkSt B w0 (K (.exit id)) a w
  | .goto l, a, w => OkSt B w0 (G l) a w
  | _, _, _ => False
theorem awpG_sound (hT : TOk P T) (hm : P.follows .mixedOrders = true) (hg : ∀ p ∈ B.ghost, ∃ n, p.1 = .ow n fixV) (G : Nat → St → Prop) : ∀ (c : Code) (K : Ex → St → Prop) (a : Act) (w : World), OkSt B w0 (fun st => awpG P T c st K G) a w → c.wp P (QKG B w0 K G) a w := by
  intro c
  induction c with
  | skip => rintro K a w ⟨N, S, t, m, hs, h⟩; exact wp_skip ⟨N, S, t, m, hs, h⟩
  | region id ops draw =>
    rintro K a w ⟨N, S, t, m, hs, h⟩
    simp only [awpG] at h
    cases draw with
    | true =>
      simp only [if_true] at h
      exact draw_sound hT hm (K := K .normal) (fun a w h => h) ⟨N, S, t, m, hs, h⟩
    | false =>
      simp only [Bool.false_eq_true, if_false] at h
      exact wp_region_list (ops_sound hT (K := K .normal) (fun a w h => h) ops.toList a w ⟨N, S, t, m, hs, h⟩)
  | seq x y ihx ihy =>
    rintro K a w ⟨N, S, t, m, hs, h⟩
    simp only [awpG] at h
    refine wp_seq (Go.wp_mono (ihx _ a w ⟨N, S, t, m, hs, h⟩) ?_)
    intro e a w h
    cases e <;> simp only [QKG, Exit.then] at h ⊢
    · exact ihy K a w h
    · exact h
    · exact h
    · exact h
  | cond c x y ihx ihy =>
    rintro K a w ⟨N, S, t, m, hs, h⟩
    simp only [awpG] at h
    have hr := hs.ev c
    generalize hu : a.eval c = u at hr
    split at h
    · rename_i hev
      rw [hev] at hr
      cases hr
      exact wp_cond hu (ihx K a w ⟨N, S, t, m, hs, h⟩)
    · rename_i hev
      rw [hev] at hr
      cases hr
      exact wp_cond hu (ihy K a w ⟨N, S, t, m, hs, h⟩)
    · rename_i b d hev
      rw [hev] at hr
      cases hr
      have h := h b rfl
      rw [setK_eq] at h
      have hb : t[d]? = some (.cv (.bool b)) := by
        simp only [ev, List.getD_eq_getElem?_getD] at hev
        cases hd : t[d]? with
        | none => rw [hd] at hev; cases hev
        | some v => rw [hd] at hev; simp at hev; rw [hev]
      have hs' := hs.nf (nfEq.mark (rfl : nfEq t t) hb)
      refine wp_cond hu ?_
      cases b
      · exact ihy K a w ⟨N, S, _, m, hs', h⟩
      · exact ihx K a w ⟨N, S, _, m, hs', h⟩
    · exact h.elim
  | block id x ih =>
    rintro K a w ⟨N, S, t, m, hs, h⟩
    simp only [awpG] at h
    refine wp_block (Go.wp_mono (ih _ a w ⟨N, S, t, m, hs, h⟩) ?_)
    intro e a w h
    cases e <;> simp only [QKG, Exit.inBlock] at h ⊢
    · exact h
    · rename_i id'
      by_cases he : id' = id
      · simp only [he, if_true] at h ⊢; exact h
      · simp only [he, if_false] at h ⊢; exact h
    · exact h
    · exact h
  | loop c ih =>
    rintro K a w ⟨N, S, t, m, hs, h⟩
    simp only [awpG, LoopA] at h
    obtain ⟨rows, h⟩ := h
    obtain ⟨N1, t1, m1, hs1, X, ups, mups, I, μ, x0, hI0, hW0, hround⟩ := rows_sound rows hs h
    rw [head_eq] at hW0
    let Good (x : X) (a : Act) (w : World) : Prop := I x ∧ ∃ N S, Sat B w0 N S ((updL (ups x) (forgetL .un (Code.wr c) t1)).map (V.clean (updL (mups x) (forgetL none (Code.wr c) m1)))) (updL (mups x) (forgetL none (Code.wr c) m1)) a w
    obtain ⟨N2, hs2⟩ := hs1.weaken hg hW0
    let meas (a : Act) (w : World) : Nat := @dite _ (∃ n, ∃ x, Good x a w ∧ μ x = n) (Classical.propDecidable _) (fun h => (exists_least h).choose) (fun _ => 0)
    refine wp_loop (fun a w => ∃ x, Good x a w) meas ⟨x0, hI0, N2, S, hs2⟩ ?_
    rintro a w ⟨x1, hx1⟩
    have hex : ∃ n, ∃ x, Good x a w ∧ μ x = n := ⟨_, x1, hx1, rfl⟩
    obtain ⟨x, ⟨hIx, N3, S3, hs3⟩, hμ⟩ := (exists_least hex).choose_spec.1
    have hmeas : meas a w = μ x := by simp only [meas, dif_pos hex, hμ]
    have hr := hround x hIx
    rw [head_eq] at hr
    refine Go.wp_mono (ih _ a w ⟨N3, S3, _, _, hs3, hr⟩) ?_
    intro e a' w' h
    cases e <;> simp only [QKG, Exit.then] at h ⊢
    · obtain ⟨N4, S4, t4, m4, hs4, x', hI', hlt, hW⟩ := h
      rw [head_eq] at hW
      obtain ⟨N5, hs5⟩ := hs4.weaken hg hW
      have hg : Good x' a' w' := ⟨hI', N5, S4, hs5⟩
      refine ⟨⟨x', hg⟩, ?_⟩
      have hex' : ∃ n, ∃ x, Good x a' w' ∧ μ x = n := ⟨_, x', hg, rfl⟩
      have : meas a' w' ≤ μ x' := by
        simp only [meas, dif_pos hex']
        exact (exists_least hex').choose_spec.2 _ ⟨x', hg, rfl⟩
      omega
    · exact h
    · exact h
    · exact h
  | exit id => rintro K a w ⟨N, S, t, m, hs, h⟩; exact wp_exit ⟨N, S, t, m, hs, h⟩
  | ret => rintro K a w ⟨N, S, t, m, hs, h⟩; exact wp_ret ⟨N, S, t, m, hs, h⟩
  | scope x ih => rintro K a w ⟨N, S, t, m, hs, h⟩; exact h.elim
  | rangeFunc f ps x y ih1 ih2 => rintro K a w ⟨N, S, t, m, hs, h⟩; exact h.elim
  | label l => rintro K a w ⟨N, S, t, m, hs, h⟩; exact wp_label ⟨N, S, t, m, hs, h⟩
  | goto l => rintro K a w ⟨N, S, t, m, hs, h⟩; exact wp_goto ⟨N, S, t, m, hs, h⟩
  | refuse why => rintro K a w ⟨N, S, t, m, hs, h⟩; exact h.elim
theorem awpTop_sound (hT : TOk P T) (hm : P.follows .mixedOrders = true) (hg : ∀ p ∈ B.ghost, ∃ n, p.1 = .ow n fixV) : ∀ (c : Code) (K : Ex → St → Prop) (a : Act) (w : World), OkSt B w0 (fun st => awpTop P T c st K) a w → c.wp P (QK B w0 K) a w := by
  intro c
  induction c with
  | seq x y ihx ihy =>
    rintro K a w ⟨N, S, t, m, hs, h⟩
    simp only [awpTop] at h
    refine wp_seq (Go.wp_mono (awp_sound hT hm hg x _ a w ⟨N, S, t, m, hs, h⟩) ?_)
    intro e a w h
    cases e <;> simp only [QK, Exit.then] at h ⊢
    · exact ihy K a w h
    · exact h
    · exact h
  | scope c ih =>
    rintro K a w ⟨N, S, t, m, hs, h⟩
    simp only [awpTop] at h
    split at h
    rotate_left
    · exact h.elim
    rename_i l hl
    split at h
    rotate_left
    · exact h.elim
    rename_i rest hrest
    refine wp_scope_jumps l (fun a w => OkSt B w0 (fun st => awp P T rest st K) a w) (fun _ _ => 0) hrest ?_ ?_
    · refine Go.wp_mono (awpG_sound hT hm hg _ c K a w ⟨N, S, t, m, hs, h⟩) ?_
      intro e a w h
      cases e <;> simp only [QKG, QK, Exit.jump] at h ⊢ <;> try exact h
      rename_i l'
      obtain ⟨N, S, t, m, hs, h⟩ := h
      split at h
      · rename_i hb
        exact ⟨Nat.eq_of_beq_eq_true hb, N, S, t, m, hs, h⟩
      · exact h.elim
    · intro a w hJ
      refine Go.wp_mono (awp_sound hT hm hg rest K a w hJ) ?_
      intro e a w h
      cases e <;> simp only [QK, Exit.jump] at h ⊢ <;> exact h
  | _ => rintro K a w ⟨N, S, t, m, hs, h⟩; exact h.elim
def BodyG (P : Program) (T : Tab) (fn : Func) (args : List V) (res : V) : Prop :=
  match fn.body with
  | some c => enterK fn args fun st => awpTop P T c st (Done T fn res)
  | none => False
theorem dcalls_ofG (hT : TOk P T) (hm : P.follows .mixedOrders = true) {f : FuncId} {fn : Func} (hf : P.funcs[f]? = some fn) (hn : (fn.name == "runtime.NumGoroutine") = false) {args : List V} {res : V} (h : BodyG P T fn args res) : DCalls P f args res := by
  unfold BodyG at h
  cases hb : fn.body with
  | none => rw [hb] at h; exact h.elim
  | some c =>
    rw [hb] at h
    refine ⟨⟨fn, hf, hn, by rw [hb]; rfl⟩, fun w vs hi hvs => ?_⟩
    simp only [enterK, forceAll_eq] at h
    refine calls_of_wp hf hb (Go.wp_mono (awpTop_sound (B := { keep := (· < w.heap.size), old := fun _ => True, lent := fun _ => none, ref := w }) (w0 := w) hT hm (by intro p hp; simp at hp) c _ _ w ⟨_, _, _, _, sat_enter hi hvs fn.ntmps, h⟩) ?_)
    have key : ∀ (a : Act) (w' : World), OkSt { keep := (· < w.heap.size), old := fun _ => True, lent := fun _ => none, ref := w } w (resK T fn (fun v => v = res)) a w' → a.defers = [] ∧ ∃ v, (results fn a.tmps).run P w' = .ok v w' ∧
        ∃ v', Ending.returned v = .returned v' ∧ RelV (fun _ => none) (fun _ b => w.heap.size ≤ b ∧ b < w'.heap.size) w' res v' ∧ Below w.heap.size w w' := by
      rintro a w' ⟨N, S, t, m, hs, h⟩
      simp only [resK] at h
      obtain ⟨us, vs, h1, h2, h3⟩ := resL_sound hT hs _ _ h
      have hrun : ∀ v, (if h : us.toArray.size = 1 then us.toArray[0] else .tuple us.toArray) = v → (results fn a.tmps).run P w' = .ok v w' := by
        intro v hv
        unfold results
        rw [Array.mapM_eq_mapM_toList]
        change Sem.run P (do
          let vs ← List.toArray <$> fn.results.toList.mapM (resR a)
          pure (if h : vs.size = 1 then vs[0] else Value.tuple vs)) w' = _
        simp only [Sem.run_bind, Sem.run_map, h1, Result.andThen_ok, Sem.run_pure, hv]
      refine ⟨hs.nodef, ?_⟩
      split at h3
      · rename_i v
        subst h3
        obtain ⟨u, rfl⟩ : ∃ u, us = [u] := by
          have := h2.1
          match us, this with
          | [u], _ => exact ⟨u, rfl⟩
        exact ⟨u, hrun u rfl, u, rfl, by simpa using h2.2 0 v rfl, hs.low.below⟩
      · rename_i hne
        subst h3
        have hsz : us.toArray.size ≠ 1 := by
          intro e
          have : us.length = 1 := by simpa using e
          have h4 := h2.1
          rw [this] at h4
          match vs, h4 with
          | [v], _ => exact hne v rfl
        refine ⟨.tuple us.toArray, hrun _ (by rw [dif_neg hsz]), _, rfl, .tu _ _ (by simpa using h2.1) fun i v hv => ?_, hs.low.below⟩
        have := h2.2 i v hv
        rw [← getD_toList]; simpa using this
    intro e a w' h
    cases e <;> simp only [QK] at h <;> first | exact h.elim | skip
    · exact key a w' h
    · obtain ⟨N, S, t, m, hs, h⟩ := h; exact h.elim
    · exact key a w' h
end
theorem sxg {f : FuncId} {fn : Func} (hf : Tryz.prog.funcs[f]? = some fn) (hn : (fn.name == "runtime.NumGoroutine") = false) {args : List V} {res : V} (h : BodyG Tryz.prog TT fn args res) : DCalls Tryz.prog f args res :=
  dcalls_ofG tok mixed hf hn h
end Go.Proofs.YtkpmlgpkmlhbjaaGreatDoor
namespace Go.Proofs.YtkpmlgpkmlhbjaaGreatDoor
open Go.RowKit
def unpB : Nat → Bs → List Bs → List Bs × Int
  | 0, s, acc => if s = [] then (acc, 0) else ([], 13)
  | n + 1, a :: b :: r, acc => if 256 * a.toNat + b.toNat > 4000 then ([], 13) else if r.length < 256 * a.toNat + b.toNat then ([], 14)
    else unpB n (r.drop (256 * a.toNat + b.toNat)) (acc ++ [r.take (256 * a.toNat + b.toNat)])
  | _ + 1, _, _ => ([], 14)
def unpackP : Bs → List Bs × Int
  | [] => ([], 14)
  | c :: r => if c.toNat > 64 then ([], 13) else unpB c.toNat r []
theorem unpack_cons (c : UInt8) (r : Bs) : unpackP (c :: r) = if c.toNat > 64 then ([], 13) else unpB c.toNat r [] := rfl
abbrev unV (p : List Bs × Int) : V := .tu [strsV p.1, int p.2]
theorem fin_un {p q : List Bs × Int} (h : p = q) : unV p = unV q := by rw [h]
theorem u8i64 (c : UInt8) : IntKind.i64.wrap ((c.toNat : Nat) : Int) = ((c.toNat : Nat) : Int) := by have := c.toNat_lt; rw [IntWalk.i64_in _ (by omega)]
theorem or8W (a b : UInt8) : IntKind.i64.wrap ((BitVec.ofInt IntKind.i64.bits (IntKind.i64.wrap (((a.toNat : Nat) : Int) * 2 ^ (min (Int.toNat 8) IntKind.i64.bits))) ||| BitVec.ofInt IntKind.i64.bits ((b.toNat : Nat) : Int)).toNat : Nat) = ((256 * a.toNat + b.toNat : Nat) : Int) := by
  have ha := a.toNat_lt; have hb := b.toNat_lt
  have h64 : IntKind.i64.bits = 64 := rfl
  rw [show (2 : Int) ^ (min (Int.toNat 8) IntKind.i64.bits) = 256 from rfl, IntWalk.i64_in (((a.toNat : Nat) : Int) * 256) (by omega), BitVec.toNat_or, h64, BitVec.toNat_ofInt, BitVec.toNat_ofInt]
  have e1 : ((((a.toNat : Nat) : Int) * 256) % ((2 ^ 64 : Nat) : Int)).toNat = 256 * a.toNat := by omega
  have e2 : (((b.toNat : Nat) : Int) % ((2 ^ 64 : Nat) : Int)).toNat = b.toNat := by omega
  have e3 := Nat.two_pow_add_eq_or_of_lt (i := 8) (b := b.toNat) (by omega) a.toNat
  rw [e1, e2, show 256 * a.toNat = 2 ^ 8 * a.toNat from rfl, ← e3, IntWalk.i64_in _ (by omega)]
theorem mkF1 (c : UInt8) (r : Bs) : (mk (c :: r)).extract (Int.toNat 1) (((mk (c :: r)).size : Nat) : Int).toNat = mk r := mkF (c :: r) 1
theorem mkF2 (c d : UInt8) (r : Bs) : (mk (c :: d :: r)).extract (Int.toNat 2) (((mk (c :: d :: r)).size : Nat) : Int).toNat = mk r := mkF (c :: d :: r) 2
set_option maxHeartbeats 2000000 in
set_option maxRecDepth 100000 in
theorem x_unpack (l : Bs) (hl : l.length ≤ 140737488355328) : DCalls Tryz.prog 107 [bstr l] (unV (unpackP l)) := by
  refine sxg Tryz.func107 (by kernel_rfl) ?_
  cases l with
  | nil =>
    conv => whnf
    refine known true (show sEq (mk []) (mk []) = true by rw [sEq_mk]; rfl) ?_
    (conv => whnf) <;> rfl
  | cons c r =>
  conv => whnf
  refine known false (show sEq (mk (c :: r)) (mk []) = false by rw [sEq_mk]; rfl) ?_
  conv => whnf
  refine ⟨none, by kernel_rfl, ?_⟩
  conv => whnf
  refine ⟨by omega, _, mk_at (n := 0) (by simp), ?_⟩
  conv => whnf
  refine ⟨by omega, by rw [mk_size, List.length_cons]; omega, by omega, ?_⟩
  rw [mkF1]
  conv => whnf
  rw [show (c :: r)[0] = c from rfl, u8i64]
  rintro (_ | _) h1
  rotate_left
  · have h1 : c.toNat > 64 := by simp at h1; omega
    conv => whnf
    exact fin_un (p := ([], 13)) (by rw [unpack_cons, if_pos h1])
  have h1 : c.toNat ≤ 64 := by simp at h1; omega
  generalize hR : unpackP (c :: r) = R
  have hR : unpB c.toNat r [] = R := by rw [← hR, unpack_cons, if_neg (by omega)]
  have hrl : r.length ≤ 140737488355328 := by simp at hl; omega
  generalize c.toNat = n at *
  conv => whnf
  refine ⟨[(4, 44, 9, 1)], Nat × Bs × List Bs, fun ⟨i, s, acc⟩ => [(18, int i), (0, bstr s), (4, .ow 44 0), (7, int 14)], fun ⟨i, s, acc⟩ => [(44, some (.row 0 9 1 true (acc.map strD)))], fun ⟨i, s, acc⟩ => i ≤ n ∧ s.length ≤ 140737488355328 ∧ acc.length ≤ i ∧ unpB (n - i) s acc = R, fun x => n - x.1, (0, r, []), ⟨by omega, hrl, by simp, hR⟩, ?_, ?_⟩
  · refine ⟨rfl, ?_, ?_⟩ <;> repeat' (first | exact trivial | exact rfl | refine and_rfl ?_ | refine and_two ?_ ?_)
  rintro ⟨i, s, acc⟩ ⟨hi, hs, ha, hk⟩
  conv => whnf
  rintro (_ | _) h2
  · have h2 : i = n := by simp at h2; omega
    rw [show n - i = 0 by omega] at hk
    unfold unpB at hk
    conv => whnf
    rintro (_ | _) h3
    · have h3 : (!sEq (mk s) (mk [])) = false := h3
      rw [sEq_mk] at h3
      have h3 : s = [] := by simpa using h3
      rw [if_pos h3] at hk
      conv => whnf
      refine ⟨_, _, ot_slice3 tok rfl rfl rfl rfl rfl rfl rfl, ?_⟩
      conv => whnf
      exact fin_un (p := (acc, 0)) hk
    · have h3 : (!sEq (mk s) (mk [])) = true := h3
      rw [sEq_mk] at h3
      have h3 : s ≠ [] := by simpa using h3
      rw [if_neg h3] at hk
      conv => whnf
      exact fin_un (p := ([], 13)) hk
  have h2 : i < n := by simp at h2; omega
  rw [show n - i = (n - (i + 1)) + 1 by omega] at hk
  conv => whnf
  rintro (_ | _) h3
  rotate_left
  · have h3 : s.length < 2 := by simp [mk_size] at h3; omega
    have hk : ([], 14) = R := by
      match s, h3, hk with
      | [], _, hk => exact hk
      | [a], _, hk => exact hk
    conv => whnf
    exact fin_un (p := ([], 14)) hk
  have h3 : 2 ≤ s.length := by simp [mk_size] at h3; omega
  match s, h3, hk, hs with
  | a :: b :: q, h3, hk, hs =>
  unfold unpB at hk
  have hal := a.toNat_lt
  have hbl := b.toNat_lt
  simp only [List.length_cons] at hs
  conv => whnf
  refine ⟨none, by kernel_rfl, ?_⟩
  conv => whnf
  refine ⟨by omega, _, mk_at (n := 0) (by simp), ?_⟩
  conv => whnf
  refine ⟨by omega, ?_⟩
  conv => whnf
  refine ⟨by omega, _, mk_at (n := 1) (by simp), ?_⟩
  conv => whnf
  refine ⟨by omega, by rw [mk_size, List.length_cons, List.length_cons]; omega, by omega, ?_⟩
  rw [mkF2]
  conv => whnf
  rw [show (a :: b :: q)[0] = a from rfl, show (a :: b :: q)[1] = b from rfl, u8i64, u8i64, or8W]
  generalize 256 * a.toNat + b.toNat = z at *
  rintro (_ | _) h4
  rotate_left
  · have h4 : z > 4000 := by simp at h4; omega
    rw [if_pos h4] at hk
    conv => whnf
    exact fin_un (p := ([], 13)) hk
  have h4 : z ≤ 4000 := by simp at h4; omega
  rw [if_neg (by omega)] at hk
  conv => whnf
  rintro (_ | _) h5
  rotate_left
  · have h5 : q.length < z := by simp [mk_size] at h5; omega
    rw [if_pos h5] at hk
    conv => whnf
    exact fin_un (p := ([], 14)) hk
  have h5 : z ≤ q.length := by simp [mk_size] at h5; omega
  rw [if_neg (by omega)] at hk
  conv => whnf
  refine ⟨some (.one 0 (.one 1 (.one 2 (.one 6 (.one 7 (.one 3 (.alt 4 (.alt 5 (.one 8 (.one 9 (.one 10 .done))) (.alt 8 (.one 5 (.one 9 (.one 10 .done))) .stop)) (.alt 8 (.one 4 (.one 5 (.one 9 (.one 10 .done)))) .stop)))))))), by kernel_rfl, ?_⟩
  conv => whnf
  refine ⟨by omega, by omega, by rw [mk_size]; omega, ?_⟩
  rw [show (mk q).extract (Int.toNat 0) ((z : Nat) : Int).toNat = mk (q.take z) by rw [mk_ext]; simp]
  conv => whnf
  refine ⟨?_, ?_⟩
  · conv => whnf
    refine ⟨?_, ?_⟩
    · skip
      conv => whnf
      refine ⟨by simp; omega, ?_⟩
      conv => whnf
      refine ⟨by omega, by rw [mk_size]; omega, by omega, ?_⟩
      rw [mkF]
      conv => whnf
      refine ⟨(i + 1, q.drop z, acc ++ [q.take z]), ⟨h2, by rw [List.length_drop]; omega, by simp; omega, hk⟩, by dsimp only; omega, ?_⟩
      refine ⟨rfl, ?_, ?_⟩ <;> repeat' (first | exact trivial | exact rfl | refine and_rfl ?_ | refine and_val (wrap_succ (by omega)) ?_ | refine and_two ?_ ?_ | (simp [strD]; done))
    · conv => whnf
      refine ⟨?_, trivial⟩
      conv => whnf
      refine ⟨by omega, by rw [mk_size]; omega, by omega, ?_⟩
      rw [mkF]
      conv => whnf
      refine ⟨by simp; omega, ?_⟩
      conv => whnf
      refine ⟨(i + 1, q.drop z, acc ++ [q.take z]), ⟨h2, by rw [List.length_drop]; omega, by simp; omega, hk⟩, by dsimp only; omega, ?_⟩
      refine ⟨rfl, ?_, ?_⟩ <;> repeat' (first | exact trivial | exact rfl | refine and_rfl ?_ | refine and_val (wrap_succ (by omega)) ?_ | refine and_two ?_ ?_ | (simp [strD]; done))
  · conv => whnf
    refine ⟨?_, trivial⟩
    conv => whnf
    refine ⟨by omega, by rw [mk_size]; omega, by omega, ?_⟩
    rw [mkF]
    conv => whnf
    refine ⟨by simp; omega, ?_⟩
    conv => whnf
    refine ⟨(i + 1, q.drop z, acc ++ [q.take z]), ⟨h2, by rw [List.length_drop]; omega, by simp; omega, hk⟩, by dsimp only; omega, ?_⟩
    refine ⟨rfl, ?_, ?_⟩ <;> repeat' (first | exact trivial | exact rfl | refine and_rfl ?_ | refine and_val (wrap_succ (by omega)) ?_ | refine and_two ?_ ?_ | (simp [strD]; done))
end Go.Proofs.YtkpmlgpkmlhbjaaGreatDoor
namespace Go.Proofs.YtkpmlgpkmlhbjaaGreatDoor
open Go.RowKit
theorem unp_short {n : Nat} {s : Bs} {acc : List Bs} (h : s.length < 2) : unpB (n + 1) s acc = ([], 14) := by
  match s, h with
  | [], _ => rfl
  | [a], _ => rfl
theorem unp_long {n : Nat} {s : Bs} {acc : List Bs} (h : 2 ≤ s.length) : unpB (n + 1) s acc = if 256 * s[0].toNat + s[1].toNat > 4000 then ([], 13) else if s.length - 2 < 256 * s[0].toNat + s[1].toNat then ([], 14)
    else unpB n (s.drop (2 + (256 * s[0].toNat + s[1].toNat))) (acc ++ [(s.drop 2).take (256 * s[0].toNat + s[1].toNat)]) := by
  match s, h with
  | a :: b :: r, _ =>
    conv => lhs; unfold unpB
    simp only [List.getElem_cons_zero, List.getElem_cons_succ, List.length_cons, List.drop_succ_cons, List.drop_zero]
    rw [show r.length + 1 + 1 - 2 = r.length by omega, Nat.add_comm 2, List.drop_succ_cons, List.drop_succ_cons]
set_option maxHeartbeats 2000000 in
set_option maxRecDepth 100000 in
theorem x_runpack (l : Bs) (hl : l.length ≤ 140737488355328) : DCalls Tryz.prog 68 [bstr l] (unV (unpackP l)) := by
  refine sx Tryz.func68 (by kernel_rfl) ?_
  conv => whnf
  rintro (_ | _) h0
  rotate_left
  · have h0 : l = [] := List.eq_nil_of_length_eq_zero (by simp [mk_size] at h0; first | omega | (rw [h0]; rfl))
    subst h0
    (conv => whnf) <;> rfl
  have h0 : 0 < l.length := by
    cases l with
    | nil => simp [mk_size] at h0
    | cons c r => simp
  have hU : unpackP l = if l[0].toNat > 64 then ([], 13) else unpB l[0].toNat (l.drop 1) [] := by
    cases l with
    | nil => simp at h0
    | cons c r => rfl
  have hc := l[0].toNat_lt
  conv => whnf
  refine ⟨by omega, _, mk_at h0, ?_⟩
  conv => whnf
  rintro (_ | _) h1
  rotate_left
  · have h1 : l[0].toNat > 64 := by simp at h1; omega
    conv => whnf
    exact fin_un (p := ([], 13)) (by rw [hU, if_pos h1])
  have h1 : l[0].toNat ≤ 64 := by simp at h1; omega
  rw [if_neg (by omega)] at hU
  generalize hR : unpackP l = R at *
  conv => whnf
  refine ⟨by omega, _, mk_at h0, ?_⟩
  conv => whnf
  rw [u8i64]
  generalize l[0].toNat = n at *
  refine ⟨[(4, 53, 9, 1)], Nat × Nat × List Bs, fun ⟨i, k, acc⟩ => [(16, int i), (5, int k), (4, .ow 53 0)], fun ⟨i, k, acc⟩ => [(53, some (.row 0 9 1 true (acc.map strD)))], fun ⟨i, k, acc⟩ => i ≤ n ∧ k ≤ l.length ∧ acc.length ≤ i ∧ unpB (n - i) (l.drop k) acc = R, fun x => n - x.1, (0, 1, []), ⟨by omega, h0, by simp, hU.symm⟩, ?_, ?_⟩
  · refine ⟨rfl, ?_, ?_⟩ <;> repeat' (first | exact trivial | exact rfl | refine and_rfl ?_ | refine and_two ?_ ?_)
  rintro ⟨i, k, acc⟩ ⟨hi, hk1, ha, hk⟩
  conv => whnf
  rintro (_ | _) h2
  · have h2 : i = n := by simp at h2; omega
    rw [show n - i = 0 by omega] at hk
    unfold unpB at hk
    conv => whnf
    rintro (_ | _) h3
    · have h3 : l.length ≤ k := by simp [mk_size] at h3; omega
      rw [if_pos (List.drop_eq_nil_of_le h3)] at hk
      conv => whnf
      exact fin_un (p := (acc, 0)) hk
    · have h3 : k < l.length := by simp [mk_size] at h3; omega
      rw [if_neg (fun e => by have := congrArg List.length e; rw [List.length_drop] at this; simp at this; omega)] at hk
      conv => whnf
      exact fin_un (p := ([], 13)) hk
  have h2 : i < n := by simp at h2; omega
  rw [show n - i = (n - (i + 1)) + 1 by omega] at hk
  have hw : IntKind.i64.wrap ((((mk l).size : Nat) : Int) - (k : Int)) = ((l.length - k : Nat) : Int) := by rw [mk_size, IntWalk.i64_in _ (by omega)]; omega
  have hdl : (l.drop k).length = l.length - k := List.length_drop
  conv => whnf
  rw [hw]
  rintro (_ | _) h3
  rotate_left
  · have h3 : l.length - k < 2 := by simp at h3; omega
    rw [unp_short (by omega)] at hk
    conv => whnf
    exact fin_un (p := ([], 14)) hk
  have h3 : 2 ≤ l.length - k := by simp at h3; omega
  rw [unp_long (by omega)] at hk
  have e0 : (l.drop k)[0] = l[k] := by rw [List.getElem_drop]; simp
  have e1 : (l.drop k)[1] = l[k + 1] := by rw [List.getElem_drop]
  rw [e0, e1, hdl, List.drop_drop, List.drop_drop] at hk
  have hal := l[k].toNat_lt
  have hbl := l[k + 1].toNat_lt
  have hk1w : IntKind.i64.wrap ((k : Int) + 1) = ((k + 1 : Nat) : Int) := wrap_succ (by omega)
  conv => whnf
  refine ⟨none, by kernel_rfl, ?_⟩
  conv => whnf
  refine ⟨by omega, _, mk_at (n := k) (by omega), ?_⟩
  conv => whnf
  rw [hk1w]
  refine ⟨by omega, _, mk_at (n := k + 1) (by omega), ?_⟩
  have hz : IntKind.i64.wrap (IntKind.i64.wrap (IntKind.i64.wrap ((l[k].toNat : Nat) : Int) * 256) + IntKind.i64.wrap ((l[k + 1].toNat : Nat) : Int)) = ((256 * l[k].toNat + l[k + 1].toNat : Nat) : Int) := by
    rw [u8i64, u8i64, IntWalk.i64_in (((l[k].toNat : Nat) : Int) * 256) (by omega), IntWalk.i64_in _ (by omega)]; omega
  conv => whnf
  rw [hz]
  generalize 256 * l[k].toNat + l[k + 1].toNat = z at *
  rintro (_ | _) h4
  rotate_left
  · have h4 : z > 4000 := by simp at h4; omega
    rw [if_pos h4] at hk
    conv => whnf
    exact fin_un (p := ([], 13)) hk
  have h4 : z ≤ 4000 := by simp at h4; omega
  rw [if_neg (by omega)] at hk
  have hw2 : IntKind.i64.wrap (((l.length - k : Nat) : Int) - 2) = ((l.length - k - 2 : Nat) : Int) := by rw [IntWalk.i64_in _ (by omega)]; omega
  conv => whnf
  rw [hw, hw2]
  rintro (_ | _) h5
  rotate_left
  · have h5 : l.length - k - 2 < z := by simp at h5; omega
    rw [if_pos h5] at hk
    conv => whnf
    exact fin_un (p := ([], 14)) hk
  have h5 : z ≤ l.length - k - 2 := by simp at h5; omega
  rw [if_neg (by omega)] at hk
  have hk2 : IntKind.i64.wrap ((k : Int) + 2) = ((k + 2 : Nat) : Int) := by rw [IntWalk.i64_in _ (by omega)]; rfl
  have hk3 : IntKind.i64.wrap (((k + 2 : Nat) : Int) + (z : Int)) = ((k + 2 + z : Nat) : Int) := by rw [IntWalk.i64_in _ (by omega)]; omega
  conv => whnf
  rw [hk2, hk3]
  refine ⟨by omega, by omega, by rw [mk_size]; omega, ?_⟩
  rw [show (mk l).extract ((k + 2 : Nat) : Int).toNat ((k + 2 + z : Nat) : Int).toNat = mk ((l.drop (k + 2)).take z) from mkM l (k + 2) z]
  conv => whnf
  refine ⟨by simp; omega, ?_⟩
  conv => whnf
  refine ⟨(i + 1, k + 2 + z, acc ++ [(l.drop (k + 2)).take z]), ⟨h2, by omega, by simp; omega, by rw [show k + 2 + z = k + (2 + z) by omega]; exact hk⟩, by dsimp only; omega, ?_⟩
  refine ⟨rfl, ?_, ?_⟩ <;> repeat' (first | exact trivial | exact rfl | refine and_rfl ?_ | refine and_val (wrap_succ (by omega)) ?_ | refine and_val (by rw [hk2, hk3]) ?_ | refine and_two ?_ ?_ | (simp [strD]; done))
end Go.Proofs.YtkpmlgpkmlhbjaaGreatDoor
namespace Go.Proofs.YtkpmlgpkmlhbjaaGreatDoor
open Go.RowKit
def okB (l : Bs) : Bool := l.all fun c => !(decide (c < 32) || decide (c > 126))
theorem contB_okB (l : Bs) : contB l = (decide (l.length ≤ 200) && okB l) := rfl
abbrev qV (l : Bs) : V := if okB l = true then .tu [bstr (34 :: (esc l ++ [34])), boo (decide (l.length ≤ 200))] else .tu [bstr [], boo false]
theorem fin_q0 {l : Bs} (h : okB l = false) : V.tu [bstr [], boo false] = qV l := by unfold qV; rw [if_neg (by simp [h])]
theorem fin_q1 {l a : Bs} {b : Bool} (h : okB l = true) (ha : a = 34 :: (esc l ++ [34])) (hb : b = decide (l.length ≤ 200)) : V.tu [bstr a, boo b] = qV l := by unfold qV; rw [if_pos h, ha, hb]
theorem esc_upto {l : Bs} {k : Nat} (h : k < l.length) : esc (l.take (k + 1)) = esc (l.take k) ++ esc [l[k]] := by
  rw [← esc_app, List.take_append_getElem]
theorem and_bs {a b : Bs} {p : Prop} (e : a = b) (h : p) : V.cv (.string (mk a)) = V.cv (.string (mk b)) ∧ p := ⟨by rw [e], h⟩
set_option maxHeartbeats 2000000 in
set_option maxRecDepth 100000 in
theorem x_quoted (l : Bs) (hl : l.length ≤ 281474976710656) : DCalls Tryz.prog 149 [bstr l] (qV l) := by
  refine sx Tryz.func149 (by kernel_rfl) ?_
  conv => whnf
  refine ⟨[], Nat, fun k => [(8, int k), (4, bstr (34 :: esc (l.take k)))], fun _ => [], fun k => k ≤ l.length ∧ okB (l.drop k) = okB l, fun k => l.length - k, 0, ⟨Nat.zero_le _, rfl⟩, ?_, ?_⟩
  · refine ⟨rfl, ?_, ?_⟩ <;> repeat' (first | exact trivial | exact rfl | refine and_rfl ?_ | refine and_two ?_ ?_)
  rintro k ⟨hk1, hk⟩
  have hE : (esc (l.take k)).length ≤ 562949953421312 := by
    have h1 := esc_len (l.take k)
    have h2 := ex_le (l.take k)
    have h3 : (l.take k).length ≤ 281474976710656 := by rw [List.length_take]; omega
    omega
  conv => whnf
  rintro (_ | _) h2
  · have h2 : l.length ≤ k := by simp [mk_size] at h2; omega
    rw [List.drop_eq_nil_of_le h2] at hk
    rw [List.take_of_length_le h2] at hE ⊢
    conv => whnf
    refine ⟨by rw [mk_size, show (⟨#[34]⟩ : ByteArray).size = 1 from rfl, List.length_cons]; omega, ?_⟩
    conv => whnf
    rw [show mk (34 :: esc l) ++ (⟨#[34]⟩ : ByteArray) = mk (34 :: (esc l ++ [34])) from mk_app (34 :: esc l) [34]]
    exact fin_q1 (by rw [← hk]; rfl) rfl (by rw [mk_size, Bool.eq_iff_iff]; simp; omega)
  have h2 : k < l.length := by simp [mk_size] at h2; omega
  have hw : IntKind.i64.wrap (((k : Nat) : Int) + 1) = ((k + 1 : Nat) : Int) := wrap_succ (by omega)
  rw [drop_cons h2] at hk
  conv => whnf
  refine ⟨by omega, _, mk_at h2, ?_⟩
  conv => whnf
  rintro (_ | _) h3
  rotate_left
  · conv => whnf
    exact fin_q0 (by rw [← hk]; unfold okB; rw [List.all_cons, rangeB]; simp at *; omega)
  conv => whnf
  refine ⟨by omega, _, mk_at h2, ?_⟩
  conv => whnf
  rintro (_ | _) h4
  rotate_left
  · conv => whnf
    exact fin_q0 (by rw [← hk]; unfold okB; rw [List.all_cons, rangeB]; simp at *; omega)
  have hr : (decide (l[k] < 32) || decide (l[k] > 126)) = false := by rw [rangeB]; simp at *; omega
  have hk : okB (l.drop (k + 1)) = okB l := by rw [← hk]; unfold okB; rw [List.all_cons, hr]; rfl
  clear h3 h4
  have hsp : sp l[k] = (decide ((l[k].toNat : Int) = 34) || decide ((l[k].toNat : Int) = 92)) := by unfold sp; rw [u8_eq, u8_eq]; rfl
  have hU := esc_upto h2
  rw [esc_one] at hU
  conv => whnf
  refine ⟨by omega, _, mk_at h2, ?_⟩
  conv => whnf
  rintro (_ | _) h3
  · conv => whnf
    refine ⟨by omega, _, mk_at h2, ?_⟩
    conv => whnf
    rintro (_ | _) h4
    · have hs : sp l[k] = false := by rw [hsp]; simp at *; exact ⟨h3, h4⟩
      rw [hs, if_neg (by simp)] at hU
      conv => whnf
      rw [hw]
      refine ⟨by omega, by omega, by rw [mk_size]; omega, ?_⟩
      rw [mk_slice1 h2]
      conv => whnf
      rw [mk_app]
      refine ⟨by rw [mk_size, mk_size]; simp; omega, ?_⟩
      conv => whnf
      refine ⟨k + 1, ⟨h2, hk⟩, by dsimp only; omega, ?_⟩
      refine ⟨rfl, ?_, ?_⟩ <;> repeat' (first | exact trivial | exact rfl | refine and_rfl ?_ | refine and_val hw ?_ | refine and_bs (by rw [hU]; rfl) ?_ | refine and_two ?_ ?_)
    have hs : sp l[k] = true := by rw [hsp]; simp at *; exact .inr h4
    rw [hs, if_pos rfl] at hU
    conv => whnf
    refine ⟨by rw [mk_size, show (⟨#[92]⟩ : ByteArray).size = 1 from rfl, List.length_cons]; omega, ?_⟩
    conv => whnf
    rw [hw]
    refine ⟨by omega, by omega, by rw [mk_size]; omega, ?_⟩
    rw [mk_slice1 h2]
    conv => whnf
    rw [show mk (34 :: esc (l.take k)) ++ (⟨#[92]⟩ : ByteArray) = mk (34 :: (esc (l.take k) ++ [92])) from mk_app _ [92], mk_app]
    refine ⟨by rw [mk_size, mk_size]; simp; omega, ?_⟩
    conv => whnf
    refine ⟨k + 1, ⟨h2, hk⟩, by dsimp only; omega, ?_⟩
    refine ⟨rfl, ?_, ?_⟩ <;> repeat' (first | exact trivial | exact rfl | refine and_rfl ?_ | refine and_val hw ?_ | refine and_bs (by rw [hU]; simp) ?_ | refine and_two ?_ ?_)
  have hs : sp l[k] = true := by rw [hsp]; simp at *; exact .inl h3
  rw [hs, if_pos rfl] at hU
  conv => whnf
  refine ⟨by rw [mk_size, show (⟨#[92]⟩ : ByteArray).size = 1 from rfl, List.length_cons]; omega, ?_⟩
  conv => whnf
  rw [hw]
  refine ⟨by omega, by omega, by rw [mk_size]; omega, ?_⟩
  rw [mk_slice1 h2]
  conv => whnf
  rw [show mk (34 :: esc (l.take k)) ++ (⟨#[92]⟩ : ByteArray) = mk (34 :: (esc (l.take k) ++ [92])) from mk_app _ [92], mk_app]
  refine ⟨by rw [mk_size, mk_size]; simp; omega, ?_⟩
  conv => whnf
  refine ⟨k + 1, ⟨h2, hk⟩, by dsimp only; omega, ?_⟩
  refine ⟨rfl, ?_, ?_⟩ <;> repeat' (first | exact trivial | exact rfl | refine and_rfl ?_ | refine and_val hw ?_ | refine and_bs (by rw [hU]; simp) ?_ | refine and_two ?_ ?_)
end Go.Proofs.YtkpmlgpkmlhbjaaGreatDoor
