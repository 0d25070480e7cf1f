/- Texts joined by pack.py: XSxCy XCd44 -/
import Derived.Test.YtkpmlgpkmlhbjaaGreatDoorCp13
import Derived.Laws.CopyRow
import Derived.Laws.IdiomCopy
import Derived.Test.YtkpmlgpkmlhbjaaGreatDoorCp33
import Derived.Test.YtkpmlgpkmlhbjaaGreatDoorCp38
import Derived.Test.YtkpmlgpkmlhbjaaGreatDoorCp27
namespace Go.Proofs.YtkpmlgpkmlhbjaaGreatDoor
open Go.RowKit
section
variable {P : Program}
theorem map_one_get {α : Type} {enc : α → Value} {zs : List α} {i j : Nat} {d : D} (h : (((zs.map fun z => [D.cv (enc z)])[i]?).bind fun x => x[j]?) = some d) : j = 0 ∧ ∃ h : i < zs.length, d = .cv (enc zs[i]) := by
  rw [List.getElem?_map] at h
  cases hi : zs[i]? with
  | none => rw [hi] at h; cases h
  | some z =>
    rw [hi] at h
    obtain ⟨hlt, rfl⟩ := List.getElem?_eq_some_iff.1 hi
    cases j with
    | zero => simp at h; exact ⟨rfl, hlt, h.symm⟩
    | succ j => simp at h
theorem ot_copyV {α : Type} (enc : α → Value) (he1 : ∀ z, (enc z).oneCell' = true) {o : Oper} {E : Operand → V} {m : List (Option Bk)} {c : Call} {x y : Operand} {tx ty e n k Er : Nat} {fr f : Bool} {xs ys : List α} (ho : o.op = .call c) (hc : c.callee = .builtin .copy) (ha : c.args.toList = [x, y]) (hat : c.argTypes.toList = [tx, ty])
    (hx : E x = .ow n k) (hy : E y = .sl f 1 (ys.map fun z => [D.cv (enc z)])) (hm : m[n]? = some (some (.row k Er 1 fr (xs.map fun z => [D.cv (enc z)])))) (ht : P.underlying tx = some (.slice e)) (hs : (P.info? e).map (·.size) = some 1) :
    OpTr P o E m (.cv (.int .i64 ((Nat.min ys.length xs.length : Nat) : Int))) (m.set n (some (.row k Er 1 fr ((ys.take xs.length ++ xs.drop ys.length).map fun z => [D.cv (enc z)])))) := by
  intro B w0 N S t a w hs0 hr
  have e1 := arr2 ha
  have e2 := arr2 hat
  have hrx := hr x (by rw [ho]; simp [Op.operands, Call.operands, e1])
  have hry := hr y (by rw [ho]; simp [Op.operands, Call.operands, e1])
  rw [hx] at hrx
  rw [hy] at hry
  generalize hux : a.eval x = ux at hrx
  generalize huy : a.eval y = uy at hry
  obtain ⟨v0, us, b1, b2, b3, b4, b5, b6⟩ := hs0.blk n _ hm
  have hv : ux = v0 := by
    cases hrx with
    | ow _ _ _ _ hn =>
      obtain ⟨k', u, g1, _, g3⟩ := hn
      rw [b1] at g1; cases g1
      exact g3 rfl
  subst hv
  rw [List.length_map] at b2
  obtain ⟨A2, cap2, rfl⟩ : ∃ A2 cap2, uy = .slice A2 ys.length cap2 := by
    cases hry with
    | sl _ _ _ _ h =>
      generalize hq : ys.map (fun z => [D.cv (enc z)]) = q at h
      have hl : q.length = ys.length := by rw [← hq, List.length_map]
      cases h with
      | nil => exact ⟨_, _, by rw [← hl]; rfl⟩
      | sl _ _ b o cap u hS hxx hcap hcc hdd => exact ⟨_, _, by rw [← hl]⟩
  by_cases h0 : Nat.min ys.length xs.length = 0
  · have hsame : ys.take xs.length ++ xs.drop ys.length = xs := by
      rcases Nat.eq_zero_or_pos ys.length with h | h
      · rw [List.eq_nil_of_length_eq_zero h]; simp
      · have : xs = [] := List.eq_nil_of_length_eq_zero (by have : Nat.min ys.length xs.length = min ys.length xs.length := rfl; omega)
        subst this; simp
    have hset : m.set n (some (.row k Er 1 fr ((ys.take xs.length ++ xs.drop ys.length).map fun z => [D.cv (enc z)]))) = m := by
      rw [hsame]
      have hlt := lt_of_get hm
      refine List.ext_getElem? fun i => ?_
      rw [List.getElem?_set]
      split
      · rename_i e; subst e; first | rw [if_pos hlt, hm] | rw [hm]
      · rfl
    rw [hset]
    obtain ⟨A1, cap1, rfl⟩ := own_parts b2
    have hrun := run_copy_none (P := P) w tx ty o.type e A1 A2 xs.length cap1 ys.length cap2 ht hs h0
    refine opOk_val (u := goInt 0) (w' := w) ?_ ⟨N, S, hs0, by rw [h0]; exact .cv _⟩
    unfold execOp
    simp only [ho]
    simp [resolve, hc, e1, e2, invoke, builtin, hux, huy, hrun]
  have hmin : Nat.min ys.length xs.length = min ys.length xs.length := rfl
  rw [hmin] at h0 ⊢
  rcases b2.2 with ⟨_, hl0⟩ | ⟨g, cap, cu, rfl, _, hg, hle, hmax, hcs, htk⟩
  · omega
  have hgl : g < w.heap.size := (Array.getElem?_eq_some_iff.1 hg).1
  obtain ⟨b, o2, rfl, hcell⟩ : ∃ b o2, A2 = some ⟨b, o2, none⟩ ∧ ∀ i (hi : i < ys.length), w.cell? ⟨b, o2 + i, none⟩ = some (enc ys[i]) := by
    obtain ⟨L, hL, hry'⟩ : ∃ L, L = ys.length ∧ RelV N S w (.sl f 1 (ys.map fun z => [D.cv (enc z)])) (.slice A2 L cap2) := ⟨_, rfl, hry⟩
    have hL0 : L ≠ 0 := by omega
    clear hry
    cases hry' with
    | sl _ _ _ _ h =>
      generalize hq : ys.map (fun z => [D.cv (enc z)]) = q at h
      cases h with
      | nil => exact absurd rfl hL0
      | sl _ _ b o cap u hS hxx hcap hcc hdd =>
        subst hq
        refine ⟨b, o, rfl, fun i hi => ?_⟩
        have q1 : ((ys.map (fun z => [D.cv (enc z)]))[i]?.bind fun x => x[0]?) = some (.cv (enc ys[i])) := by simp [hi]
        have g1 := hcc i 0 _ q1
        have g2 := hdd i 0 _ q1
        generalize u i 0 = z at g1 g2
        cases g2
        simpa using g1
  have hcsl : ((ys.take xs.length).map enc).length = min ys.length xs.length := by simp [Nat.min_comm]
  have hcu : cap ≤ cu.size := by rw [hcs]; omega
  have hcut : ∀ i (hi : i < xs.length), cu[i]? = some (enc xs[i]) := fun i hi => by
    obtain ⟨u, hu, hr⟩ := b5 i 0 (.cv (enc xs[i])) (by simp [hi])
    rw [Nat.mul_one, Nat.add_zero, ← htk, List.getElem?_take] at hu
    split at hu
    · rw [Array.getElem?_toList] at hu
      rw [hu]
      cases hr; rfl
    · cases hu
  have hrun := run_copy_row (P := P) w tx ty o.type e g 0 xs.length cap ⟨b, o2, none⟩ ys.length cap2 cu Er ((ys.take xs.length).map enc) ht hs hg (by rw [hcsl]; first | done | rfl)
    (fun j v hj => by
      rw [List.getElem?_map, List.getElem?_take] at hj
      split at hj
      · cases hyj : ys[j]? with
        | none => rw [hyj] at hj; cases hj
        | some z =>
          rw [hyj] at hj; cases hj
          obtain ⟨hlt, rfl⟩ := List.getElem?_eq_some_iff.1 hyj
          have h9 := hcell j hlt
          rw [show (⟨b, o2, none⟩ : Addr).add j = ⟨b, o2 + j, none⟩ by unfold Addr.add; split <;> simp_all]
          exact h9
      · cases hj) (by rw [hcsl]; omega) (fun v hv => by
      obtain ⟨z, _, rfl⟩ := List.mem_map.1 hv
      exact he1 z)
  rw [hcsl] at hrun
  have hheap : ∀ j, (w.setRow g (cu.toList.take 0 ++ (ys.take xs.length).map enc ++ cu.toList.drop (0 + min ys.length xs.length)).toArray).heap[j]? = if g = j then some (.cells (cu.toList.take 0 ++ (ys.take xs.length).map enc ++ cu.toList.drop (0 + min ys.length xs.length)).toArray Er (0, 0)) else w.heap[j]? := by
    intro j
    unfold World.setRow
    simp only
    rw [Array.getElem?_modify]
    split
    · rename_i e; subst e; rw [hg]; rfl
    · rfl
  generalize hW : w.setRow g (cu.toList.take 0 ++ (ys.take xs.length).map enc ++ cu.toList.drop (0 + min ys.length xs.length)).toArray = W at hrun hheap
  have hWs : W.heap.size = w.heap.size := by rw [← hW]; unfold World.setRow; simp
  have hWo : W.os = w.os ∧ W.tape = w.tape ∧ W.output = w.output := by rw [← hW]; exact ⟨rfl, rfl, rfl⟩
  have hlen : (ys.take xs.length ++ xs.drop ys.length).length = xs.length := by simp; omega
  obtain ⟨N', g1, g2, g3⟩ := hs0.set (w' := W) (d := n) (k := k) (v := .slice (some ⟨g, 0, none⟩) xs.length cap) (b := .row k Er 1 fr ((ys.take xs.length ++ xs.drop ys.length).map fun z => [D.cv (enc z)])) (lt_of_get hm) (fun k0 v0 h => by rw [b1] at h; cases h; exact .inl ⟨rfl, rfl⟩)
    ⟨hWo.1.trans hs0.low.os, hWo.2.1.trans hs0.low.tape, hWo.2.2.trans hs0.low.output, by rw [hWs]; exact hs0.low.size, fun j hj => by
      rw [hheap, if_neg (fun e => (hs0.own n _ _ g b1 rfl).1 (by rw [e]; exact hj))]
      exact hs0.low.block j hj⟩ (by rw [hWs]; exact Nat.le_refl _) (fun j _ h2 => by rw [hheap, if_neg (fun e => h2 _ _ b1 (by rw [e]; rfl))])
    (fun j hj => by simp [atOf] at hj; subst hj; exact ⟨by rw [hWs]; exact hgl, .inr ⟨_, _, b1, rfl⟩⟩)
    (fun N' g1 _ _ => by
      refine ⟨_, (ys.take xs.length ++ xs.drop ys.length).map enc, g1, ⟨by simp, .inr ⟨g, cap, _, by rw [List.length_map, hlen], Nat.zero_le _, by rw [hheap, if_pos rfl], by rw [List.length_map, hlen]; exact hle, hmax, by simp; omega, ?_⟩⟩, by intro x hx; obtain ⟨z, _, rfl⟩ := List.mem_map.1 hx; rfl, by decide, fun i j d hd => ?_, fun h j hj => b6 h j hj⟩
      · rw [List.length_map, hlen, Nat.mul_one]
        apply List.ext_getElem?
        intro i
        rw [List.getElem?_take]
        split
        · rename_i hi
          simp only [List.take_zero, List.nil_append, Nat.zero_add]
          rw [List.getElem?_append, List.getElem?_map, List.getElem?_map, List.getElem?_append]
          simp only [List.length_map, List.length_take]
          by_cases h1 : i < min xs.length ys.length
          · rw [if_pos (by rw [Nat.min_comm] at h1 ⊢; omega), if_pos (by omega)]
          · rw [if_neg (by rw [Nat.min_comm] at h1 ⊢; omega), if_neg (by omega), List.getElem?_drop, List.getElem?_drop, Array.getElem?_toList]
            have e3 : min ys.length xs.length + (i - min xs.length ys.length) = i := by omega
            have e4 : ys.length + (i - min xs.length ys.length) = i := by omega
            rw [e3, e4, hcut i hi, List.getElem?_eq_getElem hi]; rfl
        · rename_i hi
          rw [List.getElem?_eq_none (by simp; omega)]
      · obtain ⟨rfl, hi, rfl⟩ := map_one_get hd
        exact ⟨enc _, by rw [Nat.mul_one, Nat.add_zero, List.getElem?_map, List.getElem?_eq_getElem hi]; rfl, .cv _ (he1 _)⟩)
  refine opOk_val (u := goInt ((min ys.length xs.length : Nat) : Int)) (w' := W) ?_ ⟨N', S, g3, .cv _⟩
  unfold execOp
  simp only [ho]
  simp [resolve, hc, e1, e2, invoke, builtin, hux, huy, hrun]
end
end Go.Proofs.YtkpmlgpkmlhbjaaGreatDoor
namespace Go.Proofs.YtkpmlgpkmlhbjaaGreatDoor
open Go.RowKit
theorem zStr : Value.cells (.string ⟨#[]⟩) = #[.string ⟨#[]⟩] := rfl
theorem rep_str (n : Nat) : List.replicate n [D.cv (.string ⟨#[]⟩)] = (List.replicate n ([] : Bs)).map strD := by rw [List.map_replicate]; rfl
def nextF (n : Nat) (l : List Bs) (bad : Bool) : List Bs × List Bs × Bool :=
  match l with
  | [] => (List.replicate n [], [], true)
  | b :: r => if bad || (unpackP b).2 != 0 then (List.replicate n [], r, true)
    else ((unpackP b).1.take n ++ (List.replicate n []).drop (unpackP b).1.length, r, (unpackP b).1.length != n)
theorem next_cons (n : Nat) (b : Bs) (r : List Bs) (bad : Bool) : nextF n (b :: r) bad = if bad || (unpackP b).2 != 0 then (List.replicate n [], r, true) else ((unpackP b).1.take n ++ (List.replicate n []).drop (unpackP b).1.length, r, (unpackP b).1.length != n) := rfl
abbrev rdM (l : List Bs) (bad : Bool) : Bk := .box [.sl false 1 (l.map strD), boo bad]
theorem tl_eq (b : Bs) (r : List Bs) : (((b :: r).map strD).take ((((b :: r).map strD).length : Nat) : Int).toNat).drop (Int.toNat 1) = r.map strD := by
  rw [Int.toNat_natCast, List.take_length]; rfl
set_option maxHeartbeats 4000000 in
set_option maxRecDepth 100000 in
theorem x_next (n : Nat) (l : List Bs) (bad : Bool) (hn : n ≤ 64) (hl : ∀ b ∈ l, b.length ≤ 140737488355328) :
    MCalls Tryz.prog 65 [.bx 0 0, int n] [rdM l bad] (strsV (nextF n l bad).1) [rdM (nextF n l bad).2.1 (nextF n l bad).2.2] := by
  obtain ⟨ii, i1, i2, i3, i4⟩ := strInfo
  refine msx Tryz.func65 (by kernel_rfl) (by kernel_rfl) ?_
  conv => whnf
  refine ⟨_, _, ot_makeZ (n := n) (z := .string ⟨#[]⟩) (e := 9) (i := ii) rfl (by simp [evN, ev, V.nf]) (by simp [evN, ev, V.nf]) rfl rfl (by kernel_rfl) i1 i2 zStr rfl i3 (by rw [i4]; omega) (by omega), ?_⟩
  rw [rep_str]
  cases l with
  | nil =>
    conv => whnf
    refine known true rfl ?_
    conv => whnf
    exact ⟨rfl, rfl, rfl⟩
  | cons b r =>
    have hb := hl b (by simp)
    conv => whnf
    refine known false (by simp; omega) ?_
    conv => whnf
    refine ⟨by decide, _, rfl, ?_⟩
    conv => whnf
    refine ⟨_, x_unpack b hb, ?_⟩
    conv => whnf
    refine ⟨by decide, by simp; omega, Int.le_refl _, ?_⟩
    rw [tl_eq]
    cases bad with
    | true =>
      conv => whnf
      refine known true rfl ?_
      conv => whnf
      exact ⟨rfl, rfl, rfl⟩
    | false =>
      conv => whnf
      refine known false rfl ?_
      conv => whnf
      rintro (_ | _) h
      rotate_left
      · have hN : nextF n (b :: r) false = (List.replicate n [], r, true) := by rw [next_cons, if_pos (by rw [show ((unpackP b).2 != 0) = true from h]; rfl)]
        rw [hN]
        conv => whnf
        exact ⟨rfl, rfl, rfl⟩
      have hN : nextF n (b :: r) false = ((unpackP b).1.take n ++ (List.replicate n []).drop (unpackP b).1.length, r, (unpackP b).1.length != n) := by rw [next_cons, if_neg (by rw [show ((unpackP b).2 != 0) = false from h]; simp)]
      rw [hN]
      clear hN h
      generalize (unpackP b).1 = u
      have hlu : (u.map strD).length = u.length := List.length_map _
      conv => whnf
      refine ⟨_, _, ot_copyV (e := 9) (fun b : Bs => .string (mk b)) (fun _ => rfl) (xs := List.replicate n []) (ys := u) rfl rfl rfl rfl rfl rfl rfl (by kernel_rfl) (by kernel_rfl), ?_⟩
      have e1 : u.take n = u.take (List.replicate n ([] : Bs)).length := by rw [List.length_replicate]
      have e2 : Nat.min u.length (List.replicate n ([] : Bs)).length = min u.length n := by rw [List.length_replicate]
      rw [e1]
      conv => whnf
      rw [e2]
      rintro (_ | _) g1
      rotate_left
      · have g1 : min u.length n ≠ n := by simp at g1; omega
        rw [show (u.length != n) = true by simp; omega]
        conv => whnf
        exact ⟨rfl, rfl, rfl⟩
      have e3 : (u.length != n) = ((((u.map strD).length : Nat) : Int) != (n : Int)) := by
        rw [hlu, Bool.eq_iff_iff]; simp; omega
      rw [e3]
      conv => whnf
      exact ⟨rfl, rfl, rfl⟩
set_option maxHeartbeats 4000000 in
set_option maxRecDepth 100000 in
theorem x_rnum (s : Bs) (l : List Bs) (bad : Bool) (hs : s.length ≤ 281474976710656) :
    MCalls Tryz.prog 66 [.bx 0 0, bstr s] [rdM l bad] (int (pnumG s).1) [rdM l (bad || (pnumG s).2 != 0)] := by
  refine msx Tryz.func66 (by kernel_rfl) (by kernel_rfl) ?_
  conv => whnf
  refine ⟨_, x_parseG s hs, ?_⟩
  cases bad with
  | true =>
    conv => whnf
    refine known true rfl ?_
    conv => whnf
    exact ⟨rfl, rfl, rfl⟩
  | false =>
    conv => whnf
    refine known false rfl ?_
    conv => whnf
    exact ⟨rfl, rfl, rfl⟩
end Go.Proofs.YtkpmlgpkmlhbjaaGreatDoor
