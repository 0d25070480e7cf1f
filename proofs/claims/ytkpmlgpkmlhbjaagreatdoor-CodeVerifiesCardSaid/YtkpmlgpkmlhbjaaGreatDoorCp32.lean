/- Texts joined by pack.py: XSxIp XCd38 XCd39 XCd54 XCd33 -/
import Derived.Test.YtkpmlgpkmlhbjaaGreatDoorCp11
import Derived.Shelf.Sort.Plain
import Derived.Shelf.Slices.CompactI
import Derived.Test.YtkpmlgpkmlhbjaaGreatDoorCp30
import Derived.Test.YtkpmlgpkmlhbjaaGreatDoorCp31
import Derived.Test.YtkpmlgpkmlhbjaaGreatDoorCp27
import Derived.Test.YtkpmlgpkmlhbjaaGreatDoorCp17
namespace Go.Proofs.YtkpmlgpkmlhbjaaGreatDoor
open Go.RowKit Go.Shelf
structure Put (w : World) (g : Nat) (zs : List Int) (w' : World) : Prop where
  os : w'.os = w.os
  tape : w'.tape = w.tape
  output : w'.output = w.output
  size : w.heap.size ≤ w'.heap.size
  other : ∀ k, k < w.heap.size → k ≠ g → w'.heap[k]? = w.heap[k]?
  row : ∀ cu E, w.heap[g]? = some (.cells cu E (0, 0)) → ∃ cu', w'.heap[g]? = some (.cells cu' E (0, 0)) ∧ cu'.size = cu.size ∧ ∀ i (h : i < zs.length), i < cu.size → cu'[i]? = some (.int .i64 zs[i])
theorem put_row {w : World} {g n : Nat} {os : Array Obj} {zs : List Int} : Put w g zs (Sort.grow (Sort.putRow (Value.int .i64) (Sort.ahead w n) g 0 zs.toArray) os) := by
  refine ⟨rfl, rfl, rfl, by unfold Sort.grow Sort.putRow Sort.mapBlock Sort.ahead; simp, fun k hk hne => ?_, fun cu E h => ?_⟩
  · unfold Sort.grow Sort.putRow Sort.mapBlock Sort.ahead
    simp only
    rw [Array.getElem?_append_left (by simpa using hk), Array.getElem?_modify, if_neg (Ne.symm hne)]
  · have hlt := (Array.getElem?_eq_some_iff.1 h).1
    refine ⟨Sort.putCells (Value.int .i64) 0 zs.toArray cu, ?_, by simp [Sort.putCells], fun i hi hc => ?_⟩
    · unfold Sort.grow Sort.putRow Sort.mapBlock Sort.ahead
      simp only
      rw [Array.getElem?_append_left (by simpa using hlt), Array.getElem?_modify, if_pos rfl, h]
      rfl
    · unfold Sort.putCells
      rw [Array.getElem?_mapIdx]
      simp [hc, hi]
section
variable {P : Program} {T : Tab}
theorem map_int_get {zs : List Int} {i j : Nat} {d : D} (h : (((zs.map fun z => [D.cv (.int .i64 z)])[i]?).bind fun x => x[j]?) = some d) : j = 0 ∧ ∃ h : i < zs.length, d = .cv (.int .i64 zs[i]) := by
  rw [List.getElem?_map] at h
  cases hi : zs[i]? with
  | none => rw [hi] at h; cases h
  | some z =>
    rw [hi] at h
    obtain ⟨hlt, rfl⟩ := List.getElem?_eq_some_iff.1 hi
    cases j with
    | zero => simp at h; exact ⟨rfl, hlt, h.symm⟩
    | succ j => simp at h
theorem ot_inplace {o : Oper} {E : Operand → V} {m : List (Option Bk)} {c : Call} {f : FuncId} {n k Er : Nat} {zs zs' : List Int} {res : V} (Ok : Option Addr → Nat → Value → Prop) (ho : o.op = .call c) (hc : calleeV E c = some (f, [], [])) (hargs : zA T E c.args.toList c.argTypes.toList = [.ow n k])
    (hm : m[n]? = some (some (.row k Er 1 true (zs.map fun z => [D.cv (.int .i64 z)])))) (hlen : zs'.length = zs.length) (hF : ∃ fn, P.funcs[f]? = some fn ∧ (fn.name == "runtime.NumGoroutine") = false ∧ fn.body.isNone = false)
    (hcall0 : zs = [] → ∀ (w : World) (A : Option Addr) (cap : Nat), Calls P f #[.slice A 0 cap] w fun e w' => ∃ r, e = .returned r ∧ Ok A cap r ∧ w' = w)
    (hcall : ∀ (w : World) (g cap : Nat), Sort.Holds (Value.int .i64) w g 0 zs.toArray → g < w.heap.size → zs.length ≤ cap → Calls P f #[.slice (some ⟨g, 0, none⟩) zs.length cap] w fun e w' => ∃ r, e = .returned r ∧ Ok (some ⟨g, 0, none⟩) cap r ∧ Put w g zs' w')
    (hres : ∀ (N : Names) (S : Sets) (w' : World) (A : Option Addr) (cap : Nat) (r : Value), Ok A cap r → N n = some (k, .slice A zs.length cap) → RelV N S w' res r) :
    OpTr P o E m res (m.set n (some (.row k Er 1 true (zs'.map fun z => [D.cv (.int .i64 z)])))) := by
  intro B w0 N S t a w hs hx
  obtain ⟨us, hus, hgo⟩ := run_call (T := T) ho hc hx hF
  rw [hargs] at hus
  obtain ⟨v, vs, rfl, hv, hvs⟩ := relL_uncons hus
  obtain rfl : vs = [] := by have := hvs.1; simpa using this.symm
  obtain ⟨v0, us, b1, b2, b3, b4, b5, b6⟩ := hs.blk n _ hm
  have hv : v = v0 := by
    cases hv with
    | ow _ _ _ _ hn =>
      obtain ⟨k', u, g1, _, g3⟩ := hn
      rw [b1] at g1; cases g1
      exact g3 rfl
  subst hv
  rw [List.length_map] at b2
  refine hgo _ ?_
  rcases b2.2 with ⟨rfl, hl0⟩ | ⟨g, cap, cu, rfl, _, hg, hle, hmax, hcs, htk⟩
  · have hz : zs = [] := List.eq_nil_of_length_eq_zero hl0
    have hz' : zs' = [] := List.eq_nil_of_length_eq_zero (by omega)
    refine (hcall0 hz w none 0).mono ?_
    rintro e w' ⟨r, rfl, hok, rfl⟩
    refine ⟨r, rfl, N, S, ?_, hres N S _ none 0 r hok (by rw [b1, hz]; rfl)⟩
    subst hz hz'
    have e : m.set n (some (.row k Er 1 true (List.map (fun z => [D.cv (.int .i64 z)]) ([] : List Int)))) = m := by
      have hlt := lt_of_get hm
      refine List.ext_getElem? fun i => ?_
      rw [List.getElem?_set]
      split
      · rename_i e; subst e; first | rw [if_pos hlt, hm] | rw [hm]
      · rfl
    rw [e]; exact hs
  · have hgl : g < w.heap.size := (Array.getElem?_eq_some_iff.1 hg).1
    have hcell : ∀ i (hi : i < zs.length), cu[i]? = some (.int .i64 zs[i]) := fun i hi => by
      obtain ⟨u, hu, hr⟩ := b5 i 0 (.cv (.int .i64 zs[i])) (by simp [hi])
      rw [Nat.mul_one, Nat.add_zero, ← htk, List.getElem?_take] at hu
      split at hu
      · rw [Array.getElem?_toList] at hu
        rw [hu]
        cases hr; rfl
      · cases hu
    have hH : Sort.Holds (Value.int .i64) w g 0 zs.toArray := by
      intro j hj
      have hj : j < zs.length := by simpa using hj
      constructor
      · unfold World.cell?
        rw [hg]
        simp only [Option.isSome_none, Bool.false_eq_true, if_false, Nat.zero_add]
        rw [hcell j hj]
        simp [hj]
      · unfold World.frozen?
        rw [hg]
        simp
    refine (hcall w g cap hH hgl hle).mono ?_
    rintro e w' ⟨r, rfl, hok, hput⟩
    obtain ⟨cu', q1, q2, q3⟩ := hput.row cu Er hg
    obtain ⟨N', g1, g2, g3⟩ := hs.set (w' := w') (d := n) (k := k) (v := .slice (some ⟨g, 0, none⟩) zs.length cap) (b := .row k Er 1 true (zs'.map fun z => [D.cv (.int .i64 z)])) (lt_of_get hm) (fun k0 v0 h => by rw [b1] at h; cases h; exact .inl ⟨rfl, rfl⟩)
      ⟨hput.os.trans hs.low.os, hput.tape.trans hs.low.tape, hput.output.trans hs.low.output, Nat.le_trans hs.low.size hput.size, fun j hj => by
        rw [hput.other j (hs.base j hj) (fun e => (hs.own n _ _ g b1 rfl).1 (by rw [← e]; exact hj))]
        exact hs.low.block j hj⟩ hput.size (fun j h1 h2 => hput.other j h1 fun e => h2 _ _ b1 (by rw [e]; rfl))
      (fun j hj => by simp [atOf] at hj; subst hj; exact ⟨Nat.lt_of_lt_of_le hgl hput.size, .inr ⟨_, _, b1, rfl⟩⟩)
      (fun N' g1 _ _ => ⟨_, zs'.map (Value.int .i64), g1, ⟨by simp, .inr ⟨g, cap, cu', by simp [hlen], Nat.zero_le _, q1, by simp [hlen]; exact hle, hmax, by rw [q2]; exact hcs, by
          apply List.ext_getElem?
          intro i
          rw [List.getElem?_take]
          have hcu : zs.length ≤ cu.size := by rw [hcs]; omega
          split
          · rename_i hi
            simp only [List.length_map, Nat.mul_one] at hi
            rw [Array.getElem?_toList, q3 i hi (by omega), List.getElem?_map]
            simp [hi]
          · rename_i hi
            simp only [List.length_map, Nat.mul_one] at hi
            rw [List.getElem?_eq_none (by simp; omega)]⟩⟩, by simp, by decide, fun i j d hd => by
          obtain ⟨rfl, hi, rfl⟩ := map_int_get hd
          exact ⟨.int .i64 zs'[i], by simp [hi], .cv _ rfl⟩, fun _ j hj => b6 rfl j hj⟩)
    exact ⟨r, rfl, N', S, g3, hres N' S w' _ _ r hok g1⟩
end
end Go.Proofs.YtkpmlgpkmlhbjaaGreatDoor
namespace Go.Proofs.YtkpmlgpkmlhbjaaGreatDoor
open Go.RowKit Go.Shelf
abbrev Asc (l : List Int) : Prop := l.Pairwise (· < ·)
theorem asc_eq : ∀ {l r : List Int}, Asc l → Asc r → (∀ x, x ∈ l ↔ x ∈ r) → l = r
  | [], [], _, _, _ => rfl
  | [], b :: r, _, _, h => by have := (h b).2 (by simp); simp at this
  | a :: l, [], _, _, h => by have := (h a).1 (by simp); simp at this
  | a :: l, b :: r, h1, h2, h => by
    obtain ⟨p1, p2⟩ := List.pairwise_cons.1 h1
    obtain ⟨q1, q2⟩ := List.pairwise_cons.1 h2
    have e : a = b := by
      have ha := (h a).1 (by simp)
      have hb := (h b).2 (by simp)
      rcases List.mem_cons.1 ha with e | ha
      · exact e
      rcases List.mem_cons.1 hb with e | hb
      · exact e.symm
      have := q1 a ha
      have := p1 b hb
      omega
    subst e
    congr 1
    refine asc_eq p2 q2 fun x => ?_
    have hx := h x
    constructor
    · intro hm
      have hne : x ≠ a := by have := p1 x hm; omega
      exact (List.mem_cons.1 (hx.1 (by simp [hm]))).resolve_left hne
    · intro hm
      have hne : x ≠ a := by have := q1 x hm; omega
      exact (List.mem_cons.1 (hx.2 (by simp [hm]))).resolve_left hne
theorem compact_mem {zs : List Int} {x : Int} : x ∈ Lib.compact zs ↔ x ∈ zs := by
  unfold Lib.compact Lib.compactUpTo
  simp only [List.mem_map, List.mem_filter, List.mem_range]
  constructor
  · rintro ⟨i, ⟨hi, _⟩, rfl⟩
    rw [getElem!_pos zs.toArray i (by simpa using hi)]
    simp
  · intro hx
    obtain ⟨i, hi, rfl⟩ := List.getElem_of_mem hx
    induction i using Nat.strongRecOn with
    | _ i ih =>
      by_cases hk : Lib.keeps zs.toArray i = true
      · exact ⟨i, ⟨hi, hk⟩, by rw [getElem!_pos zs.toArray i (by simpa using hi)]; simp⟩
      · unfold Lib.keeps at hk
        simp only [decide_eq_true_eq, not_or, Classical.not_not] at hk
        obtain ⟨h0, he⟩ := hk
        rw [getElem!_pos zs.toArray i (by simpa using hi), getElem!_pos zs.toArray (i - 1) (by simp; omega)] at he
        simp only [List.getElem_toArray] at he
        have := ih (i - 1) (by omega) (by omega) (List.getElem_mem (by omega))
        rw [he]; exact this
theorem compact_asc {zs : List Int} (h : zs.Pairwise (· ≤ ·)) : Asc (Lib.compact zs) := by
  unfold Lib.compact Lib.compactUpTo
  rw [Asc, List.pairwise_map]
  have hr : ((List.range zs.length).filter (Lib.keeps zs.toArray)).Pairwise (· < ·) := List.Pairwise.filter _ List.pairwise_lt_range
  refine List.Pairwise.imp_of_mem (R := (· < ·)) ?_ hr
  intro i j hi hj hij
  simp only [List.mem_filter, List.mem_range] at hi hj
  have hj2 := hj.2
  unfold Lib.keeps at hj2
  simp only [decide_eq_true_eq] at hj2
  have hne := hj2.resolve_left (by omega)
  rw [getElem!_pos zs.toArray j (by simpa using hj.1), getElem!_pos zs.toArray (j - 1) (by simp; omega)] at hne
  rw [getElem!_pos zs.toArray j (by simpa using hj.1), getElem!_pos zs.toArray i (by simpa using hi.1)]
  simp only [List.getElem_toArray] at hne ⊢
  rw [List.pairwise_iff_getElem] at h
  have h1 : zs[i] ≤ zs[j - 1]'(by omega) := by
    by_cases e : i = j - 1
    · subst e; exact Int.le_refl _
    · exact h i (j - 1) (by omega) (by omega) (by omega)
  have h2 : zs[j - 1]'(by omega) ≤ zs[j]'hj.1 := h (j - 1) j (by omega) hj.1 (by omega)
  omega
def jumpB (x : In) : Bool := x.op == 13 || x.op == 14
def jumps (l : List In) : List Int := (l.filter jumpB).map (·.a)
def tgtP (c : Cd) : List Int := if (chkP c).2 = 0 then (Lib.compact ((jumps c.is).mergeSort fun x y => decide (x ≤ y))) else []
theorem tgt_sorted (l : List Int) : (l.mergeSort fun x y => decide (x ≤ y)).Pairwise (· ≤ ·) := by
  have := List.pairwise_mergeSort (le := fun x y : Int => decide (x ≤ y)) (fun a b c h1 h2 => by simp at *; omega) (fun a b => by simp; omega) l
  exact this.imp fun h => by simpa using h
theorem tgt_perm (l : List Int) : (l.mergeSort fun x y => decide (x ≤ y)).Perm l := List.mergeSort_perm l _
def flagged (n : Nat) (fl : List Bool) : List Int := ((List.range n).filter fun i => fl.getD i false).map fun i : Nat => (i : Int)
theorem flagged_asc (n : Nat) (fl : List Bool) : Asc (flagged n fl) := by
  unfold flagged
  rw [Asc, List.pairwise_map]
  have hr : ((List.range n).filter fun i => fl.getD i false).Pairwise (· < ·) := List.Pairwise.filter _ List.pairwise_lt_range
  exact hr.imp fun h => by omega
theorem flagged_eq {c : Cd} (h : (chkP c).2 = 0) {n : Nat} {fl : List Bool} (hb : ∀ x ∈ jumps c.is, 0 ≤ x ∧ x < n) (hf : ∀ i, i < n → (fl.getD i false = true ↔ (i : Int) ∈ jumps c.is)) : flagged n fl = tgtP c := by
  unfold tgtP
  rw [if_pos h]
  refine asc_eq (flagged_asc n fl) (compact_asc (tgt_sorted _)) fun x => ?_
  rw [compact_mem, (tgt_perm _).mem_iff]
  unfold flagged
  simp only [List.mem_map, List.mem_filter, List.mem_range]
  constructor
  · rintro ⟨i, ⟨h1, h2⟩, rfl⟩
    exact (hf i h1).1 h2
  · intro hx
    obtain ⟨h1, h2⟩ := hb x hx
    exact ⟨x.toNat, ⟨by omega, (hf _ (by omega)).2 (by rw [Int.toNat_of_nonneg h1]; exact hx)⟩, by omega⟩
section
variable {T : Tab}
theorem ot_sortI {o : Oper} {E : Operand → V} {m : List (Option Bk)} {c : Call} {n k Er : Nat} {zs : List Int} (ho : o.op = .call c) (hc : calleeV E c = some (32, [], [])) (hargs : zA T E c.args.toList c.argTypes.toList = [.ow n k])
    (hm : m[n]? = some (some (.row k Er 1 true (zs.map intD)))) (hsz : zs.length < 4611686018427387904) :
    OpTr Tryz.prog o E m .un (m.set n (some (.row k Er 1 true ((zs.mergeSort fun x y => decide (x ≤ y)).map intD)))) :=
  ot_inplace (T := T) (fun _ _ _ => True) ho hc hargs hm (List.length_mergeSort _) ⟨_, Tryz.func32, by kernel_rfl, by kernel_rfl⟩
    (fun hz w A cap => (Tryz.slices_Sort_int_none A cap w).mono fun e w' ⟨h1, h2⟩ => ⟨_, h1, trivial, h2⟩)
    (fun w g cap hH hg hcap => (Tryz.slices_Sort_int g 0 cap zs w hH hg hsz).mono fun e w' ⟨h1, q, os, h2⟩ => ⟨_, h1, trivial, by rw [h2]; exact put_row⟩)
    (fun N S w' A cap r _ _ => .un _)
theorem ot_compactI {o : Oper} {E : Operand → V} {m : List (Option Bk)} {c : Call} {n k Er : Nat} {zs : List Int} (ho : o.op = .call c) (hc : calleeV E c = some (33, [], [])) (hargs : zA T E c.args.toList c.argTypes.toList = [.ow n k])
    (hm : m[n]? = some (some (.row k Er 1 true (zs.map intD)))) (hsz : zs.length ≤ 9223372036854775807) :
    OpTr Tryz.prog o E m (.vw n k 1 0 (Lib.compact zs).length) (m.set n (some (.row k Er 1 true ((Lib.compact zs ++ List.replicate (zs.length - (Lib.compact zs).length) 0).map intD)))) :=
  ot_inplace (T := T) (fun A cap r => r = .slice A (Lib.compact zs).length cap) ho hc hargs hm (by have := Lib.compact_length_le zs; simp; omega) ⟨_, Tryz.func33, by kernel_rfl, by kernel_rfl⟩
    (fun hz w A cap => (Tryz.slices_Compact_int_empty A cap w).mono fun e w' ⟨h1, h2⟩ => ⟨_, h1, by subst hz; rfl, h2⟩)
    (fun w g cap hH hg hcap => (Tryz.slices_Compact_int g 0 cap zs w hH hsz hcap).mono fun e w' ⟨h1, q, h2⟩ => ⟨_, h1, rfl, by
      rw [h2]
      have := put_row (w := w) (g := g) (n := q) (os := #[]) (zs := Lib.compact zs ++ List.replicate (zs.length - (Lib.compact zs).length) 0)
      rwa [Sort.grow_empty] at this⟩)
    (fun N S w' A cap r hr hN => by
      subst hr
      refine .vw _ _ _ _ _ _ rfl ⟨k, _, hN, Nat.le_refl _, fun _ => ⟨A, zs.length, cap, A, rfl, Nat.zero_le _, Lib.compact_length_le zs, by simp, fun _ => ?_⟩⟩
      cases A with
      | none => rfl
      | some a => cases a; simp [Addr.add])
end
end Go.Proofs.YtkpmlgpkmlhbjaaGreatDoor
namespace Go.Proofs.YtkpmlgpkmlhbjaaGreatDoor
open Go.RowKit Go.Shelf
theorem sound_of {c : Cd} (h : (verP c).2.2 = 0) : Sound c ∧ depAll c c.fs (List.replicate c.is.length (-1)) = (none, (verP c).1) := by
  unfold verP at h ⊢
  split at h
  · cases h
  rename_i h1
  split at h
  · rename_i h2; exact absurd h h2
  rename_i h2
  have h2 : (fnsP c).2 = 0 := by simpa using h2
  rw [if_neg h1, if_neg (by simp [h2])]
  cases hi : insAll c c.fs with
  | some e =>
    exfalso
    rw [hi] at h
    have h : e.2 = 0 := h
    have key : ∀ (f : Fn) (n i : Nat) (e : Int × Int), insF c f n i = some e → e.2 ≠ 0 := by
      intro f n
      induction n with
      | zero => intro i e h; cases h
      | succ n ih =>
        intro i e h
        unfold insF at h
        split at h
        · split at h
          · cases h; dsimp only; omega
          · exact ih _ _ h
        · cases h; dsimp only; omega
    have key2 : ∀ (l : List Fn) (e : Int × Int), insAll c l = some e → e.2 ≠ 0 := by
      intro l
      induction l with
      | nil => intro e h; cases h
      | cons f r ih =>
        intro e h
        rw [insAll_cons] at h
        split at h
        · rename_i h3; cases h; exact key _ _ _ _ h3
        · exact ih e h
    exact key2 _ _ hi h
  | none =>
    rw [hi] at h
    refine ⟨⟨by omega, by omega, chain_of c.fs 0 0 h2, hi⟩, ?_⟩
    have h : (verD c (depAll c c.fs (List.replicate c.is.length (-1)))).2.2 = 0 := h
    show _ = (none, (verD c (depAll c c.fs (List.replicate c.is.length (-1)))).1)
    generalize depAll c c.fs (List.replicate c.is.length (-1)) = R at h ⊢
    obtain ⟨o, d⟩ := R
    cases o with
    | some k => cases h
    | none => rfl
theorem jumps_drop (l : List In) (k : Nat) (h : k < l.length) : jumps (l.drop k) = (if jumpB l[k] then [l[k].a] else []) ++ jumps (l.drop (k + 1)) := by
  rw [List.drop_eq_getElem_cons h]
  unfold jumps
  rw [List.filter_cons]
  split <;> simp
theorem jumps_len (l : List In) : (jumps l).length ≤ l.length := by unfold jumps; rw [List.length_map]; exact List.length_filter_le _ _
theorem jump_mem {l : List In} {x : Int} : x ∈ jumps l ↔ ∃ i, ∃ h : i < l.length, jumpB l[i] = true ∧ l[i].a = x := by
  unfold jumps
  simp only [List.mem_map, List.mem_filter]
  constructor
  · rintro ⟨y, ⟨h1, h2⟩, h3⟩
    obtain ⟨i, hi, rfl⟩ := List.getElem_of_mem h1
    exact ⟨i, hi, h2, h3⟩
  · rintro ⟨i, hi, h1, h2⟩
    exact ⟨l[i], ⟨List.getElem_mem hi, h1⟩, h2⟩
theorem take_map (l r : List Int) : (((l ++ r).map intD).take l.length).drop 0 = l.map intD := by rw [List.drop_zero, List.map_append, List.take_left' (by simp)]
set_option maxHeartbeats 4000000 in
set_option maxRecDepth 100000 in
theorem x_targets (c : Cd) (hc : CdIn c) : DCalls Tryz.prog 15 [c.V] (intsV (tgtP c)) := by
  have hli : (c.is.map inD).length = c.is.length := List.length_map _
  refine sxm [(32, false), (33, false)] Tryz.func15 (by kernel_rfl) ?_
  conv => whnf
  refine ⟨_, x_check c hc, ?_⟩
  conv => whnf
  rintro (_ | _) h
  rotate_left
  · have h : (chkP c).2 ≠ 0 := by simpa using h
    rw [show tgtP c = [] by unfold tgtP; rw [if_neg h]]
    (conv => whnf) <;> rfl
  have h : (chkP c).2 = 0 := by simpa using h
  have h4 := (sound_of h).1.i4k
  rw [show tgtP c = Lib.compact ((jumps c.is).mergeSort fun x y => decide (x ≤ y)) by unfold tgtP; rw [if_pos h]]
  conv => whnf
  refine ⟨[(5, 34, 3, 1)], Nat × List Int, fun ⟨k, acc⟩ => [(18, int k), (5, .ow 34 0)], fun ⟨k, acc⟩ => [(34, some (.row 0 3 1 true (acc.map intD)))], fun ⟨k, acc⟩ => k ≤ c.is.length ∧ acc.length ≤ k ∧ acc ++ jumps (c.is.drop k) = jumps c.is, fun x => c.is.length - x.1, (0, []), ⟨Nat.zero_le _, Nat.le_refl _, rfl⟩, ?_, ?_⟩
  · refine ⟨rfl, ?_, ?_⟩ <;> repeat' (first | exact trivial | exact rfl | refine and_rfl ?_ | refine and_two ?_ ?_)
  rintro ⟨k, acc⟩ ⟨hk1, hk2, hk⟩
  conv => whnf
  rintro (_ | _) k1
  · have k1 : c.is.length ≤ k := by rw [← hli]; simpa using k1
    rw [List.drop_eq_nil_of_le k1, show jumps [] = [] from rfl, List.append_nil] at hk
    subst hk
    conv => whnf
    refine ⟨_, _, ot_sortI (T := TT) rfl rfl rfl rfl (by omega), ?_⟩
    conv => whnf
    refine ⟨_, _, ot_compactI (T := TT) rfl rfl rfl rfl (by rw [List.length_mergeSort]; omega), ?_⟩
    conv => whnf
    rw [take_map]
  have k1 : k < c.is.length := by rw [← hli]; simpa using k1
  rw [jumps_drop c.is k k1] at hk
  have hw : IntKind.i64.wrap (((k : Nat) : Int) + 1) = ((k + 1 : Nat) : Int) := wrap_succ (by omega)
  have hla : (acc.map intD).length = acc.length := List.length_map _
  conv => whnf
  refine ⟨by omega, _, get_map inD k1, ?_⟩
  conv => whnf
  rintro (_ | _) k2
  rotate_left
  have k4 : jumpB c.is[k] = true := by unfold jumpB; rw [show (c.is[k].op == 13) = true from k2]; rfl
  rotate_left
  conv => whnf
  rintro (_ | _) k3
  · rw [show jumpB c.is[k] = false by unfold jumpB; rw [show (c.is[k].op == 13) = false from k2, show (c.is[k].op == 14) = false from k3]; rfl] at hk
    conv => whnf
    refine ⟨(k + 1, acc), ⟨k1, by omega, by simpa using hk⟩, by dsimp only; omega, ?_⟩
    refine ⟨rfl, ?_, ?_⟩ <;> repeat' (first | exact trivial | exact rfl | refine and_rfl ?_ | refine and_val hw ?_ | refine and_two ?_ ?_)
  have k4 : jumpB c.is[k] = true := by unfold jumpB; rw [show (c.is[k].op == 14) = true from k3]; simp
  all_goals
    rw [if_pos k4] at hk
    conv => whnf
    refine ⟨by rw [hla]; simp; omega, ?_⟩
    conv => whnf
    refine ⟨(k + 1, acc ++ [c.is[k].a]), ⟨k1, by simp; omega, by simpa using hk⟩, by dsimp only; omega, ?_⟩
    refine ⟨rfl, ?_, ?_⟩ <;> repeat' (first | exact trivial | exact rfl | refine and_rfl ?_ | refine and_val hw ?_ | (simp [intD]; done) | refine and_two ?_ ?_)
set_option maxHeartbeats 4000000 in
set_option maxRecDepth 100000 in
theorem x_rtargets (c : Cd) (hc : CdIn c) : DCalls Tryz.prog 16 [c.V] (intsV (tgtP c)) := by
  have hli : (c.is.map inD).length = c.is.length := List.length_map _
  obtain ⟨bi, i1, i2, i3, i4⟩ := boolInfo
  refine sx Tryz.func16 (by kernel_rfl) ?_
  conv => whnf
  refine ⟨_, x_rcheck c hc, ?_⟩
  conv => whnf
  rintro (_ | _) h
  rotate_left
  · have h : (chkP c).2 ≠ 0 := by simpa using h
    rw [show tgtP c = [] by unfold tgtP; rw [if_neg h]]
    (conv => whnf) <;> rfl
  have h : (chkP c).2 = 0 := by simpa using h
  have hS := (sound_of h).1
  have h4 := hS.i4k
  have hjb : ∀ i (hi : i < c.is.length), jumpB c.is[i] = true → 0 ≤ c.is[i].a ∧ c.is[i].a < c.is.length := hS.jump
  conv => whnf
  refine ⟨_, _, ot_makeZ (n := c.is.length) (z := .bool false) (e := 4) (i := bi) rfl (by simp [evN, ev, V.nf, hli]) (by simp [evN, ev, V.nf, hli]) rfl rfl (by kernel_rfl) i1 i2 zF rfl i3 (by rw [i4]; omega) (by omega), ?_⟩
  rw [rep_bool]
  conv => whnf
  refine ⟨[], Nat × List Bool, fun ⟨k, fl⟩ => [(7, int k)], fun ⟨k, fl⟩ => [(21, some (.row 0 4 1 true (fl.map boolD)))], fun ⟨k, fl⟩ => k ≤ c.is.length ∧ fl.length = c.is.length ∧ ∀ i, i < c.is.length → (fl.getD i false = true ↔ (i : Int) ∈ jumps (c.is.take k)), fun x => c.is.length - x.1, (0, List.replicate c.is.length false), ⟨Nat.zero_le _, by simp, fun i hi => by simp [jumps, hi]⟩, ?_, ?_⟩
  · refine ⟨rfl, ?_, ?_⟩ <;> repeat' (first | exact trivial | exact rfl | refine and_rfl ?_ | refine and_two ?_ ?_)
  clear i1 i2 i3 i4
  rintro ⟨k, fl⟩ ⟨hk1, hk2, hk⟩
  have hmf : (fl.map boolD).length = c.is.length := by rw [List.length_map]; exact hk2
  have hw : k < c.is.length → IntKind.i64.wrap (((k : Nat) : Int) + 1) = ((k + 1 : Nat) : Int) := fun _ => wrap_succ (by omega)
  conv => whnf
  rintro (_ | _) k1
  · have k1 : c.is.length ≤ k := by rw [← hli]; simpa using k1
    rw [List.take_of_length_le k1] at hk
    have hT := flagged_eq (c := c) h (n := c.is.length) (fl := fl) (fun x hx => by
      obtain ⟨i, hi, h1, rfl⟩ := jump_mem.1 hx
      exact hjb i hi h1) hk
    rw [← hT]
    clear hT hk hw
    conv => whnf
    refine ⟨[], Nat × List Int, fun ⟨j, acc⟩ => [(8, int j), (5, .ow 14 0), (14, .un)], fun ⟨j, acc⟩ => [(14, some (.row 0 3 1 true (acc.map intD)))], fun ⟨j, acc⟩ => j ≤ c.is.length ∧ acc = flagged j fl, fun x => c.is.length - x.1, (0, []), ⟨Nat.zero_le _, rfl⟩, ?_, ?_⟩
    · refine ⟨rfl, ?_, ?_⟩ <;> repeat' (first | exact trivial | exact rfl | refine and_rfl ?_ | refine and_two ?_ ?_)
    rintro ⟨j, acc⟩ ⟨g1, g2⟩
    conv => whnf
    rintro (_ | _) k2
    · have k2 : j = c.is.length := by rw [hmf] at k2; simp at k2; omega
      subst k2 g2
      (conv => whnf) <;> rfl
    have k2 : j < c.is.length := by rw [hmf] at k2; simpa using k2
    have hjf : j < fl.length := by omega
    have hw : IntKind.i64.wrap (((j : Nat) : Int) + 1) = ((j + 1 : Nat) : Int) := wrap_succ (by omega)
    have hfl : flagged (j + 1) fl = flagged j fl ++ (if fl[j] then [(j : Int)] else []) := by
      unfold flagged
      rw [List.range_succ, List.filter_append, List.map_append]
      congr 1
      rw [List.filter_cons]
      simp [hjf]
      split <;> simp
    have hlen : acc.length ≤ j := by
      rw [g2]; unfold flagged; rw [List.length_map]
      exact Nat.le_trans (List.length_filter_le _ _) (by simp)
    conv => whnf
    refine ⟨by omega, by rw [hmf]; omega, ?_⟩
    conv => whnf
    refine ⟨_, get_map boolD hjf, ?_⟩
    conv => whnf
    rintro (_ | _) k3
    · have k3 : fl[j] = false := k3
      conv => whnf
      refine ⟨(j + 1, acc), ⟨k2, by rw [hfl, k3, g2]; simp⟩, by dsimp only; omega, ?_⟩
      refine ⟨rfl, ?_, ?_⟩ <;> repeat' (first | exact trivial | exact rfl | refine and_rfl ?_ | refine and_val hw ?_ | refine and_two ?_ ?_)
    have k3 : fl[j] = true := k3
    have hla : (acc.map intD).length = acc.length := List.length_map _
    conv => whnf
    refine ⟨by rw [hla]; simp; omega, ?_⟩
    conv => whnf
    refine ⟨(j + 1, acc ++ [(j : Int)]), ⟨k2, by rw [hfl, k3, g2]; simp⟩, by dsimp only; omega, ?_⟩
    refine ⟨rfl, ?_, ?_⟩ <;> repeat' (first | exact trivial | exact rfl | refine and_rfl ?_ | refine and_val hw ?_ | (simp [intD]; done) | refine and_two ?_ ?_)
  have k1 : k < c.is.length := by rw [← hli]; simpa using k1
  have hw := hw k1
  have htk : jumps (c.is.take (k + 1)) = jumps (c.is.take k) ++ (if jumpB c.is[k] then [c.is[k].a] else []) := by
    unfold jumps
    rw [List.take_add_one, List.filter_append, List.map_append, List.getElem?_eq_getElem k1]
    congr 1
    simp only [Option.toList_some, List.filter_cons]
    split <;> simp
  conv => whnf
  refine ⟨by omega, _, get_map inD k1, ?_⟩
  conv => whnf
  rintro (_ | _) k2
  rotate_left
  have k4 : jumpB c.is[k] = true := by unfold jumpB; rw [show (c.is[k].op == 13) = true from k2]; rfl
  rotate_left
  conv => whnf
  refine ⟨by omega, _, get_map inD k1, ?_⟩
  conv => whnf
  rintro (_ | _) k3
  · rw [show jumpB c.is[k] = false by unfold jumpB; rw [show (c.is[k].op == 13) = false from k2, show (c.is[k].op == 14) = false from k3]; rfl] at htk
    conv => whnf
    refine ⟨(k + 1, fl), ⟨k1, hk2, fun i hi => by rw [htk]; simpa using hk i hi⟩, by dsimp only; omega, ?_⟩
    refine ⟨rfl, ?_, ?_⟩ <;> repeat' (first | exact trivial | exact rfl | refine and_rfl ?_ | refine and_val hw ?_ | refine and_two ?_ ?_)
  have k4 : jumpB c.is[k] = true := by unfold jumpB; rw [show (c.is[k].op == 14) = true from k3]; simp
  all_goals
    rw [if_pos k4] at htk
    obtain ⟨j1, j2⟩ := hjb k k1 k4
    have hjf : c.is[k].a.toNat < fl.length := by omega
    conv => whnf
    refine ⟨by omega, _, get_map inD k1, ?_⟩
    conv => whnf
    refine ⟨by omega, by rw [hmf]; omega, ?_⟩
    conv => whnf
    refine ⟨_, get_map boolD hjf, Nat.le_refl _, ?_⟩
    conv => whnf
    refine ⟨(k + 1, fl.set c.is[k].a.toNat true), ⟨k1, by rw [List.length_set]; exact hk2, fun i hi => by
      rw [htk, List.mem_append, ← hk i hi, List.mem_singleton, List.getD_eq_getElem?_getD, List.getElem?_set]
      by_cases e : c.is[k].a.toNat = i
      · rw [if_pos e, if_pos (by omega)]; simp; right; omega
      · rw [if_neg e, ← List.getD_eq_getElem?_getD]
        constructor
        · exact .inl
        · rintro (h | h)
          · exact h
          · omega⟩, by dsimp only; omega, ?_⟩
    refine ⟨rfl, ?_, ?_⟩ <;> repeat' (first | exact trivial | exact rfl | refine and_rfl ?_ | refine and_val hw ?_ | exact st_bool _ _ hjf _ | refine and_two ?_ ?_)
end Go.Proofs.YtkpmlgpkmlhbjaaGreatDoor
namespace Go.Proofs.YtkpmlgpkmlhbjaaGreatDoor
open Go.RowKit
def intB (a b : Int) : Bool := a == b
theorem intB_eq (a b : Int) : intB a b = true ↔ a = b := by unfold intB; simp
set_option maxHeartbeats 2000000 in
set_option maxRecDepth 100000 in
theorem x_ints (a b : List Int) (ha : a.length ≤ 8796093022207) : DCalls Tryz.prog 13 [intsV a, intsV b] (boo (all2 intB a b)) := by
  have hla : (a.map intD).length = a.length := List.length_map _
  have hlb : (b.map intD).length = b.length := List.length_map _
  refine sx Tryz.func13 (by kernel_rfl) ?_
  conv => whnf
  rintro (_ | _) h0
  rotate_left
  · have h0 : a.length ≠ b.length := by rw [hla, hlb] at h0; simp at h0; omega
    rw [all2_len h0]
    (conv => whnf) <;> rfl
  have h0 : a.length = b.length := by rw [hla, hlb] at h0; simp at h0; omega
  conv => whnf
  refine ⟨[], Nat, fun k => [(5, int k)], fun _ => [], fun k => k ≤ a.length ∧ all2 intB (a.drop k) (b.drop k) = all2 intB a b, fun k => a.length - k, 0, ⟨Nat.zero_le _, rfl⟩, ?_, ?_⟩
  · refine ⟨rfl, ?_, ?_⟩ <;> repeat' (first | exact trivial | exact rfl | refine and_rfl ?_ | refine and_two ?_ ?_)
  rintro k ⟨hk1, hk⟩
  conv => whnf
  rintro (_ | _) h1
  · have h1 : a.length ≤ k := by rw [← hla]; simpa using h1
    rw [List.drop_eq_nil_of_le h1, List.drop_eq_nil_of_le (by omega), show all2 intB [] [] = true from rfl] at hk
    rw [← hk]
    (conv => whnf) <;> rfl
  have h1 : k < a.length := by rw [← hla]; simpa using h1
  have h2 : k < b.length := by omega
  rw [all2_drop h1 h2] at hk
  conv => whnf
  refine ⟨none, by kernel_rfl, ?_⟩
  conv => whnf
  refine ⟨by omega, _, get_map intD h1, ?_⟩
  conv => whnf
  refine ⟨by omega, _, get_map intD h2, ?_⟩
  conv => whnf
  rintro (_ | _) h3
  · have h3 : intB a[k] b[k] = true := by unfold intB; simpa using h3
    rw [h3, Bool.true_and] at hk
    conv => whnf
    refine ⟨k + 1, ⟨h1, hk⟩, by dsimp only; omega, ?_⟩
    refine ⟨rfl, ?_, ?_⟩ <;> repeat' (first | exact trivial | exact rfl | refine and_rfl ?_ | refine and_val (wrap_succ (by omega)) ?_ | refine and_two ?_ ?_)
  · have h3 : intB a[k] b[k] = false := by unfold intB; simpa using h3
    rw [h3, Bool.false_and] at hk
    rw [← hk]
    (conv => whnf) <;> rfl
set_option maxHeartbeats 2000000 in
set_option maxRecDepth 100000 in
theorem x_same05 (a b : List Bs) (ha : a.length ≤ 8796093022207) : DCalls Tryz.prog 27 [strsV a, strsV b] (boo (all2 strB a b)) := by
  have hla : (a.map strD).length = a.length := List.length_map _
  have hlb : (b.map strD).length = b.length := List.length_map _
  refine sx Tryz.func27 (by kernel_rfl) ?_
  conv => whnf
  rintro (_ | _) h0
  rotate_left
  · have h0 : a.length ≠ b.length := by rw [hla, hlb] at h0; simp at h0; omega
    rw [all2_len h0]
    (conv => whnf) <;> rfl
  have h0 : a.length = b.length := by rw [hla, hlb] at h0; simp at h0; omega
  conv => whnf
  refine ⟨[], Nat, fun k => [(5, int k)], fun _ => [], fun k => k ≤ a.length ∧ all2 strB (a.drop k) (b.drop k) = all2 strB a b, fun k => a.length - k, 0, ⟨Nat.zero_le _, rfl⟩, ?_, ?_⟩
  · refine ⟨rfl, ?_, ?_⟩ <;> repeat' (first | exact trivial | exact rfl | refine and_rfl ?_ | refine and_two ?_ ?_)
  rintro k ⟨hk1, hk⟩
  conv => whnf
  rintro (_ | _) h1
  · have h1 : a.length ≤ k := by rw [← hla]; simpa using h1
    rw [List.drop_eq_nil_of_le h1, List.drop_eq_nil_of_le (by omega), show all2 strB [] [] = true from rfl] at hk
    rw [← hk]
    (conv => whnf) <;> rfl
  have h1 : k < a.length := by rw [← hla]; simpa using h1
  have h2 : k < b.length := by omega
  rw [all2_drop h1 h2] at hk
  conv => whnf
  refine ⟨none, by kernel_rfl, ?_⟩
  conv => whnf
  refine ⟨by omega, _, get_map strD h1, ?_⟩
  conv => whnf
  refine ⟨by omega, _, get_map strD h2, ?_⟩
  conv => whnf
  rw [show ((mk a[k]).toList == (mk b[k]).toList) = strB a[k] b[k] from sEq_mk _ _]
  rintro (_ | _) h3
  · have h3 : strB a[k] b[k] = true := by simpa using h3
    rw [h3, Bool.true_and] at hk
    conv => whnf
    refine ⟨k + 1, ⟨h1, hk⟩, by dsimp only; omega, ?_⟩
    refine ⟨rfl, ?_, ?_⟩ <;> repeat' (first | exact trivial | exact rfl | refine and_rfl ?_ | refine and_val (wrap_succ (by omega)) ?_ | refine and_two ?_ ?_)
  · have h3 : strB a[k] b[k] = false := by simpa using h3
    rw [h3, Bool.false_and] at hk
    rw [← hk]
    (conv => whnf) <;> rfl
def oneC (l : List In) : Cd := ⟨[⟨[109, 97, 105, 110], 1, 1, 0, l.length⟩], l⟩
set_option maxHeartbeats 2000000 in
set_option maxRecDepth 100000 in
theorem x_oneC (l : List In) : MCalls Tryz.prog 31 [.sl false 4 (l.map inD)] [] (.ag [.sl true 5 ((oneC l).fs.map fnD), .sl false 4 (l.map inD)]) [] := by
  have hl : (l.map inD).length = l.length := List.length_map _
  refine msx Tryz.func31 (by kernel_rfl) (by kernel_rfl) ?_
  conv => whnf
  exact ⟨rfl, rfl, by rw [hl]; rfl⟩
end Go.Proofs.YtkpmlgpkmlhbjaaGreatDoor
namespace Go.Proofs.YtkpmlgpkmlhbjaaGreatDoor
open Go.RowKit
theorem itoa_neg (p : Nat) (h : 0 < p) : Lib.itoa (-(p : Int)) = 45 :: Lib.decDigits p := by
  unfold Lib.itoa
  first
    | (rw [if_pos (by omega)]; simp)
    | (simp [h]; omega)
set_option maxHeartbeats 1000000 in
set_option maxRecDepth 100000 in
theorem x_rformatN (n : Nat) (h0 : 0 < n) (h1 : n ≤ 1000000000000) : DCalls Tryz.prog 52 [int (-(n : Int))] (bstr (Lib.itoa (-(n : Int)))) := by
  rw [itoa_neg n h0]
  refine sx Tryz.func52 (by kernel_rfl) ?_
  conv => whnf
  refine ⟨[], Nat × Bs, fun ⟨u, acc⟩ => [(5, int (-(u : Int))), (4, bstr acc)], fun _ => [], fun ⟨u, acc⟩ => u ≤ 1000000000000 ∧ ((acc = [] ∧ u = n) ∨ (acc ≠ [] ∧ (if u = 0 then acc else Lib.decDigits u ++ acc) = Lib.decDigits n)), fun x => x.1 + (if x.2 = [] then 1 else 0), (n, []), ⟨h1, .inl ⟨rfl, rfl⟩⟩, ?_, ?_⟩
  · refine ⟨rfl, ?_, ?_⟩ <;> repeat' (first | exact trivial | exact rfl | refine and_rfl ?_ | refine and_two ?_ ?_)
  rintro ⟨u, acc⟩ ⟨hu, hI⟩
  have hlen : acc.length ≤ 13 := by
    have := decDigits_len 12 n (by omega)
    rcases hI with ⟨rfl, _⟩ | ⟨_, h⟩
    · simp
    · rw [← h] at this
      split at this
      · exact this
      · simp at this; omega
  have body : ∀ r : Nat, r = u % 10 → (u ≠ 0 ∨ acc = []) → (u / 10 ≤ 1000000000000 ∧ ((([UInt8.ofNat (48 + r)] ++ acc) = [] ∧ u / 10 = n) ∨ (([UInt8.ofNat (48 + r)] ++ acc) ≠ [] ∧ (if u / 10 = 0 then ([UInt8.ofNat (48 + r)] ++ acc) else Lib.decDigits (u / 10) ++ ([UInt8.ofNat (48 + r)] ++ acc)) = Lib.decDigits n))) := by
    rintro r rfl hne
    refine ⟨by omega, .inr ⟨by simp, ?_⟩⟩
    rcases Nat.lt_or_ge u 10 with h | h
    · rw [if_pos (by omega), Nat.mod_eq_of_lt h]
      rcases hI with ⟨rfl, rfl⟩ | ⟨h2, h3⟩
      · rw [decDigits_lt h]; rfl
      · by_cases h0 : u = 0
        · exact absurd (hne.resolve_left (by omega)) h2
        · rw [if_neg h0, decDigits_lt h] at h3; exact h3
    · rw [if_neg (by omega)]
      rcases hI with ⟨rfl, rfl⟩ | ⟨h2, h3⟩
      · rw [decDigits_ge h]; simp
      · rw [if_neg (by omega), decDigits_ge h] at h3
        rw [← h3]; simp
  have e0 : (-(u : Int)).tmod 10 = -((u % 10 : Nat) : Int) := by rw [Int.neg_tmod]; rfl
  have e1 : (-(u : Int)).tdiv 10 = -((u / 10 : Nat) : Int) := by rw [Int.neg_tdiv]; rfl
  have e2 : IntKind.i64.wrap (0 - -((u % 10 : Nat) : Int)) = ((u % 10 : Nat) : Int) := by rw [IntWalk.i64_in _ (by omega)]; omega
  conv => whnf
  rintro (_ | _) h2
  · have hu0 : u = 0 := by simpa using h2
    conv => whnf
    rintro (_ | _) h3
    · have h3 := sEq_mk' h3
      have h3 : acc ≠ [] := by simpa using h3
      rcases hI with ⟨h, _⟩ | ⟨_, h⟩
      · exact absurd h h3
      rw [if_pos hu0] at h
      conv => whnf
      refine known true (by simp; omega) ?_
      conv => whnf
      have hl2 : (Lib.decDigits n).length ≤ 13 := decDigits_len 12 n (by omega)
      rw [h]
      refine ⟨by rw [mk_size]; have : (⟨#[45]⟩ : ByteArray).size = 1 := rfl; omega, ?_⟩
      conv => whnf
      rw [show (⟨#[45]⟩ : ByteArray) = mk [45] from rfl, mk_app]
      rfl
    have h3 := sEq_mk' h3
    have h3 : acc = [] := by simpa using h3
    rcases hI with ⟨_, h⟩ | ⟨h, _⟩
    · omega
    · exact absurd h3 h
  · have hu0 : u ≠ 0 := by simpa using h2
    have body := body _ rfl (.inl hu0)
    conv => whnf
    refine ⟨by decide, ?_⟩
    conv => whnf
    rw [e0]
    rintro (_ | _) h4
    · have h4 : u % 10 = 0 := by simp at h4; omega
      conv => whnf
      rw [h4] at body ⊢
      refine ⟨by omega, by decide, by decide, ?_⟩
      rw [show (⟨#[48, 49, 50, 51, 52, 53, 54, 55, 56, 57]⟩ : ByteArray) = mk nd from rfl]
      conv => whnf
      rw [show (mk nd).extract (-((0 : Nat) : Int)).toNat (IntKind.i64.wrap (-((0 : Nat) : Int) + 1)).toNat = mk [UInt8.ofNat (48 + 0)] from nd_at 0 (by omega), mk_app]
      refine ⟨by rw [mk_size, mk_size]; simp; omega, ?_⟩
      conv => whnf
      refine ⟨by decide, ?_⟩
      conv => whnf
      refine ⟨(u / 10, [UInt8.ofNat (48 + 0)] ++ acc), body, by dsimp only; split <;> simp_all <;> omega, ?_⟩
      refine ⟨rfl, ?_, ?_⟩ <;> repeat' (first | exact trivial | exact rfl | refine and_rfl ?_ | refine and_val e1 ?_ | refine and_val (by rw [e1, IntWalk.i64_in _ (by omega)]) ?_ | refine and_two ?_ ?_)
    · conv => whnf
      rw [e2, wrap_succ (by omega)]
      refine ⟨by omega, by omega, (show ((u % 10 + 1 : Nat) : Int) ≤ ((10 : Nat) : Int) by omega), ?_⟩
      rw [show (⟨#[48, 49, 50, 51, 52, 53, 54, 55, 56, 57]⟩ : ByteArray) = mk nd from rfl, nd_at (u % 10) (by omega)]
      conv => whnf
      rw [mk_app]
      refine ⟨by rw [mk_size, mk_size]; simp; omega, ?_⟩
      conv => whnf
      refine ⟨by decide, ?_⟩
      conv => whnf
      refine ⟨(u / 10, [UInt8.ofNat (48 + u % 10)] ++ acc), body, by dsimp only; split <;> simp_all <;> omega, ?_⟩
      refine ⟨rfl, ?_, ?_⟩ <;> repeat' (first | exact trivial | exact rfl | refine and_rfl ?_ | refine and_val e1 ?_ | refine and_val (by rw [e1, IntWalk.i64_in _ (by omega)]) ?_ | refine and_two ?_ ?_)
theorem x_rformatG (n : Int) (h : validB n = true) : DCalls Tryz.prog 52 [int n] (bstr (Lib.itoa n)) := by
  unfold validB at h
  simp only [Bool.and_eq_true, decide_eq_true_eq] at h
  rcases Int.lt_or_le n 0 with hn | hn
  · obtain ⟨p, hp⟩ : ∃ p : Nat, n = -(p : Int) := ⟨n.natAbs, by omega⟩
    rw [hp]; exact x_rformatN p (by omega) (by omega)
  · obtain ⟨p, hp⟩ : ∃ p : Nat, n = (p : Int) := ⟨n.natAbs, by omega⟩
    rw [hp]; exact x_rformat p (by omega)
end Go.Proofs.YtkpmlgpkmlhbjaaGreatDoor
