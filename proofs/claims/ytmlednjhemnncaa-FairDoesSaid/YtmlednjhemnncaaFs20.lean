/- Texts joined by pack.py: XFa3 XSxCl XFa4 XFa7 XFa8 -/
import Derived.Test.YtmlednjhemnncaaFs19
import Derived.Test.YtmlednjhemnncaaFs18
namespace Go.Proofs.Ytmlednjhemnncaa
open Go.RowKit
def InJ (J : List (ByteArray × List Jb)) (R : List ByteArray) : Prop := ∀ t ∈ R, ∃ js, getE J t = some js ∧ js.length ≤ 1000000
def hasK (J : List (ByteArray × List Jb)) (x : ByteArray) : List ByteArray → Bool
  | [] => false
  | t :: l => hasJ (jOf J t) x || hasK J x l
set_option maxRecDepth 100000 in
set_option maxHeartbeats 4000000 in
theorem x_has (q : Int) (tu : Bool) (W : List (ByteArray × Int)) (J : List (ByteArray × List Jb)) (D : List (ByteArray × Int)) (R : List ByteArray) (x : ByteArray) (hR : R.length ≤ 1099511627776) (hJ : InJ J R) :
    MCallsG true Try.prog 31 [.bx 0 0, str x] (qM q tu W J D R) (boo (hasK J x R)) (qM q tu W J D R) := by
  refine msxxg [(48, false)] Try.func31 (by kernel_rfl) (by kernel_rfl) (by rfl) ?_
  conv => whnf
  refine ⟨[(3000001, 0, 0, 0)], Nat, fun k => [(12, int k)], fun _ => [], fun k => k ≤ R.length ∧ hasK J x (R.drop k) = hasK J x R, fun k => R.length - k, 0, ⟨by simp, rfl⟩, ?_, ?_⟩
  · refine ⟨rfl, ?_, ?_⟩ <;> repeat' (first | exact trivial | exact rfl | refine and_rfl ?_ | refine and_two ?_ ?_)
  rintro k ⟨hk, hf⟩
  conv => whnf
  rintro (_ | _) h1
  · simp at h1
    have e : k = R.length := by omega
    subst e
    rw [List.drop_length] at hf
    conv => whnf
    refine ⟨_, Gh.refl _, ?_⟩
    exact ⟨⟨rfl, rfl, fin_boo hf⟩, rfl⟩
  simp at h1
  have hd : R.drop k = R[k] :: R.drop (k + 1) := List.drop_eq_getElem_cons h1
  rw [hd] at hf
  simp only [hasK] at hf
  obtain ⟨js, hg, hjl⟩ := hJ R[k] (List.getElem_mem h1)
  have hjo : jOf J R[k] = js := by simp [jOf, hg]
  rw [hjo] at hf
  conv => whnf
  refine ⟨by omega, by simp; omega, ?_⟩
  conv => whnf
  refine ⟨_, get_str h1, ?_⟩
  conv => whnf
  refine at_tr (open_j (n := 27) (d := 21) rfl rfl rfl rfl rfl hg) ?_
  conv => whnf
  refine mcall (T := TT) (φ := []) (x_containsj js x (by omega)) ?_ (ln := true)
  conv => whnf
  rintro (_ | _) h2
  · rw [h2, Bool.false_or] at hf
    conv => whnf
    refine ⟨k + 1, ⟨h1, hf⟩, by dsimp only; omega, ?_⟩
    conv => whnf
    refine ⟨_, GhM.gh (close_j (n := 27) (d := 21) hg rfl rfl), ?_⟩
    refine ⟨rfl, ?_, ?_⟩ <;> repeat' (first | exact trivial | exact rfl | refine and_rfl ?_ | refine and_val (wrap_succ (by omega)) ?_ | refine and_two ?_ ?_)
  · rw [h2, Bool.true_or] at hf
    conv => whnf
    refine ⟨_, GhM.gh (close_j (n := 27) (d := 21) hg rfl rfl), ?_⟩
    exact ⟨⟨rfl, rfl, fin_boo hf⟩, rfl⟩
def sumK (J : List (ByteArray × List Jb)) : List ByteArray → Nat
  | [] => 0
  | t :: l => (jOf J t).length + sumK J l
theorem sumK_app (J : List (ByteArray × List Jb)) : ∀ l l', sumK J (l ++ l') = sumK J l + sumK J l'
  | [], l' => by simp [sumK]
  | t :: l, l' => by simp only [List.cons_append, sumK, sumK_app J l l']; omega
theorem sumK_take (J : List (ByteArray × List Jb)) {R : List ByteArray} {k : Nat} (h : k < R.length) : sumK J (R.take (k + 1)) = sumK J (R.take k) + (jOf J R[k]).length := by
  rw [List.take_succ_eq_append_getElem h, sumK_app]; simp [sumK]
theorem sumK_le (J : List (ByteArray × List Jb)) : ∀ R : List ByteArray, InJ J R → sumK J R ≤ R.length * 1000000
  | [], _ => by simp [sumK]
  | t :: l, h => by
    have ih := sumK_le J l fun t ht => h t (List.mem_cons_of_mem _ ht)
    obtain ⟨js, hg, hl⟩ := h t (by simp)
    simp only [sumK, jOf, hg, Option.getD_some, List.length_cons, Nat.add_mul]
    omega
set_option maxRecDepth 100000 in
set_option maxHeartbeats 4000000 in
theorem x_len (q : Int) (hq : 0 < q) (tu : Bool) (W : List (ByteArray × Int)) (J : List (ByteArray × List Jb)) (D : List (ByteArray × Int)) (R : List ByteArray) (hR : R.length ≤ 1000000) (hJ : InJ J R) :
    MCallsG true Try.prog 19 [.bx 0 0] (qM q tu W J D R) (int (sumK J R : Nat)) (qM q tu W J D R) := by
  refine msxxg [(28, false)] Try.func19 (by kernel_rfl) (by kernel_rfl) (by rfl) ?_
  conv => whnf
  refine mcall (T := TT) (φ := []) (x_made q tu W J D R) ?_
  conv => whnf
  refine known false (by simp [hq]) ?_
  conv => whnf
  refine ⟨[(3000001, 0, 0, 0)], Nat, fun k => [(14, int k), (3, int (sumK J (R.take k) : Nat))], fun _ => [], fun k => k ≤ R.length, fun k => R.length - k, 0, by simp, ?_, ?_⟩
  · refine ⟨rfl, ?_, ?_⟩ <;> repeat' (first | exact trivial | exact rfl | refine and_rfl ?_ | refine and_val (by simp [sumK]) ?_ | refine and_two ?_ ?_)
  rintro k hk
  have hk : k ≤ R.length := hk
  have hn : sumK J (R.take k) ≤ (R.take k).length * 1000000 := sumK_le J _ fun t ht => hJ t (List.mem_of_mem_take ht)
  rw [List.length_take, Nat.min_eq_left hk] at hn
  conv => whnf
  rintro (_ | _) h1
  · simp at h1
    have e : k = R.length := by omega
    subst e
    rw [List.take_length]
    conv => whnf
    refine ⟨_, Gh.refl _, ?_⟩
    exact ⟨⟨rfl, rfl, rfl⟩, rfl⟩
  simp at h1
  have ht := sumK_take J h1
  obtain ⟨js, hg, hjl⟩ := hJ R[k] (List.getElem_mem h1)
  have hjo : jOf J R[k] = js := by simp [jOf, hg]
  rw [hjo] at ht
  conv => whnf
  refine ⟨by omega, by simp; omega, ?_⟩
  conv => whnf
  refine ⟨_, get_str h1, ?_⟩
  conv => whnf
  refine at_tr (open_j (n := 31) (d := 24) rfl rfl rfl rfl rfl hg) ?_
  conv => whnf
  refine ⟨k + 1, h1, by dsimp only; omega, ?_⟩
  conv => whnf
  refine ⟨_, GhM.gh (close_j (n := 31) (d := 24) hg rfl rfl), ?_⟩
  refine ⟨rfl, ?_, ?_⟩ <;> repeat' (first | exact trivial | exact rfl | refine and_rfl ?_ | refine and_val (wrap_succ (by omega)) ?_ | refine and_val (by rw [wrap_in (by simp; omega), ht]; simp) ?_ | refine and_two ?_ ?_)
theorem costs_app : ∀ l l', costs (l ++ l') = costs l + costs l'
  | [], l' => by simp [costs]
  | t :: l, l' => by simp only [List.cons_append, costs, costs_app l l']; omega
theorem costs_take {l : List Jb} {k : Nat} (h : k < l.length) : costs (l.take (k + 1)) = costs (l.take k) + l[k].co := by
  rw [List.take_succ_eq_append_getElem h, costs_app]; simp [costs]
theorem costs_le : ∀ l : List Jb, (∀ j ∈ l, 0 ≤ j.co ∧ j.co ≤ 1000000000) → 0 ≤ costs l ∧ costs l ≤ l.length * 1000000000
  | [], _ => by simp [costs]
  | j :: l, h => by
    have ih := costs_le l fun j hj => h j (List.mem_cons_of_mem _ hj)
    have h1 := h j (by simp)
    simp only [costs, List.length_cons]
    omega
set_option maxRecDepth 100000 in
set_option maxHeartbeats 4000000 in
theorem x_backlog (q : Int) (hq : 0 < q) (tu : Bool) (W : List (ByteArray × Int)) (J : List (ByteArray × List Jb)) (D : List (ByteArray × Int)) (R : List ByteArray) (t : ByteArray) (hl : (jOf J t).length ≤ 1000000) (hb : ∀ j ∈ jOf J t, 0 ≤ j.co ∧ j.co ≤ 1000000000) :
    MCallsG true Try.prog 21 [.bx 0 0, str t] (qM q tu W J D R) (int (costs (jOf J t))) (qM q tu W J D R) := by
  refine msxxg [(28, false)] Try.func21 (by kernel_rfl) (by kernel_rfl) (by rfl) ?_
  conv => whnf
  refine mcall (T := TT) (φ := []) (x_made q tu W J D R) ?_
  conv => whnf
  refine known false (by simp [hq]) ?_
  cases hg : getE J t with
  | none =>
    conv => whnf
    refine at_tr (open_j0 (n := 30) (d := 16) rfl rfl rfl rfl rfl hg) ?_
    conv => whnf
    refine ⟨[], Unit, fun _ => [(18, int 0), (5, int 0)], fun _ => [], fun _ => True, fun _ => 0, (), trivial, ?_, ?_⟩
    · refine ⟨rfl, ?_, ?_⟩ <;> repeat' (first | exact trivial | exact rfl | refine and_rfl ?_ | refine and_two ?_ ?_)
    rintro _ _
    conv => whnf
    refine known false rfl ?_
    conv => whnf
    refine ⟨_, Gh.refl _, ?_⟩
    exact ⟨⟨rfl, rfl, fin_int (by simp [jOf, hg, costs])⟩, rfl⟩
  | some js =>
    have hjo : jOf J t = js := by simp [jOf, hg]
    rw [hjo] at hl hb ⊢
    conv => whnf
    refine at_tr (open_j (n := 30) (d := 16) rfl rfl rfl rfl rfl hg) ?_
    conv => whnf
    refine ⟨[], Nat, fun k => [(18, int k), (5, int (costs (js.take k)))], fun _ => [], fun k => k ≤ js.length, fun k => js.length - k, 0, by simp, ?_, ?_⟩
    · refine ⟨rfl, ?_, ?_⟩ <;> repeat' (first | exact trivial | exact rfl | refine and_rfl ?_ | refine and_val (by simp [costs]) ?_ | refine and_two ?_ ?_)
    rintro k hk
    have hk : k ≤ js.length := hk
    conv => whnf
    rintro (_ | _) h1
    · simp at h1
      have e : k = js.length := by omega
      subst e
      rw [List.take_length]
      conv => whnf
      refine ⟨_, GhM.gh (close_j (n := 30) (d := 16) hg rfl rfl), ?_⟩
      exact ⟨⟨rfl, rfl, rfl⟩, rfl⟩
    simp at h1
    have hn := costs_le (js.take (k + 1)) fun j hj => hb j (List.mem_of_mem_take hj)
    rw [List.length_take, Nat.min_eq_left (by omega)] at hn
    have ht := costs_take h1
    conv => whnf
    refine ⟨by omega, by simp; omega, ?_⟩
    conv => whnf
    refine ⟨_, get_map jobD h1, ?_⟩
    conv => whnf
    refine ⟨k + 1, h1, by dsimp only; omega, ?_⟩
    refine ⟨rfl, ?_, ?_⟩ <;> repeat' (first | exact trivial | exact rfl | refine and_rfl ?_ | refine and_val (wrap_succ (by omega)) ?_ | refine and_val (by rw [wrap_in (by omega), ht]) ?_ | refine and_two ?_ ?_)
end Go.Proofs.Ytmlednjhemnncaa
namespace Go.Proofs.Ytmlednjhemnncaa
open Go.RowKit
section
variable {P : Program} {T : Tab} {B : Fr} {w0 : World} {N : Names} {S : Sets} {t : List V} {m : List (Option Bk)} {a : Act} {w : World}
theorem zero_cells (z : Value) (hz : z.cells = #[z]) (n : Nat) : (Builtin.zeroCells z.cells n).toList = List.replicate n z := by
  rw [hz]
  unfold Builtin.zeroCells
  apply List.ext_getElem?
  intro i
  simp only [Array.toList_map, Array.toList_range, List.getElem?_map, List.getElem?_replicate]
  by_cases hi : i < n
  · rw [List.getElem?_range (by simpa using hi), if_pos hi]
    simp [Nat.mod_one]
  · rw [if_neg hi, List.getElem?_eq_none (by simpa using hi)]; rfl
theorem ot_clear1 {o : Oper} {E : Operand → V} {ty e n k Er lo hi : Nat} {f : Bool} {xs : List (List D)} {x : Operand} {z : Value} (ho : o.op = .call { callee := .builtin .clear, args := #[x], argTypes := #[ty] }) (hty : P.underlying ty = some (.slice e)) (hz : (P.info? e).bind (·.zero) = some z) (hz1 : z.cells = #[z]) (hzo : z.oneCell' = true)
    (hx : E x = .vw n k 1 lo hi) (hm : m[n]? = some (some (.row k Er 1 f xs))) (hlo : lo ≤ hi) (hhi : hi ≤ xs.length) : OpTr P o E m .un (m.set n (some (.row k Er 1 f (xs.take lo ++ List.replicate (hi - lo) [.cv z] ++ xs.drop hi)))) := by
  intro B w0 N S t a w hs hr
  have hx' := hr x (by rw [ho]; simp [Op.operands, Call.operands])
  rw [hx] at hx'
  obtain ⟨v, us, e1, e2, e3, e4, e5, e6⟩ := hs.blk n _ hm
  obtain ⟨A, len, cap, A', q1, q2, q3, q4, q5⟩ := vw_of e1 hx'
  have hzr : ∀ w, (zeroValue e).run P w = .ok z w := fun w => by
    cases hi : P.info? e with
    | none => rw [hi] at hz; cases hz
    | some ti => rw [hi] at hz; simp only [Option.bind_some] at hz; simp [zeroValue, typeInfo, hi, hz]
  rcases Nat.eq_or_lt_of_le hlo with heq | hlt
  · have hself : m.set n (some (.row k Er 1 f (xs.take lo ++ List.replicate (hi - lo) [D.cv z] ++ xs.drop hi))) = m := by
      have : xs.take lo ++ List.replicate (hi - lo) [D.cv z] ++ xs.drop hi = xs := by
        rw [show hi - lo = 0 by omega, ← heq]; simp
      rw [this]
      exact List.ext_getElem? fun i => by
        rw [List.getElem?_set]
        split
        · rename_i h; subst h
          first | rw [if_pos (lt_of_get hm), hm] | rw [hm]
        · rfl
    refine opOk_val (u := .tuple #[]) (w' := w) ?_ ⟨N, S, by rw [hself]; exact hs, .un _⟩
    unfold execOp
    simp only [ho]
    cases A' <;> simp [resolve, invoke, builtin, q4, show hi - lo = 0 by omega, Builtin.clear_, run_underlying hty]
  · obtain ⟨A2, c2, hv⟩ := own_parts e2
    subst hv
    have q1' : A2 = A ∧ xs.length = len ∧ c2 = cap := by simpa [hdv] using q1
    obtain ⟨rfl, rfl, rfl⟩ := q1'
    rcases e2.2 with ⟨h, h'⟩ | ⟨g, cap', cur, h, _, h2, h3, h4, h5, h6⟩
    · omega
    injection h with a1 a2 a3
    subst a1 a3
    rw [q5 (.inl hlt)] at q4
    simp only [Option.map_some, add_mk] at q4
    have hsz : cur.size = c2 := by omega
    have hnz : ¬ (hi - lo = 0) := by omega
    obtain ⟨w', us', r1, r2, r3, r4⟩ := storeCells_run (P := P) (List.replicate (hi - lo) z) w g (lo * 1) 0 Er cur h2 (fun v hv => by rw [List.eq_of_mem_replicate hv]; exact hzo) (by simp; omega)
    have hB := (hs.own n _ _ g e1 rfl).1
    have hlen : (xs.take lo ++ List.replicate (hi - lo) [D.cv z] ++ xs.drop hi).length = xs.length := by
      simp only [List.length_append, List.length_take, List.length_replicate, List.length_drop]; omega
    have hcur : ∀ i, i < xs.length → us[i]? = some (cur.getD i undef) := fun i hi => by
      rw [← h6, List.getElem?_take, if_pos (by omega)]
      exact get_of_lt (by omega)
    obtain ⟨N', g1, g2, g3⟩ := hs.set (w' := w') (d := n) (k := k) (v := .slice (some ⟨g, 0, none⟩) xs.length c2) (b := .row k Er 1 f (xs.take lo ++ List.replicate (hi - lo) [.cv z] ++ xs.drop hi)) (lt_of_get hm) (fun k0 v0 h => by rw [e1] at h; cases h; exact .inl ⟨rfl, rfl⟩)
      (r2.low hs.low hB) (by rw [r2.size]; exact Nat.le_refl _) (fun g' _ hk => r2.other g' fun e => hk _ _ e1 (by rw [e]; rfl))
      (fun g' hg' => by cases hg'; exact ⟨by rw [r2.size]; exact (hs.own n _ _ g e1 rfl).2, .inr ⟨_, _, e1, rfl⟩⟩)
      (fun N' x1 x2 x3 => ⟨_, us'.toList.take (xs.length * 1), x1, by
          rw [hlen]
          exact ⟨by have : us'.toList.length = us'.size := rfl
                    rw [List.length_take, this]; omega, .inr ⟨g, c2, us', rfl, Nat.zero_le _, r2.new, h3, h4, by omega, rfl⟩⟩, (fun x hx => by
          simp only [List.mem_append] at hx
          rcases hx with (hx | hx) | hx
          · exact e3 x (List.mem_of_mem_take hx)
          · rw [List.eq_of_mem_replicate hx]; rfl
          · exact e3 x (List.mem_of_mem_drop hx)), e4, (fun i j d hd => by
          have hil : i < xs.length := by
            cases hq : (xs.take lo ++ List.replicate (hi - lo) [D.cv z] ++ xs.drop hi)[i]? with
            | none => rw [hq] at hd; cases hd
            | some _ => have := lt_of_get hq; omega
          have hj : j = 0 := by
            obtain ⟨x, hx1, hx2⟩ := Option.bind_eq_some_iff.1 hd
            have hx3 := List.mem_of_getElem? hx1
            have hxl : x.length = 1 := by
              simp only [List.mem_append] at hx3
              rcases hx3 with (hx3 | hx3) | hx3
              · exact e3 x (List.mem_of_mem_take hx3)
              · rw [List.eq_of_mem_replicate hx3]; rfl
              · exact e3 x (List.mem_of_mem_drop hx3)
            have := lt_of_get hx2; omega
          subst hj
          refine ⟨us'.getD i undef, by rw [List.getElem?_take, if_pos (by omega), Nat.mul_one, Nat.add_zero]; exact get_of_lt (by omega), ?_⟩
          rw [r4 i]
          simp only [Nat.mul_one, Nat.add_zero, List.length_replicate]
          by_cases h7 : lo ≤ i ∧ i < lo + (hi - lo)
          · rw [if_pos h7]
            have h8 : (xs.take lo ++ List.replicate (hi - lo) [D.cv z] ++ xs.drop hi)[i]? = some [D.cv z] := by
              rw [List.getElem?_append_left (by simp; omega), List.getElem?_append_right (by simp; omega), List.getElem?_replicate, if_pos (by simp; omega)]
            rw [h8] at hd
            simp at hd
            subst hd
            have : (List.replicate (hi - lo) z).getD (i - lo) undef = z := by simp [List.getD_eq_getElem?_getD, show i - lo < hi - lo by omega]
            rw [this]
            exact .cv _ hzo
          · rw [if_neg h7]
            have h8 : (xs.take lo ++ List.replicate (hi - lo) [D.cv z] ++ xs.drop hi)[i]? = xs[i]? := by
              by_cases h9 : i < lo
              · rw [List.getElem?_append_left (by simp; omega), List.getElem?_append_left (by simp; omega), List.getElem?_take, if_pos h9]
              · rw [List.getElem?_append_right (by simp; omega), List.getElem?_drop]
                congr 1; simp; omega
            rw [h8] at hd
            obtain ⟨u, hu, hrel⟩ := e5 i 0 d hd
            rw [Nat.mul_one, Nat.add_zero, hcur i hil] at hu
            cases hu
            exact x3 _ _ _ hrel), fun hf g' hg' => e6 hf g' hg'⟩)
    refine opOk_val (u := .tuple #[]) (w' := w') ?_ ⟨N', S, g3, .un _⟩
    unfold execOp
    simp only [ho]
    simp [resolve, invoke, builtin, q4, Builtin.clear_, run_underlying hty, hzr, zero_cells z hz1]
    rw [Nat.mul_one] at r1
    rw [r1]; rfl
theorem mcalls_data {st : Bool} {f : FuncId} {E E2 sz sz2 lo hi : Nat} {f2 : Bool} {xs ys : List (List D)} (hM : MCallsG st P f [.sl false sz ((xs.take hi).drop lo)] [] (.ow 0 0) [.row 0 E2 sz2 f2 ys]) (hfl : Flat ys) :
    MCallsG true P f [.vw 0 0 sz lo hi] [.row 0 E sz false xs] (.ow 1 0) [.row 0 E sz false xs, .row 0 E2 sz2 true ys] := by
  refine ⟨hM.1, fun w vs ns So hmem hvs => ?_⟩
  obtain ⟨v0, rfl⟩ : ∃ v0, ns = [v0] := by
    have := hmem.len
    match ns, this with
    | [v], _ => exact ⟨v, rfl⟩
  obtain ⟨u, rfl⟩ : ∃ u, vs = [u] := by
    have := hvs.1
    match vs, this with
    | [u], _ => exact ⟨u, rfl⟩
  have hrel : RelV (NamesOf [v0]) (oldS So) w (.vw 0 0 sz lo hi) u := by simpa using hvs.2 0 _ rfl
  obtain ⟨v0', us, e1, e2, e3, e4, e5, _⟩ := hmem.blk 0 _ rfl
  have e1 : some (0, v0) = some (0, v0') := e1
  cases e1
  obtain ⟨A, c, hv0⟩ := own_parts e2
  have hat0 : ∀ g, At v0 g → g < w.heap.size := fun g hg => hmem.lt g ⟨v0, by simp, hg⟩
  obtain ⟨A1, len, cap, A', q1, q2, q3, q4, q5⟩ := vw_of (N := NamesOf [v0]) (k := 0) (v := v0) rfl hrel
  have hq1 : v0 = .slice A1 len cap := by rw [hv0] at q1 ⊢; exact q1
  have hdata : RelD (fun b => b < w.heap.size) w (.sl sz ((xs.take hi).drop lo)) u := by
    subst q4
    have hnil : lo = hi → RelD (fun b => b < w.heap.size) w (.sl sz ((xs.take hi).drop lo)) (.slice A' (hi - lo) (cap - lo)) := by
      intro e
      have e4 : (xs.take hi).drop lo = [] := by apply List.drop_eq_nil_of_le; rw [List.length_take]; omega
      rw [e4, show hi - lo = 0 by omega]
      exact .nil _ _ _
    rcases Nat.eq_or_lt_of_le q2 with e | hlt
    · exact hnil e
    rcases e2.2 with ⟨h, h'⟩ | ⟨g, cap', cur, h, _, h2, h3, h4, h5, h6⟩
    · rw [h] at hq1; cases hq1; omega
    rw [h] at hq1; cases hq1
    rw [q5 (.inl hlt)]
    have hlen : ((xs.take hi).drop lo).length = hi - lo := by rw [List.length_drop, List.length_take]; omega
    have hget : ∀ i, ((xs.take hi).drop lo)[i]? = if lo + i < hi then xs[lo + i]? else none := by
      intro i; rw [List.getElem?_drop, List.getElem?_take]
    have hg : ∀ (i j : Nat) (d : D), (((xs.take hi).drop lo)[i]?.bind fun x => x[j]?) = some d → (xs[lo + i]?.bind fun x => x[j]?) = some d := by
      intro i j d hd
      rw [hget] at hd
      split at hd
      · exact hd
      · cases hd
    simp only [Option.map_some, add_mk]
    rw [← hlen]
    have hraw : ∀ i j d, (xs[lo + i]?.bind fun x => x[j]?) = some d → w.cell? ⟨g, 0 + lo * sz + i * sz + j, none⟩ = some (us.getD ((lo + i) * sz + j) undef) ∧ RelD (oldS So false) w d (us.getD ((lo + i) * sz + j) undef) := fun i j d hd => by
      obtain ⟨u', hu1, hu2⟩ := e5 _ j d hd
      have e : us.getD ((lo + i) * sz + j) undef = u' := by simp [List.getD_eq_getElem?_getD, hu1]
      rw [e]
      refine ⟨?_, hu2⟩
      rw [cell_of_row w g _ cur E _ h2, show 0 + lo * sz + i * sz + j = (lo + i) * sz + j by rw [Nat.add_mul]; omega]
      rw [← h6, List.getElem?_take] at hu1
      split at hu1
      · simpa using hu1
      · cases hu1
    refine .sl _ _ g _ _ (fun i j => us.getD ((lo + i) * sz + j) undef) (hat0 g (by rw [h]; rfl)) (fun y hy => e3 y (List.mem_of_mem_take (List.mem_of_mem_drop hy))) (by omega) (fun i j d hd => (hraw i j d (hg i j d hd)).1) (fun i j d hd => (hraw i j d (hg i j d hd)).2.mono (fun q hq => (hmem.data false q hq).1) fun _ _ => rfl)
  have hM2 := hM.2 w [u] [] (fun b => b < w.heap.size) ⟨rfl, fun k b h => by simp at h, fun j k u v g h => by simp at h, fun f g h => ⟨h.2, fun hb => (by obtain ⟨_, h, _⟩ := hb; cases h)⟩, fun g hb => (by obtain ⟨_, h, _⟩ := hb; cases h), hmem.inv.1, fun g _ hb => (by obtain ⟨_, h, _⟩ := hb; cases h)⟩
    ⟨rfl, fun i v hv => by
      cases i with
      | zero => simp at hv; subst hv; exact .sl false _ _ _ (hdata.mono (fun g hg => ⟨rfl, hg⟩) fun _ _ => rfl)
      | succ i => simp at hv⟩
  refine hM2.mono ?_
  rintro e w' ⟨v, ns', rfl, hok, hres, hlow, hnl, hptr, hnew, hst, hstay⟩
  obtain ⟨v1, rfl⟩ : ∃ v1, ns' = [v1] := by
    have := hok.len
    match ns', this with
    | [v], _ => exact ⟨v, rfl⟩
  have hv1 : ∀ g, At v1 g → w.heap.size ≤ g := fun g hg => by
    rcases hnew g ⟨v1, by simp, hg⟩ with ⟨_, h, _⟩ | h
    · cases h
    · exact h
  have hkeep : ∀ g, g < w.heap.size → w'.heap[g]? = w.heap[g]? := fun g hg => hlow.block g ⟨hg, fun hb => (by obtain ⟨_, h, _⟩ := hb; cases h)⟩
  obtain ⟨v1', us1, c1, c2, c3, c4, c5, c6⟩ := hok.blk 0 _ rfl
  have c1 : some (0, v1) = some (0, v1') := c1
  cases c1
  obtain ⟨A9, c9, hv1s⟩ := own_parts c2
  have hSo : ∀ f g, oldS So f g → newS So w w' [v0, v1] f g := fun f g ⟨hf, hg⟩ => by
    have h1 := hmem.data f g ⟨hf, hg⟩
    refine ⟨Nat.lt_of_lt_of_le h1.1 hlow.size, fun hb => ?_, .inr ⟨hf, hg⟩⟩
    obtain ⟨x, hx, hxg⟩ := hb
    simp only [List.mem_cons, List.not_mem_nil, or_false] at hx
    rcases hx with rfl | rfl
    · exact h1.2 ⟨x, by simp, hxg⟩
    · have := hv1 g hxg; omega
  refine ⟨v, [v0, v1], rfl, ⟨rfl, fun k b hk => ?_, fun j k u v g hj hk hu hv => ?_, fun f g hg => ⟨hg.1, hg.2.1⟩, fun g hb => ?_, hok.inv.1, fun g hg hb => ?_⟩, ?_, hlow.mono fun g hg => ⟨hg.1, fun hb => (by obtain ⟨_, h, _⟩ := hb; cases h)⟩, by simp, fun k ad hk => ?_, fun g hb => ?_, fun _ k x hk => ?_, fun k x x' hk hk' => ?_⟩
  · match k with
    | 0 =>
      simp at hk; subst hk
      refine ⟨v0, us, rfl, ownsRow_mono e2 fun g hg => hkeep g (hat0 g hg), e3, e4, fun i j d hd => ?_, fun h => by cases h⟩
      obtain ⟨u', hu1, hu2⟩ := e5 i j d hd
      exact ⟨u', hu1, hu2.mono (hSo false) fun g hg => hkeep g (hmem.data _ g hg).1⟩
    | 1 =>
      simp at hk; subst hk
      refine ⟨v1, us1, rfl, c2, c3, c4, fun i j d hd => ?_, fun _ g hg => hv1 g hg⟩
      obtain ⟨u', hu1, hu2⟩ := c5 i j d hd
      refine ⟨u', hu1, ?_⟩
      obtain ⟨x, hx1, hx2⟩ := Option.bind_eq_some_iff.1 hd
      obtain ⟨cc, rfl⟩ := hfl x (List.mem_of_getElem? hx1) d (List.mem_of_getElem? hx2)
      exact hu2.flat
    | k + 2 => simp at hk
  · match j, k with
    | 0, 0 => rfl
    | 1, 1 => rfl
    | 0, 1 =>
      simp at hj hk; subst hj hk
      have h1 := hat0 g hu
      have h2 := hv1 g hv
      omega
    | 1, 0 =>
      simp at hj hk; subst hj hk
      have h1 := hat0 g hv
      have h2 := hv1 g hu
      omega
    | j + 2, _ => simp at hj
    | _, k + 2 => simp at hk
  · obtain ⟨x, hx, hxg⟩ := hb
    simp only [List.mem_cons, List.not_mem_nil, or_false] at hx
    rcases hx with rfl | rfl
    · exact Nat.lt_of_lt_of_le (hat0 g hxg) hlow.size
    · exact hok.lt g ⟨x, by simp, hxg⟩
  · obtain ⟨x, hx, hxg⟩ := hb
    simp only [List.mem_cons, List.not_mem_nil, or_false] at hx
    rcases hx with rfl | rfl
    · exact hmem.inv.2 g hg ⟨x, by simp, hxg⟩
    · exact hok.inv.2 g hg ⟨x, by simp, hxg⟩
  · have := ow_of (N := NamesOf [v1]) (k := 0) (v := v1) rfl hres
    rw [hv1s] at this
    exact .ow 1 0 _ (by rw [this]; rfl) ⟨0, v1, rfl, Nat.le_refl _, fun _ => by rw [this, hv1s]⟩
  · match k with
    | 0 => simp at hk; rw [hv0] at hk; cases hk
    | k + 1 => simp at hk
  · obtain ⟨x, hx, hxg⟩ := hb
    simp only [List.mem_cons, List.not_mem_nil, or_false] at hx
    rcases hx with rfl | rfl
    · exact .inl ⟨x, by simp, hxg⟩
    · exact .inr (hv1 g hxg)
  · match k with
    | 0 => simp at hk; subst hk; exact ⟨_, rfl, .inl rfl⟩
    | k + 1 => simp at hk
  · match k with
    | 0 => simp at hk hk'; subst hk hk'; exact .inr fun g hg => .inl hg
    | k + 1 => simp at hk
end
end Go.Proofs.Ytmlednjhemnncaa
namespace Go.Proofs.Ytmlednjhemnncaa
open Go.RowKit
theorem x_id (s : ByteArray) (h : s.size ≤ maxLen) : DCalls Try.prog 29 [str s] (boo (idB s)) := dcalls_val Try.func29 (by kernel_rfl) (by kernel_rfl) rfl rfl fun w _ => id_any s w h
theorem x_rid (s : ByteArray) (h : s.size ≤ maxLen) : DCalls Try.prog 34 [str s] (boo (idB s)) := dcalls_val Try.func34 (by kernel_rfl) (by kernel_rfl) rfl rfl fun w _ => rid_any s w h
theorem x_name (s : ByteArray) (h : s.size ≤ maxLen) : DCalls Try.prog 30 [str s] (boo (nameB s)) := dcalls_val Try.func30 (by kernel_rfl) (by kernel_rfl) rfl rfl fun w _ => name_any s w h
theorem x_rname (s : ByteArray) (h : s.size ≤ maxLen) : DCalls Try.prog 35 [str s] (boo (nameB s)) := dcalls_val Try.func35 (by kernel_rfl) (by kernel_rfl) rfl rfl fun w _ => rname_any s w h
theorem upd_int {o : Oper} {E : Operand → V} {m : List (Option Bk)} {n k : Nat} {x i y : Operand} {W : List (ByteArray × Int)} {t : ByteArray} {v : Int} {outs : List V} (ho : o.op = .mapUpdate 47 x i y) (hx : E x = .ow n k) (hi : E i = str t) (hy : E y = int v) (hm : m[n]? = some (some (.asr k (mapC (intM W)) outs))) :
    OpTr Try.prog o E m .un (m.set n (some (.asr k (mapC (intM (putE W t v))) outs))) := by
  have := ot_updD (P := Try.prog) (d := .cv (.int .i64 v)) (f := true) ho Try.underlying47 Try.underlying9 hx hi (by rw [hy]; rfl) hm
  rwa [show putE (intM W) t (.d (.cv (.int .i64 v))) = intM (putE W t v) from putE_map intC W t v] at this
theorem upd_job {o : Oper} {E : Operand → V} {m : List (Option Bk)} {n k d kd : Nat} {x i y : Operand} {J : List (ByteArray × List Jb)} {t : ByteArray} {js : List Jb} {xs : List (List D)} {f : Bool} (ho : o.op = .mapUpdate 48 x i y) (hx : E x = .ow n k) (hi : E i = str t) (hy : E y = .ow d kd) (hm : m[n]? = some (some (.asr k (mapC (jobM J)) []))) (hd : m[d]? = some (some (.row kd 34 3 f xs))) (hxs : xs = js.map jobD) :
    OpTr Try.prog o E m .un ((m.set n (some (.asr k (mapC (jobM (putE J t js))) []))).set d (some (.row (kd + 1) 34 3 true []))) := by
  subst hxs
  have := ot_updR (P := Try.prog) (Er := 34) ho Try.underlying48 Try.underlying9 hx hi hy hm hd
  rwa [show putE (jobM J) t (.r 34 3 (js.map jobD)) = jobM (putE J t js) from putE_map jobsC J t js] at this
theorem upd_job1 {o : Oper} {E : Operand → V} {m : List (Option Bk)} {n k d kd : Nat} {x i y : Operand} {J : List (ByteArray × List Jb)} {t : ByteArray} {js : List Jb} {xs : List (List D)} {f : Bool} {z : V} (ho : o.op = .mapUpdate 48 x i y) (hx : E x = .ow n k) (hi : E i = str t) (hy : E y = .ow d kd) (hm : m[n]? = some (some (.asr k (mapC (putE (jobM J) t (.o 0))) [z]))) (hd : m[d]? = some (some (.row kd 34 3 f xs))) (hxs : xs = js.map jobD) :
    OpTr Try.prog o E m .un ((m.set n (some (.asr k (mapC (jobM (putE J t js))) []))).set d (some (.row (kd + 1) 34 3 true []))) := by
  subst hxs
  have hnd : n ≠ d := by rintro rfl; rw [hm] at hd; cases hd
  have h1 := ot_updR (P := Try.prog) (Er := 34) ho Try.underlying48 Try.underlying9 hx hi hy hm hd
  rw [putE_twice, show putE (jobM J) t (.r 34 3 (js.map jobD)) = jobM (putE J t js) from putE_map jobsC J t js] at h1
  have hl := lt_of_get hm
  have h2 := gh_dropE (m := (m.set n (some (.asr k (mapC (jobM (putE J t js))) [z]))).set d (some (.row (kd + 1) 34 3 true []))) (n := n) (k := k) (es := jobM (putE J t js)) (outs := []) (x := z) (by rw [List.getElem?_set_ne (Ne.symm hnd), List.getElem?_set_self hl]; rfl) (jobs_noO _ 0)
  have h3 := ot_post h1 h2
  rwa [List.set_comm _ _ (Ne.symm hnd), List.set_set] at h3
theorem x_new (q : Int) (h : 1 ≤ q ∧ q ≤ 1000000) :
    MCalls Try.prog 7 [int q] [] (.tu [.bx 0 0, int 0]) [.box [int q, .ow 1 0, .ow 2 0, .ow 3 0, .ow 4 0, boo false], .asr 0 (mapC (intM [])) [], .asr 0 (mapC (jobM [])) [], .asr 0 (mapC (intM [])) [], .row 0 9 1 true []] := by
  refine msxg [] Try.func7 (by kernel_rfl) (by kernel_rfl) ?_
  conv => whnf
  refine known false (by simp; omega) ?_
  conv => whnf
  refine known false (by simp; omega) ?_
  conv => whnf
  refine at_tr (ot_makeMap rfl rfl rfl) ?_
  conv => whnf
  refine at_tr (ot_makeMap rfl rfl rfl) ?_
  conv => whnf
  refine at_tr (ot_makeMap rfl rfl rfl) ?_
  conv => whnf
  refine ⟨_, GhM.gh (gh_nilR (n := 15) (d := 10) (i := 4) (E := 9) (sz := 1) rfl rfl rfl (by decide)), ?_⟩
  exact ⟨rfl, rfl, rfl⟩
theorem x_new0 (q : Int) (h : ¬ (1 ≤ q ∧ q ≤ 1000000)) : MCalls Try.prog 7 [int q] [] (.tu [.cv (.pointer none), int 2]) [] := by
  refine msxg [] Try.func7 (by kernel_rfl) (by kernel_rfl) ?_
  conv => whnf
  rintro (_ | _) h1
  · simp at h1
    conv => whnf
    refine known true (by simp; omega) ?_
    conv => whnf
    refine ⟨_, Gh.refl _, ?_⟩
    exact ⟨rfl, rfl, rfl⟩
  · conv => whnf
    refine ⟨_, Gh.refl _, ?_⟩
    exact ⟨rfl, rfl, rfl⟩
def weighP (W : List (ByteArray × Int)) (J : List (ByteArray × List Jb)) (R : List ByteArray) (t : ByteArray) (n : Int) : Int := if nameB t = false then 4 else if n < 1 ∨ n > 1000 then 2 else if crowdB W J R t then 3 else 0
set_option maxRecDepth 100000 in
set_option maxHeartbeats 4000000 in
theorem x_weigh (q : Int) (hq : 0 < q) (tu : Bool) (W : List (ByteArray × Int)) (J : List (ByteArray × List Jb)) (D : List (ByteArray × Int)) (R : List ByteArray) (t : ByteArray) (n : Int) (ht : t.size ≤ maxLen) (hW : W.length ≤ 1099511627776) (hR : R.length ≤ 1099511627776) :
    MCallsG true Try.prog 12 [.bx 0 0, str t, int n] (qM q tu W J D R) (int (weighP W J R t n)) (qM q tu (if weighP W J R t n = 0 then putE W t n else W) J D R) := by
  refine msxx [(28, false), (32, false)] Try.func12 (by kernel_rfl) (by kernel_rfl) (by rfl) ?_
  conv => whnf
  refine mcall (T := TT) (φ := []) (x_made q tu W J D R) ?_
  conv => whnf
  refine known false (by simp [hq]) ?_
  conv => whnf
  refine ⟨_, x_name t ht, ?_⟩
  conv => whnf
  rintro (_ | _) h1
  rotate_left
  · have e : weighP W J R t n = 4 := by simp at h1; simp [weighP, h1]
    rw [e, if_neg (by decide)]
    exact ⟨⟨rfl, rfl, rfl⟩, rfl⟩
  simp at h1
  conv => whnf
  rintro (_ | _) h2
  rotate_left
  · have e : weighP W J R t n = 2 := by simp at h2; simp [weighP, h1, h2]
    rw [e, if_neg (by decide)]
    exact ⟨⟨rfl, rfl, rfl⟩, rfl⟩
  simp at h2
  conv => whnf
  rintro (_ | _) h3
  rotate_left
  · have e : weighP W J R t n = 2 := by simp at h3; simp [weighP, h1, h3]
    rw [e, if_neg (by decide)]
    exact ⟨⟨rfl, rfl, rfl⟩, rfl⟩
  simp at h3
  conv => whnf
  refine mcall (T := TT) (φ := []) (x_crowded q tu W J D R t hW hR) ?_
  conv => whnf
  rintro (_ | _) h4
  rotate_left
  · have e : weighP W J R t n = 3 := by simp [weighP, h1, h4]; omega
    rw [e, if_neg (by decide)]
    exact ⟨⟨rfl, rfl, rfl⟩, rfl⟩
  have e : weighP W J R t n = 0 := by simp [weighP, h1, h4]; omega
  rw [e, if_pos rfl]
  conv => whnf
  refine at_tr (upd_int rfl rfl rfl rfl rfl) ?_
  exact ⟨⟨rfl, rfl, rfl⟩, rfl⟩
end Go.Proofs.Ytmlednjhemnncaa
namespace Go.Proofs.Ytmlednjhemnncaa
open Go.RowKit
theorem at_gh {P : Program} {o : Oper} {E : Operand → V} {m m1 : List (Option Bk)} {K : V → List (Option Bk) → Prop} (hg : GhM m m1) (h : ∃ v m', OpTr P o E m1 v m' ∧ v.k fun v => forceM m' fun m' => K v m') : ∃ v m', OpTr P o E m v m' ∧ v.k fun v => forceM m' fun m' => K v m' := by
  obtain ⟨v, m', h1, h2⟩ := h
  exact ⟨v, m', ot_pre hg h1, h2⟩
theorem x_leave1 (s t : ByteArray) : MCalls Try.prog 55 [str s, .bx 0 0] [.box [str t]] (boo (sEq s t)) [.box [str t]] := by
  refine msxm [] Try.func55 (by kernel_rfl) (by kernel_rfl) ?_
  exact ⟨rfl, rfl, rfl⟩
theorem sEq_false {a b : ByteArray} : sEq a b = false ↔ a ≠ b := by
  rw [← Bool.not_eq_true, ne_eq, sEq_iff]
abbrev sRow (l : List ByteArray) : Bk := .row 0 9 1 false (l.map strD)
set_option maxRecDepth 100000 in
set_option maxHeartbeats 4000000 in
theorem x_indexs (l1 l2 : List ByteArray) (t : ByteArray) (h1 : t ∉ l1) (hl : (l1 ++ t :: l2).length ≤ 8796093022207) :
    MCallsG true Try.prog 58 [.ow 0 0, .fn 55 0 [.bx 1 0]] [sRow (l1 ++ t :: l2), .box [str t]] (int (l1.length : Nat)) [sRow (l1 ++ t :: l2), .box [str t]] := by
  refine msxx [(55, false)] Try.func58 (by kernel_rfl) (by kernel_rfl) (by rfl) ?_
  conv => whnf
  refine ⟨[], Nat, fun k => [(8, int k)], fun _ => [], fun k => k ≤ l1.length, fun k => l1.length + 1 - k, 0, by simp, ?_, ?_⟩
  · refine ⟨rfl, ?_, ?_⟩ <;> repeat' (first | exact trivial | exact rfl | refine and_rfl ?_ | refine and_two ?_ ?_)
  rintro k hk
  have hk : k ≤ l1.length := hk
  have hkl : k < (l1 ++ t :: l2).length := by simp; omega
  conv => whnf
  refine known true (by simp; omega) ?_
  conv => whnf
  refine ⟨by omega, by simp; omega, ?_⟩
  conv => whnf
  refine ⟨_, get_str hkl, ?_⟩
  conv => whnf
  refine mcall (T := TT) (φ := []) (x_leave1 (l1 ++ t :: l2)[k] t) ?_
  conv => whnf
  rintro (_ | _) h2
  · have h2 := sEq_false.1 h2
    have hk2 : k < l1.length := by
      rcases Nat.lt_or_ge k l1.length with h | h
      · exact h
      · have : k = l1.length := by omega
        subst this
        exact absurd (by simp) h2
    conv => whnf
    refine ⟨k + 1, hk2, by dsimp only; omega, ?_⟩
    refine ⟨rfl, ?_, ?_⟩ <;> repeat' (first | exact trivial | exact rfl | refine and_rfl ?_ | refine and_val (wrap_succ (by omega)) ?_ | refine and_two ?_ ?_)
  · have h2 := sEq_iff.1 h2
    have hk2 : k = l1.length := by
      rcases Nat.lt_or_ge k l1.length with h | h
      · exfalso
        rw [List.getElem_append_left h] at h2
        exact h1 (h2 ▸ List.getElem_mem h)
      · omega
    subst hk2
    exact ⟨⟨rfl, rfl, rfl⟩, rfl⟩
theorem clear_s {o : Oper} {E : Operand → V} {m : List (Option Bk)} {n k lo hi : Nat} {f : Bool} {xs ys : List (List D)} {x : Operand} (hys : xs.take lo ++ List.replicate (hi - lo) [D.cv (.string ⟨#[]⟩)] ++ xs.drop hi = ys) (hlo : lo ≤ hi) (hhi : hi ≤ xs.length) (ho : o.op = .call { callee := .builtin .clear, args := #[x], argTypes := #[49] })
    (hx : E x = .vw n k 1 lo hi) (hm : m[n]? = some (some (.row k 9 1 f xs))) : OpTr Try.prog o E m .un (m.set n (some (.row k 9 1 f ys))) := by
  subst hys
  exact ot_clear1 ho Try.underlying49 (z := .string ⟨#[]⟩) (by kernel_rfl) rfl rfl hx hm hlo hhi
def mov (l1 l2 : List ByteArray) (y : ByteArray) (k : Nat) : List ByteArray := l1 ++ (l2.take k ++ y :: l2.drop k)
theorem mov_len (l1 l2 : List ByteArray) (y : ByteArray) {k : Nat} (h : k ≤ l2.length) : (mov l1 l2 y k).length = l1.length + l2.length + 1 := by
  simp [mov]; omega
theorem mov_next (l1 l2 : List ByteArray) (y : ByteArray) {k : Nat} (h : k < l2.length) : (mov l1 l2 y k)[l1.length + 1 + k]? = some l2[k] := by
  unfold mov
  rw [List.getElem?_append_right (by omega), show l1.length + 1 + k - l1.length = k + 1 by omega, List.getElem?_append_right (by simp; omega), List.length_take, Nat.min_eq_left (by omega), show k + 1 - k = 1 by omega, List.getElem?_cons_succ, List.getElem?_drop]
  simp [h]
theorem mov_set (l1 l2 : List ByteArray) (y : ByteArray) {k : Nat} (h : k < l2.length) : (mov l1 l2 y k).set (l1.length + k) l2[k] = mov l1 l2 l2[k] (k + 1) := by
  unfold mov
  rw [List.set_append_right _ _ (by omega), show l1.length + k - l1.length = k by omega, List.set_append_right _ _ (by simp; omega), List.length_take, Nat.min_eq_left (by omega), Nat.sub_self, List.set_cons_zero,
    List.take_succ_eq_append_getElem h, List.append_assoc, List.singleton_append]
  congr 3
  exact List.drop_eq_getElem_cons h
set_option maxRecDepth 100000 in
set_option maxHeartbeats 4000000 in
theorem x_deletef (l1 l2 : List ByteArray) (t : ByteArray) (h1 : t ∉ l1) (h2 : t ∉ l2) (hl : (l1 ++ t :: l2).length ≤ 1000000) :
    MCalls Try.prog 54 [.ow 0 0, .fn 55 0 [.bx 1 0]] [sRow (l1 ++ t :: l2), .box [str t]] (.vw 0 0 1 0 (l1.length + l2.length)) [sRow (l1 ++ l2 ++ [(⟨#[]⟩ : ByteArray)]), .box [str t]] := by
  have hl' : l1.length + l2.length + 1 ≤ 1000000 := by
    rw [List.length_append, List.length_cons] at hl
    omega
  refine msxm [(55, false), (58, false)] Try.func54 (by kernel_rfl) (by kernel_rfl) ?_
  conv => whnf
  refine mcall (T := TT) (φ := []) (x_indexs l1 l2 t h1 (by omega)) ?_ (ln := true)
  conv => whnf
  refine known false (by simp) ?_
  conv => whnf
  rw [wrap_succ (by omega)]
  conv => whnf
  refine ⟨[], Nat × ByteArray, fun ⟨k, _⟩ => [(6, int (l1.length + 1 + k : Nat)), (5, int (l1.length + k : Nat))], fun ⟨k, y⟩ => [(42, some (.row 0 9 1 false ((mov l1 l2 y k).map strD)))], fun ⟨k, _⟩ => k ≤ l2.length, fun ⟨k, _⟩ => l2.length - k, (0, t), by simp, ?_, ?_⟩
  · refine ⟨rfl, ?_, ?_⟩ <;> repeat' (first | exact trivial | exact rfl | refine and_rfl ?_ | refine and_two ?_ ?_)
  rintro ⟨k, y⟩ hk
  have hk : k ≤ l2.length := hk
  have hml := mov_len l1 l2 y hk
  conv => whnf
  rintro (_ | _) h3
  · simp [hml] at h3
    have e : k = l2.length := by omega
    subst e
    conv => whnf
    refine ⟨by omega, by simp [hml]; omega, by simp, ?_⟩
    conv => whnf
    refine at_tr (clear_s (n := 42) (k := 0) (f := false) (xs := (mov l1 l2 y l2.length).map strD) (ys := (l1 ++ l2 ++ [(⟨#[]⟩ : ByteArray)]).map strD) (lo := l1.length + l2.length) (hi := ((mov l1 l2 y l2.length).map strD).length) ?_ (by simp [hml]) (by simp) rfl rfl rfl) ?_
    · have e1 : mov l1 l2 y l2.length = (l1 ++ l2) ++ [y] := by simp [mov]
      rw [e1, List.map_append, List.take_append_of_le_length (by simp), List.take_of_length_le (by simp), List.drop_of_length_le (by simp)]
      have e2 : ((l1 ++ l2).map strD ++ [y].map strD).length - (l1.length + l2.length) = 1 := by simp; omega
      rw [e2]
      simp [strD]
    conv => whnf
    refine ⟨by omega, by omega, by simp; omega, ?_⟩
    exact ⟨rfl, rfl, rfl⟩
  simp [hml] at h3
  have hk2 : k < l2.length := by omega
  have hne : l2[k] ≠ t := fun e => h2 (e ▸ List.getElem_mem hk2)
  have hget : ((mov l1 l2 y k).map strD)[((l1.length + 1 + k : Nat) : Int).toNat]? = some (strD l2[k]) := by
    rw [Int.toNat_natCast, List.getElem?_map, mov_next l1 l2 y hk2]; rfl
  conv => whnf
  refine ⟨by omega, by simp [hml]; omega, ?_⟩
  conv => whnf
  refine ⟨_, hget, ?_⟩
  conv => whnf
  refine mcall (T := TT) (φ := []) (x_leave1 l2[k] t) ?_
  conv => whnf
  refine known true (by rw [sEq_false.2 hne]; rfl) ?_
  conv => whnf
  refine ⟨by omega, by simp [hml]; omega, ?_⟩
  have hget2 : ∃ c, ((mov l1 l2 y k).map strD)[((l1.length + k : Nat) : Int).toNat]? = some (strD c) := by
    refine ⟨(mov l1 l2 y k)[l1.length + k]'(by omega), ?_⟩
    rw [Int.toNat_natCast, List.getElem?_map, List.getElem?_eq_getElem (by omega)]; rfl
  obtain ⟨c0, hc0⟩ := hget2
  conv => whnf
  refine ⟨_, hc0, by simp [strD], ?_⟩
  have hset : ((mov l1 l2 y k).map strD).set ((l1.length + k : Nat) : Int).toNat (strD l2[k]) = (mov l1 l2 l2[k] (k + 1)).map strD := by
    rw [Int.toNat_natCast, ← List.map_set, mov_set l1 l2 y hk2]
  conv => whnf
  refine ⟨(k + 1, l2[k]), by dsimp only; omega, by dsimp only; omega, ?_⟩
  refine ⟨rfl, ?_, ?_⟩ <;> repeat' (first | exact trivial | exact rfl | exact hset | refine and_rfl ?_ | refine and_val (by rw [wrap_in (by omega)]; omega) ?_ | refine and_two ?_ ?_)
end Go.Proofs.Ytmlednjhemnncaa
namespace Go.Proofs.Ytmlednjhemnncaa
open Go.RowKit
theorem delE_putE {α : Type} : ∀ (l : List (ByteArray × α)) (t : ByteArray) (c d : α), getE l t = some d → delE (putE l t c) t = delE l t
  | [], t, c, d, h => by simp [getE] at h
  | (k, x) :: l, t, c, d, h => by
    simp only [getE] at h
    simp only [putE, delE]
    split
    · rename_i e; simp [delE]
    · rename_i e
      rw [if_neg e] at h
      simp only [delE, if_neg e, delE_putE l t c d h]
theorem del_int {o : Oper} {E : Operand → V} {m : List (Option Bk)} {n k : Nat} {x i : Operand} {W : List (ByteArray × Int)} {t : ByteArray} {outs : List V} (ho : o.op = .call { callee := .builtin .delete, args := #[x, i], argTypes := #[47, 9] }) (hx : E x = .ow n k) (hi : E i = str t) (hm : m[n]? = some (some (.asr k (mapC (intM W)) outs))) :
    OpTr Try.prog o E m .un (m.set n (some (.asr k (mapC (intM (delE W t))) outs))) := by
  have := ot_delete (P := Try.prog) ho Try.underlying47 Try.underlying9 hx hi hm
  rwa [show delE (intM W) t = intM (delE W t) from delE_map intC W t] at this
theorem del_job {o : Oper} {E : Operand → V} {m : List (Option Bk)} {n k : Nat} {x i : Operand} {J : List (ByteArray × List Jb)} {js : List Jb} {t : ByteArray} (hg : getE J t = some js) (ho : o.op = .call { callee := .builtin .delete, args := #[x, i], argTypes := #[48, 9] }) (hx : E x = .ow n k) (hi : E i = str t) (hm : m[n]? = some (some (.asr k (mapC (putE (jobM J) t .z)) []))) :
    OpTr Try.prog o E m .un (m.set n (some (.asr k (mapC (jobM (delE J t))) []))) := by
  have := ot_delete (P := Try.prog) ho Try.underlying48 Try.underlying9 hx hi hm
  have hg' : getE (jobM J) t = some (jobsC js) := by rw [getE_map, hg]; rfl
  rwa [delE_putE _ _ _ _ hg', show delE (jobM J) t = jobM (delE J t) from delE_map jobsC J t] at this
abbrev qMz (q : Int) (tu : Bool) (W : List (ByteArray × Int)) (J : List (ByteArray × List Jb)) (t : ByteArray) (De : List (ByteArray × Int)) (R : List ByteArray) : List Bk :=
  [.box [int q, .ow 1 0, .ow 2 0, .ow 3 0, .ow 4 0, boo tu], .asr 0 (mapC (intM W)) [], .asr 0 (mapC (putE (jobM J) t .z)) [], .asr 0 (mapC (intM De)) [], .row 0 9 1 false (R.map strD)]
set_option maxRecDepth 100000 in
set_option maxHeartbeats 8000000 in
theorem x_leave (q : Int) (tu : Bool) (W : List (ByteArray × Int)) (J : List (ByteArray × List Jb)) (De : List (ByteArray × Int)) (l1 l2 : List ByteArray) (t : ByteArray) {js : List Jb} (hg : getE J t = some js) (h1 : t ∉ l1) (h2 : t ∉ l2) (hl : (l1 ++ t :: l2).length ≤ 1000000) :
    MCalls Try.prog 40 [.bx 0 0, str t] (qMz q tu W J t De (l1 ++ t :: l2)) (.tu []) (qM q (match l1 with | [] => false | _ => tu) W (delE J t) (delE De t) (l1 ++ l2)) := by
  have hfin : ∀ m0 : Nat, ((l1 ++ l2 ++ [(⟨#[]⟩ : ByteArray)]).map strD).take (l1.length + l2.length) = (l1 ++ l2).map strD := fun _ => by
    rw [List.map_append, List.take_append_of_le_length (by simp), List.take_of_length_le (by simp)]
  have fin : ∀ {m : List (Option Bk)} {k : Nat} {cs : List V}, m[42]? = some (some (.box cs none)) → cs[4]? = some (.vw 46 k 1 0 (l1.length + l2.length)) → m[46]? = some (some (.row k 9 1 false ((l1 ++ l2 ++ [(⟨#[]⟩ : ByteArray)]).map strD))) →
      GhM m ((m.set 46 (some (.row (k + 1) 9 1 false ((l1 ++ l2).map strD)))).set 42 (some (.box (cs.set 4 (.ow 46 (k + 1))) none))) := fun e1 e2 e3 => by
    have := gh_trunc e1 e2 e3 (by simp)
    rwa [hfin 0] at this
  refine msxg [(54, false)] Try.func40 (by kernel_rfl) (by kernel_rfl) ?_
  cases l1 with
  | nil =>
    conv => whnf
    refine ⟨none, by kernel_rfl, ?_⟩
    conv => whnf
    refine known true (by first | (simp; done) | (simp; omega)) ?_
    conv => whnf
    refine ⟨by omega, by simp, ?_⟩
    conv => whnf
    refine ⟨_, rfl, ?_⟩
    conv => whnf
    refine known true (sEq_iff.2 rfl) ?_
    conv => whnf
    refine ⟨none, by kernel_rfl, ?_⟩
    conv => whnf
    refine at_tr (del_job (n := 44) hg rfl rfl rfl rfl) ?_
    conv => whnf
    refine ⟨none, by kernel_rfl, ?_⟩
    conv => whnf
    refine at_tr (del_int (n := 45) rfl rfl rfl rfl) ?_
    conv => whnf
    refine mcall (T := TT) (φ := []) (x_deletef [] l2 t h1 h2 hl) ?_ (ln := true)
    conv => whnf
    refine ⟨_, GhM.gh (fin rfl rfl rfl), ?_⟩
    exact ⟨rfl, rfl, rfl⟩
  | cons a l1 =>
    conv => whnf
    refine ⟨none, by kernel_rfl, ?_⟩
    conv => whnf
    refine known true (by simp; omega) ?_
    conv => whnf
    refine ⟨by omega, by simp, ?_⟩
    conv => whnf
    refine ⟨_, rfl, ?_⟩
    conv => whnf
    refine known false (sEq_false.2 fun e => h1 (by simp [e])) ?_
    conv => whnf
    refine ⟨none, by kernel_rfl, ?_⟩
    conv => whnf
    refine at_tr (del_job (n := 44) hg rfl rfl rfl rfl) ?_
    conv => whnf
    refine ⟨none, by kernel_rfl, ?_⟩
    conv => whnf
    refine at_tr (del_int (n := 45) rfl rfl rfl rfl) ?_
    conv => whnf
    refine mcall (T := TT) (φ := []) (x_deletef (a :: l1) l2 t h1 h2 hl) ?_ (ln := true)
    conv => whnf
    refine ⟨_, GhM.gh (fin rfl rfl rfl), ?_⟩
    exact ⟨rfl, rfl, rfl⟩
end Go.Proofs.Ytmlednjhemnncaa
