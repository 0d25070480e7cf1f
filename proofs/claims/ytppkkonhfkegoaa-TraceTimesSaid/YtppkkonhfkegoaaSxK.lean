/-
  A reader of code over states that name their own memory: append; every operation.
-/
import Derived.Test.YtppkkonhfkegoaaSxJ
namespace Go.Proofs.Ytppkkonhfkegoaa
open Go.RowKit

section
variable {P : Program} {T : Tab} {B : Fr} {w0 : World} {N : Names} {S : Sets} {t : List V} {m : List (Option Bk)} {a : Act} {w : World}

theorem atOf_own {v : Value} (h : ∃ A l c, v = .slice A l c) : v.ownBlock = atOf v := by
  obtain ⟨A, l, c, rfl⟩ := h
  cases A <;> rfl

theorem flagK_eq {f fr : Bool} {ys : List (List D)} {K : Bool → Prop} (h : flagK f fr ys K) : (f = true → fr = true ∨ Flat ys) ∧ K f := by
  unfold flagK at h
  cases f <;> cases fr <;> simp only at h
  · exact ⟨(fun e => by cases e), h⟩
  · exact ⟨(fun e => by cases e), h⟩
  · exact ⟨fun _ => .inr h.1, h.2⟩
  · exact ⟨fun _ => .inl rfl, h⟩

theorem ok_append (hT : TOk P T) (hs : Sat B w0 N S t m a w) {o : Oper} {c : Call} (ho : o.op = .call c) (hc : c.callee = .builtin .append) {K : V → List (Option Bk) → Prop}
    (h : match c.args.toList, c.argTypes.toList with
      | [x, y], [ty, ty'] => match T ty, decide (ty = ty') with
        | some ⟨_, _, _, _, .slice e⟩, true => match T e with
          | some i => if i.size = 0 ∨ i.bytes = 0 then False else
            match (evN t y).elems m i.size with
            | some (ys, fr) =>
              (match evN t x with
              | .cv (.slice none 0 0) => flagK true fr ys fun f => ys.length * i.bytes ≤ 140737488355328 ∧ newK o.dst (.row 0 e i.size f ys) (.ow · 0) m K
              | .ow n k => match m[n]? with
                | some (some (.row k' e' s f xs)) => if k = k' ∧ e' = e ∧ s = i.size then flagK f fr ys fun f => (xs.length + ys.length) * i.bytes ≤ 140737488355328 ∧ setK m n (some (.row (k + 1) e' s f (xs ++ ys))) fun m' => K (.ow n (k + 1)) m' else False
                | _ => False
              | _ => False)
            | none => False
          | none => False
        | _, _ => False
      | _, _ => False) : OpOk P o a w (Post B w0 t a K) := by
  split at h
  rotate_left
  · cases h
  rename_i x y ty ty' h1 h2
  have e1 := arr2 h1
  have e2 := arr2 h2
  have hx := hs.evN x
  have hy := hs.evN y
  split at h
  rotate_left
  · cases h
  rename_i e hti hde
  simp only [decide_eq_true_eq] at hde
  subst hde
  have hsl := hT.kd_slice hti rfl
  split at h
  rotate_left
  · cases h
  rename_i i hie
  split at h
  · cases h
  rename_i hc0
  simp only [not_or] at hc0
  have h0 : 0 < i.size := by omega
  obtain ⟨j, hj, hsz, hby, ⟨z, hz, hzc⟩, _⟩ := hT.get _ _ hie
  obtain ⟨_, hzl, _⟩ := hT.ok hie
  have hzs : z.cells.size = i.size := by rw [← hzl, ← hzc]; simp
  split at h
  rotate_left
  · cases h
  rename_i ys fr hel
  have fin : ∀ {v' : Value} {w' : World}, (Builtin.append_ #[ty, ty] o.type #[a.eval x, a.eval y]).run P w = .ok v' w' → Post B w0 t a K v' w' → OpOk P o a w (Post B w0 t a K) := by
    intro v' w' hr hK
    refine opOk_val (u := v') (w' := w') ?_ hK
    unfold execOp
    simp only [ho]
    simp [resolve, hc, e1, e2, invoke, builtin, hr]
  split at h
  · rename_i hev
    rw [hev] at hx
    generalize hu : a.eval x = u at hx fin
    cases hx
    obtain ⟨hfl, hbytes, h⟩ := flagK_eq h
    obtain ⟨hyx, hyu⟩ := src_spec hs hy h0 hel hfl
    have hlen : ys.length ≤ 140737488355328 := Nat.le_trans (Nat.le_mul_of_pos_right _ (by omega)) hbytes
    obtain ⟨v', w', news, hr, hown, hgr, hat, hnews, hv1, hvs⟩ := append_run (oty := o.type) hsl hj hz hsz hby hzs h0 (World.ownsRow_nil w 0 e i.size) hyu (by simp only [maxLen]; omega) (by rw [Nat.zero_add]; exact hbytes) (Nat.zero_le _)
    simp only [Nat.zero_add, List.nil_append] at hown
    unfold newK at h
    split at h
    · cases h
    rename_i d hdst
    split at h
    rotate_left
    · cases h
    rename_i hd
    rw [setK_eq] at h
    have hnone : N d = none := hs.non d fun b' h => by rw [hd] at h; cases h
    obtain ⟨N', g1, g2, g3⟩ := hs.set (w' := w') (d := d) (k := 0) (v := v') (b := .row 0 e i.size true ys) (lt_of_get hd) (fun k0 v0 h => by rw [hnone] at h; cases h)
      (hs.low.grown hgr hs.base (fun k hk => by simp [Value.ownBlock] at hk)) hgr.size (fun g hg _ => hgr.block g hg (by simp [Value.ownBlock]))
      (fun g hg => by
        have hlt := hown.lt g (by rw [atOf_own hvs]; exact hg)
        refine ⟨hlt.2, ?_⟩
        rcases hat g hg with h | h
        · exact .inl h
        · simp [atOf] at h)
      (fun N' g1 g2 g3 => ⟨v', news, g1, hown, hyx, h0, fun i' j' d' hd' => (by
        obtain ⟨u, hu1, hu2⟩ := hnews i' j' d' hd'
        exact ⟨u, hu1, g3 _ _ _ hu2⟩), fun _ g hg => by
        rcases hat g hg with h | h
        · exact Nat.le_trans hs.size h
        · simp [atOf] at h⟩)
    exact fin hr ⟨N', S, _, _, g3, .ow d 0 _ hv1 ⟨0, v', g1, Nat.le_refl _, fun _ => rfl⟩, h⟩
  · rename_i n k hev
    rw [hev] at hx
    generalize hu : a.eval x = u at hx fin
    cases hx
    rename_i hu1 hn
    obtain ⟨k0, v, hn, hk, he⟩ := hn
    split at h
    rotate_left
    · cases h
    rename_i k' e' s f xs hm
    split at h
    rotate_left
    · cases h
    rename_i hkk
    obtain ⟨rfl, rfl, rfl⟩ := hkk
    obtain ⟨hfl, hbytes, h⟩ := flagK_eq h
    obtain ⟨hyx, hyu⟩ := src_spec hs hy h0 hel hfl
    rw [setK_eq] at h
    obtain ⟨v2, us, b1, b2, b3, b4, b5, b6⟩ := hs.blk n _ hm
    rw [hn] at b1; cases b1
    have := he rfl
    subst this
    have hlen : xs.length + ys.length ≤ 140737488355328 := Nat.le_trans (Nat.le_mul_of_pos_right _ (by omega)) hbytes
    obtain ⟨v', w', news, hr, hown, hgr, hat, hnews, hv1, hvs⟩ := append_run (oty := o.type) hsl hj hz hsz hby hzs h0 b2 hyu (by simp only [maxLen]; omega) hbytes (Nat.zero_le _)
    have hvs0 : ∃ A l c, u = .slice A l c := by obtain ⟨A, c, h⟩ := own_parts b2; exact ⟨_, _, _, h⟩
    obtain ⟨N', g1, g2, g3⟩ := hs.set (w' := w') (d := n) (k := k + 1) (v := v') (b := .row (k + 1) e' i.size f (xs ++ ys)) (lt_of_get hm)
      (fun k0 v0 h => by rw [hn] at h; cases h; exact .inr ⟨hvs0, by omega⟩)
      (hs.low.grown hgr hs.base (fun q hq => (hs.own n _ _ q hn (by rw [← atOf_own hvs0]; exact hq)).1)) hgr.size (fun g hg hk => hgr.block g hg (by rw [atOf_own hvs0]; exact fun e => hk _ _ hn e.symm))
      (fun g hg => by
        have hlt := hown.lt g (by rw [atOf_own hvs]; exact hg)
        refine ⟨hlt.2, ?_⟩
        rcases hat g hg with h | h
        · exact .inl h
        · exact .inr ⟨_, _, hn, h⟩)
      (fun N' g1 g2 g3 => ⟨v', us ++ news, g1, by rw [List.length_append]; exact hown, (fun x hx => by
          rcases List.mem_append.1 hx with hx | hx
          · exact b3 x hx
          · exact hyx x hx), h0, (fun i' j' d' hd' => by
        rw [List.getElem?_append] at hd'
        have hul : us.length = xs.length * i.size := b2.1
        split at hd'
        · rename_i hlt
          obtain ⟨u, hu1, hu2⟩ := b5 i' j' d' hd'
          refine ⟨u, ?_, g3 _ _ _ hu2⟩
          rw [List.getElem?_append_left (lt_of_get hu1)]; exact hu1
        · rename_i hlt
          obtain ⟨u, hu1, hu2⟩ := hnews _ j' d' hd'
          refine ⟨u, ?_, g3 _ _ _ hu2⟩
          have : xs.length * i.size ≤ i' * i.size := Nat.mul_le_mul_right _ (by omega)
          rw [List.getElem?_append_right (by omega), hul, ← hu1]
          congr 1
          rw [Nat.sub_mul]; omega), fun e g hg => by
        rcases hat g hg with h | h
        · exact Nat.le_trans hs.size h
        · exact b6 e g h⟩)
    exact fin hr ⟨N', S, _, _, g3, .ow n (k + 1) _ hv1 ⟨k + 1, v', g1, Nat.le_refl _, fun _ => rfl⟩, h⟩
  · cases h

theorem ok_pick (hs : Sat B w0 N S t m a w) {o : Oper} {c x y : Operand} (ho : o.op = .pick c x y) {K : V → List (Option Bk) → Prop}
    (h : match evN t c with
    | .cv (.bool b) => ∀ b', b = b' → K (match b' with | true => evN t x | false => evN t y) m
    | _ => False) : OpOk P o a w (Post B w0 t a K) := by
  have hc := hs.evN c
  split at h
  rotate_left
  · cases h
  rename_i b hev
  rw [hev] at hc
  generalize hu : a.eval c = u at hc
  cases hc
  have h := h b rfl
  refine opOk_val (u := if b then a.eval x else a.eval y) (w' := w) ?_ (Post.same hs ?_ h)
  · unfold execOp
    simp only [ho, hu]
    simp [asBool]
  · cases b
    · exact hs.evN y
    · exact hs.evN x

/-- What follows an operation may be said in a weaker way. -/
theorem Oper.wp_mono' {o : Oper} {next next' : Act → World → Prop} {Q : Exit → Act → World → Prop} (h : o.wp P a w next Q) (hm : ∀ a w, next a w → next' a w) : o.wp P a w next' Q := by
  unfold Oper.wp at *
  generalize (execOp a.eval o).run P w = r at h ⊢
  cases r with
  | ok x w' =>
    cases x <;> simp only [Oper.upon] at h ⊢ <;> first | exact hm _ _ h | exact h.elim | skip
    · refine Calls.mono h fun e w'' he => ?_
      cases e with
      | returned u => exact hm _ _ he
      | panicked c => exact he
      | outgrown => exact he
    · exact Rows.mono h fun u w'' he => hm _ _ he
  | halt x w' => cases x <;> simp only [Oper.upon] at h ⊢ <;> exact h

theorem consts_spec {E : Operand → V} : ∀ {l : List Operand} {cs : List Value}, consts E l = some cs → cs.length = l.length ∧ ∀ (i : Nat) (x : Operand), l[i]? = some x → ∃ c, cs[i]? = some c ∧ E x = .cv c
  | [], cs, h => by cases h; exact ⟨rfl, fun i x hx => by simp at hx⟩
  | y :: l, cs, h => by
    simp only [consts] at h
    split at h
    · rename_i v vs h1 h2
      cases h
      obtain ⟨e1, e2⟩ := consts_spec h2
      refine ⟨by simp [e1], fun i x hx => ?_⟩
      cases i with
      | zero => simp at hx; subst hx; exact ⟨v, by simp, h1⟩
      | succ i => simpa using e2 i x (by simpa using hx)
    · cases h

theorem ok_makeFunc (hs : Sat B w0 N S t m a w) {o : Oper} {f : FuncId} {fst cap : Array Operand} (ho : o.op = .makeFunc (.func f) fst cap) {K : V → List (Option Bk) → Prop}
    (h : match consts (evN t) (fst.toList ++ cap.toList) with
    | some cs => K (.cv (.func (.func f) (cs.take fst.size).toArray (cs.drop fst.size).toArray)) m
    | none => match allOne ((fst.toList ++ cap.toList).map (evN t)) with
      | true => forceL ((fst.toList ++ cap.toList).map (evN t)) fun cs => K (.fn f fst.size cs) m
      | false => False) : OpOk P o a w (Post B w0 t a K) := by
  have fin : ∀ v : V, RelV N S w v (.func (.func f) (fst.map a.eval) (cap.map a.eval)) → K v m → OpOk P o a w (Post B w0 t a K) := by
    intro v hv hK
    refine opOk_val (u := .func (.func f) (fst.map a.eval) (cap.map a.eval)) (w' := w) ?_ (Post.same hs hv hK)
    unfold execOp
    simp only [ho]
    refine run_v ?_
    simp [Instr.makeFunc]
  split at h
  · rename_i cs hc
    obtain ⟨e1, e2⟩ := consts_spec hc
    refine fin _ ?_ h
    have key : ∀ (i : Nat) (x : Operand), (fst.toList ++ cap.toList)[i]? = some x → cs[i]? = some (a.eval x) := by
      intro i x hx
      obtain ⟨c, h1, h2⟩ := e2 i x hx
      have hr := hs.evN x
      rw [h2] at hr
      generalize hu : a.eval x = u at hr
      cases hr
      exact h1
    have hl : cs = (fst.toList ++ cap.toList).map a.eval := by
      refine List.ext_getElem? fun i => ?_
      rw [List.getElem?_map]
      cases hx : (fst.toList ++ cap.toList)[i]? with
      | none =>
        rw [Option.map_none, List.getElem?_eq_none]
        have : (fst.toList ++ cap.toList).length ≤ i := by
          rcases Nat.lt_or_ge i (fst.toList ++ cap.toList).length with h | h
          · rw [List.getElem?_eq_getElem h] at hx; cases hx
          · exact h
        omega
      | some x => rw [key i x hx]; rfl
    have h1 : (cs.take fst.size).toArray = fst.map a.eval := by
      apply Array.ext'
      rw [hl]; simp
    have h2 : (cs.drop fst.size).toArray = cap.map a.eval := by
      apply Array.ext'
      rw [hl]; simp
    rw [h1, h2]; exact .cv _
  · split at h
    · rw [forceL_eq] at h
      refine fin _ (.fn _ _ _ _ _ (by simp) (by simp) fun i v hv => ?_) h
      rw [List.getElem?_map, Option.map_eq_some_iff] at hv
      obtain ⟨x, hx, rfl⟩ := hv
      have e : (fst.map a.eval ++ cap.map a.eval).getD i undef = a.eval x := by
        have h3 : (fst.map a.eval ++ cap.map a.eval).toList[i]? = some (a.eval x) := by
          simp only [Array.toList_append, Array.toList_map, ← List.map_append, List.getElem?_map, hx, Option.map_some]
        exact getD_of_get h3
      rw [e]; exact hs.evN x
    · exact h.elim

theorem ok_ext (hs : Sat B w0 N S t m a w) {o : Oper} {K : V → List (Option Bk) → Prop} (h : ∃ v m', OpTr P o (evN t) m v m' ∧ v.k fun v => forceM m' fun m' => K v m') : OpOk P o a w (Post B w0 t a K) := by
  obtain ⟨v, m', h1, h2⟩ := h
  rw [k_eq, forceM_eq] at h2
  have := h1 B w0 N S t a w hs fun x _ => hs.evN x
  intro Q
  refine Oper.wp_mono' (this Q) ?_
  rintro a' w' ⟨u, he, N', S', h3, h4⟩
  exact ⟨u, he, N', S', v, m', h3, h4, h2⟩

set_option maxHeartbeats 1000000 in
/-- EVERY OPERATION does what is said of it. -/
theorem aCore_sound (hT : TOk P T) (hs : Sat B w0 N S t m a w) {o : Oper} {K : V → List (Option Bk) → Prop} (h : aCore P T o (evN t) m K) : OpOk P o a w (Post B w0 t a K) := by
  unfold aCore at h
  split at h
  · exact ok_move hs (.inl (by assumption)) h
  · exact ok_move hs (.inr (by assumption)) h
  · exact ok_pick hs (by assumption) h
  · exact ok_alloc hT hs (by assumption) h
  · exact ok_box hs (by assumption) h
  · exact ok_load hT hs (by assumption) h
  · exact ok_store hT hs (by assumption) h
  · exact ok_fieldAddr hT hs (by assumption) h
  · exact ok_field hT hs (by assumption) h
  · exact ok_indexAddr hT hs (by assumption) h
  · exact ok_index hT hs (by assumption) h
  · exact ok_slice hT hs (by assumption) h
  · exact ok_binOp hT hs (by assumption) h
  · exact ok_unOp hs (by assumption) h
  · exact ok_convert hT hs (by assumption) h
  · exact ok_extract hs (by assumption) h
  · exact ok_build hT hs (by assumption) h
  · exact ok_buildSlice hT hs (by assumption) h
  · rename_i c ho
    split at h
    · rename_i f hc
      split at h
      · exact ok_call hs ho hc h
      · exact ok_ext hs h
    · rename_i i hc
      split at h
      · rename_i f fst cap hev
        split at h
        · exact ok_callv hs ho hc (by rw [hev]; exact h)
        · exact ok_ext hs h
      · rename_i f n cs hev
        split at h
        · exact ok_callv hs ho hc (by rw [hev]; exact h)
        · exact ok_ext hs h
      · exact h.elim
    · exact ok_len hT hs ho (by assumption) h
    · exact ok_max hs ho (by assumption) h
    · exact ok_min hs ho (by assumption) h
    · exact ok_append hT hs ho (by assumption) h
    · exact ok_ext hs h
  · exact ok_makeFunc hs (by assumption) h
  · exact ok_ext hs h

end
end Go.Proofs.Ytppkkonhfkegoaa
