/- Texts joined by pack.py: XSxK XSxL XSxL2 -/
import Derived.Test.YtglndfgmlminpaaGreatDoorSq6
import Derived.Still
set_option maxHeartbeats 2000000
namespace Go.Proofs.YtglndfgmlminpaaGreatDoor
section
open Go.RowKit
section
variable {P : Program} {T : Tab} {B : Fr} {w0 : World} {N : ax_} {S : cs_} {t : List V} {m : List (Option Bk)} {a : Act} {w : World}
theorem f6_ {v : Value} (h : ∃ A l c, v = .slice A l c) : v.ownBlock = b3_ v := by
 obtain ⟨A, l, c, rfl⟩ := h
 cases A <;> rfl
theorem flagK_eq {f fr : Bool} {ys : List (List D)} {K : Bool → Prop} (h : flagK f fr ys K) : (f = true → fr = true ∨ Flat ys) ∧ K f := by
 unfold flagK at h
 cases f <;> cases fr <;> simp only at h
 ·exact ⟨(fun e => by cases e), h⟩
 ·exact ⟨(fun e => by cases e), h⟩
 ·exact ⟨fun _ => .inr h.1, h.2⟩
 ·exact ⟨fun _ => .inl rfl, h⟩
theorem ok_append (hT : TOk P T) (hs : Sat B w0 N S t m a w) {o : Oper} {c : Call} (ho : o.op = .call c) (hc : c.callee = .builtin .append) {K : V → List (Option Bk) → Prop}
  (h : match c.args.toList, c.argTypes.toList with
   | [x, y], [ty, ty'] => match T ty, decide (ty = ty') with
    | some ⟨_, _, _, _, .slice e⟩, true => match T e with
     | some i => if i.size = 0 ∨ i.bytes = 0 then False else
      match (evN t y).elems m i.size with
      | some (ys, fr) =>
       (match evN t x with
       | .cv (.slice none 0 0) => flagK true fr ys fun f => ys.length * i.bytes ≤ 140737488355328 ∧ i9_ o.dst (.row 0 e i.size f ys) (.ow · 0) m K
       | .ow n k => match m[n]? with
        | some (some (.row k' e' s f xs)) => if k = k' ∧ e' = e ∧ s = i.size then flagK f fr ys fun f => (xs.length + ys.length) * i.bytes ≤ 140737488355328 ∧ iz_ m n (some (.row (k + 1) e' s f (xs ++ ys))) fun m' => K (.ow n (k + 1)) m' else False
        | _ => False
       | _ => False)
      | none => False
     | none => False
    | _, _ => False
   | _, _ => False) : ek_ P o a w (Post B w0 t a K) := by
 split at h
 rotate_left
 ·cases h
 rename_i x y ty ty' h1 h2
 have e1 := arr2 h1
 have e2 := arr2 h2
 have hx := hs.evN x
 have hy := hs.evN y
 split at h
 rotate_left
 ·cases h
 rename_i e hti hde
 simp only [decide_eq_true_eq] at hde
 subst hde
 have hsl := hT.kd_slice hti rfl
 split at h
 rotate_left
 ·cases h
 rename_i i hie
 split at h
 ·cases h
 rename_i hc0
 simp only [not_or] at hc0
 have h0 : 0 < i.size := by omega
 obtain ⟨j, hj, hsz, hby, ⟨z, hz, hzc⟩, _⟩ := hT.get _ _ hie
 obtain ⟨_, hzl, _⟩ := hT.ok hie
 have hzs : z.cells.size = i.size := by rw [← hzl, ← hzc]; simp
 split at h
 rotate_left
 ·cases h
 rename_i ys fr hel
 have fin : ∀ {v' : Value} {w' : World}, (Builtin.append_ #[ty, ty] o.type #[a.eval x, a.eval y]).run P w = .ok v' w' → Post B w0 t a K v' w' → ek_ P o a w (Post B w0 t a K) := by
  intro v' w' hr hK
  refine af_ (u := v') (w' := w') ?_ hK
  unfold execOp
  simp only [ho]
  simp [resolve, hc, e1, e2, invoke, builtin, hr]
 split at h
 ·rename_i hev
  rw [hev] at hx
  generalize hu : a.eval x = u at hx fin
  cases hx
  obtain ⟨hfl, hbytes, h⟩ := flagK_eq h
  obtain ⟨hyx, hyu⟩ := src_spec hs hy h0 hel hfl
  have hlen : ys.length ≤ 140737488355328 := w_ (Nat.le_mul_of_pos_right _ oM) hbytes
  obtain ⟨v', w', news, hr, hown, hgr, hat, hnews, hv1, hvs⟩ := n7_ (oty := o.type) hsl hj hz hsz hby hzs h0 (World.ownsRow_nil w 0 e i.size) hyu (by simp only [maxLen]; omega) (by rw [Nat.zero_add]; exact hbytes) (l_ _)
  simp only [Nat.zero_add, List.nil_append] at hown
  unfold i9_ at h
  split at h
  ·cases h
  rename_i d hdst
  split at h
  rotate_left
  ·cases h
  rename_i hd
  rw [bj_] at h
  have hnone : N d = none := hs.non d fun b' h => by rw [hd] at h; cases h
  obtain ⟨N', g1, g2, g3⟩ := hs.set (w' := w') (d := d) (k := 0) (v := v') (b := .row 0 e i.size true ys) (U_ hd) (fun k0 v0 h => by rw [hnone] at h; cases h)
   (hs.low.grown hgr hs.base (fun k hk => by simp [Value.ownBlock] at hk)) hgr.size (fun g hg _ => hgr.block g hg (by simp [Value.ownBlock]))
   (fun g hg => by
    have hlt := hown.lt g (by rw [f6_ hvs]; exact hg)
    refine ⟨hlt.2, ?_⟩
    rcases hat g hg with h | h
    ·exact .inl h
    ·simp [b3_] at h)
   (fun N' g1 g2 g3 => ⟨v', news, g1, hown, hyx, h0, fun i' j' d' hd' => (by
    obtain ⟨u, hu1, hu2⟩ := hnews i' j' d' hd'
    exact ⟨u, hu1, g3 _ _ _ hu2⟩), fun _ g hg => by
    rcases hat g hg with h | h
    ·exact w_ hs.size h
    ·simp [b3_] at h⟩)
  exact fin hr ⟨N', S, _, _, g3, .ow d 0 _ hv1 ⟨0, v', g1, f_ _, fun _ => rfl⟩, h⟩
 ·rename_i n k hev
  rw [hev] at hx
  generalize hu : a.eval x = u at hx fin
  cases hx
  rename_i hu1 hn
  obtain ⟨k0, v, hn, hk, he⟩ := hn
  split at h
  rotate_left
  ·cases h
  rename_i k' e' s f xs hm
  split at h
  rotate_left
  ·cases h
  rename_i hkk
  obtain ⟨rfl, rfl, rfl⟩ := hkk
  obtain ⟨hfl, hbytes, h⟩ := flagK_eq h
  obtain ⟨hyx, hyu⟩ := src_spec hs hy h0 hel hfl
  rw [bj_] at h
  obtain ⟨v2, us, b1, b2, b3, b4, b5, b6⟩ := hs.blk n _ hm
  rw [hn] at b1; cases b1
  have := he rfl
  subst this
  have hlen : xs.length + ys.length ≤ 140737488355328 := w_ (Nat.le_mul_of_pos_right _ oM) hbytes
  obtain ⟨v', w', news, hr, hown, hgr, hat, hnews, hv1, hvs⟩ := n7_ (oty := o.type) hsl hj hz hsz hby hzs h0 b2 hyu (by simp only [maxLen]; omega) hbytes (l_ _)
  have hvs0 : ∃ A l c, u = .slice A l c := by obtain ⟨A, c, h⟩ := cf_ b2; exact ⟨_, _, _, h⟩
  obtain ⟨N', g1, g2, g3⟩ := hs.set (w' := w') (d := n) (k := k + 1) (v := v') (b := .row (k + 1) e' i.size f (xs ++ ys)) (U_ hm)
   (fun k0 v0 h => by rw [hn] at h; cases h; exact .inr ⟨hvs0, oM⟩)
   (hs.low.grown hgr hs.base (fun q hq => (hs.own n _ _ q hn (by rw [← f6_ hvs0]; exact hq)).1)) hgr.size (fun g hg hk => hgr.block g hg (by rw [f6_ hvs0]; exact fun e => hk _ _ hn e.symm))
   (fun g hg => by
    have hlt := hown.lt g (by rw [f6_ hvs]; exact hg)
    refine ⟨hlt.2, ?_⟩
    rcases hat g hg with h | h
    ·exact .inl h
    ·exact .inr ⟨_, _, hn, h⟩)
   (fun N' g1 g2 g3 => ⟨v', us ++ news, g1, by rw [a_]; exact hown, (fun x hx => by
     rcases List.mem_append.1 hx with hx | hx
     ·exact b3 x hx
     ·exact hyx x hx), h0, (fun i' j' d' hd' => by
    rw [List.getElem?_append] at hd'
    have hul : us.length = xs.length * i.size := b2.1
    split at hd'
    ·rename_i hlt
     obtain ⟨u, hu1, hu2⟩ := b5 i' j' d' hd'
     refine ⟨u, ?_, g3 _ _ _ hu2⟩
     rw [E_ (U_ hu1)]; exact hu1
    ·rename_i hlt
     obtain ⟨u, hu1, hu2⟩ := hnews _ j' d' hd'
     refine ⟨u, ?_, g3 _ _ _ hu2⟩
     have : xs.length * i.size ≤ i' * i.size := H_ _ oM
     rw [L_ oM, hul, ← hu1]
     congr 1
     rw [Nat.sub_mul]; omega), fun e g hg => by
    rcases hat g hg with h | h
    ·exact w_ hs.size h
    ·exact b6 e g h⟩)
  exact fin hr ⟨N', S, _, _, g3, .ow n (k + 1) _ hv1 ⟨k + 1, v', g1, f_ _, fun _ => rfl⟩, h⟩
 ·cases h
theorem ok_pick (hs : Sat B w0 N S t m a w) {o : Oper} {c x y : Operand} (ho : o.op = .pick c x y) {K : V → List (Option Bk) → Prop}
  (h : match evN t c with
  | .cv (.bool b) => ∀ b', b = b' → K (match b' with | true => evN t x | false => evN t y) m
  | _ => False) : ek_ P o a w (Post B w0 t a K) := by
 have hc := hs.evN c
 split at h
 rotate_left
 ·cases h
 rename_i b hev
 rw [hev] at hc
 generalize hu : a.eval c = u at hc
 cases hc
 have h := h b rfl
 refine af_ (u := if b then a.eval x else a.eval y) (w' := w) ?_ (Post.same hs ?_ h)
 ·unfold execOp
  simp only [ho, hu]
  simp [asBool]
 ·cases b
  ·exact hs.evN y
  ·exact hs.evN x
theorem Oper.wp_mono' {o : Oper} {next next' : Act → World → Prop} {Q : Exit → Act → World → Prop} (h : o.wp P a w next Q) (hm : ∀ a w, next a w → next' a w) : o.wp P a w next' Q := by
 unfold Oper.wp at *
 generalize (execOp a.eval o).run P w = r at h ⊢
 cases r with
 | ok x w' =>
  cases x <;> simp only [Oper.upon] at h ⊢ <;> first | exact hm _ _ h | exact h.elim | skip
  ·refine Calls.mono h fun e w'' he => ?_
   cases e with
   | returned u => exact hm _ _ he
   | panicked c => exact he
   | outgrown => exact he
  ·exact Rows.mono h fun u w'' he => hm _ _ he
 | halt x w' => cases x <;> simp only [Oper.upon] at h ⊢ <;> exact h
theorem l0_ {E : Operand → V} : ∀ {l : List Operand} {cs : List Value}, j3_ E l = some cs → cs.length = l.length ∧ ∀ (i : Nat) (x : Operand), l[i]? = some x → ∃ c, cs[i]? = some c ∧ E x = .cv c
 | [], cs, h => by cases h; exact ⟨rfl, fun i x hx => by simp at hx⟩
 | y :: l, cs, h => by
  simp only [j3_] at h
  split at h
  ·rename_i v vs h1 h2
   cases h
   obtain ⟨e1, e2⟩ := l0_ h2
   refine ⟨by simp [e1], fun i x hx => ?_⟩
   cases i with
   | zero => simp at hx; subst hx; exact ⟨v, by simp, h1⟩
   | succ i => simpa using e2 i x (by simpa using hx)
  ·cases h
theorem ok_makeFunc (hs : Sat B w0 N S t m a w) {o : Oper} {f : FuncId} {fst cap : Array Operand} (ho : o.op = .makeFunc (.func f) fst cap) {K : V → List (Option Bk) → Prop}
  (h : match j3_ (evN t) (fst.toList ++ cap.toList) with
  | some cs => K (.cv (.func (.func f) (cs.take fst.size).toArray (cs.drop fst.size).toArray)) m
  | none => match iq_ ((fst.toList ++ cap.toList).map (evN t)) with
   | true => d1_ ((fst.toList ++ cap.toList).map (evN t)) fun cs => K (.fn f fst.size cs) m
   | false => False) : ek_ P o a w (Post B w0 t a K) := by
 have fin : ∀ v : V, RelV N S w v (.func (.func f) (fst.map a.eval) (cap.map a.eval)) → K v m → ek_ P o a w (Post B w0 t a K) := by
  intro v hv hK
  refine af_ (u := .func (.func f) (fst.map a.eval) (cap.map a.eval)) (w' := w) ?_ (Post.same hs hv hK)
  unfold execOp
  simp only [ho]
  refine cz_ ?_
  simp [Instr.makeFunc]
 split at h
 ·rename_i cs hc
  obtain ⟨e1, e2⟩ := l0_ hc
  refine fin _ ?_ h
  have key : ∀ (i : Nat) (x : Operand), (fst.toList ++ cap.toList)[i]? = some x → cs[i]? = some (a.eval x) := by
   intro i x hx
   obtain ⟨c, h1, h2⟩ := e2 i x hx
   have hr := hs.evN x
   rw [h2] at hr
   generalize hu : a.eval x = u at hr
   cases hr
   exact h1
  have hl : cs = (fst.toList ++ cap.toList).map a.eval := by
   refine List.ext_getElem? fun i => ?_
   rw [e_]
   cases hx : (fst.toList ++ cap.toList)[i]? with
   | none =>
    rw [Option.map_none, J_]
    have : (fst.toList ++ cap.toList).length ≤ i := by
     rcases s_ i (fst.toList ++ cap.toList).length with h | h
     ·rw [h_ h] at hx; cases hx
     ·exact h
    omega
   | some x => rw [key i x hx]; rfl
  have h1 : (cs.take fst.size).toArray = fst.map a.eval := by
   apply Array.ext'
   rw [hl]; simp
  have h2 : (cs.drop fst.size).toArray = cap.map a.eval := by
   apply Array.ext'
   rw [hl]; simp
  rw [h1, h2]; exact .cv _
 ·split at h
  ·rw [bx_] at h
   refine fin _ (.fn _ _ _ _ _ sI sI fun i v hv => ?_) h
   rw [e_, o_] at hv
   obtain ⟨x, hx, rfl⟩ := hv
   have e : (fst.map a.eval ++ cap.map a.eval).getD i undef = a.eval x := by
    have h3 : (fst.map a.eval ++ cap.map a.eval).toList[i]? = some (a.eval x) := by
     simp only [Array.toList_append, Array.toList_map, ← List.map_append, e_, hx, Option.map_some]
    exact cp_ h3
   rw [e]; exact hs.evN x
  ·exact h.elim
theorem h8_ (hs : Sat B w0 N S t m a w) {o : Oper} {K : V → List (Option Bk) → Prop} (h : ∃ v m', ey_ P o (evN t) m v m' ∧ v.k fun v => bu_ m' fun m' => K v m') : ek_ P o a w (Post B w0 t a K) := by
 obtain ⟨v, m', h1, h2⟩ := h
 rw [k_eq, fl_] at h2
 have := h1 B w0 N S t a w hs fun x _ => hs.evN x
 intro Q
 refine Oper.wp_mono' (this Q) ?_
 rintro a' w' ⟨u, he, N', S', h3, h4⟩
 exact ⟨u, he, N', S', v, m', h3, h4, h2⟩
theorem l8_ (hT : TOk P T) (hs : Sat B w0 N S t m a w) {o : Oper} {K : V → List (Option Bk) → Prop} (h : ew_ P T o (evN t) m K) : ek_ P o a w (Post B w0 t a K) := by
 unfold ew_ at h
 split at h
 ·exact ok_move hs (.inl (by assumption)) h
 ·exact ok_move hs (.inr (by assumption)) h
 ·exact ok_pick hs (by assumption) h
 ·exact ok_alloc hT hs (by assumption) h
 ·exact ok_box (F := T.fm) hs (by assumption) h
 ·exact ok_load hT hs (by assumption) h
 ·exact ok_store hT hs (by assumption) h
 ·exact ok_fieldAddr hT hs (by assumption) h
 ·exact ok_field hT hs (by assumption) h
 ·exact ok_indexAddr hT hs (by assumption) h
 ·exact j6_ hT hs (by assumption) h
 ·exact ok_nilCheck hs (by assumption) h
 ·exact ok_index hT hs (by assumption) h
 ·split at h
  ·exact h8_ hs h
  ·exact ok_slice hT hs (by assumption) h
 ·exact ok_binOp hT hs (by assumption) h
 ·exact ok_unOp hs (by assumption) h
 ·split at h
  ·exact h8_ hs h
  ·exact ok_convert hT hs (by assumption) h
 ·exact ok_extract hs (by assumption) h
 ·exact ok_build hT hs (by assumption) h
 ·split at h
  ·exact h8_ hs h
  ·exact o0_ hT hs (by assumption) h
 ·rename_i c ho
  split at h
  ·rename_i f hc
   split at h
   ·exact ok_call hs ho hc h
   ·exact h8_ hs h
  ·rename_i i hc
   split at h
   ·rename_i f fst cap hev
    split at h
    ·exact ok_callv hs ho hc (by rw [hev]; exact h)
    ·exact h8_ hs h
   ·rename_i f n cs hev
    split at h
    ·exact ok_callv hs ho hc (by rw [hev]; exact h)
    ·exact h8_ hs h
   ·exact h.elim
  ·exact ok_len hT hs ho (by assumption) h
  ·exact ok_max hs ho (by assumption) h
  ·exact ok_min hs ho (by assumption) h
  ·rename_i hc
   split at h
   ·rename_i x y ty ty' h1 h2
    split at h
    ·exact h8_ hs h
    ·exact ok_append hT hs ho hc (by rw [h1, h2]; exact h)
   ·exact h.elim
  ·exact h8_ hs h
 ·exact ok_makeFunc hs (by assumption) h
 ·exact h8_ hs h
end
end
section
open Go.RowKit
section
variable {P : Program} {T : Tab} {m : List (Option Bk)}
theorem buildV_congr {fs : List (Nat × Nat)} {E E' : Operand → V} (ps : List (Nat × Operand)) : ∀ (cs : List V) (K : List V → Prop), (∀ p ∈ ps, E p.2 = E' p.2) → d8_ fs T E cs ps K = d8_ fs T E' cs ps K := by
 induction ps with
 | nil => intro cs K _; rfl
 | cons p ps ih =>
  intro cs K h
  obtain ⟨i, x⟩ := p
  have h1 : E x = E' x := h (i, x) sI
  have h2 : ∀ cs K, d8_ fs T E cs ps K = d8_ fs T E' cs ps K := fun cs K => ih cs K fun p hp => h p (by simp [hp])
  simp only [d8_, h1, h2]
theorem elemsD_congr {sz : Nat} {E E' : Operand → V} (ps : List (Nat × Operand)) : ∀ (xs : List (List D)) (f : Bool) (K : List (List D) → Bool → Prop), (∀ p ∈ ps, E p.2 = E' p.2) → dk_ sz E xs f ps K = dk_ sz E' xs f ps K := by
 induction ps with
 | nil => intro cs f K _; rfl
 | cons p ps ih =>
  intro cs f K h
  obtain ⟨i, x⟩ := p
  have h1 : E x = E' x := h (i, x) sI
  have h2 : ∀ cs f K, dk_ sz E cs f ps K = dk_ sz E' cs f ps K := fun cs f K => ih cs f K fun p hp => h p (by simp [hp])
  simp only [dk_, h1, h2]
theorem passL_congr {E E' : Operand → V} (l : List Operand) : ∀ (tys : List TypeId) (K : List V → Prop), (∀ x ∈ l, E x = E' x) → gh_ T m l tys E K = gh_ T m l tys E' K := by
 induction l with
 | nil => intro tys K _; rfl
 | cons x l ih =>
  intro tys K h
  have h1 := h x sI
  have h2 : ∀ tys K, gh_ T m l tys E K = gh_ T m l tys E' K := fun tys K => ih tys K fun y hy => h y (by simp [hy])
  cases tys <;> simp only [gh_, h1, h2]
theorem jx_ {E E' : Operand → V} {d : Int} {x : Option Operand} (h : ∀ y, x = some y → E y = E' y) : bv_ E d x = bv_ E' d x := by
 cases x with
 | none => rfl
 | some y => simp only [bv_, h y rfl]
theorem opTr_congr {o : Oper} {E E' : Operand → V} {v : V} {m' : List (Option Bk)} (h : ∀ x, x ∈ o.op.operands.toList → E x = E' x) : ey_ P o E m v m' = ey_ P o E' m v m' := by
 have key : ∀ {E E' : Operand → V}, (∀ x, x ∈ o.op.operands.toList → E x = E' x) → ey_ P o E m v m' → ey_ P o E' m v m' := fun h ht B w0 N S t a w hs hx =>
  ht B w0 N S t a w hs fun x hm => by rw [h x hm]; exact hx x hm
 exact propext ⟨key h, key fun x hx => (h x hx).symm⟩
theorem j2_ {E E' : Operand → V} : ∀ (l : List Operand), (∀ x ∈ l, E x = E' x) → j3_ E l = j3_ E' l
 | [], _ => rfl
 | x :: l, h => by simp only [j3_, h x sI, j2_ l fun y hy => h y (by simp [hy])]
theorem ma_ {o : Oper} {E E' : Operand → V} {K : V → List (Option Bk) → Prop} (h : ∀ x, x ∈ o.op.operands.toList → E x = E' x) : ew_ P T o E m K = ew_ P T o E' m K := by
 have hext : ∀ v m', ey_ P o E m v m' = ey_ P o E' m v m' := fun v m' => opTr_congr h
 unfold ew_
 cases ho : o.op <;> (try simp only []) <;> (rw [ho] at h; simp only [Op.operands] at h) <;> (try simp only [hext]) <;> try rfl
 case move x => rw [h x sI]
 case pick c x y => rw [h c sI, h x sI, h y sI]
 case assign x => rw [h x sI]
 case box ty x => rw [h x sI]
 case load ty x => rw [h x sI]
 case store ty x y => rw [h x sI, h y sI]
 case fieldAddr s x f => rw [h x sI]
 case field s x f => rw [h x sI]
 case indexAddr ty x i => rw [h x sI, h i sI]
 case nilCheck x => rw [h x sI]
 case makeInterface ty x => rw [h x sI]
 case index ty x i => rw [h x sI, h i sI]
 case slice ty x lo hi mx =>
  have h1 : ∀ d, bv_ E d lo = bv_ E' d lo := fun d => jx_ fun y hy => h y (by subst hy; simp)
  have h2 : ∀ d, bv_ E d hi = bv_ E' d hi := fun d => jx_ fun y hy => h y (by subst hy; simp)
  rw [h x sI]
  simp only [h1, h2]
 case binOp op ty x y yt => rw [h x sI, h y sI]
 case unOp op ty x => rw [h x sI]
 case convert s d x => rw [h x sI]
 case extract x i => rw [h x sI]
 case build ty ps =>
  have h2 : ∀ fs cs K, d8_ fs T E cs ps.toList K = d8_ fs T E' cs ps.toList K := fun fs cs K => buildV_congr _ _ _ fun p hp => h p.2 (by simp; exact ⟨p.1, by simpa using hp⟩)
  simp only [h2]
 case buildSlice ty n ps =>
  have h2 : ∀ sz xs f K, dk_ sz E xs f ps.toList K = dk_ sz E' xs f ps.toList K := fun sz xs f K => elemsD_congr _ _ _ _ fun p hp => h p.2 (by simp; exact ⟨p.1, by simpa using hp⟩)
  simp only [h2]
 case makeFunc fn fst cap =>
  have ha : ∀ x ∈ fst.toList ++ cap.toList, E x = E' x := fun x hx => h x (by simpa using hx)
  have h1 : (fst.toList ++ cap.toList).map E = (fst.toList ++ cap.toList).map E' := List.map_congr_left ha
  cases fn <;> simp only [j2_ _ ha, h1] <;> simp only [hext]
 case call c =>
  have ha : ∀ x ∈ c.args.toList, E x = E' x := fun x hx => h x (by simp only [Call.operands, Array.toList_append, List.mem_append]; exact .inr hx)
  have h1 : ∀ K, gh_ T m c.args.toList c.argTypes.toList E K = gh_ T m c.args.toList c.argTypes.toList E' K := fun K => passL_congr _ _ K ha
  split
  ·simp only [h1]
  ·rename_i t hc
   have : E (.tmp t) = E' (.tmp t) := h _ (by simp [Call.operands, hc])
   simp only [this, h1]
  ·split
   ·rename_i x ty e1 e2
    rw [ha x (by rw [e1]; simp)]
   ·rfl
  ·split
   ·rename_i x y e1
    rw [ha x (by rw [e1]; simp), ha y (by rw [e1]; simp)]
   ·rfl
  ·split
   ·rename_i x y e1
    rw [ha x (by rw [e1]; simp), ha y (by rw [e1]; simp)]
   ·rfl
  ·split
   ·rename_i x y ty ty' e1 e2
    rw [ha x (by rw [e1]; simp), ha y (by rw [e1]; simp)]
   ·rfl
  ·simp only
def Det (m : List (Option Bk)) (ne : Bool) (F : (V → List (Option Bk) → Prop) → Prop) : Prop :=
 ∀ K, F K → ∃ v m', (∀ K' : V → List (Option Bk) → Prop, K' v m' → F K') ∧ K v m' ∧ (ne = true → m' = m)
theorem ar_ (m : List (Option Bk)) (ne : Bool) (v : V) : Det m ne fun K => K v m := fun _ h => ⟨v, m, fun _ h => h, h, fun _ => rfl⟩
theorem Z_ (m : List (Option Bk)) (ne : Bool) : Det m ne fun _ => False := fun _ h => h.elim
theorem bt_ {m : List (Option Bk)} {ne : Bool} {p : Prop} {F : (V → List (Option Bk) → Prop) → Prop} (h : Det m ne F) : Det m ne fun K => p ∧ F K := fun K ⟨hp, hF⟩ =>
 let ⟨v, m', h1, h2, h3⟩ := h K hF; ⟨v, m', fun K' hK => ⟨hp, h1 K' hK⟩, h2, h3⟩
theorem g6_ {m : List (Option Bk)} {ne : Bool} {α : Type} {F : α → (V → List (Option Bk) → Prop) → Prop} (h : ∀ x, Det m ne (F x)) : Det m ne fun K => ∃ x, F x K := fun K ⟨x, hF⟩ =>
 let ⟨v, m', h1, h2, h3⟩ := h x K hF; ⟨v, m', fun K' hK => ⟨x, h1 K' hK⟩, h2, h3⟩
theorem cc_ {m : List (Option Bk)} {ne : Bool} {c : Prop} [Decidable c] {F G : (V → List (Option Bk) → Prop) → Prop} (h : Det m ne F) (h' : Det m ne G) : Det m ne fun K => if c then F K else G K := by
 by_cases hc : c
 ·simp only [hc, if_true]; exact h
 ·simp only [hc, if_false]; exact h'
theorem ly_ {m m2 : List (Option Bk)} (v : V) : Det m false fun K => K v m2 := fun _ h => ⟨v, m2, fun _ h => h, h, fun h => by cases h⟩
theorem gm_ {ne : Bool} {i : TI} {cs : List V} {off : Nat} : Det m ne fun K => ge_ i cs off fun v => K v m := by
 unfold ge_
 simp only [k_eq]
 refine cc_ (cc_ (ar_ _ _ _) (Z_ _ _)) ?_
 cases cs[off]? with
 | none => exact Z_ _ _
 | some v => exact ar_ _ _ _
theorem ko_ {dst : Option Tmp} {b : Bk} {v : Nat → V} : Det m false fun K => i9_ dst b v m K := by
 unfold i9_
 cases dst with
 | none => exact Z_ _ _
 | some d =>
  simp only [bj_]
  rcases m[d]? with _ | _ | b
  ·exact Z_ _ _
  ·exact ly_ _
  ·exact Z_ _ _
theorem ny_ {fs : List (Nat × Nat)} {E : Operand → V} (ps : List (Nat × Operand)) : ∀ (cs : List V), Det m true fun K => d8_ fs T E cs ps fun cs => K (.ag cs) m := by
 induction ps with
 | nil => intro cs; exact ar_ _ _ _
 | cons p ps ih =>
  intro cs
  obtain ⟨i, x⟩ := p
  simp only [d8_, bx_]
  rcases fs[i]? with _ | ⟨off, ty⟩
  ·exact Z_ _ _
  dsimp only
  rcases T ty with _ | ti
  ·exact Z_ _ _
  dsimp only
  generalize ((match E x with | .un => false | _ => true) && (E x).cells.length == ti.size) = c
  cases c
  ·exact Z_ _ _
  rcases pj_ cs off (E x).cells with _ | cs'
  ·exact Z_ _ _
  ·exact ih cs'
theorem det_elemsD {sz : Nat} {E : Operand → V} {F : List (List D) → Bool → (V → List (Option Bk) → Prop) → Prop} (hF : ∀ xs f, Det m false (F xs f)) (ps : List (Nat × Operand)) : ∀ (xs : List (List D)) (f : Bool), Det m false fun K => dk_ sz E xs f ps fun xs f => F xs f K := by
 induction ps with
 | nil => intro xs f; exact hF xs f
 | cons p ps ih =>
  intro xs f
  obtain ⟨i, x⟩ := p
  simp only [dk_, et_, bj_]
  cases toDs (E x).cells with
  | none => exact Z_ _ _
  | some p =>
   obtain ⟨ds, g⟩ := p
   dsimp only
   refine cc_ ?_ (Z_ _ _)
   cases f && g <;> exact ih _ _
theorem pn_ {ne : Bool} {f : FuncId} {args : List V} : Det m ne fun K => j7_ P f args m K := by
 unfold j7_
 exact g6_ fun res => bt_ (by simp only [k_eq]; exact ar_ _ _ _)
theorem det_len {ne : Bool} {v : V} : Det m ne fun K => lenK v m K := by
 unfold lenK
 cases v <;> try exact Z_ _ _
 ·rename_i v
  split <;> first | exact ar_ _ _ _ | exact Z_ _ _ | (rename_i h; cases h)
 ·exact ar_ _ _ _
 ·rename_i n k
  dsimp only
  rcases m[n]? with _ | _ | _ | _ <;> try exact Z_ _ _
  exact cc_ (ar_ _ _ _) (Z_ _ _)
 ·rename_i n k s lo hi
  dsimp only
  rcases m[n]? with _ | _ | _ | _ <;> try exact Z_ _ _
  exact cc_ (ar_ _ _ _) (Z_ _ _)
theorem det_binC {ne : Bool} {op : BinOp} {x y : Value} : Det m ne fun K => binC op x y fun v => K (.cv v) m := by
 unfold binC
 split
 ·split
  ·exact bt_ (ar_ _ _ _)
  ·exact bt_ (ar_ _ _ _)
  split
  ·exact Z_ _ _
  ·cases op <;> first | exact ar_ _ _ _ | exact Z_ _ _ | exact bt_ (ar_ _ _ _)
 ·cases op <;> first | exact ar_ _ _ _ | exact Z_ _ _ | exact bt_ (ar_ _ _ _)
 ·exact Z_ _ _
theorem det_binB {ne : Bool} {op : BinOp} {x y : Bool} : Det m ne fun K => binB op x y fun v => K (.cv v) m := by
 unfold binB
 cases op <;> first | exact ar_ _ _ _ | exact Z_ _ _
theorem det_flag {ne f fr : Bool} {ys : List (List D)} {F : Bool → (V → List (Option Bk) → Prop) → Prop} (h : ∀ f, Det m ne (F f)) : Det m ne fun K => flagK f fr ys fun f => F f K := by
 cases f <;> cases fr <;> simp only [flagK] <;> first | exact h _ | exact bt_ (h _)
theorem d7_ {o : Oper} {E : Operand → V} : Det m false fun K => ∃ v m', ey_ P o E m v m' ∧ v.k fun v => bu_ m' fun m' => K v m' := by
 simp only [k_eq, fl_]
 exact g6_ fun v => g6_ fun m' => bt_ (ly_ _)
theorem aCore_det {o : Oper} {E : Operand → V} : Det m (Op.noeff T.fm o.op) fun K => ew_ P T o E m K := by
 unfold ew_
 cases ho : o.op <;> simp only [Op.noeff, Op.nomem] <;> (try exact Z_ _ _) <;> try exact d7_
 case move x => exact ar_ _ _ _
 case pick c x y =>
  split
  ·rename_i b _
   intro K h
   exact ⟨_, _, fun K' hK b' e => by subst e; exact hK, h b rfl, fun _ => rfl⟩
  ·exact Z_ _ _
 case assign x => exact ar_ _ _ _
 case alloc ty =>
  split
  ·split <;> exact ko_
  ·exact Z_ _ _
 case box ty x =>
  simp only [bx_]
  split
  ·exact Z_ _ _
  ·split <;> exact ko_
 case load ty x =>
  simp only [et_]
  split
  ·exact Z_ _ _
  split
  ·split <;> first | exact gm_ | exact Z_ _ _
  ·exact gm_
  ·split
   ·exact cc_ (g6_ fun _ => bt_ gm_) (Z_ _ _)
   ·exact Z_ _ _
  ·split <;> first | exact gm_ | exact Z_ _ _
  ·exact Z_ _ _
 case store ty x y =>
  simp only [bx_, bj_]
  split
  ·exact Z_ _ _
  split
  ·split
   ·refine cc_ ?_ (Z_ _ _)
    split <;> first | exact ly_ _ | exact Z_ _ _
   ·exact Z_ _ _
  ·split
   ·refine cc_ ?_ (Z_ _ _)
    split
    ·refine cc_ ?_ (Z_ _ _)
     split <;> exact g6_ fun _ => bt_ (bt_ (ly_ _))
    ·exact Z_ _ _
   ·exact Z_ _ _
  ·exact Z_ _ _
 case fieldAddr s x f =>
  split <;> try exact Z_ _ _
  split <;> try exact Z_ _ _
  split <;> try exact Z_ _ _
  refine cc_ (Z_ _ _) ?_
  split <;> try first | exact ar_ _ _ _ | exact Z_ _ _
  split
  ·exact cc_ (ar_ _ _ _) (Z_ _ _)
  ·exact Z_ _ _
 case field s x f =>
  split <;> try exact Z_ _ _
  split <;> try exact Z_ _ _
  split <;> try exact Z_ _ _
  split <;> first | exact gm_ | exact Z_ _ _
 case indexAddr ty x i =>
  simp only [et_]
  repeat' (first | exact Z_ _ _ | exact ar_ _ _ _ | refine cc_ ?_ ?_ | refine bt_ ?_ | refine g6_ fun _ => ?_ | split)
 case nilCheck x => split <;> first | exact ar_ _ _ _ | exact Z_ _ _
 case makeInterface ty x => split <;> first | exact ar_ _ _ _ | exact Z_ _ _
 case index ty x i =>
  simp only [k_eq]
  split <;> try exact Z_ _ _
  ·split
   ·exact bt_ (g6_ fun _ => bt_ (ar_ _ _ _))
   ·exact Z_ _ _
  ·split <;> try exact Z_ _ _
   refine cc_ ?_ (Z_ _ _)
   split
   ·exact bt_ (bt_ (g6_ fun _ => bt_ (ar_ _ _ _)))
   ·exact Z_ _ _
 case slice ty x lo hi mx =>
  cases mx
  rotate_left
  ·exact d7_
  dsimp only
  repeat' (first | exact Z_ _ _ | exact ar_ _ _ _ | refine cc_ ?_ ?_ | refine bt_ ?_ | refine g6_ fun _ => ?_ | split)
 case binOp op ty x y yt =>
  split
  ·split <;> first | exact det_binB | exact Z_ _ _
  ·split <;> try exact Z_ _ _
   cases op <;> first | exact ar_ _ _ _ | exact Z_ _ _
  ·split <;> try exact Z_ _ _
   cases op <;> first | exact ar_ _ _ _ | exact Z_ _ _
  ·exact det_binC
  ·split <;> try exact Z_ _ _
   refine bt_ ?_
   cases op <;> first | exact ar_ _ _ _ | exact Z_ _ _
  ·split <;> try exact Z_ _ _
   cases op <;> first | exact ar_ _ _ _ | exact Z_ _ _
  ·split <;> try exact Z_ _ _
   split <;> try exact Z_ _ _
   refine bt_ (bt_ ?_)
   cases op <;> first | exact ar_ _ _ _ | exact Z_ _ _
  ·refine cc_ (g6_ fun _ => bt_ ?_) (Z_ _ _)
   cases op <;> first | exact ar_ _ _ _ | exact Z_ _ _
  ·exact Z_ _ _
 case unOp op ty x => split <;> first | exact ar_ _ _ _ | exact Z_ _ _
 case convert s d x =>
  cases hF : T.fm (1000000 + d) with
  | some b => exact d7_
  | none =>
   simp only []
   split
   ·exact ar_ _ _ _
   ·exact ar_ _ _ _
   ·split <;> try exact Z_ _ _
    split <;> first | exact ar_ _ _ _ | exact Z_ _ _
   ·exact Z_ _ _
 case extract x i =>
  split <;> try exact Z_ _ _
  split <;> first | exact ar_ _ _ _ | exact Z_ _ _
 case build ty ps =>
  split <;> try exact Z_ _ _
  ·exact cc_ (ny_ _ _) (Z_ _ _)
  ·split
   ·exact ny_ _ _
   ·exact Z_ _ _
 case buildSlice ty n ps =>
  split
  ·exact d7_
  split <;> try exact Z_ _ _
  split <;> try exact Z_ _ _
  exact cc_ (Z_ _ _) (det_elemsD (F := fun xs f K => i9_ o.dst (.row 0 _ _ f xs) (.ow · 0) m K) (fun _ _ => ko_) _ _ _)
 case call c =>
  cases hc : c.callee <;> (try simp only []) <;> try exact d7_
  case value f =>
   cases f <;> (try simp only []) <;> try exact d7_
   ·simp only [bx_]
    split
    ·split
     ·simp only [fx_]; exact pn_
     ·exact d7_
    ·split
     ·simp only [fx_]; exact pn_
     ·exact d7_
    ·exact Z_ _ _
   ·rename_i f
    cases hF : T.fm f with
    | none => simp only [fx_]; exact pn_
    | some b => exact d7_
  case builtin b =>
   cases b <;> (try simp only []) <;> try exact d7_
   case len =>
    split <;> try exact Z_ _ _
    split
    ·split <;> first | exact ar_ _ _ _ | exact Z_ _ _
    ·exact det_len
    ·exact Z_ _ _
   case max =>
    split <;> try exact Z_ _ _
    split <;> first | exact ar_ _ _ _ | exact Z_ _ _
   case min =>
    split <;> try exact Z_ _ _
    split <;> first | exact ar_ _ _ _ | exact Z_ _ _
   case append =>
    split
    rotate_left
    ·exact Z_ _ _
    split
    ·exact d7_
    simp only [bj_]
    split <;> try exact Z_ _ _
    split <;> try exact Z_ _ _
    refine cc_ (Z_ _ _) ?_
    split <;> try exact Z_ _ _
    split
    ·exact det_flag fun _ => bt_ ko_
    ·split <;> try exact Z_ _ _
     exact cc_ (det_flag fun _ => bt_ (ly_ _)) (Z_ _ _)
    ·exact Z_ _ _
 case makeFunc fn fst cap =>
  cases fn <;> simp only [bx_] <;> try exact d7_
  split
  ·exact ar_ _ _ _
  ·split <;> first | exact ar_ _ _ _ | exact Z_ _ _
theorem l9_ {o : Oper} {E : Operand → V} (hn : Op.nomem T.fm o.op = true) {m2 : List (Option Bk)} {K : V → List (Option Bk) → Prop} : ew_ P T o E m K = ew_ P T o E m2 fun v _ => K v m := by
 unfold ew_
 cases ho : o.op <;> rw [ho] at hn <;> simp only [Op.nomem] at hn <;> try (cases hn; done)
 all_goals try rfl
 case convert s d x =>
  cases hF : T.fm (1000000 + d) with
  | some b => rw [hF] at hn; cases hn
  | none => simp only [hF]
 case makeFunc fn fst cap =>
  cases fn <;> first | rfl | cases hn
 case call c =>
  cases hc : c.callee <;> rw [hc] at hn <;> (try simp only [] at hn) <;> try (cases hn; done)
  case builtin b =>
   cases b <;> simp only [] at hn <;> first | (cases hn; done) | (simp only [hc])
theorem cg_ {F : Nat → Option Bool} {op : Op} (h : Op.nomem F op = true) : Op.noeff F op = true := by
 cases op <;> (try simp only [Op.nomem] at h) <;> first | (cases h; done) | rfl | exact h | skip
 rename_i c
 cases hc : c.callee <;> rw [hc] at h <;> (try simp only [] at h) <;> try (cases h; done)
 rename_i b
 cases b <;> simp only [] at h <;> first | (cases h; done) | (simp [Op.noeff, hc])
end
end
section
open Go.RowKit
section
variable {P : Program} {T : Tab} {m m2 : List (Option Bk)}
def Up (m m2 : List (Option Bk)) : Prop := ∀ (n : Nat) (b : Bk), m[n]? = some (some b) → m2[n]? = some (some b)
theorem up_set {d : Nat} {b : Bk} (h : m[d]? = some none) : Up m (m.set d (some b)) := by
 intro n b' hn
 by_cases hd : d = n
 ·subst hd; rw [h] at hn; cases hn
 ·rw [x_ hd]; exact hn
inductive LeL : List V → List V → Prop
 | nil : LeL [] []
 | same (v : V) {l l' : List V} (h : LeL l l') : LeL (v :: l) (v :: l')
 | less (v : V) {l l' : List V} (h : LeL l l') : LeL (.un :: l) (v :: l')
theorem LeL.get {l l' : List V} (h : LeL l l') : l.length = l'.length ∧ ∀ (i : Nat) (v : V), l[i]? = some v → l'[i]? = some v ∨ v = .un := by
 induction h with
 | nil => exact ⟨rfl, fun i v h => .inl h⟩
 | same v _ ih =>
  refine ⟨by simp [ih.1], fun i u hu => ?_⟩
  cases i with
  | zero => exact .inl hu
  | succ i => exact ih.2 i u hu
 | less v _ ih =>
  refine ⟨by simp [ih.1], fun i u hu => ?_⟩
  cases i with
  | zero => simp at hu; exact .inr hu.symm
  | succ i => exact ih.2 i u hu
def LeV (a b : V) : Prop := a = b ∨ a = .un ∨ ∃ cs cs', a = .ag cs ∧ b = .ag cs' ∧ LeL cs cs'
theorem LeV.rel {N : ax_} {S : cs_} {w : World} {a b : V} {u : Value} (h : LeV a b) (hr : RelV N S w b u) : RelV N S w a u := by
 rcases h with rfl | rfl | ⟨cs, cs', rfl, rfl, h⟩
 ·exact hr
 ·exact .un _
 ·cases hr with
  | ag _ us hl hc =>
   obtain ⟨h1, h2⟩ := h.get
   refine .ag _ us (by rw [h1]; exact hl) fun i v hv => ?_
   rcases h2 i v hv with h3 | rfl
   ·exact hc i v h3
   ·exact .un _
theorem pass1_up (h : Up m m2) (v : V) : v.pass1 m = v.pass1 m2 ∨ v.pass1 m = .un := by
 cases v <;> simp only [V.pass1] <;> try exact .inl trivial
 ·rename_i n k
  cases hm : m[n]? with
  | none => exact .inr rfl
  | some x =>
   cases x with
   | none => exact .inr rfl
   | some b => rw [h n b hm]; exact .inl rfl
 ·rename_i n k s lo hi
  cases hm : m[n]? with
  | none => exact .inr rfl
  | some x =>
   cases x with
   | none => exact .inr rfl
   | some b => rw [h n b hm]; exact .inl rfl
theorem pass_up (h : Up m m2) (v : V) : LeV (v.pass m) (v.pass m2) := by
 unfold V.pass
 split
 ·rename_i cs
  refine .inr (.inr ⟨_, _, rfl, rfl, ?_⟩)
  induction cs with
  | nil => exact .nil
  | cons c cs ih =>
   simp only [List.map_cons]
   rcases pass1_up h c with e | e
   ·rw [e]; exact .same _ ih
   ·rw [e]; exact .less _ ih
 ·rcases pass1_up h v with e | e
  ·exact .inl e
  ·exact .inr (.inl e)
theorem zL_up : ∀ {l l' : List V} (ns : List Nat), LeL l l' → LeL (zL l ns) (zL l' ns)
 | _, _, [], h => by
  have e : ∀ l : List V, zL l [] = l := fun l => by cases l <;> rfl
  rw [e, e]; exact h
 | _, _, n :: ns, .nil => .nil
 | _, _, n :: ns, .same v h => .same _ (zL_up ns h)
 | _, _, n :: ns, .less v h => .less _ (zL_up ns h)
theorem z_up {a b : V} (ns : List Nat) (h : LeV a b) : LeV (a.z ns) (b.z ns) := by
 rcases h with rfl | rfl | ⟨cs, cs', rfl, rfl, h⟩
 ·exact .inl rfl
 ·refine .inr (.inl ?_)
  cases ns <;> rfl
 ·exact .inr (.inr ⟨_, _, rfl, rfl, zL_up ns h⟩)
inductive LeA : List V → List V → Prop
 | nil : LeA [] []
 | cons {a b : V} {l l' : List V} (h1 : LeV a b) (h : LeA l l') : LeA (a :: l) (b :: l')
theorem LeA.refl : ∀ l : List V, LeA l l
 | [] => .nil
 | _ :: l => .cons (.inl rfl) (LeA.refl l)
theorem LeA.rel {N : ax_} {S : cs_} {w : World} {a b : List V} {us : List Value} (h : LeA a b) (hr : RelL N S w b us) : RelL N S w a us := by
 induction h generalizing us with
 | nil => exact hr
 | cons h1 _ ih =>
  obtain ⟨h2, h3⟩ := hr
  cases us with
  | nil => cases h2
  | cons u us =>
   obtain ⟨h4, h5⟩ := ih (us := us) ⟨by simpa using h2, fun i v hv => by simpa using h3 (i + 1) v (by simpa using hv)⟩
   refine ⟨by simp [h4], fun i v hv => ?_⟩
   cases i with
   | zero => simp at hv; subst hv; exact h1.rel (by simpa using h3 0 _ rfl)
   | succ i => simpa using h5 i v (by simpa using hv)
theorem passA_up (h : Up m m2) (E : Operand → V) (l : List Operand) : ∀ tys : List TypeId, LeA (ox_ T m E l tys) (ox_ T m2 E l tys) := by
 induction l with
 | nil => intro tys; exact LeA.refl _
 | cons x l ih =>
  intro tys
  cases tys with
  | nil => exact .cons (pass_up h _) (ih _)
  | cons ty tys => exact .cons (z_up _ (pass_up h _)) (ih _)
theorem DCalls.le {f : FuncId} {args args' : List V} {res : V} (h : DCalls P f args res) (hl : LeA args args') : DCalls P f args' res :=
 ⟨h.1, fun w vs hi hv => h.2 w vs hi (hl.rel hv)⟩
theorem callK_up {f : FuncId} {args args' : List V} {K : V → List (Option Bk) → Prop} (hl : LeA args args') (h : j7_ P f args m fun v _ => K v m2) : j7_ P f args' m2 K := by
 obtain ⟨res, h1, h2⟩ := h
 exact ⟨res, h1.le hl, h2⟩
theorem aCore_up (hup : Up m m2) {o : Oper} {E : Operand → V} (hn : Op.noeff T.fm o.op = true) {K : V → List (Option Bk) → Prop} (h : ew_ P T o E m fun v _ => K v m2) : ew_ P T o E m2 K := by
 cases hno : Op.nomem T.fm o.op with
 | true => rw [l9_ hno (m := m2) (m2 := m)]; exact h
 | false =>
 unfold ew_ at h ⊢
 cases ho : o.op <;> rw [ho] at hn hno <;> simp only [ho] at h ⊢ <;> simp only [Op.noeff, Op.nomem] at hn hno <;> try (first | (exact absurd hn dC) | (exact absurd hno dC))
 case convert s d x => rw [hn] at hno; cases hno
 case load ty x =>
  split at h <;> try exact h.elim
  split at h <;> try exact h.elim
  ·split at h <;> try exact h.elim
   rename_i hm
   rw [hup _ _ hm]
   exact h
  ·exact h
  ·split at h <;> try exact h.elim
   rename_i hm
   rw [hup _ _ hm]
   exact h
  all_goals exact h
 case fieldAddr s x f =>
  split at h <;> try exact h.elim
  split at h <;> try exact h.elim
  split at h <;> try exact h.elim
  split at h <;> try exact h.elim
  split at h <;> try exact h.elim
  ·rename_i e1 _ _ e2; rw [if_neg (by assumption)]; exact h
  ·rw [if_neg (by assumption)]; exact h
  ·rw [if_neg (by assumption)]
   split at h <;> try exact h.elim
   rename_i hm
   rw [hup _ _ hm]
   exact h
  ·rw [if_neg (by assumption)]; exact h
 case indexAddr ty x i =>
  split at h <;> try exact h.elim
  split at h <;> try exact h.elim
  ·exact h
  ·split at h <;> try exact h.elim
   rename_i hm
   rw [hup _ _ hm]
   exact h
  ·split at h <;> try exact h.elim
   rename_i hm
   rw [hup _ _ hm]
   exact h
  ·exact h
 case slice ty x lo hi mx =>
  cases mx
  rotate_left
  ·cases hn
  dsimp only at h ⊢
  split at h <;> try exact h.elim
  ·exact h
  ·split at h <;> try exact h.elim
   ·exact h
   ·split at h <;> try exact h.elim
    rename_i hm
    rw [hup _ _ hm]
    exact h
   ·split at h <;> try exact h.elim
    rename_i hm
    rw [hup _ _ hm]
    exact h
 case makeFunc fn fst cap =>
  cases fn <;> first | (cases hno; done) | (cases hn; done)
 case call c =>
  cases hc : c.callee <;> rw [hc] at hn hno <;> simp only [hc] at h ⊢ <;> try (cases hn; done)
  case value f =>
   cases f <;> (try simp only [] at h ⊢) <;> try (cases hn; done)
   rename_i f
   cases hF : T.fm f with
   | some b => simp only [hF] at hn; cases hn
   | none =>
    simp only [hF] at h ⊢
    rw [fx_] at h ⊢
    exact callK_up (passA_up hup _ _ _) h
  case builtin b =>
   cases b <;> simp only [] at h hn hno ⊢ <;> try (first | exact h.elim | (exact absurd hn dC) | (exact absurd hno dC))
   split at h <;> try exact h.elim
   split at h <;> try exact h.elim
   ·exact h
   ·unfold lenK at h ⊢
    split at h <;> try exact h.elim
    ·exact h
    ·exact h
    ·split at h <;> try exact h.elim
     rename_i hm
     rw [hup _ _ hm]
     exact h
    ·split at h <;> try exact h.elim
     rename_i hm
     rw [hup _ _ hm]
     exact h
theorem elemsD_any {sz : Nat} {E : Operand → V} (ps : List (Nat × Operand)) : ∀ (xs : List (List D)) (f : Bool) (F : List (List D) → Bool → Prop), dk_ sz E xs f ps F → ∃ ys g, F ys g := by
 induction ps with
 | nil => intro xs f F h; exact ⟨xs, f, h⟩
 | cons p ps ih =>
  intro xs f F h
  obtain ⟨i, x⟩ := p
  simp only [dk_, et_, bj_] at h
  split at h
  ·split at h
   ·split at h <;> exact ih _ _ _ h
   ·exact h.elim
  ·exact h.elim
theorem aCore_fresh {o : Oper} {E : Operand → V} (hf : Op.fresh T.fm o.op = true) {v : V} {m' : List (Option Bk)} (h : ew_ P T o E m fun v1 m1 => v1 = v ∧ m1 = m') : Up m m' := by
 have key : ∀ {dst : Option Tmp} {b : Bk} {g : Nat → V}, (i9_ dst b g m fun v1 m1 => v1 = v ∧ m1 = m') → Up m m' := by
  intro dst b g h
  unfold i9_ at h
  split at h
  ·exact h.elim
  ·split at h
   ·rename_i hd
    rw [bj_] at h
    rw [← h.2]
    exact up_set hd
   ·exact h.elim
 unfold ew_ at h
 cases ho : o.op <;> rw [ho] at hf <;> simp only [ho] at h <;> simp only [Op.fresh] at hf <;> try (cases hf; done)
 case alloc ty =>
  split at h
  ·split at h <;> exact key h
  ·exact h.elim
 case box ty x =>
  simp only [bx_] at h
  split at h
  ·exact h.elim
  ·split at h <;> exact key h
 case buildSlice ty n ps =>
  rw [Option.isNone_iff_eq_none] at hf
  simp only [hf] at h
  split at h <;> try exact h.elim
  split at h <;> try exact h.elim
  split at h <;> try exact h.elim
  obtain ⟨ys, g, h⟩ := elemsD_any _ _ _ _ h
  exact key h
end
end
end Go.Proofs.YtglndfgmlminpaaGreatDoor
