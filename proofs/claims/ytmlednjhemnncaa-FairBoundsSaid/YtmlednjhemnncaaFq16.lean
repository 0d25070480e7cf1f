/- Texts joined by pack.py: XSxCd XSxCe XSxCf -/
import Derived.Test.YtmlednjhemnncaaFq15
namespace Go.Proofs.Ytmlednjhemnncaa
open Go.RowKit
section
variable {P : Program} {T : Tab} {B : Fr} {w0 : World} {N : Names} {S : Sets} {t : List V} {m : List (Option Bk)} {a : Act} {w : World}
theorem Sat.ct (hs : Sat B w0 N S t m a w) {n k : Nat} {main main' : Value} {own own' : List Value} {uo : List Value} {outs : List V} {M' : Main} {cs' : List Cl} {us' : List Value} {w' : World} {A0 : Asrt} {outs0 : List V} (hm : m[n]? = some (some (.asr k A0 outs0)))
    (h1 : N n = some (k, .agg (main :: own).toArray)) (ho : RelL N S w outs uo) (hmain : main' = main) (low : Low B.keep B.ref w') (hsz : w.heap.size ≤ w'.heap.size)
    (hkeep : ∀ g, at1 main ≠ some g → w'.heap[g]? = w.heap[g]?) (hM : M'.ok w' main us') (hown : own'.Sublist own) (hdj : Dj (main :: own))
    (hC : (∀ g, S false g → w'.heap[g]? = w.heap[g]?) → (∀ u ∈ own', ∀ g, at1 u = some g → w'.heap[g]? = w.heap[g]?) → Cells (S false) w' uo cs' us' own') :
    ∃ N', Sat B w0 N' S t (m.set n (some (.asr k (ctA M' cs') outs))) a w' ∧ ∀ v u, RelV N S w v u → RelV N' S w' v u := by
  subst hmain
  have hnl := lt_of_get hm
  have hsub : ∀ u ∈ main' :: own', u ∈ main' :: own := fun u hu => by
    rcases List.mem_cons.1 hu with rfl | h
    · simp
    · exact List.mem_cons_of_mem _ (hown.subset h)
  have hdj' : Dj (main' :: own') := List.Pairwise.sublist (List.Sublist.cons_cons _ hown) hdj
  have hrow : ∀ u ∈ own', ∀ g, at1 u = some g → w'.heap[g]? = w.heap[g]? := fun u hu g hg => hkeep g fun e => (List.pairwise_cons.1 hdj').1 u hu g e hg
  have hS : ∀ g, S false g → w'.heap[g]? = w.heap[g]? := fun g hg => hkeep g fun e => (hs.data false g hg).2 n _ _ h1 (at_ct.2 ⟨main', by simp, e⟩)
  have hC' := hC hS hrow
  obtain ⟨N', g1, g2, g3⟩ := hs.set (w' := w') (d := n) (k := k) (v := .agg (main' :: own').toArray) (b := .asr k (ctA M' cs') outs) hnl
    (fun k0 v0 h => by rw [h1] at h; cases h; exact .inr (.inr ⟨_, _, rfl, rfl, .inr ⟨rfl, by simp⟩⟩)) low hsz
    (fun g _ hk => hkeep g fun e => hk _ _ h1 (at_ct.2 ⟨main', by simp, e⟩))
    (fun g hg => by
      obtain ⟨u, hu, e⟩ := at_ct.1 hg
      have : At (.agg (main' :: own).toArray) g := at_ct.2 ⟨u, hsub u hu, e⟩
      exact ⟨Nat.lt_of_lt_of_le (hs.own n _ _ g h1 this).2 hsz, .inr ⟨_, _, h1, this⟩⟩)
    (fun N' e1 e2 e3 => ⟨_, uo, e1, ⟨ho.1, fun i v hv => e2 _ _ (ho.2 i v hv)⟩, main', us', own', rfl, hM, hC', hdj'⟩)
  exact ⟨N', g3, g2⟩
theorem Sat.ctr (hs : Sat B w0 N S t m a w) {n k d kd E sz : Nat} {f : Bool} {xs : List (List D)} {main ud : Value} {own own' : List Value} {uo : List Value} {outs : List V} {M' : Main} {cs' : List Cl} {us' : List Value} {w' : World} {A0 : Asrt} {outs0 : List V} (hm : m[n]? = some (some (.asr k A0 outs0)))
    (hd : m[d]? = some (some (.row kd E sz f xs))) (hNd0 : N d = some (kd, ud))
    (h1 : N n = some (k, .agg (main :: own).toArray)) (ho : RelL N S w outs uo) (low : Low B.keep B.ref w') (hsz : w.heap.size ≤ w'.heap.size)
    (hkeep : ∀ g, at1 main ≠ some g → w'.heap[g]? = w.heap[g]?) (hM : M'.ok w' main us') (hown : ∃ own0, own0.Sublist own ∧ own'.Perm (ud :: own0)) (hdj : Dj (main :: own))
    (hC : (∀ g, S false g → w'.heap[g]? = w.heap[g]?) → (∀ u ∈ own', ∀ g, at1 u = some g → w'.heap[g]? = w.heap[g]?) → Cells (S false) w' uo cs' us' own') :
    ∃ N', Sat B w0 N' S t ((m.set n (some (.asr k (ctA M' cs') outs))).set d (some (.row (kd + 1) E sz true []))) a w' ∧ ∀ v u, RelV N S w v u → RelV N' S w' v u := by
  have hnd : n ≠ d := by rintro rfl; rw [hm] at hd; cases hd
  have hnl := lt_of_get hm
  have hdl := lt_of_get hd
  obtain ⟨own0, hown, hperm⟩ := hown
  obtain ⟨u0, hu0, hrow0⟩ := row_val hs hd
  rw [hNd0] at hu0; cases hu0
  obtain ⟨A, cp, hu⟩ := hrow0.slice
  have hud : ∀ v ∈ main :: own, ∀ g, at1 ud = some g → at1 v = some g → False := fun v hv g e1 e2 => by
    have := hs.apart d n _ _ _ _ g hNd0 h1 (by rw [hu]; rw [hu] at e1; exact e1) (at_ct.2 ⟨v, hv, e2⟩)
    exact hnd this.symm
  have hdj0 : Dj (main :: own0) := List.Pairwise.sublist (List.Sublist.cons_cons _ hown) hdj
  have hsub0 : ∀ u ∈ main :: own0, u ∈ main :: own := fun u hu => by
    rcases List.mem_cons.1 hu with rfl | h
    · simp
    · exact List.mem_cons_of_mem _ (hown.subset h)
  have hdj' : Dj (main :: own') := by
    have h3 : Dj (ud :: main :: own0) := List.pairwise_cons.2 ⟨fun v hv g e1 e2 => hud v (hsub0 v hv) g e1 e2, hdj0⟩
    exact h3.perm ((List.Perm.swap ..).trans (List.Perm.cons _ hperm.symm))
  have hmem : ∀ u ∈ main :: own', u = ud ∨ u ∈ main :: own := fun u hu => by
    rcases List.mem_cons.1 hu with rfl | h
    · simp
    · rcases List.mem_cons.1 (hperm.mem_iff.1 h) with rfl | h
      · exact .inl rfl
      · exact .inr (List.mem_cons_of_mem _ (hown.subset h))
  have hrow : ∀ u ∈ own', ∀ g, at1 u = some g → w'.heap[g]? = w.heap[g]? := fun u hu g hg => hkeep g fun e => (List.pairwise_cons.1 hdj').1 u hu g e hg
  have hS : ∀ g, S false g → w'.heap[g]? = w.heap[g]? := fun g hg => hkeep g fun e => (hs.data false g hg).2 n _ _ h1 (at_ct.2 ⟨main, by simp, e⟩)
  have hC' := hC hS hrow
  let N' : Names := fun j => if j = n then some (k, .agg (main :: own').toArray) else if j = d then some (kd + 1, .slice none 0 0) else N j
  have hNn : N' n = some (k, .agg (main :: own').toArray) := by simp [N']
  have hNd : N' d = some (kd + 1, .slice none 0 0) := by simp [N', Ne.symm hnd]
  have hNo : ∀ j, ¬ (j = n ∨ j = d) → N' j = N j := fun j hj => by simp only [not_or] at hj; simp [N', hj.1, hj.2]
  have hNN : NLe N N' := by
    intro j x v h
    by_cases hj : j = n
    · subst hj
      rw [h1] at h; cases h
      exact .inr (.inr ⟨_, _, k, rfl, hNn, .inr ⟨rfl, by simp⟩⟩)
    · by_cases hj' : j = d
      · subst hj'; rw [hNd0] at h; cases h
        exact .inr (.inl ⟨⟨_, _, _, hu⟩, _, _, hNd, by omega⟩)
      · exact .inl ((hNo j (by simp [hj, hj'])).trans h)
  have hd0 : ∀ g, at1 (.slice none 0 0) = some g → False := fun g h => by cases h
  have main_ := hs.chg (w' := w') (N' := N') (m' := (m.set n (some (.asr k (ctA M' cs') outs))).set d (some (.row (kd + 1) E sz true []))) (fun j => j = n ∨ j = d) hNN hNo
    (fun j hj => by simp only [not_or] at hj; rw [List.getElem?_set_ne (Ne.symm hj.2), List.getElem?_set_ne (Ne.symm hj.1)]) low hsz
    (fun g _ hk => hkeep g fun e => hk n _ _ (.inl rfl) h1 (at_ct.2 ⟨main, by simp, e⟩))
    (fun j x v g hj hv hg => by
      rcases hj with rfl | rfl
      · rw [hNn] at hv; cases hv
        obtain ⟨v', hv', hg'⟩ := at_ct.1 hg
        rcases hmem v' hv' with rfl | h
        · have hA : At v' g := by rw [hu]; rw [hu] at hg'; exact hg'
          exact ⟨Nat.lt_of_lt_of_le (hs.own d _ _ g hNd0 hA).2 hsz, .inr ⟨d, _, _, .inr rfl, hNd0, hA⟩⟩
        · have hA := at_ct.2 ⟨v', h, hg'⟩
          exact ⟨Nat.lt_of_lt_of_le (hs.own _ _ _ g h1 hA).2 hsz, .inr ⟨_, _, _, .inl rfl, h1, hA⟩⟩
      · rw [hNd] at hv; cases hv
        exact (hd0 g hg).elim)
    (fun j j' x x' v v' g hj hj' hv hv' hg hg' => by
      rcases hj with rfl | rfl <;> rcases hj' with rfl | rfl
      · rfl
      · rw [hNd] at hv'; cases hv'; exact (hd0 g hg').elim
      · rw [hNd] at hv; cases hv; exact (hd0 g hg).elim
      · rfl)
    (fun j hj hb => by
      rcases hj with rfl | rfl
      · exact absurd (by rw [List.getElem?_set_ne (Ne.symm hnd), List.getElem?_set_self hnl]) (hb _)
      · exact absurd (by rw [List.getElem?_set_self (by simpa using hdl)]) (hb _))
    (fun j og hj hst => by
      rcases hj with rfl | rfl
      · exact ⟨_, _, hNn, .inl ⟨_, rfl⟩⟩
      · exact ⟨_, _, hNd, .inr fun g hg => (hd0 g hg).elim⟩)
    (fun j b hj hb hrel hrd hdat => by
      rcases hj with rfl | rfl
      · rw [List.getElem?_set_ne (Ne.symm hnd), List.getElem?_set_self hnl] at hb
        cases hb
        exact ⟨_, uo, hNn, ⟨ho.1, fun i v hv => hrel _ _ (ho.2 i v hv)⟩, main, us', own', rfl, hM, hC', hdj'⟩
      · rw [List.getElem?_set_self (by simpa using hdl)] at hb
        cases hb
        obtain ⟨us', e1, e2, e3, e4⟩ := hrow0
        exact ⟨.slice none 0 0, [], hNd, ⟨by simp, .inl ⟨rfl, rfl⟩⟩, by simp, e3, fun i j d hd => by simp at hd, fun _ g hg => (hd0 g hg).elim⟩)
  exact ⟨N', main_.1, main_.2⟩
theorem Cells.ds {w' : World} {uo : List Value} : ∀ {ds : List D} {us : List Value}, ds.length = us.length → (∀ (i : Nat) (d : D) (u : Value), ds[i]? = some d → us[i]? = some u → RelD (S false) w' d u) → Cells (S false) w' uo (ds.map .d) us []
  | [], [], _, _ => .nil
  | x :: ds, u :: us, hl, h => .d (h 0 x u rfl rfl) (Cells.ds (by simpa using hl) fun i x u h1 h2 => h (i + 1) x u (by simpa using h1) (by simpa using h2))
theorem low_block (hs : Sat B w0 N S t m a w) {n k b : Nat} {own : List Value} {ents ents' : Array MapEntry} {clock clock' : Nat} (h1 : N n = some (k, .agg (.map (some b) :: own).toArray)) (hb : w.heap[b]? = some (.map ents clock)) :
    Low B.keep B.ref (Go.ChangeMaps.setBlock w b (.map ents' clock')) ∧ w.heap.size ≤ (Go.ChangeMaps.setBlock w b (.map ents' clock')).heap.size ∧ (∀ g, at1 (.map (some b)) ≠ some g → (Go.ChangeMaps.setBlock w b (.map ents' clock')).heap[g]? = w.heap[g]?) ∧ (Go.ChangeMaps.setBlock w b (.map ents' clock')).heap[b]? = some (.map ents' clock') := by
  have hne : ∀ g, at1 (.map (some b)) ≠ some g → (Go.ChangeMaps.setBlock w b (.map ents' clock')).heap[g]? = w.heap[g]? := fun g hg => Go.ChangeMaps.heap_setBlock_other hb _ fun e => hg (by rw [e]; rfl)
  have hsz : w.heap.size ≤ (Go.ChangeMaps.setBlock w b (.map ents' clock')).heap.size := by simp [Go.ChangeMaps.setBlock]
  refine ⟨hs.low.trans ⟨rfl, rfl, rfl, hsz, fun g hg => hne g fun e => ?_⟩, hsz, hne, Go.ChangeMaps.heap_setBlock_same hb _⟩
  cases e
  exact (hs.own n _ _ b h1 (at_ct.2 ⟨.map (some b), by simp, rfl⟩)).1 hg
theorem upd_run {key : Nat} (hk : P.underlying key = some .string) {ty e b : Nat} {s : ByteArray} {es : List (ByteArray × Cl)} {ents : Array MapEntry} {clock : Nat} (hty : P.underlying ty = some (.map key e)) (hb : w.heap[b]? = some (.map ents clock)) (hke : ents.toList.map (·.key) = (es.map (·.1)).map Value.string) (hnd : (es.map (·.1)).Nodup) (val : Value) (c : Cl) :
    ∃ ents' clock', (Instr.mapUpdate ty (.map (some b)) (.string s) val).run P w = .ok () (Go.ChangeMaps.setBlock w b (.map ents' clock')) ∧ ents'.toList.map (·.key) = ((putE es s c).map (·.1)).map Value.string ∧ ((putE es s c).map (·.1)).Nodup ∧
      ((s ∉ es.map (·.1) ∧ (putE es s c).map (·.2) = es.map (·.2) ++ [c] ∧ ents'.toList.map (·.val) = ents.toList.map (·.val) ++ [val]) ∨
        ∃ c0 cs1 cs2 us1 u us2, getE es s = some c0 ∧ es.map (·.2) = cs1 ++ c0 :: cs2 ∧ (putE es s c).map (·.2) = cs1 ++ c :: cs2 ∧ ents.toList.map (·.val) = us1 ++ u :: us2 ∧ ents'.toList.map (·.val) = us1 ++ val :: us2 ∧ cs1.length = us1.length) := by
  rcases find_str (P := P) w hk s ents.toList hke with ⟨f1, f2⟩ | ⟨j, e0, f1, f2, f3, f4⟩
  · refine ⟨ents.push ⟨.string s, val, clock⟩, clock + 1, ?_, ?_, ?_, .inl ⟨f2, ?_, ?_⟩⟩
    · simp [Instr.mapUpdate, run_underlying hty, MapKept.run_getObj_map hb, check_str w hk, f1, MapKept.run_setObj_map _ hb, Result.andThen, Go.ChangeMaps.setBlock]
    · rw [putE_new f2]; simp [hke]
    · rw [putE_new f2]
      simp only [List.map_append, List.map_cons, List.map_nil]
      exact List.nodup_append.2 ⟨hnd, by simp, fun a ha b hb => by simp at hb; subst hb; rintro rfl; exact f2 ha⟩
    · rw [putE_new f2]; simp
    · simp
  · obtain ⟨c0, g1, g2⟩ := getE_at hnd f4
    obtain ⟨l1, l2, rfl, g3⟩ := getE_some g1
    have hj : j = l1.length := by
      have h1 : (List.map (·.1) (l1 ++ (s, c0) :: l2))[l1.length]? = some s := by simp
      exact (List.getElem?_inj (by have := lt_of_get f4; simpa using this) hnd).1 (f4.trans h1.symm)
    subst hj
    have hjl : l1.length < ents.toList.length := lt_of_get f2
    have hent : ents[l1.length]? = some e0 := by simpa using f2
    have hmod : (ents.modify l1.length (fun e' => { e' with key := .string s, val := val })).toList = ents.toList.take l1.length ++ { e0 with key := .string s, val := val } :: ents.toList.drop (l1.length + 1) := by
      rw [Array.toList_modify, List.modify_eq_take_cons_drop hjl]
      congr 2
      have : ents.toList[l1.length] = e0 := (List.getElem?_eq_some_iff.1 f2).2
      rw [this]
    have hsplit : ents.toList = ents.toList.take l1.length ++ e0 :: ents.toList.drop (l1.length + 1) := by
      have : ents.toList[l1.length] = e0 := (List.getElem?_eq_some_iff.1 f2).2
      rw [← this, List.getElem_cons_drop, List.take_append_drop]
    refine ⟨ents.modify l1.length (fun e' => { e' with key := .string s, val := val }), clock, ?_, ?_, ?_, .inr ⟨c0, l1.map (·.2), l2.map (·.2), (ents.toList.take l1.length).map (·.val), e0.val, (ents.toList.drop (l1.length + 1)).map (·.val), g1, by simp, by rw [putE_old g3]; simp, ?_, ?_, ?_⟩⟩
    · have hst : (Instr.keyThatStays (.string s) (.string s)).run P w = .ok (.string s) w := MapKept.run_keyThatStays (d := .string) trivial
      simp [Instr.mapUpdate, run_underlying hty, MapKept.run_getObj_map hb, check_str w hk, f1, hent, f3, hst, MapKept.run_setObj_map _ hb, Result.andThen, Go.ChangeMaps.setBlock]
    · rw [putE_old g3, hmod]
      rw [hsplit] at hke
      have hl : (ents.toList.take l1.length).length = l1.length := by rw [List.length_take]; omega
      simp only [List.map_append, List.map_cons] at hke ⊢
      have := List.append_inj hke (by rw [List.length_map, hl]; simp)
      rw [this.1]
      have h2 := this.2
      simp only [List.cons.injEq] at h2
      rw [h2.2]
    · rw [putE_old g3]; simpa using hnd
    · conv => lhs; rw [hsplit]
      simp
    · rw [hmod]; simp
    · simp; exact (Nat.min_eq_left (Nat.le_of_lt (by simpa using hjl))).symm
theorem ot_updD {o : Oper} {E : Operand → V} {ty key e n k : Nat} {x i y : Operand} {s : ByteArray} {es : List (ByteArray × Cl)} {outs : List V} {d : D} {f : Bool} (ho : o.op = .mapUpdate ty x i y)
    (hty : P.underlying ty = some (.map key e)) (hk : P.underlying key = some .string)
    (hx : E x = .ow n k) (hi : E i = .cv (.string s)) (hy : (E y).d = some (d, f)) (hm : m[n]? = some (some (.asr k (mapC es) outs))) : OpTr P o E m .un (m.set n (some (.asr k (mapC (putE es s (.d d))) outs))) := by
  intro B w0 N S t a w hs hr
  obtain ⟨b, ents, clock, own, uo, h1, h2, h3, h4, h5, h6, h7, h8⟩ := mapC_val hs hm
  have hx' := hr x (by rw [ho]; simp [Op.operands])
  have hi' := hr i (by rw [ho]; simp [Op.operands])
  have hy' := hr y (by rw [ho]; simp [Op.operands])
  rw [hx] at hx'; rw [hi] at hi'
  generalize hu : a.eval x = u at hx'
  generalize hv' : a.eval i = v' at hi'
  generalize hvy : a.eval y = vy at hy'
  cases hi'
  have := map_ref h1 hx'
  subst this
  have hd : RelD (S false) w d vy := RelD.ofV (fun b hb => (hs.fresh b hb).1) hy' hy (fun h => by cases h)
  obtain ⟨ents', clock', hrun, e1, e2, e3⟩ := upd_run (P := P) (w := w) hk (s := s) hty h2 h3 h4 vy (.d d)
  obtain ⟨l1, l2, l3, l4⟩ := low_block hs (ents' := ents') (clock' := clock') h1 h2
  have hone : ∀ u ∈ ents'.toList.map (·.val), u.oneCell' = true := by
    rcases e3 with ⟨_, _, q3⟩ | ⟨c0, cs1, cs2, us1, u, us2, _, _, _, q4, q5, _⟩
    · rw [q3]; simp only [List.mem_append, List.mem_singleton]; rintro u (h | rfl) <;> first | exact h6 u h | exact hd.one
    · rw [q5]; rw [q4] at h6
      simp only [List.mem_append, List.mem_cons] at h6 ⊢
      rintro v (h | rfl | h) <;> first | exact h6 v (.inl h) | exact hd.one | exact h6 v (.inr (.inr h))
  have hfin : ∃ own', own'.Sublist own ∧ ((∀ g, S false g → (Go.ChangeMaps.setBlock w b (.map ents' clock')).heap[g]? = w.heap[g]?) → (∀ u ∈ own', ∀ g, at1 u = some g → (Go.ChangeMaps.setBlock w b (.map ents' clock')).heap[g]? = w.heap[g]?) →
      Cells (S false) (Go.ChangeMaps.setBlock w b (.map ents' clock')) uo ((putE es s (.d d)).map (·.2)) (ents'.toList.map (·.val)) own') := by
    rcases e3 with ⟨_, q2, q3⟩ | ⟨c0, cs1, cs2, us1, u, us2, _, q2, q3, q4, q5, q6⟩
    · refine ⟨own, List.Sublist.refl _, fun hS hO => ?_⟩
      rw [q2, q3]
      have := (h7.mono (fun _ h => h) hS hO).app (.d (hd.mono (fun _ h => h) hS) .nil)
      simpa using this
    · rw [q2, q4] at h7
      obtain ⟨v1, v2, ow1, ow2, r1, rfl, c1, c2⟩ := h7.unapp
      have := List.append_inj r1 (by rw [← q6, c1.len])
      obtain ⟨rfl, rfl⟩ := this
      obtain ⟨ow3, hsub, c3⟩ := c2.tl
      refine ⟨ow1 ++ ow3, List.Sublist.append (List.Sublist.refl _) hsub, fun hS hO => ?_⟩
      rw [q3, q5]
      exact (c1.mono (fun _ h => h) hS fun u hu => hO u (by simp [hu])).app (.d (hd.mono (fun _ h => h) hS) (c3.mono (fun _ h => h) hS fun u hu => hO u (by simp [hu])))
  obtain ⟨own', p1, p2⟩ := hfin
  obtain ⟨N', g1, g2⟩ := hs.ct (M' := mapM ((putE es s (.d d)).map (·.1))) (cs' := (putE es s (.d d)).map (·.2)) hm h1 h5 rfl l1 l2 l3 ⟨b, ents', clock', rfl, l4, e1, rfl, e2, hone⟩ p1 h8 p2
  refine opOk_skip (w' := Go.ChangeMaps.setBlock w b (.map ents' clock')) ?_ ⟨N', S, g1, .un _⟩
  unfold execOp
  simp only [ho]
  refine run_u ?_
  rw [hu, hv', hvy]
  exact hrun
theorem ot_updR {o : Oper} {E : Operand → V} {ty key e n k d kd Er sz : Nat} {x i y : Operand} {s : ByteArray} {es : List (ByteArray × Cl)} {outs : List V} {f : Bool} {xs : List (List D)} (ho : o.op = .mapUpdate ty x i y)
    (hty : P.underlying ty = some (.map key e)) (hk : P.underlying key = some .string)
    (hx : E x = .ow n k) (hi : E i = .cv (.string s)) (hy : E y = .ow d kd) (hm : m[n]? = some (some (.asr k (mapC es) outs))) (hd : m[d]? = some (some (.row kd Er sz f xs))) :
    OpTr P o E m .un ((m.set n (some (.asr k (mapC (putE es s (.r Er sz xs))) outs))).set d (some (.row (kd + 1) Er sz true []))) := by
  intro B w0 N S t a w hs hr
  obtain ⟨b, ents, clock, own, uo, h1, h2, h3, h4, h5, h6, h7, h8⟩ := mapC_val hs hm
  obtain ⟨ud, hNd, hrow⟩ := row_val hs hd
  have hx' := hr x (by rw [ho]; simp [Op.operands])
  have hi' := hr i (by rw [ho]; simp [Op.operands])
  have hy' := hr y (by rw [ho]; simp [Op.operands])
  rw [hx] at hx'; rw [hi] at hi'; rw [hy] at hy'
  generalize hu : a.eval x = u at hx'
  generalize hv' : a.eval i = v' at hi'
  generalize hvy : a.eval y = vy at hy'
  cases hi'
  have := map_ref h1 hx'
  subst this
  have hud : vy = ud := by
    obtain ⟨A, c, hsl⟩ := hrow.slice
    cases hy' with
    | ow _ _ _ _ hn =>
      obtain ⟨k', v', g1, _, g3⟩ := hn
      rw [hNd] at g1; cases g1
      rw [g3 rfl, hsl]; rfl
  subst hud
  have hdone : vy.oneCell' = true := by obtain ⟨A, c, rfl⟩ := hrow.slice; rfl
  obtain ⟨ents', clock', hrun, e1, e2, e3⟩ := upd_run (P := P) (w := w) hk (s := s) hty h2 h3 h4 vy (.r Er sz xs)
  obtain ⟨l1, l2, l3, l4⟩ := low_block hs (ents' := ents') (clock' := clock') h1 h2
  have hone : ∀ u ∈ ents'.toList.map (·.val), u.oneCell' = true := by
    rcases e3 with ⟨_, _, q3⟩ | ⟨c0, cs1, cs2, us1, u, us2, _, _, _, q4, q5, _⟩
    · rw [q3]; simp only [List.mem_append, List.mem_singleton]; rintro u (h | rfl) <;> first | exact h6 u h | exact hdone
    · rw [q5]; rw [q4] at h6
      simp only [List.mem_append, List.mem_cons] at h6 ⊢
      rintro v (h | rfl | h) <;> first | exact h6 v (.inl h) | exact hdone | exact h6 v (.inr (.inr h))
  have hfin : ∃ own', (∃ own0, own0.Sublist own ∧ own'.Perm (vy :: own0)) ∧ ((∀ g, S false g → (Go.ChangeMaps.setBlock w b (.map ents' clock')).heap[g]? = w.heap[g]?) → (∀ u ∈ own', ∀ g, at1 u = some g → (Go.ChangeMaps.setBlock w b (.map ents' clock')).heap[g]? = w.heap[g]?) →
      Cells (S false) (Go.ChangeMaps.setBlock w b (.map ents' clock')) uo ((putE es s (.r Er sz xs)).map (·.2)) (ents'.toList.map (·.val)) own') := by
    rcases e3 with ⟨_, q2, q3⟩ | ⟨c0, cs1, cs2, us1, u, us2, _, q2, q3, q4, q5, q6⟩
    · refine ⟨own ++ [vy], ⟨own, List.Sublist.refl _, List.perm_append_singleton _ _⟩, fun hS hO => ?_⟩
      rw [q2, q3]
      exact (h7.mono (fun _ h => h) hS fun u hu => hO u (by simp [hu])).app (.r (hrow.mono (fun _ h => h) hS (hO vy (by simp))) .nil)
    · rw [q2, q4] at h7
      obtain ⟨v1, v2, ow1, ow2, r1, rfl, c1, c2⟩ := h7.unapp
      have := List.append_inj r1 (by rw [← q6, c1.len])
      obtain ⟨rfl, rfl⟩ := this
      obtain ⟨ow3, hsub, c3⟩ := c2.tl
      refine ⟨ow1 ++ vy :: ow3, ⟨ow1 ++ ow3, List.Sublist.append (List.Sublist.refl _) hsub, List.perm_middle⟩, fun hS hO => ?_⟩
      rw [q3, q5]
      exact (c1.mono (fun _ h => h) hS fun u hu => hO u (by simp [hu])).app (.r (hrow.mono (fun _ h => h) hS (hO vy (by simp))) (c3.mono (fun _ h => h) hS fun u hu => hO u (by simp [hu])))
  obtain ⟨own', p1, p2⟩ := hfin
  obtain ⟨N', g1, g2⟩ := hs.ctr (M' := mapM ((putE es s (.r Er sz xs)).map (·.1))) (cs' := (putE es s (.r Er sz xs)).map (·.2)) hm hd hNd h1 h5 l1 l2 l3 ⟨b, ents', clock', rfl, l4, e1, rfl, e2, hone⟩ p1 h8 p2
  refine opOk_skip (w' := Go.ChangeMaps.setBlock w b (.map ents' clock')) ?_ ⟨N', S, g1, .un _⟩
  unfold execOp
  simp only [ho]
  refine run_u ?_
  rw [hu, hv', hvy]
  exact hrun
theorem ot_delete {o : Oper} {E : Operand → V} {ty key e n k : Nat} {x i : Operand} {s : ByteArray} {es : List (ByteArray × Cl)} {outs : List V} (ho : o.op = .call { callee := .builtin .delete, args := #[x, i], argTypes := #[ty, key] })
    (hty : P.underlying ty = some (.map key e)) (hk : P.underlying key = some .string)
    (hx : E x = .ow n k) (hi : E i = .cv (.string s)) (hm : m[n]? = some (some (.asr k (mapC es) outs))) : OpTr P o E m .un (m.set n (some (.asr k (mapC (delE es s)) outs))) := by
  intro B w0 N S t a w hs hr
  obtain ⟨b, ents, clock, own, uo, h1, h2, h3, h4, h5, h6, h7, h8⟩ := mapC_val hs hm
  have hx' := hr x (by rw [ho]; simp [Op.operands, Call.operands])
  have hi' := hr i (by rw [ho]; simp [Op.operands, Call.operands])
  rw [hx] at hx'; rw [hi] at hi'
  generalize hu : a.eval x = u at hx'
  generalize hv' : a.eval i = v' at hi'
  cases hi'
  have := map_ref h1 hx'
  subst this
  have hfin : ∃ ents' own', (Builtin.delete_ #[ty, key] o.type #[.map (some b), .string s]).run P w = .ok (.tuple #[]) (Go.ChangeMaps.setBlock w b (.map ents' clock)) ∧ ents'.toList.map (·.key) = ((delE es s).map (·.1)).map Value.string ∧ ((delE es s).map (·.1)).Nodup ∧ (∀ u ∈ ents'.toList.map (·.val), u ∈ ents.toList.map (·.val)) ∧
      own'.Sublist own ∧ Cells (S false) w uo ((delE es s).map (·.2)) (ents'.toList.map (·.val)) own' := by
    rcases find_str (P := P) w hk s ents.toList h3 with ⟨f1, f2⟩ | ⟨j, e0, f1, f2, f3, f4⟩
    · refine ⟨ents, own, ?_, by rw [delE_new f2]; exact h3, by rw [delE_new f2]; exact h4, fun _ h => h, List.Sublist.refl _, by rw [delE_new f2]; exact h7⟩
      simp [Builtin.delete_, run_underlying hty, MapKept.run_getObj_map h2, check_str w hk, f1, MapKept.run_setObj_map _ h2, Result.andThen, Go.ChangeMaps.setBlock]
    · obtain ⟨c0, g1, g2⟩ := getE_at h4 f4
      obtain ⟨l1, l2, rfl, g3⟩ := getE_some g1
      have hj : j = l1.length := by
        have h1 : (List.map (·.1) (l1 ++ (s, c0) :: l2))[l1.length]? = some s := by simp
        exact (List.getElem?_inj (by have := lt_of_get f4; simpa using this) h4).1 (f4.trans h1.symm)
      subst hj
      have hjl : l1.length < ents.toList.length := lt_of_get f2
      have hjs : l1.length < ents.size := by simpa using hjl
      have hent : ents.toList[l1.length] = e0 := (List.getElem?_eq_some_iff.1 f2).2
      have hsplit : ents.toList = ents.toList.take l1.length ++ e0 :: ents.toList.drop (l1.length + 1) := by
        rw [← hent, List.getElem_cons_drop, List.take_append_drop]
      have hsub : (ents.eraseIdxIfInBounds l1.length).toList = ents.toList.take l1.length ++ ents.toList.drop (l1.length + 1) := by
        unfold Array.eraseIdxIfInBounds
        rw [dif_pos hjs]
        simp [List.eraseIdx_eq_take_drop_succ]
      have hlt : (ents.toList.take l1.length).length = l1.length := by rw [List.length_take]; omega
      rw [hsplit] at h3 h7
      simp only [List.map_append, List.map_cons] at h3 h7
      obtain ⟨v1, v2, ow1, ow2, r1, rfl, c1, c2⟩ := h7.unapp
      have := List.append_inj r1 (by rw [List.length_map, hlt, ← c1.len]; simp)
      obtain ⟨rfl, rfl⟩ := this
      obtain ⟨ow3, hsub3, c3⟩ := c2.tl
      have h3' := List.append_inj h3 (by rw [List.length_map, hlt]; simp)
      simp only [List.cons.injEq] at h3'
      refine ⟨ents.eraseIdxIfInBounds l1.length, ow1 ++ ow3, ?_, ?_, ?_, ?_, List.Sublist.append (List.Sublist.refl _) hsub3, ?_⟩
      · simp [Builtin.delete_, run_underlying hty, MapKept.run_getObj_map h2, check_str w hk, f1, MapKept.run_setObj_map _ h2, Result.andThen, Go.ChangeMaps.setBlock]
      · rw [delE_old g3, hsub]
        simp only [List.map_append]
        rw [h3'.1, h3'.2.2]
      · rw [delE_old g3]
        simp only [List.map_append, List.map_cons] at h4 ⊢
        exact List.Nodup.sublist (List.Sublist.append (List.Sublist.refl _) (List.sublist_cons_self _ _)) h4
      · rw [hsub]
        conv => intro u hu; rw [hsplit]
        simp only [List.map_append, List.map_cons, List.mem_append, List.mem_cons]
        rintro u (h | h) <;> first | exact .inl h | exact .inr (.inr h)
      · rw [delE_old g3, hsub]
        simp only [List.map_append]
        exact c1.app c3
  obtain ⟨ents', own', hrun, e1, e2, e3, p1, p2⟩ := hfin
  obtain ⟨l1, l2, l3, l4⟩ := low_block hs (ents' := ents') (clock' := clock) h1 h2
  obtain ⟨N', g1, g2⟩ := hs.ct (M' := mapM ((delE es s).map (·.1))) (cs' := (delE es s).map (·.2)) hm h1 h5 rfl l1 l2 l3 ⟨b, ents', clock, rfl, l4, e1, rfl, e2, fun u hu => h6 u (e3 u hu)⟩ p1 h8 (fun hS hO => p2.mono (fun _ h => h) hS hO)
  refine opOk_val (u := .tuple #[]) (w' := Go.ChangeMaps.setBlock w b (.map ents' clock)) ?_ ⟨N', S, g1, .un _⟩
  unfold execOp
  simp only [ho]
  simp [resolve, invoke, builtin, hu, hv', hrun]
theorem ot_makeMap {o : Oper} {E : Operand → V} {ty d : Nat} (ho : o.op = .makeMap ty none) (_hd : o.dst = some d) (hm : m[d]? = some none) : OpTr P o E m (.ow d 0) (m.set d (some (.asr 0 (mapC []) []))) := by
  intro B w0 N S t a w hs hr
  have hnone : N d = none := hs.non d fun b' h => by rw [hm] at h; cases h
  have hheap := MapKept.heap_alloc w (.map #[] 0)
  obtain ⟨N', g1, g2, g3⟩ := hs.set (w' := w.alloc (.map #[] 0)) (d := d) (k := 0) (v := .agg (#[.map (some w.heap.size)] : Array Value)) (b := .asr 0 (mapC []) []) (lt_of_get hm) (fun k0 v0 h => by rw [hnone] at h; cases h)
    (hs.low.alloc hs.base _) (by simp) (fun g hg _ => Below.heap_alloc _ _ _ hg)
    (fun g hg => by
      obtain ⟨u, hu, e⟩ := (at_ct (main := .map (some w.heap.size)) (own := [])).1 hg
      simp at hu; subst hu; cases e
      exact ⟨by simp, .inl (Nat.le_refl _)⟩)
    (fun N' e1 e2 e3 => ⟨_, [], e1, ⟨rfl, by simp⟩, .map (some w.heap.size), [], [], rfl, ⟨_, #[], 0, rfl, hheap.1, rfl, rfl, by simp, by simp⟩, .nil, by simp [Dj]⟩)
  refine opOk_val (u := .map (some w.heap.size)) (w' := w.alloc (.map #[] 0)) ?_ ⟨N', S, g3, .ow d 0 _ rfl ⟨0, _, g1, Nat.le_refl _, fun _ => by simp [hdv]⟩⟩
  unfold execOp
  simp only [ho]
  refine run_v ?_
  simp [Instr.makeMap]
end
end Go.Proofs.Ytmlednjhemnncaa
namespace Go.Proofs.Ytmlednjhemnncaa
open Go.RowKit
def Cl.isO : Cl → Bool
  | .o _ => true
  | _ => false
theorem useO_none : ∀ {cs : List Cl} {i : Nat}, (∀ c ∈ cs, c.isO = false) → useO cs i = false
  | [], i, _ => rfl
  | .o j :: l, i, h => by have := h _ (List.mem_cons_self ..); simp [Cl.isO] at this
  | .d _ :: l, i, h => useO_none (cs := l) fun c hc => h c (List.mem_cons_of_mem _ hc)
  | .r .. :: l, i, h => useO_none (cs := l) fun c hc => h c (List.mem_cons_of_mem _ hc)
  | .z :: l, i, h => useO_none (cs := l) fun c hc => h c (List.mem_cons_of_mem _ hc)
theorem getE_setE {α : Type} {l1 l2 : List (ByteArray × α)} {s : ByteArray} {c : α} (h : s ∉ l1.map (·.1)) : getE (l1 ++ (s, c) :: l2) s = some c := by
  induction l1 with
  | nil => simp [getE]
  | cons x l1 ih =>
    simp only [List.map_cons, List.mem_cons, not_or] at h
    simp only [List.cons_append, getE]
    rw [if_neg (Ne.symm h.1)]
    exact ih h.2
section
variable {P : Program} {T : Tab} {B : Fr} {w0 : World} {N : Names} {S : Sets} {t : List V} {m : List (Option Bk)} {a : Act} {w : World}
theorem gh_openE {n k d E' sz' : Nat} {es : List (ByteArray × Cl)} {s : ByteArray} {xs : List (List D)} {outs : List V} (hm : m[n]? = some (some (.asr k (mapC es) outs))) (hg : getE es s = some (.r E' sz' xs)) (hd : m[d]? = some none) :
    GhM m ((m.set n (some (.asr k (mapC (putE es s (.o outs.length))) (outs ++ [.ow d 0])))).set d (some (.row 0 E' sz' false xs))) := by
  obtain ⟨l1, l2, rfl, h2⟩ := getE_some hg
  rw [putE_old h2]
  unfold mapC at hm ⊢
  simp only [List.map_append, List.map_cons] at hm ⊢
  exact gh_open hm hd
theorem gh_closeE {n k d kd E' sz' : Nat} {f : Bool} {es : List (ByteArray × Cl)} {s : ByteArray} {c : Cl} {xs : List (List D)} {outs : List V} (hg : getE es s = some c) (hu : useO (es.map (·.2)) outs.length = false)
    (hm : m[n]? = some (some (.asr k (mapC (putE es s (.o outs.length))) (outs ++ [.ow d kd])))) (hd : m[d]? = some (some (.row kd E' sz' f xs))) :
    GhM m ((m.set n (some (.asr k (mapC (putE es s (.r E' sz' xs))) outs))).set d (some (.row (kd + 1) E' sz' true []))) := by
  obtain ⟨l1, l2, rfl, h2⟩ := getE_some hg
  rw [putE_old h2] at hm ⊢
  unfold mapC at hm ⊢
  simp only [List.map_append, List.map_cons] at hm hu ⊢
  have hu' : useO (l1.map (·.2)) outs.length = false ∧ useO (l2.map (·.2)) outs.length = false := by
    rw [useO_app] at hu
    simp only [Bool.or_eq_false_iff] at hu
    refine ⟨hu.1, ?_⟩
    have := hu.2
    cases c <;> simp only [useO, Bool.or_eq_false_iff] at this <;> first | exact this | exact this.2
  exact gh_close hm hd hu'.1 hu'.2
theorem gh_killE {n k : Nat} {es : List (ByteArray × Cl)} {s : ByteArray} {i : Nat} {c : Cl} {outs : List V} (hg : getE es s = some c) (hm : m[n]? = some (some (.asr k (mapC (putE es s (.o i))) outs))) :
    GhM m (m.set n (some (.asr k (mapC (putE es s .z)) outs))) := by
  obtain ⟨l1, l2, rfl, h2⟩ := getE_some hg
  rw [putE_old h2] at hm ⊢
  unfold mapC at hm ⊢
  simp only [List.map_append, List.map_cons] at hm ⊢
  intro B w0 N S t a w hs
  obtain ⟨main, us, own, uo, g1, g2, g3, g4, g5⟩ := ct_val hs hm
  obtain ⟨us1, us2', ow1, ow2, rfl, rfl, c1, c2⟩ := g4.unapp
  obtain ⟨u, us2, rfl, hh, hh1, c2⟩ := c2.o_inv
  obtain ⟨N', q1, q2⟩ := hs.ct (w' := w) (own' := ow1 ++ ow2) (M' := mapM (l1.map (·.1) ++ s :: l2.map (·.1))) (cs' := l1.map (·.2) ++ Cl.z :: l2.map (·.2)) (us' := us1 ++ u :: us2) hm g1 g2 rfl hs.low (Nat.le_refl _) (fun _ _ => rfl) g3 (List.Sublist.refl _) g5
    (fun _ _ => c1.app (.z hh1 c2))
  exact ⟨N', S, q1, q2⟩
theorem gh_dropE {n k : Nat} {es : List (ByteArray × Cl)} {outs : List V} {x : V} (hm : m[n]? = some (some (.asr k (mapC es) (outs ++ [x])))) (h1 : useO (es.map (·.2)) outs.length = false) :
    GhM m (m.set n (some (.asr k (mapC es) outs))) := gh_drop hm h1
theorem ot_look0 {o : Oper} {E : Operand → V} {ty key e n k d E' sz' : Nat} {x i : Operand} {s : ByteArray} {es : List (ByteArray × Cl)} {outs : List V} (ho : o.op = .lookup ty x i false) (hdst : m[d]? = some none) (h0 : 0 < sz')
    (hty : P.underlying ty = some (.map key e)) (hk : P.underlying key = some .string) (hz : (P.info? e).bind (·.zero) = some (.slice none 0 0))
    (hx : E x = .ow n k) (hi : E i = .cv (.string s)) (hm : m[n]? = some (some (.asr k (mapC es) outs))) (hg : getE es s = none) : OpTr P o E m (.ow d 0) (m.set d (some (.row 0 E' sz' true []))) := by
  have hrd := rd_look (P := P) (m := m) ho hty hk hz hx hi hm (v := .cv (.slice none 0 0)) (by rw [hg])
  intro B w0 N S t a w hs hr Q
  refine Oper.wp_mono' (hrd B w0 N S t m a w hs (fun _ _ h => h) hr Q) ?_
  rintro a' w' ⟨u, he, rfl, hrel⟩
  cases hrel
  have hnone : N d = none := hs.non d fun b' h => by rw [hdst] at h; cases h
  obtain ⟨N', g1, g2, g3⟩ := hs.set (w' := w') (d := d) (k := 0) (v := .slice none 0 0) (b := .row 0 E' sz' true []) (lt_of_get hdst) (fun k0 v0 h => by rw [hnone] at h; cases h)
    hs.low (Nat.le_refl _) (fun _ _ _ => rfl) (fun g hg => by simp [At, at1] at hg)
    (fun N' e1 e2 e3 => ⟨.slice none 0 0, [], e1, ⟨by simp, .inl ⟨rfl, rfl⟩⟩, by simp, h0, fun i j d hd => by simp at hd, fun _ g hg => by simp [At, at1] at hg⟩)
  exact ⟨_, he, N', S, g3, .ow d 0 _ rfl ⟨0, _, g1, Nat.le_refl _, fun _ => rfl⟩⟩
theorem ot_look1 {o : Oper} {E : Operand → V} {ty key e n k d E' sz' : Nat} {x i : Operand} {s : ByteArray} {es : List (ByteArray × Cl)} {outs : List V} {xs : List (List D)} {z : Value} (ho : o.op = .lookup ty x i false) (hdst : m[d]? = some none)
    (hty : P.underlying ty = some (.map key e)) (hk : P.underlying key = some .string) (hz : (P.info? e).bind (·.zero) = some z)
    (hx : E x = .ow n k) (hi : E i = .cv (.string s)) (hm : m[n]? = some (some (.asr k (mapC es) outs))) (hg : getE es s = some (.r E' sz' xs)) :
    OpTr P o E m (.ow d 0) ((m.set n (some (.asr k (mapC (putE es s (.o outs.length))) (outs ++ [.ow d 0])))).set d (some (.row 0 E' sz' false xs))) := by
  have hnd : n ≠ d := by rintro rfl; rw [hm] at hdst; cases hdst
  refine ot_pre (gh_openE hm hg hdst) (ot_rd (rd_look (outs := outs ++ [.ow d 0]) (es := putE es s (.o outs.length)) (z := z) ho hty hk hz hx hi ?_ ?_))
  · rw [List.getElem?_set_ne (Ne.symm hnd), List.getElem?_set_self (lt_of_get hm)]
  · obtain ⟨l1, l2, rfl, h2⟩ := getE_some hg
    rw [putE_old h2, getE_setE h2]
    simp [Cl.v]
end
end Go.Proofs.Ytmlednjhemnncaa
namespace Go.Proofs.Ytmlednjhemnncaa
open Go.RowKit
section
variable {P : Program} {T : Tab} {B : Fr} {w0 : World} {N : Names} {S : Sets} {t : List V} {m : List (Option Bk)} {a : Act} {w : World}
theorem parts {α : Type} (l : List α) {lo hi : Nat} (h : lo ≤ hi) : l = l.take lo ++ ((l.take hi).drop lo ++ l.drop hi) := by
  have e : l.drop lo = (l.take hi).drop lo ++ l.drop hi := by
    rw [List.drop_take]
    conv => lhs; rw [← List.take_append_drop (hi - lo) (l.drop lo)]
    rw [List.drop_drop, show lo + (hi - lo) = hi by omega]
  rw [← e, List.take_append_drop]
theorem gh_nilR {n d i E sz : Nat} {cs : List V} {bt : Option Nat} (hm : m[n]? = some (some (.box cs bt))) (hi : cs[i]? = some (.cv (.slice none 0 0))) (hd : m[d]? = some none) (hsz : 0 < sz) :
    GhM m ((m.set d (some (.row 0 E sz true []))).set n (some (.box (cs.set i (.ow d 0)) bt))) := by
  intro B w0 N S t a w hs
  have hnd : n ≠ d := by rintro rfl; rw [hm] at hd; cases hd
  have hnone : N d = none := hs.non d fun b' h => by rw [hd] at h; cases h
  obtain ⟨N1, g1, g2, g3⟩ := hs.set (w' := w) (d := d) (k := 0) (v := .slice none 0 0) (b := .row 0 E sz true []) (lt_of_get hd) (fun k0 v0 h => by rw [hnone] at h; cases h) hs.low (Nat.le_refl _) (fun _ _ _ => rfl)
    (fun g hg => by simp [At, at1] at hg)
    (fun N' e1 e2 e3 => ⟨.slice none 0 0, [], e1, ⟨by simp, .inl ⟨rfl, rfl⟩⟩, by simp, hsz, fun i j d hd => by simp at hd, fun _ g hg => by simp [At, at1] at hg⟩)
  have hm1 : (m.set d (some (.row 0 E sz true [])))[n]? = some (some (.box cs bt)) := by rw [List.getElem?_set_ne (Ne.symm hnd)]; exact hm
  obtain ⟨g, ty, us, b1, b2, b3, b4⟩ := g3.blk n _ hm1
  obtain ⟨N2, q1, q2, q3⟩ := g3.set (w' := w) (d := n) (k := 0) (v := .pointer (some ⟨g, 0, none⟩)) (b := .box (cs.set i (.ow d 0)) bt) (lt_of_get hm1) (fun k0 v0 h => by rw [b1] at h; cases h; exact .inl ⟨rfl, rfl⟩) hs.low (Nat.le_refl _) (fun _ _ _ => rfl)
    (fun g' hg => by cases hg; exact ⟨(g3.own n _ _ g b1 rfl).2, .inr ⟨_, _, b1, rfl⟩⟩)
    (fun N' e1 e2 e3 => ⟨g, ty, us, e1, b2, by simpa using b3, fun j v hv => by
      rw [List.getElem?_set] at hv
      split at hv
      · rename_i hij
        subst hij
        split at hv
        · cases hv
          have h4 := b4 i _ hi
          generalize us.getD i undef = u at h4
          cases h4
          exact e2 _ _ (.ow d 0 _ rfl ⟨0, _, g1, Nat.le_refl _, fun _ => rfl⟩)
        · cases hv
      · exact e2 _ _ (b4 j v hv)⟩)
  exact ⟨N2, S, q3, fun v u h => q2 _ _ (g2 _ _ h)⟩
theorem gh_trunc {b n k E sz i hi : Nat} {f : Bool} {xs : List (List D)} {cs : List V} {bt : Option Nat} (hm : m[b]? = some (some (.box cs bt))) (hi' : cs[i]? = some (.vw n k sz 0 hi)) (hn : m[n]? = some (some (.row k E sz f xs))) (hle : hi ≤ xs.length) :
    GhM m ((m.set n (some (.row (k + 1) E sz f (xs.take hi)))).set b (some (.box (cs.set i (.ow n (k + 1))) bt))) := by
  intro B w0 N S t a w hs
  have hbn : b ≠ n := by rintro rfl; rw [hm] at hn; cases hn
  obtain ⟨v, us, e1, e2, e3, e4, e5, e6⟩ := hs.blk n _ hn
  obtain ⟨A, c, rfl⟩ := own_parts e2
  obtain ⟨g0, ty0, us0, b1, b2, b3, b4⟩ := hs.blk b _ hm
  have hcell := b4 i _ hi'
  obtain ⟨A1, len1, cap1, A2, q1, q2, q3, q4, q5⟩ := vw_of e1 hcell
  rw [show hdv (.slice A xs.length c) = .slice A xs.length c from rfl] at q1
  cases q1
  have hA : A2 = A := by
    rw [q5 (.inr rfl)]
    rcases e2.2 with ⟨h, _⟩ | ⟨g, cap, cur, h, _⟩
    · injection h with a1 a2 a3
      subst a1; rfl
    · cases h; simp [add_mk]
  subst hA
  rw [Nat.sub_zero, Nat.sub_zero] at q4
  have hown : w.ownsRow 0 E sz (.slice A2 hi c) hi (us.take (hi * sz)) := by
    refine ⟨by rw [List.length_take, e2.1]; exact Nat.min_eq_left (Nat.mul_le_mul_right _ hle), ?_⟩
    rcases e2.2 with ⟨h, h'⟩ | ⟨g, cap, cur, h, h1, h2, h3, h4, h5, h6⟩
    · injection h with a1 a2 a3
      subst a1 a3
      left
      have hz : hi = 0 := by omega
      rw [hz]; exact ⟨rfl, rfl⟩
    · cases h
      refine .inr ⟨g, c, cur, rfl, h1, h2, by omega, h4, h5, ?_⟩
      rw [← h6, List.take_take, Nat.min_eq_left (Nat.mul_le_mul_right _ hle)]
  have hat : ∀ g, At (.slice A2 hi c) g ↔ At (.slice A2 xs.length c) g := fun g => by cases A2 <;> exact Iff.rfl
  obtain ⟨N1, p1, p2, p3⟩ := hs.set (w' := w) (d := n) (k := k + 1) (v := .slice A2 hi c) (b := .row (k + 1) E sz f (xs.take hi)) (lt_of_get hn) (fun k0 v0 h => by rw [e1] at h; cases h; exact .inr (.inl ⟨⟨_, _, _, rfl⟩, by omega⟩)) hs.low (Nat.le_refl _) (fun _ _ _ => rfl)
    (fun g hg => by
      have := (hat g).1 hg
      exact ⟨(hs.own n _ _ g e1 this).2, .inr ⟨_, _, e1, this⟩⟩)
    (fun N' x1 x2 x3 => ⟨.slice A2 hi c, us.take (hi * sz), x1, by rw [List.length_take, Nat.min_eq_left hle]; exact hown, fun x hx => e3 x (List.mem_of_mem_take hx), e4, fun i' j' d hd => by
      have h7 : (xs[i']?.bind fun x => x[j']?) = some d ∧ i' < hi := by
        rw [List.getElem?_take] at hd
        split at hd
        · exact ⟨hd, by assumption⟩
        · cases hd
      obtain ⟨u, hu, hr⟩ := e5 i' j' d h7.1
      refine ⟨u, ?_, hr⟩
      have h8 : j' < sz := by
        obtain ⟨x, hx, hx2⟩ := Option.bind_eq_some_iff.1 h7.1
        have := e3 x (List.mem_of_getElem? hx)
        have := lt_of_get hx2
        omega
      have h9 : i' * sz + j' < hi * sz := by
        calc i' * sz + j' < i' * sz + sz := by omega
          _ = (i' + 1) * sz := by rw [Nat.succ_mul]
          _ ≤ hi * sz := Nat.mul_le_mul_right _ h7.2
      rw [List.getElem?_take, if_pos h9]; exact hu, fun hf g hg => e6 hf g ((hat g).1 hg)⟩)
  have hm1 : (m.set n (some (.row (k + 1) E sz f (xs.take hi))))[b]? = some (some (.box cs bt)) := by rw [List.getElem?_set_ne (Ne.symm hbn)]; exact hm
  obtain ⟨g, ty, us1, b1', b2', b3', b4'⟩ := p3.blk b _ hm1
  obtain ⟨N2, r1, r2, r3⟩ := p3.set (w' := w) (d := b) (k := 0) (v := .pointer (some ⟨g, 0, none⟩)) (b := .box (cs.set i (.ow n (k + 1))) bt) (lt_of_get hm1) (fun k0 v0 h => by rw [b1'] at h; cases h; exact .inl ⟨rfl, rfl⟩) hs.low (Nat.le_refl _) (fun _ _ _ => rfl)
    (fun g' hg => by cases hg; exact ⟨(p3.own b _ _ g b1' rfl).2, .inr ⟨_, _, b1', rfl⟩⟩)
    (fun N' x1 x2 x3 => ⟨g, ty, us1, x1, b2', by simpa using b3', fun j v hv => by
      rw [List.getElem?_set] at hv
      split at hv
      · rename_i hij
        subst hij
        split at hv
        · cases hv
          have hbx := p2 _ _ (RelV.bx (N := N) (S := S) (w := w) b 0 g0 b1)
          have hgg : g = g0 := by
            cases hbx with
            | bx _ _ _ hn' => rw [b1'] at hn'; cases hn'; rfl
          subst hgg
          simp only [b2, Option.some.injEq, Obj.cells.injEq] at b2'
          obtain ⟨rfl, _⟩ := b2'
          rw [q4]
          exact x2 _ _ (.ow n (k + 1) _ rfl ⟨k + 1, _, p1, Nat.le_refl _, fun _ => rfl⟩)
        · cases hv
      · exact x2 _ _ (b4' j v hv)⟩)
  exact ⟨N2, S, r3, fun v u h => r2 _ _ (p2 _ _ h)⟩
end
end Go.Proofs.Ytmlednjhemnncaa
