/- Texts joined by pack.py: XSxCf -/
import Derived.Test.YtmlednjhemnncaaFs17
namespace Go.Proofs.Ytmlednjhemnncaa
open Go.RowKit
section
variable {P : Program} {T : Tab} {B : Fr} {w0 : World} {N : Names} {S : Sets} {t : List V} {m : List (Option Bk)} {a : Act} {w : World}
theorem Sat.ghosted (hs : Sat B w0 N S t m a w) (gs : List (V × Value)) (h : ∀ p ∈ gs, RelV N S w p.1 p.2) : Sat { B with ghost := gs ++ B.ghost } w0 N S t m a w :=
  ⟨hs.low, hs.nodef, hs.tmps, hs.blk, hs.non, hs.apart, hs.data, hs.fresh, hs.own, hs.base, hs.old, hs.lent, ⟨hs.more.size, fun p hp => by
    rcases List.mem_append.1 hp with hp | hp
    · exact h p hp
    · exact hs.more.ghost p hp, hs.more.aside, hs.more.inv⟩, hs.stay⟩
theorem Sat.unghost {gs : List (V × Value)} (hs : Sat { B with ghost := gs ++ B.ghost } w0 N S t m a w) : Sat B w0 N S t m a w ∧ ∀ p ∈ gs, RelV N S w p.1 p.2 :=
  ⟨⟨hs.low, hs.nodef, hs.tmps, hs.blk, hs.non, hs.apart, hs.data, hs.fresh, hs.own, hs.base, hs.old, hs.lent, ⟨hs.more.size, fun p hp => hs.more.ghost p (List.mem_append_right _ hp), hs.more.aside, hs.more.inv⟩, hs.stay⟩, fun p hp => hs.more.ghost p (List.mem_append_left _ hp)⟩
theorem gh_ct (hs : Sat B w0 N S t m a w) {d k E sz : Nat} {f : Bool} {raws : List (List Value)} {rs : List (List Cl)} {outs : List V} {uo : List Value} (hm : m[d]? = some (some (.row k E sz f (raws.map fun x => x.map .cv)))) (ho : RelL N S w outs uo) (hl : rs.length = raws.length) (hr : ∀ x ∈ raws, x.length = sz)
    (hC : Cells (S false) w uo rs.flatten raws.flatten []) : ∃ N', Sat B w0 N' S t (m.set d (some (.asr (k + 1) (rowC E sz rs) outs))) a w ∧ (∀ v u, RelV N S w v u → RelV N' S w v u) ∧ ∀ u, N d = some (k, u) → RelV N' S w (.ow d (k + 1)) u := by
  obtain ⟨u, us, h1, h2, h3, h4, h5, h6⟩ := hs.blk d _ hm
  obtain ⟨A, c, hu⟩ := own_parts h2
  have hus : us = raws.flatten := by
    have hlen : us.length = raws.length * sz := by have := h2.1; simpa using this
    have hfl := flat_length hr
    apply List.ext_getElem?
    intro i
    rcases Nat.lt_or_ge i us.length with hi | hi
    · have hdm : i = i / sz * sz + i % sz := by rw [Nat.mul_comm]; exact (Nat.div_add_mod i sz).symm
      have hq : i / sz < raws.length := by rw [hlen] at hi; exact Nat.div_lt_of_lt_mul (by rw [Nat.mul_comm]; exact hi)
      have hmod : i % sz < sz := Nat.mod_lt _ h4
      have hx : raws[i / sz].length = sz := hr _ (List.getElem_mem hq)
      have hv : (raws[i / sz]?.bind fun x => x[i % sz]?) = some (raws[i / sz])[i % sz] := by
        rw [List.getElem?_eq_getElem hq]; simp [hx, hmod]
      obtain ⟨u', e1, e2⟩ := h5 (i / sz) (i % sz) (.cv (raws[i / sz])[i % sz]) (by rw [List.getElem?_map, List.getElem?_eq_getElem hq]; simp [hx, hmod])
      rw [← hdm] at e1
      rw [e1]
      have := flat_at hr hv
      rw [← hdm] at this
      rw [this]
      cases e2
      rfl
    · rw [List.getElem?_eq_none hi, List.getElem?_eq_none (by rw [hfl, ← hlen]; exact hi)]
  subst hus
  obtain ⟨N', g1, g2, g3⟩ := hs.set (w' := w) (d := d) (k := k + 1) (v := .agg [u].toArray) (b := .asr (k + 1) (rowC E sz rs) outs) (lt_of_get hm) (fun k0 v0 h => by rw [h1] at h; cases h; exact .inr (.inl ⟨⟨_, _, _, hu⟩, by omega⟩))
    hs.low (Nat.le_refl _) (fun _ _ _ => rfl)
    (fun g hg => by
      obtain ⟨v, hv, e⟩ := at_ct.1 hg
      simp at hv; subst hv
      have : At v g := by rw [hu]; rw [hu] at e; exact e
      exact ⟨(hs.own d _ _ g h1 this).2, .inr ⟨_, _, h1, this⟩⟩)
    (fun N' e1 e2 e3 => ⟨_, uo, e1, ⟨ho.1, fun i v hv => e2 _ _ (ho.2 i v hv)⟩, u, raws.flatten, [], rfl, by simp only [List.length_map] at h2; rw [hl]; exact h2, hC, by simp [Dj]⟩)
  refine ⟨N', g3, g2, fun u' h => ?_⟩
  rw [h1] at h; cases h
  exact .ow d (k + 1) _ (by rw [hu]; rfl) ⟨k + 1, _, g1, Nat.le_refl _, fun _ => by simp [hdv]⟩
def toCl : List V → Nat → List Cl × List V
  | [], _ => ([], [])
  | v :: l, i => match v.d with
    | some (x, _) => (.d x :: (toCl l i).1, (toCl l i).2)
    | none => (.o i :: (toCl l (i + 1)).1, v :: (toCl l (i + 1)).2)
theorem toCl_cells (hTF : ∀ b, S true b → S false b) : ∀ {vs : List V} {us : List Value} (pre : List V) (upre : List Value), pre.length = upre.length → RelL N S w vs us → allOne vs = true →
    ∃ uo, RelL N S w (toCl vs pre.length).2 uo ∧ Cells (S false) w (upre ++ uo) (toCl vs pre.length).1 us []
  | [], us, pre, upre, hl, h, _ => by
    have : us = [] := List.eq_nil_of_length_eq_zero h.1.symm
    subst this
    exact ⟨[], ⟨rfl, by simp [toCl]⟩, .nil⟩
  | v :: vs, us, pre, upre, hl, h, h1 => by
    obtain ⟨u, us, rfl, h2, h3⟩ := relL_uncons h
    simp only [allOne, Bool.and_eq_true] at h1
    unfold toCl
    cases hd : v.d with
    | some x =>
      obtain ⟨x, f⟩ := x
      obtain ⟨uo, e1, e2⟩ := toCl_cells hTF pre upre hl h3 h1.2
      exact ⟨uo, e1, .d (RelD.ofV hTF h2 hd fun h => by cases h) e2⟩
    | none =>
      obtain ⟨uo, e1, e2⟩ := toCl_cells hTF (pre ++ [v]) (upre ++ [u]) (by simp [hl]) h3 h1.2
      simp only [List.length_append, List.length_singleton] at e1 e2
      exact ⟨u :: uo, relV_cons h2 e1, .o (by rw [hl]; simp) (h2.one h1.1) (by simpa using e2)⟩
theorem ot_buildC (hT : TOk P T) {o : Oper} {E : Operand → V} {ty e d sz by_ : Nat} {ag : Bool} {z : List Value} {x : Operand} {i : TI} {vs : List V} {ps : Array (Nat × Operand)} (ho : o.op = .buildSlice ty 1 ps) (hps : ps.toList = [(0, x)])
    (hti : T ty = some ⟨sz, by_, ag, z, .slice e⟩) (hie : T e = some i) (h0 : (i.size != 0 && decide (i.size ≤ 16777216)) = true) (hx : (E x).cells = vs) (hone : allOne vs = true) (hu : (match E x with | .un => false | _ => true) = true) (hvl : vs.length = i.size) (hd : o.dst = some d) (hm : m[d]? = some none) :
    OpTr P o E m (.ow d 1) (m.set d (some (.asr 1 (rowC e i.size [(toCl vs 0).1]) (toCl vs 0).2))) := by
  intro B w0 N S t a w hs hr
  simp only [Bool.and_eq_true, bne_iff_ne, ne_eq, decide_eq_true_eq] at h0
  have hps' : ps = #[(0, x)] := by cases ps; simp at hps; rw [hps]
  subst hps'
  have hrx := hr x (by rw [ho]; simp [Op.operands])
  obtain ⟨hcl, hcr⟩ := hrx.cells (by rintro h; rw [h] at hu; cases hu)
  rw [hx] at hcl hcr
  have hrl : RelL N S w vs (a.eval x).cells.toList := ⟨by simpa using hcl, fun i v hv => by rw [getD_toList]; exact hcr i v hv⟩
  have hraw1 : ∀ c ∈ (a.eval x).cells.toList, c.oneCell' = true := fun c hc => by
    obtain ⟨p, hp⟩ := List.getElem?_of_mem hc
    have hlt : p < vs.length := by rw [hcl]; have := lt_of_get hp; simpa using this
    have h1 := (hrl.2 p _ (List.getElem?_eq_getElem hlt)).one (allOne_spec hone p _ (List.getElem?_eq_getElem hlt))
    have e : (a.eval x).cells.toList.getD p undef = c := by simp only [List.getD_eq_getElem?_getD, hp]; rfl
    rwa [e] at h1
  let raw : List Value := (a.eval x).cells.toList
  have hrawl : raw.length = i.size := by rw [← hvl]; exact hrl.1.symm
  let gs : List (V × Value) := vs.zip raw
  have hgs : ∀ p ∈ gs, RelV N S w p.1 p.2 := by
    intro p hp
    obtain ⟨q, hq⟩ := List.getElem?_of_mem hp
    rw [List.getElem?_zip_eq_some] at hq
    have := hrl.2 q p.1 hq.1
    have e : (a.eval x).cells.toList.getD q undef = p.2 := by simp only [List.getD_eq_getElem?_getD]; rw [hq.2]; rfl
    rwa [e] at this
  have hs' := hs.ghosted gs hgs
  have hcs : (V.cv (a.eval x)).cells = raw.map .cv := rfl
  have hds : ∀ l : List Value, (∀ c ∈ l, c.oneCell' = true) → toDs (l.map V.cv) = some (l.map D.cv, true) := by
    intro l
    induction l with
    | nil => intro _; rfl
    | cons c l ih =>
      intro h
      simp only [List.map_cons, toDs, V.d, h c (by simp), if_true, ih fun c hc => h c (by simp [hc]), Bool.and_self]
  have hok := ok_buildSliceE (E := fun _ => .cv (a.eval x)) hT hs' ho (fun p hp => by simp at hp; subst hp; exact .cv _) (K := fun v m' => v = .ow d 0 ∧ m' = m.set d (some (.row 0 e i.size true [raw.map .cv]))) (by
    rw [hti]
    simp only [hie]
    rw [if_neg (by omega)]
    simp only [elemsD, hcs, hds raw hraw1, List.replicate, List.length_singleton]
    rw [if_pos ⟨by simp, by simp [hrawl]⟩]
    simp only [Bool.and_true, forceD_eq, setK_eq, List.set_cons_zero, newK, hd, hm, and_self])
  intro Q
  refine Oper.wp_mono' (hok Q) ?_
  rintro a' w' ⟨u, he, N', S', v, m', h5, h6, rfl, rfl⟩
  obtain ⟨h5, hgr⟩ := h5.unghost
  have hrl' : RelL N' S' w' vs raw := ⟨by rw [hvl, hrawl], fun q v hv => by
    have hlt : q < raw.length := by rw [hrawl, ← hvl]; exact lt_of_get hv
    have := hgr (v, raw[q]) (List.mem_of_getElem? (i := q) (by rw [List.getElem?_zip_eq_some]; exact ⟨hv, List.getElem?_eq_getElem hlt⟩))
    have e : raw.getD q undef = raw[q] := by simp [List.getD_eq_getElem?_getD, List.getElem?_eq_getElem hlt]
    rw [e]; exact this⟩
  obtain ⟨uo, e1, e2⟩ := toCl_cells (fun b hb => (h5.fresh b hb).1) [] [] rfl hrl' hone
  have hml := lt_of_get hm
  obtain ⟨N2, g1, g2, g3⟩ := gh_ct (raws := [raw]) (rs := [(toCl vs 0).1]) (outs := (toCl vs 0).2) h5 (by rw [List.getElem?_set_self hml]; rfl) e1 rfl (by simp [hrawl]) (by simpa using e2)
  refine ⟨u, he, N2, S', ?_, ?_⟩
  · rw [List.set_set] at g1; exact g1
  · obtain ⟨v0, us0, q1, q2, _⟩ := h5.blk d _ (List.getElem?_set_self hml)
    have := ow_of q1 h6
    obtain ⟨A, c, hsl⟩ := own_parts q2
    rw [hsl] at q1 this
    subst this
    exact g3 _ q1
theorem ot_buildC0 (hT : TOk P T) {o : Oper} {E : Operand → V} {ty e d sz by_ : Nat} {ag : Bool} {z : List Value} {i : TI} {ps : Array (Nat × Operand)} (ho : o.op = .buildSlice ty 0 ps) (hps : ps.toList = [])
    (hti : T ty = some ⟨sz, by_, ag, z, .slice e⟩) (hie : T e = some i) (h0 : (i.size != 0) = true) (hd : o.dst = some d) (hm : m[d]? = some none) :
    OpTr P o E m (.ow d 1) (m.set d (some (.asr 1 (rowC e i.size []) []))) := by
  intro B w0 N S t a w hs hr
  simp only [bne_iff_ne, ne_eq] at h0
  have hok := ok_buildSliceE (E := E) hT hs ho (fun p hp => by rw [hps] at hp; simp at hp) (K := fun v m' => v = .ow d 0 ∧ m' = m.set d (some (.row 0 e i.size true []))) (by
    rw [hti]
    simp only [hie]
    rw [if_neg (by omega), hps]
    simp only [elemsD, List.replicate, setK_eq, newK, hd, hm, and_self])
  intro Q
  refine Oper.wp_mono' (hok Q) ?_
  rintro a' w' ⟨u, he, N', S', v, m', h5, h6, rfl, rfl⟩
  have hml := lt_of_get hm
  obtain ⟨N2, g1, g2, g3⟩ := gh_ct (raws := []) (rs := []) (outs := []) (uo := []) h5 (by rw [List.getElem?_set_self hml]; rfl) ⟨rfl, by simp⟩ rfl (by simp) .nil
  refine ⟨u, he, N2, S', ?_, ?_⟩
  · rw [List.set_set] at g1; exact g1
  · obtain ⟨v0, us0, q1, q2, _⟩ := h5.blk d _ (List.getElem?_set_self hml)
    have := ow_of q1 h6
    obtain ⟨A, c, hsl⟩ := own_parts q2
    rw [hsl] at q1 this
    subst this
    exact g3 _ q1
theorem optE {E : Operand → V} {d : Int} {x : Option Operand} {l : Int} (hE : ∀ y, x = some y → RelV N S w (E y) (a.eval y)) (h : optInt E d x = some l) : (x = none ∧ l = d) ∨ ∃ y k, x = some y ∧ a.eval y = .int k l := by
  unfold optInt at h
  split at h
  · cases h; exact .inl ⟨rfl, rfl⟩
  · rename_i y
    split at h
    · rename_i k n hev
      cases h
      have := hE y rfl
      rw [hev] at this
      generalize hu : a.eval y = u at this
      cases this
      exact .inr ⟨y, k, rfl, hu⟩
    · cases h
theorem boundsE {b : Bool} {E : Operand → V} {len cap : Nat} {lo hi : Option Operand} {l h : Int} (hl : ∀ y, lo = some y → RelV N S w (E y) (a.eval y)) (hh : ∀ y, hi = some y → RelV N S w (E y) (a.eval y)) (h1 : optInt E 0 lo = some l) (h2 : optInt E (len : Nat) hi = some h)
    (h0 : 0 ≤ l) (hlh : l ≤ h) (hle : h ≤ (cap : Nat)) : (Instr.sliceBounds b len cap (lo.map a.eval) (hi.map a.eval) none).run P w = .ok (l.toNat, h.toNat, cap) w := by
  have hbound : ∀ {k : IntKind} {i : Int} {y : Nat} {c : BoundsCode}, 0 ≤ i → i ≤ (y : Int) → (Instr.sliceBound (.int k i) y c).run P w = .ok i.toNat w := by
    intro k i y c a1 a2
    simp [Instr.sliceBound, asIntOf, a1, a2]
  have hh0 : 0 ≤ h := by omega
  have hl' : l ≤ (h.toNat : Int) := by omega
  rcases optE hl h1 with ⟨rfl, rfl⟩ | ⟨y, k, rfl, hy⟩ <;> rcases optE hh h2 with ⟨rfl, rfl⟩ | ⟨y', k', rfl, hy'⟩
  · simp [Instr.sliceBounds]
  · simp [Instr.sliceBounds, hy', hbound hh0 hle]
  · simp [Instr.sliceBounds, hy, hbound h0 (show l ≤ ((len : Nat) : Int) by omega)]
  · simp [Instr.sliceBounds, hy, hy', hbound hh0 hle, hbound h0 hl']
theorem rd_ct_slice (hT : TOk P T) {o : Oper} {E : Operand → V} {ty e n k Er sz : Nat} {x : Operand} {lo hi : Option Operand} {l h : Int} {rs : List (List Cl)} {outs : List V} {it ie : TI} (ho : o.op = .slice ty x lo hi none) (hty : T ty = some it) (hkd : it.kd = .slice e) (hie : T e = some ie) (hsz : ie.size = sz)
    (hx : E x = .ow n k) (hm : m[n]? = some (some (.asr k (rowC Er sz rs) outs))) (hlo : optInt E 0 lo = some l) (hhi : optInt E (rs.length : Nat) hi = some h) (h0 : 0 ≤ l) (h1 : l ≤ h) (h2 : h ≤ (rs.length : Nat)) : OpRd P o E m (.vw n k sz l.toNat h.toNat) := by
  intro B w0 N S t m2 a w hs hup hr
  have hm2 := hup n _ hm
  obtain ⟨main, us, own, uo, e1, e2, e3, e4, e5⟩ := ct_val hs hm2
  have hx' := hr x (by rw [ho]; simp [Op.operands])
  rw [hx] at hx'
  have hu := ow_of e1 hx'
  rw [agg_hdv] at hu
  obtain ⟨A, cap, rfl⟩ := own_parts e3
  have hcap : rs.length ≤ cap ∧ (rs.length = 0 ∨ ∃ g, A = some ⟨g, 0, none⟩) := by
    rcases e3.2 with ⟨h, h'⟩ | ⟨g, cap', cur, h, _, _, h', _⟩
    · exact ⟨by omega, .inl h'⟩
    · cases h; exact ⟨h', .inr ⟨g, rfl⟩⟩
  have hsl := hT.kd_slice hty hkd
  have hb := boundsE (P := P) (b := true) (E := E) (w := w) (a := a) (len := rs.length) (cap := cap) (fun y hy => hr y (by rw [ho]; simp [Op.operands, hy])) (fun y hy => hr y (by rw [ho]; simp [Op.operands, hy])) hlo hhi h0 h1 (Int.le_trans h2 (Int.ofNat_le.2 hcap.1))
  refine opOk_val (u := .slice (if cap = l.toNat then A else A.map (·.add (l.toNat * sz))) (h.toNat - l.toNat) (cap - l.toNat)) (w' := w) ?_ ⟨rfl, .vw _ _ _ _ _ _ rfl ⟨k, _, e1, Nat.le_refl _, fun _ => ⟨A, rs.length, cap, _, by simp [hdv], by omega, by omega, rfl, fun hlt => ?_⟩⟩⟩
  · unfold execOp
    simp only [ho]
    refine run_v ?_
    rw [hu]
    simp [Instr.sliceAt, run_underlying hsl, Instr.slice, hb, hT.size hie, hsz]
  · split
    · rename_i hc0
      rcases hlt with hlt | hlt
      · omega
      · rw [hlt]
        rcases hcap.2 with h | ⟨g, rfl⟩
        · cases A with
          | none => rfl
          | some ad => obtain ⟨g', o', q'⟩ := ad; simp [Addr.add]
        · simp [add_mk]
    · rfl
def Cl.dead : Cl → Cl
  | .r .. => .z
  | c => c
theorem Cells.kill {S : Nat → Prop} {w : World} {outs : List Value} {cs : List Cl} {us ow : List Value} (h : Cells S w outs cs us ow) : Cells S w outs (cs.map Cl.dead) us [] := by
  induction h with
  | nil => exact .nil
  | d h _ ih => exact .d h ih
  | r h _ ih =>
    obtain ⟨A, c, rfl⟩ := h.slice
    exact .z rfl ih
  | o h h1 _ ih => exact .o h h1 ih
  | z h1 _ ih => exact .z h1 ih
theorem parts {α : Type} (l : List α) {lo hi : Nat} (h : lo ≤ hi) : l = l.take lo ++ ((l.take hi).drop lo ++ l.drop hi) := by
  have e : l.drop lo = (l.take hi).drop lo ++ l.drop hi := by
    rw [List.drop_take]
    conv => lhs; rw [← List.take_append_drop (hi - lo) (l.drop lo)]
    rw [List.drop_drop, show lo + (hi - lo) = hi by omega]
  rw [← e, List.take_append_drop]
theorem chunk_get {α : Type} {xs : List α} {n sz i j : Nat} {z : α} {d : D} {f : α → D} (h : (((List.range n).map fun i => (List.range sz).map fun j => f (xs.getD (i * sz + j) z))[i]?.bind fun x => x[j]?) = some d) : i < n ∧ j < sz ∧ d = f (xs.getD (i * sz + j) z) := by
  rw [List.getElem?_map] at h
  cases hi : (List.range n)[i]? with
  | none => rw [hi] at h; cases h
  | some q =>
    rw [hi] at h
    obtain ⟨h1, rfl⟩ := List.getElem?_eq_some_iff.1 hi
    simp only [Option.map_some, Option.bind_some, List.getElem?_map] at h
    cases hj : (List.range sz)[j]? with
    | none => rw [hj] at h; cases h
    | some p =>
      rw [hj] at h
      obtain ⟨h2, rfl⟩ := List.getElem?_eq_some_iff.1 hj
      simp at h h1 h2
      exact ⟨h1, h2, h.symm⟩
theorem ot_appendC (hT : TOk P T) {o : Oper} {E : Operand → V} {c : Call} {x y : Operand} {ty e n k n2 k2 sz lo hi : Nat} {rs rs2 : List (List Cl)} {outs outs2 : List V} {it ie : TI} (ho : o.op = .call c) (hc : c.callee = .builtin .append) (hca : c.args.toList = [x, y]) (hct : c.argTypes.toList = [ty, ty])
    (hty : T ty = some it) (hkd : it.kd = .slice e) (hie : T e = some ie) (hsz : ie.size = sz) (h0 : 0 < sz) (hx : E x = .ow n k) (hy : E y = .vw n2 k2 sz lo hi ∨ (E y = .ow n2 k2 ∧ lo = 0 ∧ hi = rs2.length))
    (hm : m[n]? = some (some (.asr k (rowC e sz rs) outs))) (hm2 : m[n2]? = some (some (.asr k2 (rowC e sz rs2) outs2))) (hnn : n ≠ n2) (hrs2 : ∀ r ∈ rs2, r.length = sz) (hle : lo ≤ hi) (hhi : hi ≤ rs2.length)
    (hO : ∀ r ∈ (rs2.take hi).drop lo, ∀ q ∈ r, Cl.isO q = false) (hbig : (rs.length + (hi - lo)) * ie.bytes ≤ 140737488355328) (hb0 : 0 < ie.bytes) :
    OpTr P o E m (.ow n (k + 1)) ((m.set n (some (.asr (k + 1) (rowC e sz (rs ++ (rs2.take hi).drop lo)) outs))).set n2 (some (.asr k2 (rowC e sz (rs2.take lo ++ (((rs2.take hi).drop lo).map (fun r => r.map Cl.dead) ++ rs2.drop hi))) outs2))) := by
  intro B w0 N S t a w hs hr
  obtain ⟨main, us, own, uo, e1, e2, e3, e4, e5⟩ := ct_val hs hm
  obtain ⟨main2, us2, own2, uo2, f1, f2, f3, f4, f5⟩ := ct_val hs hm2
  have ea := arr2 hca
  have eb := arr2 hct
  have hrx := hr x (by rw [ho]; simp [Op.operands, Call.operands, ea])
  have hry := hr y (by rw [ho]; simp [Op.operands, Call.operands, ea])
  rw [hx] at hrx
  have hux := ow_of e1 hrx
  rw [agg_hdv] at hux
  have hp := parts rs2 hle
  have hplen : ((rs2.take hi).drop lo).length = hi - lo := by rw [List.length_drop, List.length_take]; omega
  have hpsz : ∀ r ∈ (rs2.take hi).drop lo, r.length = sz := fun r hr => hrs2 r (List.mem_of_mem_take (List.mem_of_mem_drop hr))
  have hlsz : ∀ r ∈ rs2.take lo, r.length = sz := fun r hr => hrs2 r (List.mem_of_mem_take hr)
  have f4' := f4
  rw [hp] at f4'
  simp only [List.flatten_append] at f4'
  obtain ⟨u1, u23, o1, o23, rfl, rfl, c1, c23⟩ := f4'.unapp
  obtain ⟨u2, u3, o2, o3, rfl, rfl, c2, c3⟩ := c23.unapp
  have hu1 : u1.length = lo * sz := by rw [← c1.len, flat_length hlsz, List.length_take, Nat.min_eq_left (by omega)]
  have hu2 : u2.length = (hi - lo) * sz := by rw [← c2.len, flat_length hpsz, hplen]
  have hu2one := c2.one
  let ys : List (List D) := (List.range (hi - lo)).map fun i => (List.range sz).map fun j => D.cv (u2.getD (i * sz + j) undef)
  have hysl : ys.length = hi - lo := by simp [ys]
  have huy : (∃ cap, a.eval y = .slice none 0 cap ∧ ys = []) ∨ ∃ ad cap, a.eval y = .slice (some ad) ys.length cap ∧ ∃ news : List Value, news.length = ys.length * sz ∧ (∀ j u, news[j]? = some u → w.cell? (ad.add j) = some u) ∧ (∀ u ∈ news, u.oneCell' = true) ∧
      ∀ i j d, (ys[i]?.bind fun x => x[j]?) = some d → ∃ u, news[i * sz + j]? = some u ∧ RelD (S false) w d u := by
    have hrd : ∀ i j d, (ys[i]?.bind fun x => x[j]?) = some d → ∃ u, u2[i * sz + j]? = some u ∧ RelD (S false) w d u := by
      intro i j d hd
      obtain ⟨h1, h2, rfl⟩ := chunk_get hd
      have hlt : i * sz + j < u2.length := by
        rw [hu2]
        calc i * sz + j < i * sz + sz := by omega
          _ = (i + 1) * sz := by rw [Nat.succ_mul]
          _ ≤ (hi - lo) * sz := Nat.mul_le_mul_right _ h1
      refine ⟨u2[i * sz + j], List.getElem?_eq_getElem hlt, ?_⟩
      have : u2.getD (i * sz + j) undef = u2[i * sz + j] := by simp [List.getD_eq_getElem?_getD, List.getElem?_eq_getElem hlt]
      rw [this]
      exact .cv _ (hu2one _ (List.getElem_mem hlt))
    have hval : ∃ A cap, a.eval y = .slice A (hi - lo) cap ∧ (lo < hi → ∃ g, A = some ⟨g, lo * sz, none⟩ ∧ at1 main2 = some g) := by
      have hm2v : main2 = .slice none 0 0 ∧ rs2.length = 0 ∨ ∃ g cap, main2 = .slice (some ⟨g, 0, none⟩) rs2.length cap := by
        rcases f3.2 with h | ⟨g, cap, cur, h, _⟩
        · exact .inl h
        · exact .inr ⟨g, cap, h⟩
      rcases hy with hy | ⟨hy, rfl, rfl⟩
      · rw [hy] at hry
        obtain ⟨A, len, cap, A', q1, q2, q3, q4, q5⟩ := vw_of f1 hry
        rw [agg_hdv] at q1
        refine ⟨A', _, q4, fun hlt => ?_⟩
        rcases hm2v with ⟨h, _⟩ | ⟨g, cap', h⟩
        · rw [q1] at h; cases h; omega
        · rw [q1] at h; cases h
          refine ⟨g, ?_, by rw [q1]; rfl⟩
          rw [q5 (.inl hlt)]
          simp [add_mk]
      · rw [hy] at hry
        have q1 := ow_of f1 hry
        rw [agg_hdv] at q1
        rcases hm2v with ⟨h, h'⟩ | ⟨g, cap', h⟩
        · exact ⟨none, 0, by rw [q1, h, h'], fun hlt => by omega⟩
        · exact ⟨_, _, by rw [q1, h]; rfl, fun hlt => ⟨g, by simp, by rw [h]; rfl⟩⟩
    obtain ⟨A, cap, q1, q2⟩ := hval
    rcases Nat.eq_or_lt_of_le hle with heq | hlt
    · have hz : hi - lo = 0 := by omega
      have hys0 : ys = [] := List.eq_nil_of_length_eq_zero (by rw [hysl]; exact hz)
      cases A with
      | none => exact .inl ⟨cap, by rw [q1, hz], hys0⟩
      | some ad => exact .inr ⟨ad, cap, by rw [q1, hysl], u2, by rw [hu2, hysl], fun j u hj => by
          have := lt_of_get hj; rw [hu2, hz] at this; simp at this, hu2one, hrd⟩
    · obtain ⟨g, rfl, hg⟩ := q2 hlt
      refine .inr ⟨_, cap, by rw [q1, hysl], u2, by rw [hu2, hysl], fun j u hj => ?_, hu2one, hrd⟩
      rcases f3.2 with ⟨h, h'⟩ | ⟨g', cap', cur, hmv, _, h4, _, _, _, h5⟩
      · rw [h] at hg; cases hg
      · rw [hmv] at hg; cases hg
        rw [add_mk, cell_of_row w _ _ cur e _ h4]
        have hjl := lt_of_get hj
        have h6 : (cur.toList.take (rs2.length * sz))[lo * sz + j]? = some u := by
          rw [h5, List.getElem?_append_right (by omega), hu1, show lo * sz + j - lo * sz = j by omega, List.getElem?_append_left hjl]
          exact hj
        rw [List.getElem?_take] at h6
        split at h6
        · simpa using h6
        · cases h6
  obtain ⟨it', bt, ag, zz, kd⟩ := it
  simp only at hkd
  subst hkd
  have hsl := hT.kd_slice hty rfl
  obtain ⟨ti, hj, hsz', hby, ⟨z, hz, hzc⟩, _⟩ := hT.get _ _ hie
  obtain ⟨_, hzl, _⟩ := hT.ok hie
  have hzs : z.cells.size = sz := by rw [← hsz, ← hzl, ← hzc]; simp
  have hlen63 : rs.length + ys.length ≤ maxLen := by
    rw [hysl]
    have : rs.length + (hi - lo) ≤ (rs.length + (hi - lo)) * ie.bytes := Nat.le_mul_of_pos_right _ hb0
    simp only [maxLen]; omega
  obtain ⟨v', w', news, hrun, hown, hgr, hat, hnews, hv1, hvs⟩ := append_run (P := P) (oty := o.type) (fo := false) (S := S) hsl hj hz (hsz'.trans hsz) hby hzs h0 (show w.ownsRow 0 e sz main rs.length us from e3) huy hlen63 (by rw [hysl]; exact hbig) (Nat.zero_le _)
  rw [hysl] at hown
  have hnl : news.length = u2.length := by
    have h1 := hown.1
    have h2 := e3.1
    rw [List.length_append, h2, Nat.add_mul] at h1
    rw [hu2]; omega
  obtain rfl : news = u2 := by
    apply List.ext_getElem?
    intro q
    rcases Nat.lt_or_ge q u2.length with hq | hq
    · have hdm : q / sz * sz + q % sz = q := by rw [Nat.mul_comm]; exact Nat.div_add_mod q sz
      have hq1 : q / sz < hi - lo := by rw [hu2] at hq; exact Nat.div_lt_of_lt_mul (by rw [Nat.mul_comm]; exact hq)
      have hq2 : q % sz < sz := Nat.mod_lt _ h0
      obtain ⟨u, g1, g2⟩ := hnews (q / sz) (q % sz) (.cv (u2.getD q undef)) (by
        simp only [ys, List.getElem?_map, List.getElem?_range hq1, Option.map_some, Option.bind_some, List.getElem?_range hq2, hdm])
      rw [hdm] at g1
      rw [g1, List.getElem?_eq_getElem hq]
      cases g2
      simp [List.getD_eq_getElem?_getD, List.getElem?_eq_getElem hq]
    · rw [List.getElem?_eq_none (by omega), List.getElem?_eq_none hq]
  obtain ⟨A0, c0, hmainv⟩ := own_parts e3
  have hmat : ∀ g, At main g ↔ at1 main = some g := fun g => by rw [hmainv]; exact Iff.rfl
  have hvat : ∀ g, at1 v' = some g ↔ At v' g := fun g => by obtain ⟨A, l, c, rfl⟩ := hvs; exact Iff.rfl
  have hb1 : main.ownBlock = at1 main := by rw [hmainv]; cases A0 <;> rfl
  have hin1 : ∀ u ∈ main :: own, ∀ g, at1 u = some g → g < w.heap.size ∧ ∀ v ∈ main2 :: (o1 ++ (o2 ++ o3)), at1 v = some g → False := fun u hu g hg => by
    have hA := at_ct.2 ⟨u, hu, hg⟩
    exact ⟨(hs.own n _ _ g e1 hA).2, fun v hv hvg => hnn (hs.apart n n2 _ _ _ _ g e1 f1 hA (at_ct.2 ⟨v, hv, hvg⟩))⟩
  have hin2 : ∀ u ∈ main2 :: (o1 ++ (o2 ++ o3)), ∀ g, at1 u = some g → g < w.heap.size := fun u hu g hg => (hs.own n2 _ _ g f1 (at_ct.2 ⟨u, hu, hg⟩)).2
  have hkeep : ∀ g, g < w.heap.size → at1 main ≠ some g → w'.heap[g]? = w.heap[g]? := fun g hg hne => hgr.block g hg (by rw [hb1]; exact fun e => hne e.symm)
  have hv'at : ∀ g, at1 v' = some g → w.heap.size ≤ g ∨ at1 main = some g := fun g hg => (hat g ((hvat g).1 hg)).imp id (hmat g).1
  have hD2 := f5
  have hsubset : ∀ u ∈ main2 :: (o1 ++ o3), u ∈ main2 :: (o1 ++ (o2 ++ o3)) := fun u hu => by
    simp only [List.mem_cons, List.mem_append] at hu ⊢
    rcases hu with h | h | h <;> simp [h]
  have hdj1 : Dj (v' :: (own ++ o2)) := by
    have hne : ∀ u ∈ own ++ o2, ∀ g, at1 v' = some g → at1 u = some g → False := fun u hu g h1 h2 => by
      rcases List.mem_append.1 hu with hu | hu
      · rcases hv'at g h1 with h3 | h3
        · have := (hin1 u (List.mem_cons_of_mem _ hu) g h2).1; omega
        · exact (List.pairwise_cons.1 e5).1 u hu g h3 h2
      · have hu' : u ∈ main2 :: (o1 ++ (o2 ++ o3)) := by simp [hu]
        rcases hv'at g h1 with h3 | h3
        · have := hin2 u hu' g h2; omega
        · exact (hin1 main (by simp) g h3).2 u hu' h2
    refine List.pairwise_cons.2 ⟨hne, List.pairwise_append.2 ⟨(List.pairwise_cons.1 e5).2, ?_, fun u hu v hv g h1 h2 => (hin1 u (List.mem_cons_of_mem _ hu) g h1).2 v (by simp [hv]) h2⟩⟩
    have h3 : Dj (o1 ++ (o2 ++ o3)) := (List.pairwise_cons.1 f5).2
    exact (List.pairwise_append.1 (List.pairwise_append.1 h3).2.1).1
  have hdj2 : Dj (main2 :: (o1 ++ o3)) := List.Pairwise.sublist (List.Sublist.cons_cons _ (List.Sublist.append (List.Sublist.refl _) (List.sublist_append_right _ _))) f5
  have hcross : ∀ u ∈ v' :: (own ++ o2), ∀ v ∈ main2 :: (o1 ++ o3), ∀ g, at1 u = some g → at1 v = some g → False := fun u hu v hv g h1 h2 => by
    have hv2 := hsubset v hv
    rcases List.mem_cons.1 hu with rfl | hu
    · rcases hv'at g h1 with h3 | h3
      · have := hin2 v hv2 g h2; omega
      · exact (hin1 main (by simp) g h3).2 v hv2 h2
    · rcases List.mem_append.1 hu with hu | hu
      · exact (hin1 u (List.mem_cons_of_mem _ hu) g h1).2 v hv2 h2
      · have hp : (main2 :: (o1 ++ (o2 ++ o3))).Perm (o2 ++ (main2 :: (o1 ++ o3))) := by
          refine (List.Perm.cons _ ?_).trans List.perm_middle.symm
          exact (List.perm_append_comm_assoc _ _ _)
        have := (List.pairwise_append.1 (hD2.perm hp)).2.2 u hu v hv
        exact this g h1 h2
  have hnl0 := lt_of_get hm
  have hnl2 := lt_of_get hm2
  let N' : Names := fun j => if j = n then some (k + 1, .agg (v' :: (own ++ o2)).toArray) else if j = n2 then some (k2, .agg (main2 :: (o1 ++ o3)).toArray) else N j
  have hNn : N' n = some (k + 1, .agg (v' :: (own ++ o2)).toArray) := by simp [N']
  have hNd : N' n2 = some (k2, .agg (main2 :: (o1 ++ o3)).toArray) := by simp [N', Ne.symm hnn]
  have hNo : ∀ j, ¬ (j = n ∨ j = n2) → N' j = N j := fun j hj => by simp only [not_or] at hj; simp [N', hj.1, hj.2]
  have hNN : NLe N N' := by
    intro j q v h
    by_cases hj : j = n
    · subst hj
      rw [e1] at h; cases h
      exact .inr (.inr ⟨_, _, k + 1, rfl, hNn, .inl (by omega)⟩)
    · by_cases hj' : j = n2
      · subst hj'; rw [f1] at h; cases h
        exact .inr (.inr ⟨_, _, k2, rfl, hNd, .inr ⟨rfl, by simp⟩⟩)
      · exact .inl ((hNo j (by simp [hj, hj'])).trans h)
  have hS : ∀ g, S false g → w'.heap[g]? = w.heap[g]? := fun g hg => hkeep g (hs.data false g hg).1 fun e => (hs.data false g hg).2 n _ _ e1 (at_ct.2 ⟨main, by simp, e⟩)
  have hrow : ∀ u ∈ own ++ o2, ∀ g, at1 u = some g → w'.heap[g]? = w.heap[g]? := fun u hu g hg => by
    rcases List.mem_append.1 hu with hu | hu
    · exact hkeep g (hin1 u (List.mem_cons_of_mem _ hu) g hg).1 fun e => (List.pairwise_cons.1 e5).1 u hu g e hg
    · exact hkeep g (hin2 u (by simp [hu]) g hg) fun e => (hin1 main (by simp) g e).2 u (by simp [hu]) hg
  have hrow2 : ∀ u ∈ main2 :: (o1 ++ o3), ∀ g, at1 u = some g → w'.heap[g]? = w.heap[g]? := fun u hu g hg => hkeep g (hin2 u (hsubset u hu) g hg) fun e => (hin1 main (by simp) g e).2 u (hsubset u hu) hg
  have main_ := hs.chg (w' := w') (N' := N') (m' := (m.set n (some (.asr (k + 1) (rowC e sz (rs ++ (rs2.take hi).drop lo)) outs))).set n2 (some (.asr k2 (rowC e sz (rs2.take lo ++ (((rs2.take hi).drop lo).map (fun r => r.map Cl.dead) ++ rs2.drop hi))) outs2))) (fun j => j = n ∨ j = n2) hNN hNo
    (fun j hj => by simp only [not_or] at hj; rw [List.getElem?_set_ne (Ne.symm hj.2), List.getElem?_set_ne (Ne.symm hj.1)])
    (hs.low.grown hgr hs.base fun q hq => (hs.own n _ _ q e1 (at_ct.2 ⟨main, by simp, by rw [← hb1]; exact hq⟩)).1) hgr.size
    (fun g hg hk => hkeep g hg fun e => hk n _ _ (.inl rfl) e1 (at_ct.2 ⟨main, by simp, e⟩))
    (fun j q v g hj hv hg => by
      rcases hj with rfl | rfl
      · rw [hNn] at hv; cases hv
        obtain ⟨u, hu, hgu⟩ := at_ct.1 hg
        rcases List.mem_cons.1 hu with rfl | hu
        · refine ⟨(hown.lt g ((at_own hvs).2 ((hvat g).1 hgu))).2, ?_⟩
          rcases hv'at g hgu with h | h
          · exact .inl h
          · exact .inr ⟨_, _, _, .inl rfl, e1, at_ct.2 ⟨main, by simp, h⟩⟩
        · rcases List.mem_append.1 hu with hu | hu
          · exact ⟨Nat.lt_of_lt_of_le (hin1 u (List.mem_cons_of_mem _ hu) g hgu).1 hgr.size, .inr ⟨_, _, _, .inl rfl, e1, at_ct.2 ⟨u, List.mem_cons_of_mem _ hu, hgu⟩⟩⟩
          · exact ⟨Nat.lt_of_lt_of_le (hin2 u (by simp [hu]) g hgu) hgr.size, .inr ⟨_, _, _, .inr rfl, f1, at_ct.2 ⟨u, by simp [hu], hgu⟩⟩⟩
      · rw [hNd] at hv; cases hv
        obtain ⟨u, hu, hgu⟩ := at_ct.1 hg
        exact ⟨Nat.lt_of_lt_of_le (hin2 u (hsubset u hu) g hgu) hgr.size, .inr ⟨_, _, _, .inr rfl, f1, at_ct.2 ⟨u, hsubset u hu, hgu⟩⟩⟩)
    (fun j j' q q' v v2 g hj hj' hv hv' hg hg' => by
      rcases hj with rfl | rfl <;> rcases hj' with rfl | rfl
      · rfl
      · rw [hNn] at hv; cases hv; rw [hNd] at hv'; cases hv'
        obtain ⟨u, hu, hgu⟩ := at_ct.1 hg
        obtain ⟨u', hu', hgu'⟩ := at_ct.1 hg'
        exact (hcross u hu u' hu' g hgu hgu').elim
      · rw [hNd] at hv; cases hv; rw [hNn] at hv'; cases hv'
        obtain ⟨u, hu, hgu⟩ := at_ct.1 hg
        obtain ⟨u', hu', hgu'⟩ := at_ct.1 hg'
        exact (hcross u' hu' u hu g hgu' hgu).elim
      · rfl)
    (fun j hj hb => by
      rcases hj with rfl | rfl
      · exact absurd (by rw [List.getElem?_set_ne (Ne.symm hnn), List.getElem?_set_self hnl0]) (hb _)
      · exact absurd (by rw [List.getElem?_set_self (by simpa using hnl2)]) (hb _))
    (fun j og hj hst => by
      rcases hj with rfl | rfl
      · exact ⟨_, _, hNn, .inl ⟨_, rfl⟩⟩
      · exact ⟨_, _, hNd, .inl ⟨_, rfl⟩⟩)
    (fun j b hj hb hrel hrd hdat => by
      rcases hj with rfl | rfl
      · rw [List.getElem?_set_ne (Ne.symm hnn), List.getElem?_set_self hnl0] at hb
        cases hb
        refine ⟨_, uo, hNn, ⟨e2.1, fun i v hv => hrel _ _ (e2.2 i v hv)⟩, v', us ++ news, own ++ o2, rfl, ?_, ?_, hdj1⟩
        · rw [List.length_append, hplen]; exact hown
        · rw [List.flatten_append]
          refine (e4.mono (fun _ h => h) hS fun u hu => hrow u (by simp [hu])).app ((c2.outs fun i u hi _ => ?_).mono (fun _ h => h) hS fun u hu => hrow u (by simp [hu]))
          rw [useO_none fun q hq => by
            obtain ⟨r, hr, hq⟩ := List.mem_flatten.1 hq
            exact hO r hr q hq] at hi
          cases hi
      · rw [List.getElem?_set_self (by simpa using hnl2)] at hb
        cases hb
        refine ⟨_, uo2, hNd, ⟨f2.1, fun i v hv => hrel _ _ (f2.2 i v hv)⟩, main2, u1 ++ (news ++ u3), o1 ++ o3, rfl, ?_, ?_, hdj2⟩
        · have : (rs2.take lo ++ (((rs2.take hi).drop lo).map (fun r => r.map Cl.dead) ++ rs2.drop hi)).length = rs2.length := by
            conv => rhs; rw [hp]
            simp only [List.length_append, List.length_map]
          rw [this]
          exact (rowM e sz rs2.length).mono (fun g hg => hrow2 main2 (by simp) g hg) f3
        · simp only [List.flatten_append]
          have c2' : Cells (S false) w uo2 (((rs2.take hi).drop lo).map (fun r => r.map Cl.dead)).flatten news [] := by
            have := c2.kill
            rwa [List.map_flatten] at this
          have := c1.app (c2'.app c3)
          simp only [List.nil_append] at this
          exact this.mono (fun _ h => h) hS fun u hu => hrow2 u (List.mem_cons_of_mem _ hu))
  refine opOk_val (u := v') (w' := w') ?_ ⟨N', S, main_.1, .ow n (k + 1) _ hv1 ⟨k + 1, _, hNn, Nat.le_refl _, fun _ => by simp [hdv]⟩⟩
  unfold execOp
  simp only [ho]
  simp [resolve, hc, ea, eb, invoke, builtin, hux, hrun]
theorem gh_nilC {n d i E sz : Nat} {cs : List V} {bt : Option Nat} (hm : m[n]? = some (some (.box cs bt))) (hi : cs[i]? = some (.cv (.slice none 0 0))) (hd : m[d]? = some none) :
    GhM m ((m.set d (some (.asr 0 (rowC E sz []) []))).set n (some (.box (cs.set i (.ow d 0)) bt))) := by
  intro B w0 N S t a w hs
  have hnd : n ≠ d := by rintro rfl; rw [hm] at hd; cases hd
  have hnone : N d = none := hs.non d fun b' h => by rw [hd] at h; cases h
  obtain ⟨N1, g1, g2, g3⟩ := hs.set (w' := w) (d := d) (k := 0) (v := .agg [.slice none 0 0].toArray) (b := .asr 0 (rowC E sz []) []) (lt_of_get hd) (fun k0 v0 h => by rw [hnone] at h; cases h) hs.low (Nat.le_refl _) (fun _ _ _ => rfl)
    (fun g hg => by
      obtain ⟨u, hu, e⟩ := at_ct.1 hg
      simp at hu; subst hu; cases e)
    (fun N' e1 e2 e3 => ⟨_, [], e1, ⟨rfl, by simp⟩, .slice none 0 0, [], [], rfl, ⟨by simp, .inl ⟨rfl, rfl⟩⟩, .nil, by simp [Dj]⟩)
  have hm1 : (m.set d (some (.asr 0 (rowC E sz []) [])))[n]? = some (some (.box cs bt)) := by rw [List.getElem?_set_ne (Ne.symm hnd)]; exact hm
  obtain ⟨g, ty, us, b1, b2, b3, b4⟩ := g3.blk n _ hm1
  obtain ⟨N2, q1, q2, q3⟩ := g3.set (w' := w) (d := n) (k := 0) (v := .pointer (some ⟨g, 0, none⟩)) (b := .box (cs.set i (.ow d 0)) bt) (lt_of_get hm1) (fun k0 v0 h => by rw [b1] at h; cases h; exact .inl ⟨rfl, rfl⟩) hs.low (Nat.le_refl _) (fun _ _ _ => rfl)
    (fun g' hg => by cases hg; exact ⟨(g3.own n _ _ g b1 rfl).2, .inr ⟨_, _, b1, rfl⟩⟩)
    (fun N' e1 e2 e3 => ⟨g, ty, us, e1, b2, by simpa using b3, fun j v hv => by
      rw [List.getElem?_set] at hv
      split at hv
      · rename_i hij
        subst hij
        split at hv
        · cases hv
          have h4 := b4 i _ hi
          generalize us.getD i undef = u at h4
          cases h4
          exact e2 _ _ (.ow d 0 _ rfl ⟨0, _, g1, Nat.le_refl _, fun _ => by simp [hdv]⟩)
        · cases hv
      · exact e2 _ _ (b4 j v hv)⟩)
  exact ⟨N2, S, q3, fun v u h => q2 _ _ (g2 _ _ h)⟩
theorem gh_nilR {n d i E sz : Nat} {cs : List V} {bt : Option Nat} (hm : m[n]? = some (some (.box cs bt))) (hi : cs[i]? = some (.cv (.slice none 0 0))) (hd : m[d]? = some none) (hsz : 0 < sz) :
    GhM m ((m.set d (some (.row 0 E sz true []))).set n (some (.box (cs.set i (.ow d 0)) bt))) := by
  intro B w0 N S t a w hs
  have hnd : n ≠ d := by rintro rfl; rw [hm] at hd; cases hd
  have hnone : N d = none := hs.non d fun b' h => by rw [hd] at h; cases h
  obtain ⟨N1, g1, g2, g3⟩ := hs.set (w' := w) (d := d) (k := 0) (v := .slice none 0 0) (b := .row 0 E sz true []) (lt_of_get hd) (fun k0 v0 h => by rw [hnone] at h; cases h) hs.low (Nat.le_refl _) (fun _ _ _ => rfl)
    (fun g hg => by simp [At, at1] at hg)
    (fun N' e1 e2 e3 => ⟨.slice none 0 0, [], e1, ⟨by simp, .inl ⟨rfl, rfl⟩⟩, by simp, hsz, fun i j d hd => by simp at hd, fun _ g hg => by simp [At, at1] at hg⟩)
  have hm1 : (m.set d (some (.row 0 E sz true [])))[n]? = some (some (.box cs bt)) := by rw [List.getElem?_set_ne (Ne.symm hnd)]; exact hm
  obtain ⟨g, ty, us, b1, b2, b3, b4⟩ := g3.blk n _ hm1
  obtain ⟨N2, q1, q2, q3⟩ := g3.set (w' := w) (d := n) (k := 0) (v := .pointer (some ⟨g, 0, none⟩)) (b := .box (cs.set i (.ow d 0)) bt) (lt_of_get hm1) (fun k0 v0 h => by rw [b1] at h; cases h; exact .inl ⟨rfl, rfl⟩) hs.low (Nat.le_refl _) (fun _ _ _ => rfl)
    (fun g' hg => by cases hg; exact ⟨(g3.own n _ _ g b1 rfl).2, .inr ⟨_, _, b1, rfl⟩⟩)
    (fun N' e1 e2 e3 => ⟨g, ty, us, e1, b2, by simpa using b3, fun j v hv => by
      rw [List.getElem?_set] at hv
      split at hv
      · rename_i hij
        subst hij
        split at hv
        · cases hv
          have h4 := b4 i _ hi
          generalize us.getD i undef = u at h4
          cases h4
          exact e2 _ _ (.ow d 0 _ rfl ⟨0, _, g1, Nat.le_refl _, fun _ => rfl⟩)
        · cases hv
      · exact e2 _ _ (b4 j v hv)⟩)
  exact ⟨N2, S, q3, fun v u h => q2 _ _ (g2 _ _ h)⟩
theorem gh_trunc {b n k E sz i hi : Nat} {f : Bool} {xs : List (List D)} {cs : List V} {bt : Option Nat} (hm : m[b]? = some (some (.box cs bt))) (hi' : cs[i]? = some (.vw n k sz 0 hi)) (hn : m[n]? = some (some (.row k E sz f xs))) (hle : hi ≤ xs.length) :
    GhM m ((m.set n (some (.row (k + 1) E sz f (xs.take hi)))).set b (some (.box (cs.set i (.ow n (k + 1))) bt))) := by
  intro B w0 N S t a w hs
  have hbn : b ≠ n := by rintro rfl; rw [hm] at hn; cases hn
  obtain ⟨v, us, e1, e2, e3, e4, e5, e6⟩ := hs.blk n _ hn
  obtain ⟨A, c, rfl⟩ := own_parts e2
  obtain ⟨g0, ty0, us0, b1, b2, b3, b4⟩ := hs.blk b _ hm
  have hcell := b4 i _ hi'
  obtain ⟨A1, len1, cap1, A2, q1, q2, q3, q4, q5⟩ := vw_of e1 hcell
  rw [show hdv (.slice A xs.length c) = .slice A xs.length c from rfl] at q1
  cases q1
  have hA : A2 = A := by
    rw [q5 (.inr rfl)]
    rcases e2.2 with ⟨h, _⟩ | ⟨g, cap, cur, h, _⟩
    · injection h with a1 a2 a3
      subst a1; rfl
    · cases h; simp [add_mk]
  subst hA
  rw [Nat.sub_zero, Nat.sub_zero] at q4
  have hown : w.ownsRow 0 E sz (.slice A2 hi c) hi (us.take (hi * sz)) := by
    refine ⟨by rw [List.length_take, e2.1]; exact Nat.min_eq_left (Nat.mul_le_mul_right _ hle), ?_⟩
    rcases e2.2 with ⟨h, h'⟩ | ⟨g, cap, cur, h, h1, h2, h3, h4, h5, h6⟩
    · injection h with a1 a2 a3
      subst a1 a3
      left
      have hz : hi = 0 := by omega
      rw [hz]; exact ⟨rfl, rfl⟩
    · cases h
      refine .inr ⟨g, c, cur, rfl, h1, h2, by omega, h4, h5, ?_⟩
      rw [← h6, List.take_take, Nat.min_eq_left (Nat.mul_le_mul_right _ hle)]
  have hat : ∀ g, At (.slice A2 hi c) g ↔ At (.slice A2 xs.length c) g := fun g => by cases A2 <;> exact Iff.rfl
  obtain ⟨N1, p1, p2, p3⟩ := hs.set (w' := w) (d := n) (k := k + 1) (v := .slice A2 hi c) (b := .row (k + 1) E sz f (xs.take hi)) (lt_of_get hn) (fun k0 v0 h => by rw [e1] at h; cases h; exact .inr (.inl ⟨⟨_, _, _, rfl⟩, by omega⟩)) hs.low (Nat.le_refl _) (fun _ _ _ => rfl)
    (fun g hg => by
      have := (hat g).1 hg
      exact ⟨(hs.own n _ _ g e1 this).2, .inr ⟨_, _, e1, this⟩⟩)
    (fun N' x1 x2 x3 => ⟨.slice A2 hi c, us.take (hi * sz), x1, by rw [List.length_take, Nat.min_eq_left hle]; exact hown, fun x hx => e3 x (List.mem_of_mem_take hx), e4, fun i' j' d hd => by
      have h7 : (xs[i']?.bind fun x => x[j']?) = some d ∧ i' < hi := by
        rw [List.getElem?_take] at hd
        split at hd
        · exact ⟨hd, by assumption⟩
        · cases hd
      obtain ⟨u, hu, hr⟩ := e5 i' j' d h7.1
      refine ⟨u, ?_, hr⟩
      have h8 : j' < sz := by
        obtain ⟨x, hx, hx2⟩ := Option.bind_eq_some_iff.1 h7.1
        have := e3 x (List.mem_of_getElem? hx)
        have := lt_of_get hx2
        omega
      have h9 : i' * sz + j' < hi * sz := by
        calc i' * sz + j' < i' * sz + sz := by omega
          _ = (i' + 1) * sz := by rw [Nat.succ_mul]
          _ ≤ hi * sz := Nat.mul_le_mul_right _ h7.2
      rw [List.getElem?_take, if_pos h9]; exact hu, fun hf g hg => e6 hf g ((hat g).1 hg)⟩)
  have hm1 : (m.set n (some (.row (k + 1) E sz f (xs.take hi))))[b]? = some (some (.box cs bt)) := by rw [List.getElem?_set_ne (Ne.symm hbn)]; exact hm
  obtain ⟨g, ty, us1, b1', b2', b3', b4'⟩ := p3.blk b _ hm1
  obtain ⟨N2, r1, r2, r3⟩ := p3.set (w' := w) (d := b) (k := 0) (v := .pointer (some ⟨g, 0, none⟩)) (b := .box (cs.set i (.ow n (k + 1))) bt) (lt_of_get hm1) (fun k0 v0 h => by rw [b1'] at h; cases h; exact .inl ⟨rfl, rfl⟩) hs.low (Nat.le_refl _) (fun _ _ _ => rfl)
    (fun g' hg => by cases hg; exact ⟨(p3.own b _ _ g b1' rfl).2, .inr ⟨_, _, b1', rfl⟩⟩)
    (fun N' x1 x2 x3 => ⟨g, ty, us1, x1, b2', by simpa using b3', fun j v hv => by
      rw [List.getElem?_set] at hv
      split at hv
      · rename_i hij
        subst hij
        split at hv
        · cases hv
          have hbx := p2 _ _ (RelV.bx (N := N) (S := S) (w := w) b 0 g0 b1)
          have hgg : g = g0 := by
            cases hbx with
            | bx _ _ _ hn' => rw [b1'] at hn'; cases hn'; rfl
          subst hgg
          simp only [b2, Option.some.injEq, Obj.cells.injEq] at b2'
          obtain ⟨rfl, _⟩ := b2'
          rw [q4]
          exact x2 _ _ (.ow n (k + 1) _ rfl ⟨k + 1, _, p1, Nat.le_refl _, fun _ => rfl⟩)
        · cases hv
      · exact x2 _ _ (b4' j v hv)⟩)
  exact ⟨N2, S, r3, fun v u h => r2 _ _ (p2 _ _ h)⟩
end
end Go.Proofs.Ytmlednjhemnncaa
