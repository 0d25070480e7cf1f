/- Texts joined by pack.py: XSxCe -/
import Derived.Test.YtmlednjhemnncaaFs16
namespace Go.Proofs.Ytmlednjhemnncaa
open Go.RowKit
theorem set_split {α : Type} {l : List α} {i : Nat} {x : α} (h : l[i]? = some x) (y : α) : l = l.take i ++ x :: l.drop (i + 1) ∧ l.set i y = l.take i ++ y :: l.drop (i + 1) ∧ (l.take i).length = i := by
  obtain ⟨hlt, rfl⟩ := List.getElem?_eq_some_iff.1 h
  refine ⟨by rw [List.getElem_cons_drop, List.take_append_drop], List.set_eq_take_append_cons_drop .. |>.trans (by rw [if_pos hlt]), by rw [List.length_take]; omega⟩
theorem cell_split {α : Type} {rs : List (List α)} {j off : Nat} {cells : List α} {c : α} (hj : rs[j]? = some cells) (ho : cells[off]? = some c) (c' : α) :
    ∃ cs1 cs2, rs.flatten = cs1 ++ c :: cs2 ∧ (rs.set j (cells.set off c')).flatten = cs1 ++ c' :: cs2 ∧ cs1 = (rs.take j).flatten ++ cells.take off := by
  obtain ⟨h1, h2, _⟩ := set_split hj (cells.set off c')
  obtain ⟨h3, h4, _⟩ := set_split ho c'
  refine ⟨(rs.take j).flatten ++ cells.take off, cells.drop (off + 1) ++ (rs.drop (j + 1)).flatten, ?_, ?_, rfl⟩
  · conv => lhs; rw [h1]
    simp only [List.flatten_append, List.flatten_cons]
    conv => lhs; rw [h3]
    simp
  · rw [h2]
    simp only [List.flatten_append, List.flatten_cons]
    rw [h4]
    simp
def Cl.isO : Cl → Bool
  | .o _ => true
  | _ => false
theorem useO_none : ∀ {cs : List Cl} {i : Nat}, (∀ c ∈ cs, c.isO = false) → useO cs i = false
  | [], i, _ => rfl
  | .o j :: l, i, h => by have := h _ (List.mem_cons_self ..); simp [Cl.isO] at this
  | .d _ :: l, i, h => useO_none (cs := l) fun c hc => h c (List.mem_cons_of_mem _ hc)
  | .r .. :: l, i, h => useO_none (cs := l) fun c hc => h c (List.mem_cons_of_mem _ hc)
  | .z :: l, i, h => useO_none (cs := l) fun c hc => h c (List.mem_cons_of_mem _ hc)
theorem getE_setE {α : Type} {l1 l2 : List (ByteArray × α)} {s : ByteArray} {c : α} (h : s ∉ l1.map (·.1)) : getE (l1 ++ (s, c) :: l2) s = some c := by
  induction l1 with
  | nil => simp [getE]
  | cons x l1 ih =>
    simp only [List.map_cons, List.mem_cons, not_or] at h
    simp only [List.cons_append, getE]
    rw [if_neg (Ne.symm h.1)]
    exact ih h.2
section
variable {P : Program} {T : Tab} {B : Fr} {w0 : World} {N : Names} {S : Sets} {t : List V} {m : List (Option Bk)} {a : Act} {w : World}
theorem gh_openC {n k d Er sz j off E' sz' : Nat} {rs : List (List Cl)} {cells : List Cl} {xs : List (List D)} {outs : List V} (hm : m[n]? = some (some (.asr k (rowC Er sz rs) outs))) (hj : rs[j]? = some cells) (ho : cells[off]? = some (.r E' sz' xs)) (hd : m[d]? = some none) :
    GhM m ((m.set n (some (.asr k (rowC Er sz (rs.set j (cells.set off (.o outs.length)))) (outs ++ [.ow d 0])))).set d (some (.row 0 E' sz' false xs))) := by
  obtain ⟨cs1, cs2, h1, h2, _⟩ := cell_split hj ho (.o outs.length)
  unfold rowC at hm ⊢
  rw [h1] at hm
  rw [h2, List.length_set]
  exact gh_open hm hd
theorem gh_closeC {n k d kd Er sz j off E' sz' : Nat} {f : Bool} {rs : List (List Cl)} {cells : List Cl} {c : Cl} {xs : List (List D)} {outs : List V} (hj : rs[j]? = some cells) (ho : cells[off]? = some c) (hu : useO rs.flatten outs.length = false)
    (hm : m[n]? = some (some (.asr k (rowC Er sz (rs.set j (cells.set off (.o outs.length)))) (outs ++ [.ow d kd])))) (hd : m[d]? = some (some (.row kd E' sz' f xs))) :
    GhM m ((m.set n (some (.asr k (rowC Er sz (rs.set j (cells.set off (.r E' sz' xs)))) outs))).set d (some (.row (kd + 1) E' sz' true []))) := by
  obtain ⟨cs1, cs2, h1, h2, h3⟩ := cell_split hj ho (.o outs.length)
  obtain ⟨cs1', cs2', h1', h2', h3'⟩ := cell_split hj ho (.r E' sz' xs)
  have e1 : cs1' = cs1 := h3'.trans h3.symm
  subst e1
  have e2 : cs2' = cs2 := by
    rw [h1'] at h1
    simpa using h1
  subst e2
  have hu' : useO cs1' outs.length = false ∧ useO cs2' outs.length = false := by
    rw [h1, useO_app] at hu
    simp only [Bool.or_eq_false_iff] at hu
    refine ⟨hu.1, ?_⟩
    have := hu.2
    cases c <;> simp only [useO, Bool.or_eq_false_iff] at this <;> first | exact this | exact this.2
  unfold rowC at hm ⊢
  rw [h2, List.length_set] at hm
  rw [h2', List.length_set]
  exact gh_close hm hd hu'.1 hu'.2
theorem gh_openE {n k d E' sz' : Nat} {es : List (ByteArray × Cl)} {s : ByteArray} {xs : List (List D)} {outs : List V} (hm : m[n]? = some (some (.asr k (mapC es) outs))) (hg : getE es s = some (.r E' sz' xs)) (hd : m[d]? = some none) :
    GhM m ((m.set n (some (.asr k (mapC (putE es s (.o outs.length))) (outs ++ [.ow d 0])))).set d (some (.row 0 E' sz' false xs))) := by
  obtain ⟨l1, l2, rfl, h2⟩ := getE_some hg
  rw [putE_old h2]
  unfold mapC at hm ⊢
  simp only [List.map_append, List.map_cons] at hm ⊢
  exact gh_open hm hd
theorem gh_closeE {n k d kd E' sz' : Nat} {f : Bool} {es : List (ByteArray × Cl)} {s : ByteArray} {c : Cl} {xs : List (List D)} {outs : List V} (hg : getE es s = some c) (hu : useO (es.map (·.2)) outs.length = false)
    (hm : m[n]? = some (some (.asr k (mapC (putE es s (.o outs.length))) (outs ++ [.ow d kd])))) (hd : m[d]? = some (some (.row kd E' sz' f xs))) :
    GhM m ((m.set n (some (.asr k (mapC (putE es s (.r E' sz' xs))) outs))).set d (some (.row (kd + 1) E' sz' true []))) := by
  obtain ⟨l1, l2, rfl, h2⟩ := getE_some hg
  rw [putE_old h2] at hm ⊢
  unfold mapC at hm ⊢
  simp only [List.map_append, List.map_cons] at hm hu ⊢
  have hu' : useO (l1.map (·.2)) outs.length = false ∧ useO (l2.map (·.2)) outs.length = false := by
    rw [useO_app] at hu
    simp only [Bool.or_eq_false_iff] at hu
    refine ⟨hu.1, ?_⟩
    have := hu.2
    cases c <;> simp only [useO, Bool.or_eq_false_iff] at this <;> first | exact this | exact this.2
  exact gh_close hm hd hu'.1 hu'.2
theorem gh_killE {n k : Nat} {es : List (ByteArray × Cl)} {s : ByteArray} {i : Nat} {c : Cl} {outs : List V} (hg : getE es s = some c) (hm : m[n]? = some (some (.asr k (mapC (putE es s (.o i))) outs))) :
    GhM m (m.set n (some (.asr k (mapC (putE es s .z)) outs))) := by
  obtain ⟨l1, l2, rfl, h2⟩ := getE_some hg
  rw [putE_old h2] at hm ⊢
  unfold mapC at hm ⊢
  simp only [List.map_append, List.map_cons] at hm ⊢
  intro B w0 N S t a w hs
  obtain ⟨main, us, own, uo, g1, g2, g3, g4, g5⟩ := ct_val hs hm
  obtain ⟨us1, us2', ow1, ow2, rfl, rfl, c1, c2⟩ := g4.unapp
  obtain ⟨u, us2, rfl, hh, hh1, c2⟩ := c2.o_inv
  obtain ⟨N', q1, q2⟩ := hs.ct (w' := w) (own' := ow1 ++ ow2) (M' := mapM (l1.map (·.1) ++ s :: l2.map (·.1))) (cs' := l1.map (·.2) ++ Cl.z :: l2.map (·.2)) (us' := us1 ++ u :: us2) hm g1 g2 rfl hs.low (Nat.le_refl _) (fun _ _ => rfl) g3 (List.Sublist.refl _) g5
    (fun _ _ => c1.app (.z hh1 c2))
  exact ⟨N', S, q1, q2⟩
theorem gh_dropE {n k : Nat} {es : List (ByteArray × Cl)} {outs : List V} {x : V} (hm : m[n]? = some (some (.asr k (mapC es) (outs ++ [x])))) (h1 : useO (es.map (·.2)) outs.length = false) :
    GhM m (m.set n (some (.asr k (mapC es) outs))) := gh_drop hm h1
theorem ot_look0 {o : Oper} {E : Operand → V} {ty key e n k d E' sz' : Nat} {x i : Operand} {s : ByteArray} {es : List (ByteArray × Cl)} {outs : List V} (ho : o.op = .lookup ty x i false) (hdst : m[d]? = some none) (h0 : 0 < sz')
    (hty : P.underlying ty = some (.map key e)) (hk : P.underlying key = some .string) (hz : (P.info? e).bind (·.zero) = some (.slice none 0 0))
    (hx : E x = .ow n k) (hi : E i = .cv (.string s)) (hm : m[n]? = some (some (.asr k (mapC es) outs))) (hg : getE es s = none) : OpTr P o E m (.ow d 0) (m.set d (some (.row 0 E' sz' true []))) := by
  have hrd := rd_look (P := P) (m := m) ho hty hk hz hx hi hm (v := .cv (.slice none 0 0)) (by rw [hg])
  intro B w0 N S t a w hs hr Q
  refine Oper.wp_mono' (hrd B w0 N S t m a w hs (fun _ _ h => h) hr Q) ?_
  rintro a' w' ⟨u, he, rfl, hrel⟩
  cases hrel
  have hnone : N d = none := hs.non d fun b' h => by rw [hdst] at h; cases h
  obtain ⟨N', g1, g2, g3⟩ := hs.set (w' := w') (d := d) (k := 0) (v := .slice none 0 0) (b := .row 0 E' sz' true []) (lt_of_get hdst) (fun k0 v0 h => by rw [hnone] at h; cases h)
    hs.low (Nat.le_refl _) (fun _ _ _ => rfl) (fun g hg => by simp [At, at1] at hg)
    (fun N' e1 e2 e3 => ⟨.slice none 0 0, [], e1, ⟨by simp, .inl ⟨rfl, rfl⟩⟩, by simp, h0, fun i j d hd => by simp at hd, fun _ g hg => by simp [At, at1] at hg⟩)
  exact ⟨_, he, N', S, g3, .ow d 0 _ rfl ⟨0, _, g1, Nat.le_refl _, fun _ => rfl⟩⟩
theorem ot_look1 {o : Oper} {E : Operand → V} {ty key e n k d E' sz' : Nat} {x i : Operand} {s : ByteArray} {es : List (ByteArray × Cl)} {outs : List V} {xs : List (List D)} {z : Value} (ho : o.op = .lookup ty x i false) (hdst : m[d]? = some none)
    (hty : P.underlying ty = some (.map key e)) (hk : P.underlying key = some .string) (hz : (P.info? e).bind (·.zero) = some z)
    (hx : E x = .ow n k) (hi : E i = .cv (.string s)) (hm : m[n]? = some (some (.asr k (mapC es) outs))) (hg : getE es s = some (.r E' sz' xs)) :
    OpTr P o E m (.ow d 0) ((m.set n (some (.asr k (mapC (putE es s (.o outs.length))) (outs ++ [.ow d 0])))).set d (some (.row 0 E' sz' false xs))) := by
  have hnd : n ≠ d := by rintro rfl; rw [hm] at hdst; cases hdst
  refine ot_pre (gh_openE hm hg hdst) (ot_rd (rd_look (outs := outs ++ [.ow d 0]) (es := putE es s (.o outs.length)) (z := z) ho hty hk hz hx hi ?_ ?_))
  · rw [List.getElem?_set_ne (Ne.symm hnd), List.getElem?_set_self (lt_of_get hm)]
  · obtain ⟨l1, l2, rfl, h2⟩ := getE_some hg
    rw [putE_old h2, getE_setE h2]
    simp [Cl.v]
theorem upd_list {us us' : Array Value} {news : List Value} {L p : Nat} (hsz : us'.size = us.size) (h : ∀ j, us'.getD j undef = if p ≤ j ∧ j < p + news.length then news.getD (j - p) undef else us.getD j undef) (hL : L ≤ us.size) (hp : p + news.length ≤ L) :
    us'.toList.take L = (us.toList.take L).take p ++ news ++ (us.toList.take L).drop (p + news.length) := by
  apply List.ext_getElem?
  intro i
  have hget : ∀ (vs : Array Value) (i : Nat), vs.toList[i]? = if i < vs.size then some (vs.getD i undef) else none := by
    intro vs i
    by_cases hi : i < vs.size
    · rw [if_pos hi]; exact get_of_lt hi
    · rw [if_neg hi, List.getElem?_eq_none (by simp; omega)]
  have hl : (us.toList.take L).length = L := by rw [List.length_take, Array.length_toList]; omega
  rcases Nat.lt_or_ge i L with hi | hi
  · rw [List.getElem?_take, if_pos hi, hget, hsz, if_pos (by omega), h i, List.append_assoc]
    by_cases h1 : i < p
    · rw [if_neg (by omega), List.getElem?_append_left (by rw [List.length_take, hl]; omega), List.getElem?_take, if_pos h1, List.getElem?_take, if_pos hi, hget, if_pos (by omega)]
    · rw [List.getElem?_append_right (by rw [List.length_take, hl]; omega), List.length_take, hl, Nat.min_eq_left (by omega)]
      by_cases h2 : i < p + news.length
      · rw [if_pos ⟨by omega, h2⟩, List.getElem?_append_left (by omega)]
        have : i - p < news.length := by omega
        simp [List.getD_eq_getElem?_getD, this]
      · rw [if_neg (by omega), List.getElem?_append_right (by omega), List.getElem?_drop, show p + news.length + (i - p - news.length) = i by omega, List.getElem?_take, if_pos hi, hget, if_pos (by omega)]
  · rw [List.getElem?_eq_none (by rw [List.length_take, Array.length_toList]; omega), List.getElem?_eq_none]
    simp only [List.length_append, List.length_take, List.length_drop, hl]
    omega
theorem store_run (hT : TOk P T) (hs : Sat B w0 N S t m a w) {n k Er sz j off ty : Nat} {i : TI} {rs : List (List Cl)} {cells : List Cl} {outs : List V} {x : Operand} {u : Value} (hi : T ty = some i) (hm : m[n]? = some (some (.asr k (rowC Er sz rs) outs))) (hrs : ∀ r ∈ rs, r.length = sz) (hj : rs[j]? = some cells)
    (hx : RelV N S w (.oq n k sz j off) (a.eval x)) (h1 : ∀ c ∈ u.cells.toList, c.oneCell' = true) (hsz : u.cells.size = i.size) (hle : off + u.cells.size ≤ sz) :
    ∃ w' main own uo us us', (Instr.storeAt ty (a.eval x) u).run P w = .ok () w' ∧ N n = some (k, .agg (main :: own).toArray) ∧ RelL N S w outs uo ∧ Cells (S false) w uo rs.flatten us own ∧ Dj (main :: own) ∧ Low B.keep B.ref w' ∧ w.heap.size ≤ w'.heap.size ∧
      (∀ g, at1 main ≠ some g → w'.heap[g]? = w.heap[g]?) ∧ (rowM Er sz rs.length).ok w' main us' ∧ us' = us.take (j * sz + off) ++ u.cells.toList ++ us.drop (j * sz + off + u.cells.size) := by
  obtain ⟨g, cap, cur, own, uo, e1, e2, e3, e4, e5, e6, e7, e8⟩ := rowC_cells hs hm (by rintro rfl; simp at hj)
  obtain ⟨b, len, cp, e9, e10⟩ := oq_of e1 hx
  rw [agg_hdv] at e9
  cases e9
  have hjl := lt_of_get hj
  have hb : (j + 1) * sz ≤ rs.length * sz := Nat.mul_le_mul_right _ hjl
  have hb2 : rs.length * sz ≤ cur.size := by rw [e5]; exact Nat.mul_le_mul_right _ e3
  rw [Nat.succ_mul] at hb
  obtain ⟨w', us', r1, r2, r3, r4⟩ := storeVar_run (P := P) hT hi (off := j * sz + off) e2 h1 hsz (by omega)
  refine ⟨w', _, own, uo, _, us'.toList.take (rs.length * sz), ?_, e1, e6, e7, e8, r2.low hs.low (hs.own n _ _ g e1 (at_ct.2 ⟨.slice (some ⟨g, 0, none⟩) rs.length cap, by simp, rfl⟩)).1, by rw [r2.size]; exact Nat.le_refl _, fun q hq => r2.other q fun e => hq (by rw [e]; rfl), ⟨?_, .inr ⟨g, cap, us', rfl, Nat.zero_le _, r2.new, e3, e4, by rw [r3, e5], rfl⟩⟩, ?_⟩
  · rw [e10]
    simp [Instr.storeAt, Instr.sureAddr, r1]
  · have h9 : us'.toList.length = cur.size := r3
    rw [List.length_take, h9]; omega
  · have := upd_list (news := u.cells.toList) (p := j * sz + off) (L := rs.length * sz) r3 (fun j => by rw [r4 j]; simp only [Array.length_toList, getD_toList]) hb2 (by simp only [Array.length_toList]; omega)
    simpa using this
theorem cells_split {α : Type} {rs : List (List α)} {sz j off c : Nat} {cells : List α} (hrs : ∀ r ∈ rs, r.length = sz) (hj : rs[j]? = some cells) (hle : off + c ≤ sz) (news : List α) :
    ∃ cs1 mid cs2, rs.flatten = cs1 ++ (mid ++ cs2) ∧ (rs.set j (cells.take off ++ news ++ cells.drop (off + c))).flatten = cs1 ++ (news ++ cs2) ∧ cs1.length = j * sz + off ∧ mid.length = c := by
  obtain ⟨h1, h2, h3⟩ := set_split hj (cells.take off ++ news ++ cells.drop (off + c))
  have hc : cells.length = sz := hrs _ (List.mem_of_getElem? hj)
  refine ⟨(rs.take j).flatten ++ cells.take off, (cells.drop off).take c, cells.drop (off + c) ++ (rs.drop (j + 1)).flatten, ?_, ?_, ?_, ?_⟩
  · conv => lhs; rw [h1]
    simp only [List.flatten_append, List.flatten_cons, List.append_assoc]
    congr 1
    have : cells = cells.take off ++ ((cells.drop off).take c ++ cells.drop (off + c)) := by
      rw [show cells.drop (off + c) = (cells.drop off).drop c by rw [List.drop_drop], List.take_append_drop, List.take_append_drop]
    conv => lhs; rw [this]
    simp
  · rw [h2]
    simp
  · rw [List.length_append, flat_length (sz := sz) (fun r hr => hrs r (List.mem_of_mem_take hr)), h3, List.length_take]; omega
  · rw [List.length_take, List.length_drop]; omega
theorem ot_ctD (hT : TOk P T) {o : Oper} {E : Operand → V} {ty n k Er sz j off : Nat} {x y : Operand} {i : TI} {rs : List (List Cl)} {cells : List Cl} {outs : List V} {ds : List D} {f : Bool} (ho : o.op = .store ty x y) (hi : T ty = some i) (hx : E x = .oq n k sz j off) (hm : m[n]? = some (some (.asr k (rowC Er sz rs) outs)))
    (hrs : ∀ r ∈ rs, r.length = sz) (hj : rs[j]? = some cells) (hy : toDs (E y).cells = some (ds, f)) (hdl : ds.length = i.size) (hle : off + ds.length ≤ sz) :
    OpTr P o E m .un (m.set n (some (.asr k (rowC Er sz (rs.set j (cells.take off ++ ds.map .d ++ cells.drop (off + ds.length)))) outs))) := by
  intro B w0 N S t a w hs hr
  have hx' := hr x (by rw [ho]; simp [Op.operands])
  have hy' := hr y (by rw [ho]; simp [Op.operands])
  rw [hx] at hx'
  have hTF : ∀ b, S true b → S false b := fun b hb => (hs.fresh b hb).1
  obtain ⟨hne, hdsl, hdr⟩ := toDs_one hTF hy' hy
  have hdr := hdr false fun h => by cases h
  obtain ⟨q1, q2⟩ : (∀ c ∈ (a.eval y).cells.toList, c.oneCell' = true) ∧ (a.eval y).cells.size = ds.length := by
    refine ⟨fun c hc => ?_, hdsl.symm⟩
    obtain ⟨p, hp⟩ := List.getElem?_of_mem hc
    have hlt : p < ds.length := by rw [hdsl]; have := lt_of_get hp; simpa using this
    have := hdr p _ (List.getElem?_eq_getElem hlt)
    rw [getD_of_get hp] at this
    exact this.one
  obtain ⟨w', main, own, uo, us, us', r1, r2, r3, r4, r5, r6, r7, r8, r9, r10⟩ := store_run (P := P) hT hs hi hm hrs hj hx' q1 (by omega) (by omega)
  obtain ⟨cs1, mid, cs2, s1, s2, s3, s4⟩ := cells_split hrs hj hle (ds.map Cl.d)
  rw [s1] at r4
  obtain ⟨us1, us2, ow1, ow2, rfl, rfl, c1, c2⟩ := r4.unapp
  obtain ⟨us3, us4, ow3, ow4, rfl, rfl, c3, c4⟩ := c2.unapp
  have l1 : us1.length = j * sz + off := by rw [← c1.len]; exact s3
  have l3 : us3.length = ds.length := by rw [← c3.len]; exact s4
  have e10 : us' = us1 ++ ((a.eval y).cells.toList ++ us4) := by
    rw [r10, ← l1, q2, ← l3]
    simp [List.drop_append]
  have hmain : ∃ N', Sat B w0 N' S t (m.set n (some (.asr k (ctA (rowM Er sz rs.length) (cs1 ++ (ds.map Cl.d ++ cs2))) outs))) a w' ∧ ∀ v u, RelV N S w v u → RelV N' S w' v u := by
    refine hs.ct (own' := ow1 ++ ow4) hm r2 r3 rfl r6 r7 r8 r9 ?_ r5 fun hS hO => ?_
    · exact List.Sublist.append (List.Sublist.refl _) (List.sublist_append_right _ _)
    · rw [e10]
      refine (c1.mono (fun _ h => h) hS fun u hu => hO u (by simp [hu])).app ?_
      have hd : Cells (S false) w' uo (ds.map .d) (a.eval y).cells.toList [] := Cells.ds (by simpa using q2.symm) fun p dd u h1 h2 => by
        have := hdr p dd h1
        rw [getD_of_get h2] at this
        exact this.mono (fun _ h => h) hS
      exact hd.app (c4.mono (fun _ h => h) hS fun u hu => hO u (by simp [hu]))
  obtain ⟨N', g1, g2⟩ := hmain
  refine opOk_skip (w' := w') ?_ ⟨N', S, ?_, .un _⟩
  · unfold execOp
    simp only [ho]
    exact run_u r1
  · unfold rowC
    rw [s2, List.length_set]
    exact g1
theorem ot_ctR (hT : TOk P T) {o : Oper} {E : Operand → V} {ty n k Er sz j off d kd E' sz' : Nat} {x y : Operand} {i : TI} {rs : List (List Cl)} {cells : List Cl} {c0 : Cl} {outs : List V} {f : Bool} {xs : List (List D)} (ho : o.op = .store ty x y) (hi : T ty = some i) (hi1 : i.size = 1) (hx : E x = .oq n k sz j off) (hm : m[n]? = some (some (.asr k (rowC Er sz rs) outs)))
    (hrs : ∀ r ∈ rs, r.length = sz) (hj : rs[j]? = some cells) (hc0 : cells[off]? = some c0) (hy : E y = .ow d kd) (hd : m[d]? = some (some (.row kd E' sz' f xs))) :
    OpTr P o E m .un ((m.set n (some (.asr k (rowC Er sz (rs.set j (cells.set off (.r E' sz' xs)))) outs))).set d (some (.row (kd + 1) E' sz' true []))) := by
  intro B w0 N S t a w hs hr
  have hx' := hr x (by rw [ho]; simp [Op.operands])
  have hy' := hr y (by rw [ho]; simp [Op.operands])
  rw [hx] at hx'; rw [hy] at hy'
  obtain ⟨ud, hNd, hrow⟩ := row_val hs hd
  have hud : a.eval y = ud := by
    have := ow_of hNd hy'
    obtain ⟨A, c, hsl⟩ := hrow.slice
    rw [this, hsl]; rfl
  have hcells : (a.eval y).cells = #[ud] := by
    obtain ⟨A, c, hsl⟩ := hrow.slice
    rw [hud, hsl]; rfl
  have hcl : cells.length = sz := hrs _ (List.mem_of_getElem? hj)
  have hol := lt_of_get hc0
  obtain ⟨w', main, own, uo, us, us', r1, r2, r3, r4, r5, r6, r7, r8, r9, r10⟩ := store_run (P := P) (u := a.eval y) hT hs hi hm hrs hj hx' (fun c hc => by rw [hcells] at hc; simp at hc; subst hc; obtain ⟨A, c, rfl⟩ := hrow.slice; rfl) (by rw [hcells]; simpa using hi1.symm) (by rw [hcells]; simp; omega)
  obtain ⟨cs1, cs2, s1, s2, s3⟩ := cell_split hj hc0 (.r E' sz' xs)
  rw [s1] at r4
  obtain ⟨us1, us2', ow1, ow2', rfl, rfl, c1, c2⟩ := r4.unapp
  obtain ⟨u0, us2, rfl⟩ : ∃ u0 us2, us2' = u0 :: us2 := by
    cases us2' with
    | nil => have := c2.len; simp at this
    | cons u us => exact ⟨u, us, rfl⟩
  obtain ⟨ow3, hsub, c3⟩ := c2.tl
  have l1 : us1.length = j * sz + off := by
    rw [← c1.len, s3, List.length_append, flat_length (sz := sz) (fun r hr => hrs r (List.mem_of_mem_take hr)), List.length_take, List.length_take]
    have := lt_of_get hj
    rw [Nat.min_eq_left (by omega), Nat.min_eq_left (by omega)]
  have e10 : us' = us1 ++ (ud :: us2) := by
    rw [r10, ← l1, hcells]
    simp [List.drop_append]
  have hmain : ∃ N', Sat B w0 N' S t ((m.set n (some (.asr k (ctA (rowM Er sz rs.length) (cs1 ++ .r E' sz' xs :: cs2)) outs))).set d (some (.row (kd + 1) E' sz' true []))) a w' ∧ ∀ v u, RelV N S w v u → RelV N' S w' v u := by
    refine hs.ctr (own' := ow1 ++ ud :: ow3) hm hd hNd r2 r3 r6 r7 r8 r9 ⟨ow1 ++ ow3, List.Sublist.append (List.Sublist.refl _) hsub, List.perm_middle⟩ r5 fun hS hO => ?_
    rw [e10]
    exact (c1.mono (fun _ h => h) hS fun u hu => hO u (by simp [hu])).app (.r (hrow.mono (fun _ h => h) hS (hO ud (by simp))) (c3.mono (fun _ h => h) hS fun u hu => hO u (by simp [hu])))
  obtain ⟨N', g1, g2⟩ := hmain
  refine opOk_skip (w' := w') ?_ ⟨N', S, ?_, .un _⟩
  · unfold execOp
    simp only [ho]
    exact run_u r1
  · unfold rowC
    rw [s2, List.length_set]
    exact g1
end
end Go.Proofs.Ytmlednjhemnncaa
