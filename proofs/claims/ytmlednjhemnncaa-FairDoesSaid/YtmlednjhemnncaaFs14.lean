/- Texts joined by pack.py: XSxFy XSxT XSxU -/
import Derived.Test.YtmlednjhemnncaaFs13
import Derived.KernelRfl
import Derived.IntWalk
namespace Go.Proofs.Ytmlednjhemnncaa
open Go.RowKit
section
variable {P : Program} {T : Tab} {B : Fr} {w0 : World} {N : Names} {S : Sets} {t : List V} {m : List (Option Bk)} {a : Act} {w : World}
def isRow : Option (Option Bk) → Bool
  | some (some (.row ..)) => true
  | some (some (.asr ..)) => true
  | _ => false
def V.rev1 (m : List (Option Bk)) : V → V
  | .ow n k => match isRow m[n]? with
    | true => (match k with
      | 0 => .ow n fixV
      | _ => .un)
    | false => .ow n k
  | .oq n k s i o => match isRow m[n]? with
    | true => .un
    | false => .oq n k s i o
  | .vw n k s lo hi => match isRow m[n]? with
    | true => .un
    | false => .vw n k s lo hi
  | .ag _ => .un
  | .tu _ => .un
  | .fn _ _ _ => .un
  | v => v
def V.rev (m : List (Option Bk)) : V → V
  | .ag cs => .ag (cs.map (V.rev1 m))
  | .fn f n cs => .fn f n (cs.map (V.rev1 m))
  | v => v.rev1 m
def Bk.rev (m : List (Option Bk)) : Bk → Bk
  | .box cs bt => .box (cs.map (V.rev m)) bt
  | .row _ E sz f xs => .row fixV E sz f xs
  | .fz k E bs => .fz k E bs
  | .asr _ A outs => .asr fixV A (outs.map (V.rev m))
def revM (m : List (Option Bk)) : List (Option Bk) := m.map (Option.map (Bk.rev m))
theorem revM_get {j : Nat} {b' : Bk} (h : (revM m)[j]? = some (some b')) : ∃ b, m[j]? = some (some b) ∧ b' = b.rev m := by
  unfold revM at h
  rw [List.getElem?_map, Option.map_eq_some_iff] at h
  obtain ⟨x, h1, h2⟩ := h
  cases x with
  | none => cases h2
  | some b => simp at h2; exact ⟨b, h1, h2.symm⟩
def rows0 (m : List (Option Bk)) : Bool := m.all fun
  | some (.row k _ _ _ _) => Nat.beq k 0
  | some (.asr k _ _) => Nat.beq k 0
  | _ => true
theorem Sat.rev (hs : Sat B w0 N S t m a w) (h0 : rows0 m = true) (hg : B.ghost = []) :
    ∃ N', Sat B w0 N' S (t.map (V.rev m)) (revM m) a w ∧ (∀ j x v, N j = some (x, v) → ∃ x', N' j = some (x', v) ∧ (isRow m[j]? = true → x' = fixV)) := by
  let N' : Names := fun j => (N j).map fun p => (match isRow m[j]? with | true => fixV | false => p.1, p.2)
  have hN : ∀ {j x v}, N j = some (x, v) → N' j = some (match isRow m[j]? with | true => fixV | false => x, v) := fun {j x v} h => by simp [N', h]
  have hN2 : ∀ {j x v}, N' j = some (x, v) → ∃ x0, N j = some (x0, v) := fun {j x v} h => by
    simp only [N', Option.map_eq_some_iff] at h
    obtain ⟨p, h1, h2⟩ := h
    cases h2
    exact ⟨p.1, h1⟩
  have hrow0 : ∀ {j}, isRow m[j]? = true → ∀ {x v}, N j = some (x, v) → x = 0 := fun {j} hj {x v} hx => by
    unfold isRow at hj
    split at hj
    · rename_i k E sz f xs hm
      have := List.all_eq_true.1 h0 _ (List.mem_of_getElem? hm)
      obtain rfl := Nat.eq_of_beq_eq_true this
      obtain ⟨v', us, h1, _⟩ := hs.blk j _ hm
      rw [hx] at h1; cases h1; rfl
    · rename_i k A outs hm
      have := List.all_eq_true.1 h0 _ (List.mem_of_getElem? hm)
      obtain rfl := Nat.eq_of_beq_eq_true this
      obtain ⟨v', us, h1, _⟩ := hs.blk j _ hm
      rw [hx] at h1; cases h1; rfl
    · cases hj
  have hptr : ∀ {n : Nat} {p : Option Addr}, N n = some (0, .pointer p) → N' n = some (0, .pointer p) := fun {n p} h => by
    rw [hN h]
    cases hr : isRow m[n]? with
    | false => rfl
    | true =>
      exfalso
      unfold isRow at hr
      split at hr
      · rename_i k E sz f xs hm
        obtain ⟨v', us, h1, h2, _⟩ := hs.blk n _ hm
        rw [h] at h1; cases h1
        obtain ⟨A, c, h3⟩ := own_parts h2
        cases h3
      · rename_i k A outs hm
        obtain ⟨v', us, h1, h2, _⟩ := hs.blk n _ hm
        rw [h] at h1; cases h1
      · cases hr
  have one : ∀ {v u}, RelV N S w v u → RelV N' S w (v.rev1 m) u := by
    intro v u h
    cases h with
    | un v => exact .un _
    | cv v => exact .cv _
    | kb b => exact .kb _
    | sl f sz xs v h => exact .sl _ _ _ _ h
    | el f cells o b off hS u hc => exact .el _ _ _ _ _ hS _ hc
    | bx n o b hn => exact .bx _ _ _ (hptr hn)
    | ow n k u hu hn =>
      obtain ⟨k', v', g1, g2, g3⟩ := hn
      simp only [V.rev1]
      cases hr : isRow m[n]? with
      | true =>
        obtain rfl := hrow0 hr g1
        obtain rfl : k = 0 := Nat.le_zero.1 g2
        exact .ow _ _ _ hu ⟨fixV, v', by rw [hN g1, hr], Nat.le_refl _, fun _ => g3 rfl⟩
      | false => exact .ow _ _ _ hu ⟨k', v', by rw [hN g1, hr], g2, g3⟩
    | oq n k sz i o u hu hn =>
      obtain ⟨k', v', g1, g2, g3⟩ := hn
      simp only [V.rev1]
      cases hr : isRow m[n]? with
      | true => exact .un _
      | false => exact .oq _ _ _ _ _ _ hu ⟨k', v', by rw [hN g1, hr], g2, g3⟩
    | vw n k sz lo hi u hu hn =>
      obtain ⟨k', v', g1, g2, g3⟩ := hn
      simp only [V.rev1]
      cases hr : isRow m[n]? with
      | true => exact .un _
      | false => exact .vw _ _ _ _ _ _ hu ⟨k', v', by rw [hN g1, hr], g2, g3⟩
    | ag cs us hl h => exact .un _
    | tu cs us hl h => exact .un _
    | fn f n cs us vs hn hl h => exact .un _
    | ic t n b hn => exact .ic _ _ _ (hptr hn)
  have rel : ∀ {v u}, RelV N S w v u → RelV N' S w (v.rev m) u := by
    intro v u h
    unfold V.rev
    split
    · cases h with
      | ag _ us hl h =>
        refine .ag _ us (by simpa using hl) fun i v hv => ?_
        · rw [List.getElem?_map, Option.map_eq_some_iff] at hv
          obtain ⟨v', hv', rfl⟩ := hv
          exact one (h i v' hv')
    · cases h with
      | fn _ _ _ us vs hn hl h =>
        refine .fn _ _ _ us vs hn (by simpa using hl) fun i v hv => ?_
        · rw [List.getElem?_map, Option.map_eq_some_iff] at hv
          obtain ⟨v', hv', rfl⟩ := hv
          exact one (h i v' hv')
    · exact one h
  have list : ∀ {vs us}, RelL N S w vs us → RelL N' S w (vs.map (V.rev m)) us := fun {vs us} h => ⟨by simpa using h.1, fun i v hv => by
    rw [List.getElem?_map, Option.map_eq_some_iff] at hv
    obtain ⟨v', hv', rfl⟩ := hv
    exact rel (h.2 i v' hv')⟩
  refine ⟨N', ⟨hs.low, hs.nodef, list hs.tmps, fun j b' hj => ?_, fun j hj => ?_, fun j k x y u v g h1 h2 h3 h4 => ?_, fun f g hfg => ⟨(hs.data f g hfg).1, fun j x v h1 h2 => ?_⟩, hs.fresh, fun j x v g h1 h2 => ?_, hs.base, hs.old, fun n g hn => ?_, ⟨hs.more.size, fun p hp => (by rw [hg] at hp; cases hp), hs.more.aside, hs.more.inv⟩, fun n og hn => ?_⟩, fun j x v h => ?_⟩
  · obtain ⟨b, h1, rfl⟩ := revM_get hj
    have hH := hs.blk j b h1
    cases b with
    | box cs bt =>
      obtain ⟨g, ty, us, g1, g2, g3, g4⟩ := hH
      refine ⟨g, ty, us, hptr g1, g2, by simpa using g3, fun i v hv => ?_⟩
      rw [List.getElem?_map, Option.map_eq_some_iff] at hv
      obtain ⟨v', hv', rfl⟩ := hv
      exact rel (g4 i v' hv')
    | row k E sz f xs =>
      obtain ⟨v, us, g1, g2⟩ := hH
      refine ⟨v, us, ?_, g2⟩
      rw [hN g1, h1]
      rfl
    | fz k E bs =>
      obtain ⟨g, cap, us, fr, g1, g2⟩ := hH
      refine ⟨g, cap, us, fr, ?_, g2⟩
      rw [hN g1, h1]
      rfl
    | asr k A outs =>
      obtain ⟨fs, us, g1, g2, g3⟩ := hH
      refine ⟨fs, us, ?_, list g2, g3⟩
      rw [hN g1, h1]
      rfl
  · have : N j = none := hs.non j fun b hb => by
      refine hj (b.rev m) ?_
      unfold revM
      rw [List.getElem?_map, hb]
      rfl
    simp [N', this]
  · obtain ⟨x0, h1⟩ := hN2 h1
    obtain ⟨y0, h2⟩ := hN2 h2
    exact hs.apart j k x0 y0 u v g h1 h2 h3 h4
  · obtain ⟨x0, h1⟩ := hN2 h1
    exact (hs.data f g hfg).2 j x0 v h1 h2
  · obtain ⟨x0, h1⟩ := hN2 h1
    exact hs.own j x0 v g h1 h2
  · obtain ⟨h1, h2, h3⟩ := hs.lent n g hn
    exact ⟨by simpa using h1, by simpa using h2, hptr h3⟩
  · obtain ⟨h1, x, v, h2, h3⟩ := hs.stay n og hn
    exact ⟨by simpa using h1, _, v, hN h2, h3⟩
  · exact ⟨_, hN h, fun hr => by rw [hr]⟩
def fixRows (n : Nat) : List Bk → List (Option Bk) → Bool
  | [], _ => true
  | .row .. :: l, m => (match m[n]? with
    | some (some (.row k _ _ _ _)) => Nat.beq k fixV
    | _ => false) && fixRows (n + 1) l m
  | .asr .. :: l, m => (match m[n]? with
    | some (some (.asr k _ _)) => Nat.beq k fixV
    | _ => false) && fixRows (n + 1) l m
  | .box .. :: l, m => fixRows (n + 1) l m
  | _ :: _, _ => false
theorem fixRows_get : ∀ {l : List Bk} {n : Nat}, fixRows n l m = true → ∀ (k : Nat) (b : Bk), l[k]? = some b →
    (∃ cs bt, b = .box cs bt) ∨ (∃ k0 E sz f xs E' sz' f' xs', b = .row k0 E sz f xs ∧ m[n + k]? = some (some (.row fixV E' sz' f' xs'))) ∨ ∃ k0 A o A' o', b = .asr k0 A o ∧ m[n + k]? = some (some (.asr fixV A' o'))
  | [], n, h, k, b, hb => by simp at hb
  | .box cs bt :: l, n, h, k, b, hb => by
    simp only [fixRows] at h
    cases k with
    | zero => simp at hb; subst hb; exact .inl ⟨_, _, rfl⟩
    | succ k =>
      have := fixRows_get h k b (by simpa using hb)
      rwa [show n + 1 + k = n + (k + 1) by omega] at this
  | .row k0 E sz f xs :: l, n, h, k, b, hb => by
    simp only [fixRows, Bool.and_eq_true] at h
    cases k with
    | zero =>
      simp at hb; subst hb
      have h1 := h.1
      split at h1
      · rename_i k1 E' sz' f' xs' hm
        obtain rfl := Nat.eq_of_beq_eq_true h1
        exact .inr (.inl ⟨k0, E, sz, f, xs, E', sz', f', xs', rfl, hm⟩)
      · cases h1
    | succ k =>
      have := fixRows_get h.2 k b (by simpa using hb)
      rwa [show n + 1 + k = n + (k + 1) by omega] at this
  | .asr k0 A o :: l, n, h, k, b, hb => by
    simp only [fixRows, Bool.and_eq_true] at h
    cases k with
    | zero =>
      simp at hb; subst hb
      have h1 := h.1
      split at h1
      · rename_i k1 A' o' hm
        obtain rfl := Nat.eq_of_beq_eq_true h1
        exact .inr (.inr ⟨k0, A, o, A', o', rfl, hm⟩)
      · cases h1
    | succ k =>
      have := fixRows_get h.2 k b (by simpa using hb)
      rwa [show n + 1 + k = n + (k + 1) by omega] at this
  | .fz .. :: l, n, h, k, b, hb => by simp [fixRows] at h
def DoneX (sd : List V → List Nat) (T : Tab) (fn : Func) (m0 : List Bk) (res : V) (m' : List Bk) (e : Ex) (st : St) : Prop := DoneM sd T fn m0.length res m' e st ∧ fixRows fn.ntmps m0 st.m = true
def enterX (fn : Func) (args : List V) (m : List Bk) (K : St → Prop) : Prop :=
  forceAll ((args.map (V.sh fn.ntmps) ++ List.replicate (fn.ntmps - args.length) V.un).map (V.rev (inM fn.ntmps m))) fun t => forceM (revM (inM fn.ntmps m)) fun m => K ⟨t, m⟩
def DoneXG (sd : List V → List Nat) (T : Tab) (fn : Func) (m0 : List Bk) (res : V) (m' : List Bk) : Ex → St → Prop
  | .exit _, _ => False
  | _, st => ∃ st', Gh st st' ∧ DoneX sd T fn m0 res m' .normal st'
def BodyXG (sd : List V → List Nat) (P : Program) (T : Tab) (fn : Func) (args : List V) (m : List Bk) (res : V) (m' : List Bk) : Prop :=
  match fn.body with
  | some c => enterX fn args m fun st => awp P T c st (DoneXG sd T fn m res m')
  | none => False
def BodyX (sd : List V → List Nat) (P : Program) (T : Tab) (fn : Func) (args : List V) (m : List Bk) (res : V) (m' : List Bk) : Prop :=
  match fn.body with
  | some c => enterX fn args m fun st => awp P T c st (DoneX sd T fn m res m')
  | none => False
def rowV (n : Nat) : List Bk → List V
  | [] => []
  | _ :: l => .ow n fixV :: rowV (n + 1) l
theorem rowV_get : ∀ {l : List Bk} {n k : Nat} {v : V}, (rowV n l)[k]? = some v → v = .ow (n + k) fixV ∧ k < l.length
  | [], n, k, v, h => by simp [rowV] at h
  | b :: l, n, k, v, h => by
    cases k with
    | zero => simp [rowV] at h; subst h; exact ⟨rfl, by simp⟩
    | succ k =>
      have := rowV_get (l := l) (n := n + 1) (k := k) (by simpa [rowV] using h)
      exact ⟨by rw [this.1]; congr 1; omega, by simpa using this.2⟩
theorem mcalls_x {sd : List V → List Nat} (hT : TOk P T) (hm : P.follows .mixedOrders = true) {f : FuncId} {fn : Func} (hf : P.funcs[f]? = some fn) (hn : (fn.name == "runtime.NumGoroutine") = false) {args : List V} {m0 : List Bk} {res : V} {m1 : List Bk}
    (h16 : (decide (args.length ≤ fn.ntmps) && decide (m0.length ≤ 16)) = true) (h0 : rows0 (inM fn.ntmps m0) = true) (h : BodyX sd P T fn args m0 res m1) : MCallsG true P f args m0 res m1 := by
  simp only [Bool.and_eq_true, decide_eq_true_eq] at h16
  unfold BodyX at h
  cases hb : fn.body with
  | none => rw [hb] at h; exact h.elim
  | some c =>
    rw [hb] at h
    refine ⟨⟨fn, hf, hn, by rw [hb]; rfl⟩, fun w vs ns So hmem hvs => ?_⟩
    simp only [enterX, forceAll_eq, forceM_eq] at h
    obtain ⟨N1, hs1, hN1⟩ := (sat_enterM hmem hvs fn.ntmps h16.1 h16.2).rev h0 rfl
    have hval : ∀ (k : Nat) (v : Value), ns[k]? = some v → baseN fn.ntmps ns (fn.ntmps + k) = some (0, v) := fun k v hk => by
      unfold baseN
      rw [if_pos (by omega), show fn.ntmps + k - fn.ntmps = k by omega]
      simp [NamesOf, hk]
    have hrows : ∀ (k : Nat) (v : Value), ns[k]? = some v → isRow (inM fn.ntmps m0)[fn.ntmps + k]? = true → RelV N1 (oldS So) w (.ow (fn.ntmps + k) fixV) (hdv v) := fun k v hk hr => by
      obtain ⟨x', g1, g2⟩ := hN1 _ _ _ (hval k v hk)
      have g2 := g2 hr
      subst g2
      unfold isRow at hr
      split at hr
      · rename_i k2 E sz f xs hm2
        obtain ⟨j, b0, e1, e2, e3⟩ := inM_get hm2
        obtain rfl : j = k := by omega
        cases b0 <;> simp only [Bk.sh] at e3 <;> cases e3
        obtain ⟨v', us, c1, c2, _⟩ := hmem.blk j _ e2
        have : v' = v := (by simpa [NamesOf, hk] using c1.symm : _ ∧ v' = v).2
        subst this
        obtain ⟨A, c, hv'⟩ := own_parts c2
        exact .ow _ _ _ (by rw [hv']; rfl) ⟨fixV, v', g1, Nat.le_refl _, fun _ => rfl⟩
      · rename_i k2 A outs hm2
        obtain ⟨j, b0, e1, e2, e3⟩ := inM_get hm2
        obtain rfl : j = k := by omega
        cases b0 <;> simp only [Bk.sh] at e3 <;> cases e3
        obtain ⟨fs, us, c1, c2, c3⟩ := hmem.blk j _ e2
        have : v = .agg fs := (by simpa [NamesOf, hk] using c1 : _ ∧ v = .agg fs).2
        subst this
        exact .ow _ _ _ (A.one c3) ⟨fixV, _, g1, Nat.le_refl _, fun _ => rfl⟩
      · cases hr
    let gs : List (V × Value) := ((rowV fn.ntmps m0).zip (ns.map hdv)).filter fun p => match p.1 with | .ow j _ => isRow (inM fn.ntmps m0)[j]? | _ => false
    have hgs : ∀ p ∈ gs, RelV N1 (oldS So) w p.1 p.2 := by
      intro p hp
      simp only [gs, List.mem_filter] at hp
      obtain ⟨hp1, hp2⟩ := hp
      obtain ⟨k, hk⟩ := List.getElem?_of_mem hp1
      rw [List.getElem?_zip_eq_some] at hk
      obtain ⟨e1, _⟩ := rowV_get hk.1
      rw [e1] at hp2 ⊢
      have hk2 := hk.2
      rw [List.getElem?_map, Option.map_eq_some_iff] at hk2
      obtain ⟨v, hv, hv2⟩ := hk2
      rw [← hv2]
      exact hrows k _ hv hp2
    have hs2 : Sat { frM w ns So fn.ntmps with ghost := gs } w N1 (oldS So) _ (revM (inM fn.ntmps m0)) _ w :=
      ⟨hs1.low, hs1.nodef, hs1.tmps, hs1.blk, hs1.non, hs1.apart, hs1.data, hs1.fresh, hs1.own, hs1.base, hs1.old, hs1.lent, ⟨hs1.more.size, hgs, hs1.more.aside, hs1.more.inv⟩, hs1.stay⟩
    have hfr : FrOk { frM w ns So fn.ntmps with ghost := gs } := ⟨by
      intro p hp
      simp only [gs, List.mem_filter] at hp
      obtain ⟨k, hk⟩ := List.getElem?_of_mem hp.1
      rw [List.getElem?_zip_eq_some] at hk
      exact ⟨_, (rowV_get hk.1).1⟩, rfl⟩
    refine calls_of_wp hf hb (Go.wp_mono (awp_sound (B := { frM w ns So fn.ntmps with ghost := gs }) (w0 := w) hT hm hfr c _ _ w ⟨_, _, _, _, hs2, h⟩) ?_)
    have key := doneM_ret (P := P) (sd := sd) (st := true) (fn := fn) (res := res) (m1 := m1) hT hmem
    have fin : ∀ (a : Act) (w' : World), OkSt { frM w ns So fn.ntmps with ghost := gs } w (DoneX sd T fn m0 res m1 .ret) a w' → ∃ N S t m, Sat (frM w ns So fn.ntmps) w N S t m a w' ∧ DoneM sd T fn m0.length res m1 .ret ⟨t, m⟩ ∧ (true = true → ∀ (k : Nat) (v : Value), ns[k]? = some v → ∃ x v', N (fn.ntmps + k) = some (x, v') ∧ SameHd v v') := by
      rintro a w' ⟨N, S, t, m, hs, hd, hfix⟩
      have hs' : Sat (frM w ns So fn.ntmps) w N S t m a w' := ⟨hs.low, hs.nodef, hs.tmps, hs.blk, hs.non, hs.apart, hs.data, hs.fresh, hs.own, hs.base, hs.old, hs.lent, ⟨hs.more.size, fun p hp => (by cases hp), hs.more.aside, hs.more.inv⟩, hs.stay⟩
      refine ⟨N, S, t, m, hs', hd, fun _ k v hk => ?_⟩
      have hkl := lt_of_get hk
      rw [hmem.len] at hkl
      have hbk := List.getElem?_eq_getElem hkl
      have hin : (inM fn.ntmps m0)[fn.ntmps + k]? = some (some (m0[k].sh fn.ntmps)) := by
        unfold inM
        rw [List.getElem?_append_left (by simp; omega), List.getElem?_append_right (by simp)]
        simp [hkl]
      have hmem2 : isRow (inM fn.ntmps m0)[fn.ntmps + k]? = true → (V.ow (fn.ntmps + k) fixV, hdv v) ∈ gs := fun hr => by
        simp only [gs, List.mem_filter]
        refine ⟨List.mem_of_getElem? (i := k) ?_, hr⟩
        rw [List.getElem?_zip_eq_some]
        refine ⟨?_, by rw [List.getElem?_map, hk]; rfl⟩
        have : ∀ (l : List Bk) (n k : Nat), k < l.length → (rowV n l)[k]? = some (.ow (n + k) fixV) := by
          intro l
          induction l with
          | nil => intro n k h; simp at h
          | cons b l ih =>
            intro n k h
            cases k with
            | zero => simp [rowV]
            | succ k => simp only [rowV, List.getElem?_cons_succ]; rw [ih (n + 1) k (by simpa using h)]; congr 2; omega
        exact this m0 fn.ntmps k hkl
      rcases fixRows_get hfix k _ hbk with ⟨cs, bt, hbx⟩ | ⟨k0, E, sz, f, xs, E', sz', f', xs', e, hm'⟩ | ⟨k0, A, o, A', o', e, hm'⟩
      · obtain ⟨g, ty, us, c1, _⟩ := hmem.blk k _ (hbk.trans (by rw [hbx]))
        have hv : v = .pointer (some ⟨g, 0, none⟩) := by simpa [NamesOf, hk] using c1
        subst hv
        have := (hs'.lent (fn.ntmps + k) ⟨g, 0, none⟩ (by simp [frM, hk])).2.2
        exact ⟨_, _, this, .inl rfl⟩
      · have hg := hs.more.ghost _ (hmem2 (by rw [hin, e]; rfl))
        obtain ⟨v', us', c1, c2, _⟩ := hs.blk _ _ hm'
        obtain ⟨v0, us0, d1, d2, _⟩ := hmem.blk k _ (hbk.trans (by rw [e]))
        have hv0 : v = v0 := (by simpa [NamesOf, hk] using d1 : _ ∧ v = v0).2
        subst hv0
        obtain ⟨A0, c0, hv0⟩ := own_parts d2
        cases hg with
        | ow _ _ _ hu hx =>
          obtain ⟨k', v2, g1, g2, g3⟩ := hx
          rw [c1] at g1; cases g1
          obtain ⟨A, c, hv'⟩ := own_parts c2
          have hvv : v' = v := by
            have := g3 rfl
            rw [hv0, hv'] at this
            rw [hv0, hv']
            exact this.symm
          exact ⟨fixV, v', c1, .inl hvv⟩
      · have hg := hs.more.ghost _ (hmem2 (by rw [hin, e]; rfl))
        obtain ⟨fs', us', c1, c2, _⟩ := hs.blk _ _ hm'
        obtain ⟨fs0, us0, d1, d2, _⟩ := hmem.blk k _ (hbk.trans (by rw [e]))
        have hv0 : v = .agg fs0 := (by simpa [NamesOf, hk] using d1 : _ ∧ v = .agg fs0).2
        subst hv0
        cases hg with
        | ow _ _ _ hu hx =>
          obtain ⟨k', v2, g1, g2, g3⟩ := hx
          rw [c1] at g1; cases g1
          exact ⟨fixV, _, c1, .inr ⟨fs0, fs', rfl, rfl, (g3 rfl).symm⟩⟩
    intro e a w' h
    cases e <;> simp only [QK] at h <;> first | exact h.elim | skip
    · exact key a w' (fin a w' h)
    · obtain ⟨N, S, t, m, hs, h⟩ := h; exact h.1.elim
    · exact key a w' (fin a w' h)
theorem mcalls_xG {sd : List V → List Nat} (hT : TOk P T) (hm : P.follows .mixedOrders = true) {f : FuncId} {fn : Func} (hf : P.funcs[f]? = some fn) (hn : (fn.name == "runtime.NumGoroutine") = false) {args : List V} {m0 : List Bk} {res : V} {m1 : List Bk}
    (h16 : (decide (args.length ≤ fn.ntmps) && decide (m0.length ≤ 16)) = true) (h0 : rows0 (inM fn.ntmps m0) = true) (h : BodyXG sd P T fn args m0 res m1) : MCallsG true P f args m0 res m1 := by
  simp only [Bool.and_eq_true, decide_eq_true_eq] at h16
  unfold BodyXG at h
  cases hb : fn.body with
  | none => rw [hb] at h; exact h.elim
  | some c =>
    rw [hb] at h
    refine ⟨⟨fn, hf, hn, by rw [hb]; rfl⟩, fun w vs ns So hmem hvs => ?_⟩
    simp only [enterX, forceAll_eq, forceM_eq] at h
    obtain ⟨N1, hs1, hN1⟩ := (sat_enterM hmem hvs fn.ntmps h16.1 h16.2).rev h0 rfl
    have hval : ∀ (k : Nat) (v : Value), ns[k]? = some v → baseN fn.ntmps ns (fn.ntmps + k) = some (0, v) := fun k v hk => by
      unfold baseN
      rw [if_pos (by omega), show fn.ntmps + k - fn.ntmps = k by omega]
      simp [NamesOf, hk]
    have hrows : ∀ (k : Nat) (v : Value), ns[k]? = some v → isRow (inM fn.ntmps m0)[fn.ntmps + k]? = true → RelV N1 (oldS So) w (.ow (fn.ntmps + k) fixV) (hdv v) := fun k v hk hr => by
      obtain ⟨x', g1, g2⟩ := hN1 _ _ _ (hval k v hk)
      have g2 := g2 hr
      subst g2
      unfold isRow at hr
      split at hr
      · rename_i k2 E sz f xs hm2
        obtain ⟨j, b0, e1, e2, e3⟩ := inM_get hm2
        obtain rfl : j = k := by omega
        cases b0 <;> simp only [Bk.sh] at e3 <;> cases e3
        obtain ⟨v', us, c1, c2, _⟩ := hmem.blk j _ e2
        have : v' = v := (by simpa [NamesOf, hk] using c1.symm : _ ∧ v' = v).2
        subst this
        obtain ⟨A, c, hv'⟩ := own_parts c2
        exact .ow _ _ _ (by rw [hv']; rfl) ⟨fixV, v', g1, Nat.le_refl _, fun _ => rfl⟩
      · rename_i k2 A outs hm2
        obtain ⟨j, b0, e1, e2, e3⟩ := inM_get hm2
        obtain rfl : j = k := by omega
        cases b0 <;> simp only [Bk.sh] at e3 <;> cases e3
        obtain ⟨fs, us, c1, c2, c3⟩ := hmem.blk j _ e2
        have : v = .agg fs := (by simpa [NamesOf, hk] using c1 : _ ∧ v = .agg fs).2
        subst this
        exact .ow _ _ _ (A.one c3) ⟨fixV, _, g1, Nat.le_refl _, fun _ => rfl⟩
      · cases hr
    let gs : List (V × Value) := ((rowV fn.ntmps m0).zip (ns.map hdv)).filter fun p => match p.1 with | .ow j _ => isRow (inM fn.ntmps m0)[j]? | _ => false
    have hgs : ∀ p ∈ gs, RelV N1 (oldS So) w p.1 p.2 := by
      intro p hp
      simp only [gs, List.mem_filter] at hp
      obtain ⟨hp1, hp2⟩ := hp
      obtain ⟨k, hk⟩ := List.getElem?_of_mem hp1
      rw [List.getElem?_zip_eq_some] at hk
      obtain ⟨e1, _⟩ := rowV_get hk.1
      rw [e1] at hp2 ⊢
      have hk2 := hk.2
      rw [List.getElem?_map, Option.map_eq_some_iff] at hk2
      obtain ⟨v, hv, hv2⟩ := hk2
      rw [← hv2]
      exact hrows k _ hv hp2
    have hs2 : Sat { frM w ns So fn.ntmps with ghost := gs } w N1 (oldS So) _ (revM (inM fn.ntmps m0)) _ w :=
      ⟨hs1.low, hs1.nodef, hs1.tmps, hs1.blk, hs1.non, hs1.apart, hs1.data, hs1.fresh, hs1.own, hs1.base, hs1.old, hs1.lent, ⟨hs1.more.size, hgs, hs1.more.aside, hs1.more.inv⟩, hs1.stay⟩
    have hfr : FrOk { frM w ns So fn.ntmps with ghost := gs } := ⟨by
      intro p hp
      simp only [gs, List.mem_filter] at hp
      obtain ⟨k, hk⟩ := List.getElem?_of_mem hp.1
      rw [List.getElem?_zip_eq_some] at hk
      exact ⟨_, (rowV_get hk.1).1⟩, rfl⟩
    refine calls_of_wp hf hb (Go.wp_mono (awp_sound (B := { frM w ns So fn.ntmps with ghost := gs }) (w0 := w) hT hm hfr c _ _ w ⟨_, _, _, _, hs2, h⟩) ?_)
    have key := doneM_ret (P := P) (sd := sd) (st := true) (fn := fn) (res := res) (m1 := m1) hT hmem
    have fin : ∀ (a : Act) (w' : World), OkSt { frM w ns So fn.ntmps with ghost := gs } w (DoneX sd T fn m0 res m1 .ret) a w' → ∃ N S t m, Sat (frM w ns So fn.ntmps) w N S t m a w' ∧ DoneM sd T fn m0.length res m1 .ret ⟨t, m⟩ ∧ (true = true → ∀ (k : Nat) (v : Value), ns[k]? = some v → ∃ x v', N (fn.ntmps + k) = some (x, v') ∧ SameHd v v') := by
      rintro a w' ⟨N, S, t, m, hs, hd, hfix⟩
      have hs' : Sat (frM w ns So fn.ntmps) w N S t m a w' := ⟨hs.low, hs.nodef, hs.tmps, hs.blk, hs.non, hs.apart, hs.data, hs.fresh, hs.own, hs.base, hs.old, hs.lent, ⟨hs.more.size, fun p hp => (by cases hp), hs.more.aside, hs.more.inv⟩, hs.stay⟩
      refine ⟨N, S, t, m, hs', hd, fun _ k v hk => ?_⟩
      have hkl := lt_of_get hk
      rw [hmem.len] at hkl
      have hbk := List.getElem?_eq_getElem hkl
      have hin : (inM fn.ntmps m0)[fn.ntmps + k]? = some (some (m0[k].sh fn.ntmps)) := by
        unfold inM
        rw [List.getElem?_append_left (by simp; omega), List.getElem?_append_right (by simp)]
        simp [hkl]
      have hmem2 : isRow (inM fn.ntmps m0)[fn.ntmps + k]? = true → (V.ow (fn.ntmps + k) fixV, hdv v) ∈ gs := fun hr => by
        simp only [gs, List.mem_filter]
        refine ⟨List.mem_of_getElem? (i := k) ?_, hr⟩
        rw [List.getElem?_zip_eq_some]
        refine ⟨?_, by rw [List.getElem?_map, hk]; rfl⟩
        have : ∀ (l : List Bk) (n k : Nat), k < l.length → (rowV n l)[k]? = some (.ow (n + k) fixV) := by
          intro l
          induction l with
          | nil => intro n k h; simp at h
          | cons b l ih =>
            intro n k h
            cases k with
            | zero => simp [rowV]
            | succ k => simp only [rowV, List.getElem?_cons_succ]; rw [ih (n + 1) k (by simpa using h)]; congr 2; omega
        exact this m0 fn.ntmps k hkl
      rcases fixRows_get hfix k _ hbk with ⟨cs, bt, hbx⟩ | ⟨k0, E, sz, f, xs, E', sz', f', xs', e, hm'⟩ | ⟨k0, A, o, A', o', e, hm'⟩
      · obtain ⟨g, ty, us, c1, _⟩ := hmem.blk k _ (hbk.trans (by rw [hbx]))
        have hv : v = .pointer (some ⟨g, 0, none⟩) := by simpa [NamesOf, hk] using c1
        subst hv
        have := (hs'.lent (fn.ntmps + k) ⟨g, 0, none⟩ (by simp [frM, hk])).2.2
        exact ⟨_, _, this, .inl rfl⟩
      · have hg := hs.more.ghost _ (hmem2 (by rw [hin, e]; rfl))
        obtain ⟨v', us', c1, c2, _⟩ := hs.blk _ _ hm'
        obtain ⟨v0, us0, d1, d2, _⟩ := hmem.blk k _ (hbk.trans (by rw [e]))
        have hv0 : v = v0 := (by simpa [NamesOf, hk] using d1 : _ ∧ v = v0).2
        subst hv0
        obtain ⟨A0, c0, hv0⟩ := own_parts d2
        cases hg with
        | ow _ _ _ hu hx =>
          obtain ⟨k', v2, g1, g2, g3⟩ := hx
          rw [c1] at g1; cases g1
          obtain ⟨A, c, hv'⟩ := own_parts c2
          have hvv : v' = v := by
            have := g3 rfl
            rw [hv0, hv'] at this
            rw [hv0, hv']
            exact this.symm
          exact ⟨fixV, v', c1, .inl hvv⟩
      · have hg := hs.more.ghost _ (hmem2 (by rw [hin, e]; rfl))
        obtain ⟨fs', us', c1, c2, _⟩ := hs.blk _ _ hm'
        obtain ⟨fs0, us0, d1, d2, _⟩ := hmem.blk k _ (hbk.trans (by rw [e]))
        have hv0 : v = .agg fs0 := (by simpa [NamesOf, hk] using d1 : _ ∧ v = .agg fs0).2
        subst hv0
        cases hg with
        | ow _ _ _ hu hx =>
          obtain ⟨k', v2, g1, g2, g3⟩ := hx
          rw [c1] at g1; cases g1
          exact ⟨fixV, _, c1, .inr ⟨fs0, fs', rfl, rfl, (g3 rfl).symm⟩⟩
    intro e a w' h
    cases e <;> simp only [QK] at h <;> first | exact h.elim | skip
    · obtain ⟨N, S, t, m, hs, ⟨t1, m2⟩, hg, h⟩ := h
      obtain ⟨N', S', hs'⟩ := hg _ _ _ _ _ _ hs
      exact key a w' (fin a w' ⟨N', S', t1, m2, hs', h⟩)
    · obtain ⟨N, S, t, m, hs, h⟩ := h; exact h.elim
    · obtain ⟨N, S, t, m, hs, ⟨t1, m2⟩, hg, h⟩ := h
      obtain ⟨N', S', hs'⟩ := hg _ _ _ _ _ _ hs
      exact key a w' (fin a w' ⟨N', S', t1, m2, hs', h⟩)
end
end Go.Proofs.Ytmlednjhemnncaa
namespace Go.Proofs.Ytmlednjhemnncaa
open Go.RowKit
def nthT : List (Option TI) → Nat → Option TI
  | [], _ => none
  | x :: _, 0 => x
  | _ :: l, n + 1 => nthT l n
def nthT2 : List (List (Option TI)) → Nat → List (Option TI)
  | [], _ => []
  | x :: _, 0 => x
  | _ :: l, n + 1 => nthT2 l n
def markOf : List (Nat × Bool) → Nat → Option Bool
  | [], _ => none
  | (g, b) :: l, f => match Nat.beq g f with
    | true => some b
    | false => markOf l f
def tab0 : List (Option TI) := [none,
  some ⟨1, 8, false, [.nilFunc], .other⟩,
  some ⟨1, 8, false, [.int .i64 0], .int .i64⟩,
  some ⟨1, 8, false, [.int .i64 0], .int .i64⟩,
  some ⟨1, 1, false, [.bool false], .bool⟩,
  some ⟨1, 1, false, [.int .u8 0], .int .u8⟩,
  some ⟨1, 1, false, [.int .u8 0], .int .u8⟩,
  some ⟨4, 24, true, [.int .i64 0, .int .i64 0, .bool false, .int .u8 0], .struct [(0, 2), (1, 3), (2, 4), (3, 6)]⟩,
  some ⟨4, 24, true, [.int .i64 0, .int .i64 0, .bool false, .int .u8 0], .struct [(0, 2), (1, 3), (2, 4), (3, 6)]⟩,
  some ⟨1, 16, false, [.string ⟨#[]⟩], .string⟩,
  some ⟨1, 16, false, [.string ⟨#[]⟩], .string⟩,
  some ⟨1, 16, false, [.string ⟨#[]⟩], .string⟩,
  some ⟨1, 8, false, [.int .u64 0], .int .u64⟩,
  some ⟨2, 24, true, [.string ⟨#[]⟩, .int .u64 0], .struct [(0, 9), (1, 12)]⟩,
  some ⟨2, 24, true, [.string ⟨#[]⟩, .int .u64 0], .struct [(0, 9), (1, 12)]⟩,
  some ⟨1, 8, false, [.pointer none], .ptr 80⟩]
def tab1 : List (Option TI) := [some ⟨1, 8, false, [.pointer none], .ptr 83⟩,
  some ⟨1, 8, false, [.pointer none], .ptr 92⟩,
  some ⟨1, 8, true, [.pointer none], .struct [(0, 17)]⟩,
  some ⟨1, 8, true, [.pointer none], .struct [(0, 17)]⟩,
  some ⟨1, 16, false, [.nilIface], .other⟩,
  some ⟨1, 4, false, [.int .i32 0], .int .i32⟩,
  some ⟨1, 24, false, [.slice none 0 0], .slice 36⟩,
  some ⟨4, 64, true, [.int .i64 0, .slice none 0 0, .string ⟨#[]⟩, .string ⟨#[]⟩], .struct [(0, 3), (1, 22), (2, 9), (3, 9)]⟩,
  some ⟨4, 64, true, [.int .i64 0, .slice none 0 0, .string ⟨#[]⟩, .string ⟨#[]⟩], .struct [(0, 3), (1, 22), (2, 9), (3, 9)]⟩,
  some ⟨1, 8, false, [.pointer none], .ptr 51⟩,
  some ⟨1, 8, false, [.int .i64 0], .int .i64⟩,
  none,
  some ⟨1, 8, false, [.nilFunc], .other⟩,
  some ⟨1, 8, false, [.pointer none], .ptr 60⟩,
  none,
  some ⟨1, 8, false, [.nilFunc], .other⟩]
def tab2 : List (Option TI) := [some ⟨1, 8, false, [.nilFunc], .other⟩,
  some ⟨3, 40, true, [.string ⟨#[]⟩, .string ⟨#[]⟩, .int .i64 0], .struct [(0, 9), (1, 9), (2, 3)]⟩,
  some ⟨3, 40, true, [.string ⟨#[]⟩, .string ⟨#[]⟩, .int .i64 0], .struct [(0, 9), (1, 9), (2, 3)]⟩,
  some ⟨5, 56, true, [.int .i64 0, .string ⟨#[]⟩, .string ⟨#[]⟩, .int .i64 0, .int .i64 0], .struct [(0, 3), (1, 34), (4, 3)]⟩,
  some ⟨5, 56, true, [.int .i64 0, .string ⟨#[]⟩, .string ⟨#[]⟩, .int .i64 0, .int .i64 0], .struct [(0, 3), (1, 34), (4, 3)]⟩,
  some ⟨1, 8, false, [.nilFunc], .other⟩,
  some ⟨1, 8, false, [.nilFunc], .other⟩,
  some ⟨1, 8, false, [.nilFunc], .other⟩,
  some ⟨1, 24, false, [.slice none 0 0], .slice 34⟩,
  some ⟨1, 8, false, [.nilFunc], .other⟩,
  none,
  some ⟨1, 8, false, [.nilFunc], .other⟩,
  some ⟨1, 8, false, [.nilFunc], .other⟩,
  some ⟨1, 8, false, [.nilFunc], .other⟩,
  some ⟨1, 8, false, [.nilFunc], .other⟩,
  some ⟨1, 8, false, [.map none], .map⟩]
def tab3 : List (Option TI) := [some ⟨1, 8, false, [.map none], .map⟩,
  some ⟨1, 24, false, [.slice none 0 0], .slice 9⟩,
  some ⟨6, 64, true, [.int .i64 0, .map none, .map none, .map none, .slice none 0 0, .bool false], .struct [(0, 3), (1, 47), (2, 48), (3, 47), (4, 49), (5, 4)]⟩,
  some ⟨6, 64, true, [.int .i64 0, .map none, .map none, .map none, .slice none 0 0, .bool false], .struct [(0, 3), (1, 47), (2, 48), (3, 47), (4, 49), (5, 4)]⟩,
  some ⟨1, 8, false, [.nilFunc], .other⟩,
  some ⟨4, 32, true, [.int .i64 0, .int .i64 0, .int .i64 0, .bool false], .struct [(0, 3), (1, 3), (2, 3), (3, 4)]⟩,
  some ⟨4, 32, true, [.int .i64 0, .int .i64 0, .int .i64 0, .bool false], .struct [(0, 3), (1, 3), (2, 3), (3, 4)]⟩,
  some ⟨1, 8, false, [.nilFunc], .other⟩,
  some ⟨1, 8, false, [.nilFunc], .other⟩,
  some ⟨1, 24, false, [.slice none 0 0], .slice 66⟩,
  some ⟨1, 24, false, [.slice none 0 0], .slice 64⟩,
  some ⟨4, 64, true, [.int .i64 0, .slice none 0 0, .slice none 0 0, .bool false], .struct [(0, 3), (1, 57), (2, 58), (3, 4)]⟩,
  some ⟨4, 64, true, [.int .i64 0, .slice none 0 0, .slice none 0 0, .bool false], .struct [(0, 3), (1, 57), (2, 58), (3, 4)]⟩,
  some ⟨1, 8, false, [.nilFunc], .other⟩,
  some ⟨1, 8, false, [.nilFunc], .other⟩,
  some ⟨3, 48, true, [.string ⟨#[]⟩, .slice none 0 0, .int .i64 0], .struct [(0, 9), (1, 40), (2, 3)]⟩]
def tab4 : List (Option TI) := [some ⟨3, 48, true, [.string ⟨#[]⟩, .slice none 0 0, .int .i64 0], .struct [(0, 9), (1, 40), (2, 3)]⟩,
  some ⟨2, 24, true, [.string ⟨#[]⟩, .int .i64 0], .struct [(0, 9), (1, 3)]⟩,
  some ⟨2, 24, true, [.string ⟨#[]⟩, .int .i64 0], .struct [(0, 9), (1, 3)]⟩,
  some ⟨1, 8, false, [.nilFunc], .other⟩,
  some ⟨1, 8, false, [.nilFunc], .other⟩,
  some ⟨1, 8, false, [.nilFunc], .other⟩,
  some ⟨1, 8, false, [.nilFunc], .other⟩,
  some ⟨1, 8, false, [.nilFunc], .other⟩,
  none,
  some ⟨1, 8, false, [.nilFunc], .other⟩,
  some ⟨1, 8, false, [.nilFunc], .other⟩,
  some ⟨1, 8, false, [.nilFunc], .other⟩,
  some ⟨1, 8, false, [.nilFunc], .other⟩,
  some ⟨1, 8, false, [.nilFunc], .other⟩,
  some ⟨1, 8, false, [.nilFunc], .other⟩,
  some ⟨4, 40, true, [.pointer none, .pointer none, .pointer none, .string ⟨#[]⟩], .struct [(0, 17), (1, 17), (2, 17), (3, 9)]⟩]
def tab5 : List (Option TI) := [some ⟨4, 40, true, [.pointer none, .pointer none, .pointer none, .string ⟨#[]⟩], .struct [(0, 17), (1, 17), (2, 17), (3, 9)]⟩,
  some ⟨0, 0, true, [], .array 0 16⟩,
  some ⟨0, 0, true, [], .struct [(0, 81)]⟩,
  some ⟨0, 0, true, [], .struct [(0, 81)]⟩,
  some ⟨1, 4, false, [.int .u32 0], .int .u32⟩,
  some ⟨1, 1, false, [.int .u8 0], .int .u8⟩,
  some ⟨1, 1, false, [.int .u8 0], .int .u8⟩,
  some ⟨1, 8, false, [.nilFunc], .other⟩,
  some ⟨1, 8, false, [.pointer none], .ptr 5⟩,
  some ⟨1, 4, false, [.int .i32 0], .int .i32⟩,
  some ⟨1, 4, false, [.int .i32 0], .int .i32⟩,
  some ⟨11, 48, true, [.int .u64 0, .int .u64 0, .int .u32 0, .int .u8 0, .int .u8 0, .int .u8 0, .int .u8 0, .nilFunc, .pointer none, .int .i32 0, .int .i32 0], .struct [(0, 12), (1, 12), (2, 84), (3, 85), (4, 5), (5, 5), (6, 86), (7, 87), (8, 88), (9, 89), (10, 90)]⟩,
  some ⟨11, 48, true, [.int .u64 0, .int .u64 0, .int .u32 0, .int .u8 0, .int .u8 0, .int .u8 0, .int .u8 0, .nilFunc, .pointer none, .int .i32 0, .int .i32 0], .struct [(0, 12), (1, 12), (2, 84), (3, 85), (4, 5), (5, 5), (6, 86), (7, 87), (8, 88), (9, 89), (10, 90)]⟩,
  none]
def tabsT : List (List (Option TI)) := [tab0, tab1, tab2, tab3, tab4, tab5]
def marks : List (Nat × Bool) := []
def tab : Tab := ⟨fun t => nthT (nthT2 tabsT (t / 16)) (t % 16), markOf marks⟩
def ntab : Nat := 94
def TT : Tab := tabN ntab tab
theorem tabOk : TabOk Try.prog tab ntab := by unfold TabOk; kernel_rfl
theorem tok : TOk Try.prog TT := TOk.of tabOk
theorem mixed : Try.prog.follows .mixedOrders = true := by kernel_rfl
theorem sx {f : FuncId} {fn : Func} (hf : Try.prog.funcs[f]? = some fn) (hn : (fn.name == "runtime.NumGoroutine") = false) {args : List V} {res : V} (h : Body Try.prog TT fn args res) : DCalls Try.prog f args res :=
  dcalls_of tok mixed hf hn h
def TM (fs : List (Nat × Bool)) : Tab := ⟨TT.get, fun f => match markOf fs f with
  | some b => some b
  | none => TT.fm f⟩
theorem tokM (fs : List (Nat × Bool)) : TOk Try.prog (TM fs) := ⟨tok.get⟩
theorem sxm (fs : List (Nat × Bool)) {f : FuncId} {fn : Func} (hf : Try.prog.funcs[f]? = some fn) (hn : (fn.name == "runtime.NumGoroutine") = false) {args : List V} {res : V} (h : Body Try.prog (TM fs) fn args res) : DCalls Try.prog f args res :=
  dcalls_of (tokM fs) mixed hf hn h
theorem msxm (fs : List (Nat × Bool)) {f : FuncId} {fn : Func} (hf : Try.prog.funcs[f]? = some fn) (hn : (fn.name == "runtime.NumGoroutine") = false) {args : List V} {m : List Bk} {res : V} {m' : List Bk} (h16 : (decide (args.length ≤ fn.ntmps) && decide (m.length ≤ 16)) = true)
    (h : BodyM (fun vs => vs.flatMap V.bn) Try.prog (TM fs) fn args m res m') : MCalls Try.prog f args m res m' :=
  mcalls_of (tokM fs) mixed hf hn h16 h
theorem msxr {f : FuncId} {fn : Func} (hf : Try.prog.funcs[f]? = some fn) (hn : (fn.name == "runtime.NumGoroutine") = false) {args : List V} {m : List Bk} {res : V} {m' : List Bk} (h16 : (decide (args.length ≤ fn.ntmps) && decide (m.length ≤ 16)) = true)
    (h : BodyM (fun vs => vs.flatMap V.nm3) Try.prog TT fn args m res m') : MCalls Try.prog f args m res m' :=
  mcalls_of tok mixed hf hn h16 h
theorem msxg (fs : List (Nat × Bool)) {f : FuncId} {fn : Func} (hf : Try.prog.funcs[f]? = some fn) (hn : (fn.name == "runtime.NumGoroutine") = false) {args : List V} {m : List Bk} {res : V} {m' : List Bk} (h16 : (decide (args.length ≤ fn.ntmps) && decide (m.length ≤ 16)) = true)
    (h : BodyG (fun vs => vs.flatMap V.bn) Try.prog (TM fs) fn args m res m') : MCalls Try.prog f args m res m' :=
  mcalls_ofG (tokM fs) mixed hf hn h16 h
theorem msxgr (fs : List (Nat × Bool)) {f : FuncId} {fn : Func} (hf : Try.prog.funcs[f]? = some fn) (hn : (fn.name == "runtime.NumGoroutine") = false) {args : List V} {m : List Bk} {res : V} {m' : List Bk} (h16 : (decide (args.length ≤ fn.ntmps) && decide (m.length ≤ 16)) = true)
    (h : BodyG (fun vs => vs.flatMap V.nm3) Try.prog (TM fs) fn args m res m') : MCalls Try.prog f args m res m' :=
  mcalls_ofG (tokM fs) mixed hf hn h16 h
theorem msxx (fs : List (Nat × Bool)) {f : FuncId} {fn : Func} (hf : Try.prog.funcs[f]? = some fn) (hn : (fn.name == "runtime.NumGoroutine") = false) {args : List V} {m : List Bk} {res : V} {m' : List Bk} (h16 : (decide (args.length ≤ fn.ntmps) && decide (m.length ≤ 16)) = true) (h0 : rows0 (inM fn.ntmps m) = true)
    (h : BodyX (fun vs => vs.flatMap V.bn) Try.prog (TM fs) fn args m res m') : MCallsG true Try.prog f args m res m' :=
  mcalls_x (tokM fs) mixed hf hn h16 h0 h
theorem msxxg (fs : List (Nat × Bool)) {f : FuncId} {fn : Func} (hf : Try.prog.funcs[f]? = some fn) (hn : (fn.name == "runtime.NumGoroutine") = false) {args : List V} {m : List Bk} {res : V} {m' : List Bk} (h16 : (decide (args.length ≤ fn.ntmps) && decide (m.length ≤ 16)) = true) (h0 : rows0 (inM fn.ntmps m) = true)
    (h : BodyXG (fun vs => vs.flatMap V.bn) Try.prog (TM fs) fn args m res m') : MCallsG true Try.prog f args m res m' :=
  mcalls_xG (tokM fs) mixed hf hn h16 h0 h
abbrev int (n : Int) : V := .cv (.int .i64 n)
abbrev boo (b : Bool) : V := .cv (.bool b)
abbrev str (s : ByteArray) : V := .cv (.string s)
end Go.Proofs.Ytmlednjhemnncaa
namespace Go.Proofs.Ytmlednjhemnncaa
open Go.RowKit
theorem fin_int {a b : Int} (h : a = b) : int a = int b := by rw [h]
theorem fin_boo {a b : Bool} (h : a = b) : boo a = boo b := by rw [h]
theorem get_map {α : Type} (f : α → List D) {l : List α} {k : Nat} (h : k < l.length) : (l.map f)[(k : Int).toNat]? = some (f l[k]) := by
  simp [h]
theorem wrap_in {n : Int} (h : -9223372036854775808 ≤ n ∧ n ≤ 9223372036854775807) : IntKind.i64.wrap n = n := IntWalk.i64_in _ h
theorem wrap_succ {k : Nat} (h : k < 9223372036854775807) : IntKind.i64.wrap ((k : Int) + 1) = ((k + 1 : Nat) : Int) := by
  rw [IntWalk.i64_in _ (by omega)]; rfl
theorem and_rfl {α : Type} {a : α} {p : Prop} (h : p) : a = a ∧ p := ⟨rfl, h⟩
theorem and_two {p q : Prop} (h : p) (h' : q) : p ∧ q := ⟨h, h'⟩
theorem and_val {a b : Int} {p : Prop} (e : a = b) (h : p) : V.cv (.int .i64 a) = V.cv (.int .i64 b) ∧ p := ⟨by rw [e], h⟩
def V.val1 : V → Option Value
  | .cv v => some v
  | .kb b => some (.bool b)
  | _ => none
def valsL : List V → Option (List Value)
  | [] => some []
  | v :: l => match v.val1, valsL l with
    | some u, some us => some (u :: us)
    | _, _ => none
def V.val2 : V → Option Value
  | .ag cs => (valsL cs).map fun us => .agg us.toArray
  | v => v.val1
def valsL2 : List V → Option (List Value)
  | [] => some []
  | v :: l => match v.val2, valsL2 l with
    | some u, some us => some (u :: us)
    | _, _ => none
def V.val : V → Option Value
  | .tu vs => (valsL2 vs).map fun us => .tuple us.toArray
  | v => v.val2
section
variable {N : Names} {S : Sets} {w : World}
theorem val1_eq {v : V} {u u' : Value} (h : RelV N S w v u) (hv : v.val1 = some u') : u = u' := by
  cases h <;> simp [V.val1] at hv <;> exact hv
theorem valsL_eq : ∀ (cs : List V) (us : List Value), valsL cs = some us → us.length = cs.length ∧ ∀ (i : Nat) (v : V), cs[i]? = some v → ∃ u, us[i]? = some u ∧ v.val1 = some u
  | [], us, h => by simp [valsL] at h; subst h; simp
  | c :: cs, us, h => by
    simp only [valsL] at h
    split at h
    · rename_i u us' h1 h2
      cases h
      obtain ⟨e1, e2⟩ := valsL_eq cs us' h2
      refine ⟨by simp [e1], fun i v hv => ?_⟩
      cases i with
      | zero => simp at hv; subst hv; exact ⟨u, by simp, h1⟩
      | succ i => simpa using e2 i v (by simpa using hv)
    · cases h
theorem val2_eq {v : V} {u u' : Value} (h : RelV N S w v u) (hv : v.val2 = some u') : u = u' := by
  cases v with
  | ag cs =>
    simp only [V.val2, Option.map_eq_some_iff] at hv
    obtain ⟨us', h1, rfl⟩ := hv
    obtain ⟨e1, e2⟩ := valsL_eq cs us' h1
    cases h with
    | ag _ us hl h =>
      congr 1
      apply Array.ext'
      refine List.ext_getElem? fun i => ?_
      cases hi : cs[i]? with
      | none =>
        have h1 : cs.length ≤ i := List.getElem?_eq_none_iff.1 hi
        rw [List.getElem?_eq_none (by simp; omega), List.getElem?_eq_none (by simp; omega)]
      | some v =>
        obtain ⟨u, h3, h4⟩ := e2 i v hi
        have := val1_eq (h i v hi) h4
        have hlt : i < us.size := by have := lt_of_get hi; omega
        rw [get_of_lt hlt, this]
        simpa using h3.symm
  | _ => exact val1_eq h hv
theorem of_val1 {v : V} {u : Value} (hv : v.val1 = some u) : RelV N S w v u := by
  cases v <;> simp [V.val1] at hv <;> subst hv
  · exact .cv _
  · exact .kb _
theorem of_val2 {v : V} {u : Value} (hv : v.val2 = some u) : RelV N S w v u := by
  cases v with
  | ag cs =>
    simp only [V.val2, Option.map_eq_some_iff] at hv
    obtain ⟨us', h1, rfl⟩ := hv
    obtain ⟨e1, e2⟩ := valsL_eq cs us' h1
    refine .ag _ _ (by simp [e1]) fun i v hi => ?_
    obtain ⟨u, h3, h4⟩ := e2 i v hi
    rw [getD_of_get (us := us'.toArray) (by simpa using h3)]
    exact of_val1 h4
  | _ => exact of_val1 hv
theorem valsL2_eq : ∀ (cs : List V) (us : List Value), valsL2 cs = some us → us.length = cs.length ∧ ∀ (i : Nat) (v : V), cs[i]? = some v → ∃ u, us[i]? = some u ∧ v.val2 = some u
  | [], us, h => by simp [valsL2] at h; subst h; simp
  | c :: cs, us, h => by
    simp only [valsL2] at h
    split at h
    · rename_i u us' h1 h2
      cases h
      obtain ⟨e1, e2⟩ := valsL2_eq cs us' h2
      refine ⟨by simp [e1], fun i v hv => ?_⟩
      cases i with
      | zero => simp at hv; subst hv; exact ⟨u, by simp, h1⟩
      | succ i => simpa using e2 i v (by simpa using hv)
    · cases h
theorem of_val {v : V} {u : Value} (hv : v.val = some u) : RelV N S w v u := by
  cases v with
  | tu cs =>
    simp only [V.val, Option.map_eq_some_iff] at hv
    obtain ⟨us', h1, rfl⟩ := hv
    obtain ⟨e1, e2⟩ := valsL2_eq cs us' h1
    refine .tu _ _ (by simp [e1]) fun i v hi => ?_
    obtain ⟨u, h3, h4⟩ := e2 i v hi
    rw [getD_of_get (us := us'.toArray) (by simpa using h3)]
    exact of_val2 h4
  | _ => exact of_val2 hv
end
theorem dcalls_val {f : FuncId} {fn : Func} {args : List V} {res : V} {us : List Value} {v : Value} (hf : Try.prog.funcs[f]? = some fn) (hn : (fn.name == "runtime.NumGoroutine") = false) (hb : fn.body.isNone = false) (ha : valsL2 args = some us) (hr : res.val = some v)
    (h : ∀ w, ginv w → Calls Try.prog f us.toArray w fun e w' => e = .returned v ∧ Below w.heap.size w w') : DCalls Try.prog f args res := by
  refine ⟨⟨fn, hf, hn, hb⟩, fun w vs hg hvs => ?_⟩
  obtain ⟨e1, e2⟩ := valsL2_eq args us ha
  have : vs = us := by
    refine List.ext_getElem? fun i => ?_
    cases hi : args[i]? with
    | none =>
      have h1 : args.length ≤ i := List.getElem?_eq_none_iff.1 hi
      rw [List.getElem?_eq_none (by rw [← hvs.1]; exact h1), List.getElem?_eq_none (by omega)]
    | some v =>
      obtain ⟨u, h3, h4⟩ := e2 i v hi
      have h5 := val2_eq (hvs.2 i v hi) h4
      have hlt : i < vs.length := by rw [← hvs.1]; exact lt_of_get hi
      rw [h3, List.getElem?_eq_getElem hlt, ← h5, List.getD_eq_getElem?_getD, List.getElem?_eq_getElem hlt]
      rfl
  subst this
  exact (h w hg).mono fun e w' ⟨he, hb⟩ => ⟨v, he, of_val hr, hb⟩
end Go.Proofs.Ytmlednjhemnncaa
