/-
  A reader of code over states that name their own memory: steps of a walk by hand.
-/
import Derived.Test.YtppkkonhfkegoaaSxRA
namespace Go.Proofs.Ytppkkonhfkegoaa
open Go.RowKit

section
variable {P : Program} {T : Tab} {B : Fr} {w0 : World} {N : Names} {S : Sets} {t t1 : List V} {m m1 : List (Option Bk)} {a : Act} {w : World} {r : Option Nat} {n : Nat} {Q : Exit → Act → World → Prop} {ops : Array Oper}

theorem relL_un {k : Nat} {us : List Value} (h : us.length = k) : RelL N S w (List.replicate k .un) us :=
  ⟨by simp [h], fun i v hv => by
    rw [List.getElem?_replicate] at hv
    split at hv
    · cases hv; exact .un _
    · cases hv⟩

theorem tmp_of (hs : Sat B w0 N S t m a w) {d : Nat} {v : Value} (hb : t[d]? = some (.cv v)) : a.tmps[d]? = some v := by
  have hr := hs.tmps.2 d _ hb
  have hlt := lt_of_get hb
  rw [getD_toList] at hr
  have e : a.tmps.toList.length = a.tmps.size := by simp
  have hlt2 : d < a.tmps.size := by rw [← e, ← hs.tmps.1]; exact hlt
  have hget : a.tmps[d]? = some (a.tmps.getD d undef) := by simp [Array.getD_eq_getD_getElem?, hlt2]
  generalize a.tmps.getD d undef = z at hr hget
  cases hr
  exact hget

theorem tmpk_of (hs : Sat B w0 N S t m a w) {d : Nat} {b : Bool} (hb : t[d]? = some (.kb b)) : a.tmps[d]? = some (.bool b) := by
  have hr := hs.tmps.2 d _ hb
  have hlt := lt_of_get hb
  rw [getD_toList] at hr
  have e : a.tmps.toList.length = a.tmps.size := by simp
  have hlt2 : d < a.tmps.size := by rw [← e, ← hs.tmps.1]; exact hlt
  have hget : a.tmps[d]? = some (a.tmps.getD d undef) := by simp [Array.getD_eq_getD_getElem?, hlt2]
  generalize a.tmps.getD d undef = z at hr hget
  cases hr
  exact hget

theorem evk_of (hs : Sat B w0 N S t m a w) {d : Nat} {b : Bool} (hb : t[d]? = some (.kb b)) : a.eval (.tmp d) = .bool b := by
  simp [Act.eval, Array.getD_eq_getD_getElem?, tmpk_of hs hb]

theorem wanted_kb (hs : Sat B w0 N S t m a w) {o : Oper} {j d : Nat} {want : Bool} (hg : o.guard = some (j, want)) (hd : (ops[j]?).bind (·.dst) = some d) (hb : t[d]? = some (.kb want)) :
    Region.wanted o (yielded ops a.tmps) = true := by
  have hy : yielded ops a.tmps j = some want := by unfold yielded; rw [hd]; simp [tmpk_of hs hb]
  simp [Region.wanted, hg, hy]

theorem wanted_guard (hs : Sat B w0 N S t m a w) {o : Oper} {j d : Nat} {want : Bool} (hg : o.guard = some (j, want)) (hd : (ops[j]?).bind (·.dst) = some d) (hb : t[d]? = some (.cv (.bool want))) :
    Region.wanted o (yielded ops a.tmps) = true := by
  have hy : yielded ops a.tmps j = some want := by unfold yielded; rw [hd]; simp [tmp_of hs hb]
  simp [Region.wanted, hg, hy]

theorem ev_of (hs : Sat B w0 N S t m a w) {d : Nat} {v : Value} (hb : t[d]? = some (.cv v)) : a.eval (.tmp d) = v := by
  simp [Act.eval, Array.getD_eq_getD_getElem?, tmp_of hs hb]

def cntOf (a : Act) (d : Nat) : Nat := match a.tmps[d]? with
  | some (.int _ n) => n.toNat
  | _ => 0
theorem cnt_of (hs : Sat B w0 N S t m a w) {d : Nat} {k : Nat} (hb : t[d]? = some (.cv (.int .i64 (k : Nat)))) : cntOf a d = k := by
  simp [cntOf, tmp_of hs hb]

/-- What is known of the slots is forgotten in part. -/
def fgt : List V → List V → Prop
  | [], [] => True
  | _ :: l, .un :: l' => fgt l l'
  | v :: l, v' :: l' => v = v' ∧ fgt l l'
  | _, _ => False

theorem fgt_get : ∀ {t t1 : List V}, fgt t t1 → t1.length = t.length ∧ ∀ (i : Nat) (v : V), t1[i]? = some v → t[i]? = some v ∨ v = .un
  | [], [], _ => ⟨rfl, fun i v h => by simp at h⟩
  | [], _ :: _, h => h.elim
  | _ :: _, [], h => by simp [fgt] at h
  | x :: l, y :: l', h => by
    have key : (x = y ∨ y = .un) ∧ fgt l l' := by
      cases y <;> first | exact ⟨.inr rfl, h⟩ | exact ⟨.inl h.1, h.2⟩
    obtain ⟨h1, h2⟩ := fgt_get key.2
    refine ⟨by simp [h1], fun i v hv => ?_⟩
    cases i with
    | zero =>
      simp at hv; subst hv
      rcases key.1 with rfl | h
      · exact .inl rfl
      · exact .inr h
    | succ i => simpa using h2 i v (by simpa using hv)

theorem Sat.forget (hs : Sat B w0 N S t m a w) (h : fgt t t1) (hB : ∀ n, B.lent n = none) : Sat B w0 N S t1 m a w := by
  obtain ⟨h1, h2⟩ := fgt_get h
  refine ⟨hs.low, hs.nodef, ⟨by rw [h1]; exact hs.tmps.1, fun i v hv => ?_⟩, hs.blk, hs.non, hs.apart, hs.data, hs.fresh, hs.own, hs.base, hs.old, fun n g h => (by rw [hB n] at h; cases h), hs.more⟩
  rcases h2 i v hv with h | rfl
  · exact hs.tmps.2 i v h
  · exact .un _

/-- The walk of a piece of code has come to its end. -/
def Fin (t : List V) (m : List (Option Bk)) : Ex → St → Prop := fun e st => match e with
  | .normal => st.m = m ∧ fgt st.t t
  | _ => False

theorem go_norm (hT : TOk P T) (hm : P.follows .mixedOrders = true) {c : Code} (hs : Sat B w0 N S t m a w) (h : awp P T c ⟨t, m⟩ (Fin t1 m1)) (hQ : ∀ N S a w, Sat B w0 N S t1 m1 a w → Q .normal a w) (hp : plainC c = true := by rfl) (hB : ∀ n, B.lent n = none := by intro n; rfl) : c.wpIn (fen r) n P Q a w := by
  refine wpIn_mono (awp_in hT hm c _ a w hp ⟨N, S, t, m, hs, h⟩) ?_
  rintro e a w h
  cases e <;> simp only [QK] at h <;> try exact h.elim
  · obtain ⟨N, S, t2, m2, hs, h1, h2⟩ := h
    cases h1
    exact hQ N S a w (hs.forget h2 hB)
  · obtain ⟨N, S, t2, m2, hs, h⟩ := h; exact h.elim
  · obtain ⟨N, S, t2, m2, hs, h⟩ := h; exact h.elim

theorem go_ops (hT : TOk P T) {os rest : List Oper} (hs : Sat B w0 N S t m a w) (h : awpOps P T ops os ⟨t, m⟩ (Fin t1 m1 .normal)) (hQ : ∀ N S a w, Sat B w0 N S t1 m1 a w → wpListIn (fen r) n P ops Q rest a w) (hd : os.all opNoDefer = true := by rfl) (hB : ∀ n, B.lent n = none := by intro n; rfl) :
    wpListIn (fen r) n P ops Q (os ++ rest) a w := by
  refine ops_rnd hT rest ?_ os hd a w ⟨N, S, t, m, hs, h⟩
  rintro a w ⟨N, S, t2, m2, hs, h1, h2⟩
  cases h1
  exact hQ N S a w (hs.forget h2 hB)

theorem go_opsk (k : Nat) {l : List Oper} (hT : TOk P T) (hs : Sat B w0 N S t m a w) (h : awpOps P T ops (l.take k) ⟨t, m⟩ (Fin t1 m1 .normal)) (hQ : ∀ N S a w, Sat B w0 N S t1 m1 a w → wpListIn (fen r) n P ops Q (l.drop k) a w) (hd : (l.take k).all opNoDefer = true := by rfl) (hB : ∀ n, B.lent n = none := by intro n; rfl) :
    wpListIn (fen r) n P ops Q l a w := by
  have := go_ops (r := r) (n := n) (rest := l.drop k) hT hs h hQ hd hB
  rwa [List.take_append_drop] at this

theorem go_opsn {l : List Oper} (hT : TOk P T) (hs : Sat B w0 N S t m a w) (h : awpOps P T ops l ⟨t, m⟩ (Fin t1 m1 .normal)) (hQ : ∀ N S a w, Sat B w0 N S t1 m1 a w → Q .normal a w) (hd : l.all opNoDefer = true := by rfl) (hB : ∀ n, B.lent n = none := by intro n; rfl) :
    wpListIn (fen r) n P ops Q l a w := by
  have := go_ops (r := r) (n := n) (rest := []) (Q := Q) hT hs h (fun N S a w h => hQ N S a w h) hd hB
  rwa [List.append_nil] at this

theorem Sat.fewer {w1 : World} {G G' : List (V × Value)} {A : Nat → Prop} {ds : List Deferred} (hs : Sat (outB B w1 G A ds) w0 N S t m a w) (h : ∀ q ∈ G', q ∈ G) : Sat (outB B w1 G' A ds) w0 N S t m a w :=
  ⟨hs.low, hs.nodef, hs.tmps, hs.blk, hs.non, hs.apart, hs.data, hs.fresh, hs.own, hs.base, hs.old, hs.lent, ⟨hs.more.size, fun q hq => hs.more.ghost q (h q hq), hs.more.aside⟩⟩

theorem fn_of (hs : Sat B w0 N S t m a w) {d g : Nat} {cs : List V} (hb : t[d]? = some (.fn g 0 cs)) : ∃ lb : Array Value, a.eval (.tmp d) = .func (.func g) #[] lb ∧ RelL N S w cs lb.toList := by
  have := hs.ev (.tmp d)
  have e : ev t (.tmp d) = .fn g 0 cs := by simp [ev, List.getD_eq_getElem?_getD, hb]
  rw [e] at this
  generalize a.eval (.tmp d) = z at this
  cases this with
  | fn _ _ _ us vs hn hl h =>
    have hu : us = #[] := by simpa using hn.symm
    subst hu
    refine ⟨vs, rfl, by simpa using hl, fun i v hv => ?_⟩
    have := h i v hv
    simpa [← getD_toList] using this

theorem plainC_of {c : Code} (h : plainC c = true) : plainC c = true := h

theorem _root_.Go.YieldAt.mono {F : Fence} {n : Nat} {P : Program} {l : Nat} {args : Array Value} {w : World} {R R' : Ending → World → Prop} (h : YieldAt F n P l args w R) (hr : ∀ e w', R e w' → R' e w') : YieldAt F n P l args w R' := by
  obtain ⟨fn, tm, asg, body, h1, h2⟩ := h
  exact ⟨fn, tm, asg, body, h1, RoundIn.mono h2 hr⟩

theorem list_wanted {F : Fence} {o : Oper} {l rest : List Oper} (hl : l = o :: rest) (hw : Region.wanted o (yielded ops a.tmps) = true) (h : o.wpIn F n P a w (wpListIn F n P ops Q rest) Q) : wpListIn F n P ops Q l a w := by
  subst hl
  unfold wpListIn
  rw [if_pos hw]
  exact h

/-- A call of yield. -/
theorem yield_op {o : Oper} {f y : Operand} {tys : Array TypeId} {l : Nat} {v : Value} {next : Act → World → Prop} (hop : o.op = .call { callee := .value f, args := #[y], argTypes := tys }) (hf : a.eval f = .func (.yield l) #[] #[]) (hv : a.eval y = v)
    {R : Ending → World → Prop} (hY : YieldAt (fen none) (n - 1) P l #[v] w R) (hN : ∀ e w', R e w' → ∃ u, e = .returned u ∧ next (a.put o.dst u) w') : o.wpIn (fen none) n P a w next Q := by
  obtain ⟨fn, tm, asg, body, h1, h2⟩ := hY
  refine ⟨fun _ _ => trivial, ?_⟩
  have e : (o.semAt (fen none).round a.eval).run P w = .ok (.round l fn tm asg body) w := by
    show (execOp a.eval o).run P w = _
    generalize a.eval = ρ at hf hv ⊢
    unfold execOp
    rw [hop]
    simp [go_sem, hf, hv, h1]
  rw [e]
  refine ⟨fun h => by simp [fen, Fence.wide] at h, RoundIn.mono h2 fun e w' h => ?_⟩
  obtain ⟨u, rfl, hn⟩ := hN e w' h
  exact hn

end
end Go.Proofs.Ytppkkonhfkegoaa
