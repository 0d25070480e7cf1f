/-
  A reader of code over states that name their own memory: a range over a function: memory without an activation; one round; the statement; how such a function ends.
-/
import Derived.Test.YtppkkonhfkegoaaSxZ
import Derived.RangeFuncLeaves
namespace Go.Proofs.Ytppkkonhfkegoaa
open Go.RowKit

def outB (B : Fr) (w : World) (G : List (V × Value)) (A : Nat → Prop) (ds : List Deferred) : Fr :=
  { keep := fun g => B.keep g ∨ A g, old := B.old, lent := fun _ => none, ref := w, ghost := G, aside := A, defers := ds }

/-- A state without an activation; G: values that are carried along; A: blocks that are nobody's. -/
structure Mem (B : Fr) (w0 : World) (G : List (V × Value)) (A : Nat → Prop) (m : List (Option Bk)) (w : World) : Prop where
  low : Low B.keep B.ref w
  sat : ∃ N S, Sat (outB B w G A []) w0 N S [] m { tmps := #[], defers := [] } w

/-- A value does not speak of a name. -/
def V.noN1 (n : Nat) : V → Bool
  | .bx k _ | .ow k _ | .oq k _ _ _ _ | .vw k _ _ _ _ => !(Nat.beq k n)
  | .ag _ | .tu _ | .fn _ _ _ => false
  | _ => true
def V.noN (n : Nat) : V → Bool
  | .ag cs | .tu cs | .fn _ _ cs => cs.all (V.noN1 n)
  | v => v.noN1 n
def Bk.noN (n : Nat) : Bk → Bool
  | .box cs => cs.all (V.noN n)
  | .row .. => true
def noM (n : Nat) (m : List (Option Bk)) : Bool := m.all fun
  | some b => b.noN n
  | none => true

section
variable {P : Program} {T : Tab} {B : Fr} {w0 : World} {N : Names} {S : Sets} {t t' : List V} {m m' : List (Option Bk)} {a : Act} {w w1 : World} {G G' : List (V × Value)} {A : Nat → Prop} {ds : List Deferred}

theorem zip_of {us : List Value} (h : RelL N S w t us) : ∀ p ∈ t.zip us, RelV N S w p.1 p.2 := by
  intro p hp
  obtain ⟨i, hi⟩ := List.getElem?_of_mem hp
  rw [List.getElem?_zip_eq_some] at hi
  have := h.2 i _ hi.1
  rw [List.getD_eq_getElem?_getD, hi.2] at this
  exact this

theorem of_zip {us : List Value} (hl : t.length = us.length) (h : ∀ p ∈ t.zip us, RelV N S w p.1 p.2) : RelL N S w t us := by
  refine ⟨hl, fun i v hv => ?_⟩
  have hlt : i < us.length := by rw [← hl]; exact lt_of_get hv
  have := h (v, us[i]) (List.mem_of_getElem? (i := i) (by rw [List.getElem?_zip_eq_some]; exact ⟨hv, List.getElem?_eq_getElem hlt⟩))
  rw [List.getD_eq_getElem?_getD, List.getElem?_eq_getElem hlt]
  exact this

theorem Mem.frame (h : Mem B w0 G A m w) (ht : ∀ N S, (∀ p ∈ G, RelV N S w p.1 p.2) → RelL N S w t a.tmps.toList) : ∃ N S, Sat (outB B w G A a.defers) w0 N S t m a w := by
  obtain ⟨h0, N, S, hs⟩ := h
  exact ⟨N, S, hs.low, rfl, ht N S hs.more.ghost, hs.blk, hs.non, hs.apart, hs.data, hs.fresh, hs.own, hs.base, hs.old, (fun _ _ h => by cases h), ⟨hs.more.size, hs.more.ghost, hs.more.aside⟩⟩

theorem Mem.back (h0 : Low B.keep B.ref w1) (hs : Sat (outB B w1 G A ds) w0 N S t m a w) (hG : ∀ p ∈ G', RelV N S w p.1 p.2) : Mem B w0 G' A m w :=
  ⟨h0.trans (hs.low.mono fun g h => .inl h), N, S, Low.refl _ _, rfl, ⟨rfl, fun i v h => by simp at h⟩, hs.blk, hs.non, hs.apart, hs.data, hs.fresh, hs.own, hs.base, hs.old, (fun _ _ h => by cases h), ⟨hs.more.size, hG, hs.more.aside⟩⟩

theorem Mem.put {l : Nat} {o : Obj} (hA : A l) (hB : ¬ B.keep l) (h : Mem B w0 G A m w) : Mem B w0 G A m (w.putObj l o) := by
  obtain ⟨h0, N, S, hs⟩ := h
  have hw : ∀ f g, S f g → (w.putObj l o).heap[g]? = w.heap[g]? := fun f g hg => World.putObj_heap_other (fun e => by subst e; exact (hs.more.aside _ hA).2 f hg)
  have hsz : (w.putObj l o).heap.size = w.heap.size := World.putObj_size
  refine ⟨h0.trans ⟨rfl, rfl, rfl, by rw [hsz]; exact Nat.le_refl _, fun k hk => World.putObj_heap_other (fun e => hB (by rw [← e]; exact hk))⟩, N, S, Low.refl _ _, rfl, ⟨rfl, fun i v h => by simp at h⟩,
    fun k b hk => (hs.blk k b hk).mono rfl (NLe.refl _) (fun _ _ h => h) hw fun x v g h1 h2 => World.putObj_heap_other (fun e => by subst e; exact (hs.own k x v _ h1 h2).1 (.inr hA)),
    hs.non, hs.apart, fun f g hg => ⟨by rw [hsz]; exact (hs.data f g hg).1, (hs.data f g hg).2⟩, hs.fresh, fun k x v g h1 h2 => ⟨(hs.own k x v g h1 h2).1, by rw [hsz]; exact (hs.own k x v g h1 h2).2⟩,
    fun g hg => by rw [hsz]; exact hs.base g hg, hs.old, (fun _ _ h => by cases h), ⟨by rw [hsz]; exact hs.more.size, fun p hp => (hs.more.ghost p hp).mono (NLe.refl _) (fun _ _ h => h) hw, hs.more.aside⟩⟩

/-- The statement begins: two blocks are laid. -/
theorem Sat.leave (hs : Sat B w0 N S t m a w) (hg : B.ghost = []) (ha : ∀ g, ¬ B.aside g) (o1 o2 : Obj) {Gx : List (V × Value)} (hGx : ∀ p ∈ Gx, RelV N S w p.1 p.2) :
    Mem B w0 (t.zip a.tmps.toList ++ Gx) (fun g => g = w.heap.size ∨ g = w.heap.size + 1) m ((w.alloc o1).alloc o2) := by
  have hold : ∀ g, g < w.heap.size → ((w.alloc o1).alloc o2).heap[g]? = w.heap[g]? := fun g hg => (Below.heap_alloc _ _ _ (by simp; omega)).trans (Below.heap_alloc _ _ _ hg)
  have hsz : ((w.alloc o1).alloc o2).heap.size = w.heap.size + 2 := by simp
  have hw : ∀ f g, S f g → ((w.alloc o1).alloc o2).heap[g]? = w.heap[g]? := fun f g hg => hold g (hs.data f g hg).1
  refine ⟨hs.low.trans ⟨rfl, rfl, rfl, by rw [hsz]; omega, fun k hk => hold k (hs.base k hk)⟩, N, S, Low.refl _ _, rfl, ⟨rfl, fun i v h => by simp at h⟩,
    fun k b hk => (hs.blk k b hk).mono rfl (NLe.refl _) (fun _ _ h => h) hw fun x v g h1 h2 => hold g (hs.own k x v g h1 h2).2,
    hs.non, hs.apart, fun f g hg => ⟨by rw [hsz]; have := (hs.data f g hg).1; omega, (hs.data f g hg).2⟩, hs.fresh, fun k x v g h1 h2 => ⟨?_, by rw [hsz]; have := (hs.own k x v g h1 h2).2; omega⟩,
    fun g hg => ?_, hs.old, (fun _ _ h => by cases h), ⟨by rw [hsz]; have := hs.more.size; omega, fun p hp => ((List.mem_append.1 hp).elim (zip_of hs.tmps p) (hGx p)).mono (NLe.refl _) (fun _ _ h => h) hw, fun g hg => ⟨.inr hg, fun f hf => ?_⟩⟩⟩
  · have := (hs.own k x v g h1 h2).2
    rintro (h | h | h)
    · exact (hs.own k x v g h1 h2).1 h
    · omega
    · omega
  · rw [hsz]
    rcases hg with h | h | h
    · have := hs.base g h; omega
    · omega
    · omega
  · have := (hs.data f g hf).1
    rcases hg with h | h <;> omega

theorem noN_rel {n : Nat} {N' : Names} (hN : ∀ k, k ≠ n → N' k = N k) {v : V} {u : Value} (hv : v.noN n = true) (h : RelV N S w v u) : RelV N' S w v u := by
  have one : ∀ {v : V} {u : Value}, v.noN1 n = true → RelV N S w v u → RelV N' S w v u := by
    intro v u hv h
    have ne : ∀ {k : Nat}, (!(Nat.beq k n)) = true → k ≠ n := by
      intro k hk e
      subst e
      simp at hk
    cases h <;> simp only [V.noN1] at hv <;> first | (cases hv; done) | skip
    · exact .un _
    · exact .cv _
    · exact .kb _
    · exact .sl _ _ _ _ (by assumption)
    · rename_i hS hc _; exact .el _ _ _ _ _ (by assumption) _ (by assumption)
    · exact .bx _ _ _ (by rw [hN _ (ne hv)]; assumption)
    · exact .ow _ _ _ (by assumption) (by rw [hN _ (ne hv)]; assumption)
    · exact .oq _ _ _ _ _ _ (by assumption) (by rw [hN _ (ne hv)]; assumption)
    · exact .vw _ _ _ _ _ _ (by assumption) (by rw [hN _ (ne hv)]; assumption)
  unfold V.noN at hv
  split at hv
  · cases h with
    | ag _ us hl h => exact .ag _ us hl fun i v hv' => one (List.all_eq_true.1 hv v (List.mem_of_getElem? hv')) (h i v hv')
  · cases h with
    | tu _ us hl h => exact .tu _ us hl fun i v hv' => one (List.all_eq_true.1 hv v (List.mem_of_getElem? hv')) (h i v hv')
  · cases h with
    | fn _ _ _ us vs hn hl h => exact .fn _ _ _ us vs hn hl fun i v hv' => one (List.all_eq_true.1 hv v (List.mem_of_getElem? hv')) (h i v hv')
  · exact one hv h

theorem noM_get {n : Nat} (h : noM n m = true) {k : Nat} {b : Bk} (hk : m[k]? = some (some b)) : b.noN n = true := by
  have := List.all_eq_true.1 h _ (List.mem_of_getElem? hk)
  exact this

/-- A name is forgotten. -/
theorem Mem.drop {n : Nat} (hm : noM n m = true) (hG : (G.all fun p => p.1.noN n) = true) (h : Mem B w0 G A m w) : Mem B w0 G A (m.set n none) w := by
  obtain ⟨h0, N, S, hs⟩ := h
  let N' : Names := fun k => if k = n then none else N k
  have hN : ∀ k, k ≠ n → N' k = N k := fun k hk => by simp [N', hk]
  have hN2 : ∀ k x v, N' k = some (x, v) → N k = some (x, v) := by
    intro k x v h
    by_cases hk : k = n
    · simp [N', hk] at h
    · rw [hN k hk] at h; exact h
  have hget : ∀ k b, (m.set n none)[k]? = some (some b) → k ≠ n ∧ m[k]? = some (some b) := by
    intro k b h
    rw [List.getElem?_set] at h
    split at h
    · split at h <;> cases h
    · rename_i hne; exact ⟨fun e => hne e.symm, h⟩
  refine ⟨h0, N', S, Low.refl _ _, rfl, ⟨rfl, fun i v h => by simp at h⟩, fun k b hk => ?_, fun k hk => ?_, ?_, ?_, hs.fresh, ?_, hs.base, hs.old, (fun _ _ h => by cases h), ⟨hs.more.size, fun p hp => noN_rel hN (List.all_eq_true.1 hG p hp) (hs.more.ghost p hp), hs.more.aside⟩⟩
  · obtain ⟨hne, hk'⟩ := hget k b hk
    have hb := noM_get hm hk'
    have hH := hs.blk k b hk'
    cases b with
    | box cs =>
      obtain ⟨g, ty, us, h1, h2, h3, h4⟩ := hH
      exact ⟨g, ty, us, (hN k hne).trans h1, h2, h3, fun i v hv => noN_rel hN (List.all_eq_true.1 hb v (List.mem_of_getElem? hv)) (h4 i v hv)⟩
    | row k2 E sz f xs =>
      obtain ⟨v, us, h1, h2⟩ := hH
      exact ⟨v, us, (hN k hne).trans h1, h2⟩
  · by_cases hkn : k = n
    · simp [N', hkn]
    · rw [hN k hkn]
      exact hs.non k fun b hb => hk b (by rw [List.getElem?_set_ne (Ne.symm hkn)]; exact hb)
  · intro j k x y u v g h1 h2
    exact hs.apart j k x y u v g (hN2 _ _ _ h1) (hN2 _ _ _ h2)
  · intro f g hg
    exact ⟨(hs.data f g hg).1, fun k x v h1 => (hs.data f g hg).2 k x v (hN2 _ _ _ h1)⟩
  · intro k x v g h1
    exact hs.own k x v g (hN2 _ _ _ h1)

/-- nil in a variable is taken for an empty row of the call's own. -/
theorem Mem.adopt {n d j e sz : Nat} {cs : List V} (hn : m[n]? = some (some (.box cs))) (hj : cs[j]? = some (.cv (.slice none 0 0))) (hd : m[d]? = some none) (hsz : 0 < sz) (h : Mem B w0 G A m w) :
    Mem B w0 G A ((m.set d (some (.row 0 e sz true []))).set n (some (.box (cs.set j (.ow d 0))))) w := by
  obtain ⟨h0, N, S, hs⟩ := h
  have hnone : N d = none := hs.non d fun b' h => by rw [hd] at h; cases h
  have hnd : n ≠ d := by intro e; subst e; rw [hd] at hn; cases hn
  obtain ⟨N', g1, g2, g3⟩ := hs.set (w' := w) (d := d) (k := 0) (v := .slice none 0 0) (b := .row 0 e sz true []) (lt_of_get hd) (fun k0 v0 h => by rw [hnone] at h; cases h)
      hs.low (Nat.le_refl _) (fun _ _ _ => rfl) (fun g hg => by simp [atOf] at hg)
      (fun N' g1 _ _ => ⟨_, [], g1, World.ownsRow_nil w 0 e sz, by simp, hsz, by simp, fun _ g hg => by simp [atOf] at hg⟩)
  have hn' : (m.set d (some (.row 0 e sz true [])))[n]? = some (some (.box cs)) := by rw [List.getElem?_set_ne (Ne.symm hnd)]; exact hn
  refine ⟨h0, N', S, g3.low, rfl, g3.tmps, fun k b hk => ?_, fun k hk => ?_, g3.apart, g3.data, g3.fresh, g3.own, g3.base, g3.old, g3.lent, g3.more⟩
  · by_cases hkn : k = n
    · subst hkn
      rw [List.getElem?_set_self (lt_of_get hn')] at hk
      cases hk
      obtain ⟨g, ty, us, h1, h2, h3, h4⟩ := g3.blk k _ hn'
      refine ⟨g, ty, us, h1, h2, by simpa using h3, fun i v hv => ?_⟩
      by_cases hij : i = j
      · subst hij
        rw [List.getElem?_set_self (lt_of_get hj)] at hv
        cases hv
        have := h4 i _ hj
        generalize us.getD i undef = z at this
        cases this
        exact .ow d 0 _ rfl ⟨0, _, g1, Nat.le_refl _, fun _ => rfl⟩
      · rw [List.getElem?_set_ne (Ne.symm hij)] at hv
        exact h4 i v hv
    · rw [List.getElem?_set_ne (Ne.symm hkn)] at hk
      exact g3.blk k b hk
  · by_cases hkn : k = n
    · subst hkn
      exact absurd (List.getElem?_set_self (lt_of_get hn')) (hk _)
    · exact g3.non k fun b hb => hk b (by rw [List.getElem?_set_ne (Ne.symm hkn)]; exact hb)

/-- How often a row has been grown is counted anew. -/
theorem Mem.rever {n b j k E sz : Nat} {f : Bool} {xs : List (List D)} {cs : List V} (hn : m[n]? = some (some (.row k E sz f xs))) (hb : m[b]? = some (some (.box cs))) (hj : cs[j]? = some (.ow n k))
    (hm : noM n (m.set b none) = true) (hcs : ((cs.set j .un).all (V.noN n)) = true) (hG : (G.all fun p => p.1.noN n) = true) (h : Mem B w0 G A m w) :
    Mem B w0 G A ((m.set n (some (.row 0 E sz f xs))).set b (some (.box (cs.set j (.ow n 0))))) w := by
  obtain ⟨h0, N, S, hs⟩ := h
  have hbn : b ≠ n := by intro e; subst e; rw [hn] at hb; cases hb
  obtain ⟨v, us, h1, h2, h3, h4, h5, h6⟩ := hs.blk n _ hn
  let N' : Names := fun i => if i = n then some (0, v) else N i
  have hNn : N' n = some (0, v) := by simp [N']
  have hNo : ∀ i, i ≠ n → N' i = N i := fun i hi => by simp [N', hi]
  have hN2 : ∀ i x u, N' i = some (x, u) → ∃ y, N i = some (y, u) := by
    intro i x u h
    by_cases hi : i = n
    · subst hi; rw [hNn] at h; cases h; exact ⟨k, h1⟩
    · rw [hNo i hi] at h; exact ⟨x, h⟩
  have hlb : b < (m.set n (some (.row 0 E sz f xs))).length := by simpa using lt_of_get hb
  refine ⟨h0, N', S, Low.refl _ _, rfl, ⟨rfl, fun i v h => by simp at h⟩, fun i c hi => ?_, fun i hi => ?_, ?_, ?_, hs.fresh, ?_, hs.base, hs.old, (fun _ _ h => by cases h), ⟨hs.more.size, fun p hp => noN_rel hNo (List.all_eq_true.1 hG p hp) (hs.more.ghost p hp), hs.more.aside⟩⟩
  · by_cases hib : i = b
    · subst hib
      rw [List.getElem?_set_self hlb] at hi
      cases hi
      obtain ⟨g, ty, vs, e1, e2, e3, e4⟩ := hs.blk i _ hb
      refine ⟨g, ty, vs, (hNo i hbn).trans e1, e2, by simpa using e3, fun q c hq => ?_⟩
      by_cases hqj : q = j
      · subst hqj
        rw [List.getElem?_set_self (lt_of_get hj)] at hq
        cases hq
        have := e4 q _ hj
        generalize vs.getD q undef = z at this
        cases this with
        | ow _ _ _ hu hn' =>
          obtain ⟨k', v', g1, g2, g3⟩ := hn'
          rw [h1] at g1; cases g1
          exact .ow n 0 _ hu ⟨0, v, hNn, Nat.le_refl _, fun _ => g3 rfl⟩
      · have hq' : (cs.set j .un)[q]? = some c := by rw [List.getElem?_set_ne (Ne.symm hqj)] at hq ⊢; exact hq
        rw [List.getElem?_set_ne (Ne.symm hqj)] at hq
        exact noN_rel hNo (List.all_eq_true.1 hcs c (List.mem_of_getElem? hq')) (e4 q c hq)
    · rw [List.getElem?_set_ne (Ne.symm hib)] at hi
      by_cases hin : i = n
      · subst hin
        rw [List.getElem?_set_self (lt_of_get hn)] at hi
        cases hi
        exact ⟨v, us, hNn, h2, h3, h4, h5, h6⟩
      · rw [List.getElem?_set_ne (Ne.symm hin)] at hi
        have hc : c.noN n = true := noM_get hm (k := i) (by rw [List.getElem?_set_ne (Ne.symm hib)]; exact hi)
        have hH := hs.blk i c hi
        cases c with
        | box ds =>
          obtain ⟨g, ty, vs, e1, e2, e3, e4⟩ := hH
          exact ⟨g, ty, vs, (hNo i hin).trans e1, e2, e3, fun q u hq => noN_rel hNo (List.all_eq_true.1 hc u (List.mem_of_getElem? hq)) (e4 q u hq)⟩
        | row k2 E2 sz2 f2 xs2 =>
          obtain ⟨v2, us2, e1, e2⟩ := hH
          exact ⟨v2, us2, (hNo i hin).trans e1, e2⟩
  · by_cases hin : i = n
    · subst hin
      exact absurd (show ((m.set i (some (.row 0 E sz f xs))).set b (some (.box (cs.set j (.ow i 0)))))[i]? = some (some (.row 0 E sz f xs)) by rw [List.getElem?_set_ne hbn, List.getElem?_set_self (lt_of_get hn)]) (hi _)
    · rw [hNo i hin]
      refine hs.non i fun c hc => ?_
      by_cases hib : i = b
      · subst hib; exact hi _ (List.getElem?_set_self hlb)
      · exact hi c (by rw [List.getElem?_set_ne (Ne.symm hib), List.getElem?_set_ne (Ne.symm hin)]; exact hc)
  · intro i i' x y u u' g a1 a2 a3 a4
    obtain ⟨x', a1⟩ := hN2 _ _ _ a1
    obtain ⟨y', a2⟩ := hN2 _ _ _ a2
    exact hs.apart i i' x' y' u u' g a1 a2 a3 a4
  · intro f g hg
    refine ⟨(hs.data f g hg).1, fun i x u a1 a2 => ?_⟩
    obtain ⟨x', a1⟩ := hN2 _ _ _ a1
    exact (hs.data f g hg).2 i x' u a1 a2
  · intro i x u g a1 a2
    obtain ⟨x', a1⟩ := hN2 _ _ _ a1
    exact hs.own i x' u g a1 a2

/-- The loop's record. -/
abbrev lrec (fn : FuncId) (tm : Array Value) (p : Tmp) (asg body : Code) (D : Nat) (s : LoopState) (j : Option Code) : Loop :=
  { state := s, pending := j, fn, tmps := tm, params := #[p], assign := asg, body, defers := D }

/-- ONE ROUND. -/
theorem round_run (hT : TOk P T) (hmx : P.follows .mixedOrders = true) {n : Nat} {fn : FuncId} {p : Tmp} {asg body : Code} {D l : Nat} {x : Value}
    (hpa : plainC asg = true) (hpb : plainC body = true) (hA : A l) (hB : ¬ B.keep l) (hGt : ∀ q ∈ t.zip a.tmps.toList, q ∈ G) (hlen : t.length = a.tmps.toList.length)
    (hM : Mem B w0 G A m w) (hl : w.heap[l]? = some (.loop (lrec fn a.tmps p asg body D .ready none))) {Kn Kr : List (Option Bk) → Prop}
    (hbody : awp P T asg ⟨t.set p (.cv x), m⟩ (fun e st => match e with
      | .normal => awp P T body st (fun e st => match e with
        | .normal => Kn st.m
        | .ret => Kr st.m
        | .exit _ => False)
      | _ => False)) :
    YieldAt (fen none) n P l #[x] w fun e w' => ∃ m', Mem B w0 G A m' w' ∧ (∀ g, A g → g ≠ l → w'.heap[g]? = w.heap[g]?) ∧
      ((e = .returned (.bool true) ∧ Kn m' ∧ w'.heap[l]? = some (.loop (lrec fn a.tmps p asg body D .ready none))) ∨
       (e = .returned (.bool false) ∧ Kr m' ∧ w'.heap[l]? = some (.loop (lrec fn a.tmps p asg body D .done (some .ret))))) := by
  have hy := run_yield (P := P) (args := #[x]) hl rfl
  refine ⟨_, _, _, _, hy, roundIn_of_wpIn trivial ?_⟩
  have e1 : (((lrec fn a.tmps p asg body D .ready none).params.zip #[x]).foldl (fun tmps (t, a) => tmps.setIfInBounds t a) (lrec fn a.tmps p asg body D .ready none).tmps) = a.tmps.setIfInBounds p x := by simp
  rw [e1]
  obtain ⟨N1, S1, hs1⟩ := hM.frame (t := t) (a := { tmps := a.tmps, defers := [] }) (fun N S hG => of_zip hlen fun q hq => hG q (hGt q hq))
  have hs2 := hs1.put (v := .cv x) (u := x) (.cv x) (some p)
  refine wpIn_mono (awp_in (r := some l) hT hmx asg _ _ w hpa ⟨N1, S1, _, _, hs2, hbody⟩) ?_
  rintro e a1 w1 h
  cases e <;> simp only [QK, Exit.then] at h ⊢ <;> try (obtain ⟨N, S, t1, m1, hs, h⟩ := h; exact h.elim)
  · obtain ⟨N2, S2, t1, m1, hs, h⟩ := h
    have hlA : ∀ g, A g → w1.heap[g]? = w.heap[g]? := fun g hg => hs.low.block g (.inr hg)
    refine ⟨_, run_beginRound ((hlA l hA).trans hl) rfl, ?_⟩
    have hM1 : Mem B w0 (G ++ t1.zip a1.tmps.toList) A m1 w1 := Mem.back hM.low hs fun q hq => by
      rcases List.mem_append.1 hq with hq | hq
      · exact hs.more.ghost q hq
      · exact zip_of hs.tmps q hq
    have hM2 := hM1.put (l := l) (o := .loop { (lrec fn a.tmps p asg body D .ready none) with state := .busy }) hA hB
    have hd1 : a1.defers = [] := hs.nodef
    obtain ⟨N3, S3, hs3⟩ := hM2.frame (t := t1) (a := a1) (fun N S hG => of_zip hs.tmps.1 fun q hq => hG q (List.mem_append_right _ hq))
    rw [hd1] at hs3
    refine wpIn_mono (awp_in (r := some l) hT hmx body _ _ _ hpb ⟨N3, S3, _, _, hs3, h⟩) ?_
    have hl2 : (w1.putObj l (.loop { (lrec fn a.tmps p asg body D .ready none) with state := .busy })).heap[l]? = some (.loop { (lrec fn a.tmps p asg body D .ready none) with state := .busy }) :=
      World.putObj_heap_same (Array.getElem?_eq_some_iff.1 ((hlA l hA).trans hl)).1
    have fin : ∀ {N4 S4 t4 m4 a4 w4} (j : Option Code), Sat (outB B (w1.putObj l (.loop { (lrec fn a.tmps p asg body D .ready none) with state := .busy })) (G ++ t1.zip a1.tmps.toList) A []) w0 N4 S4 t4 m4 a4 w4 →
        (Instr.endRound l j).run P w4 = .ok (.bool j.isNone) (w4.putObj l (.loop (lrec fn a.tmps p asg body D (if j.isNone then .ready else .done) j))) ∧
        Mem B w0 G A m4 (w4.putObj l (.loop (lrec fn a.tmps p asg body D (if j.isNone then .ready else .done) j))) ∧
        (∀ g, A g → g ≠ l → (w4.putObj l (.loop (lrec fn a.tmps p asg body D (if j.isNone then .ready else .done) j))).heap[g]? = w.heap[g]?) ∧
        (w4.putObj l (.loop (lrec fn a.tmps p asg body D (if j.isNone then .ready else .done) j))).heap[l]? = some (.loop (lrec fn a.tmps p asg body D (if j.isNone then .ready else .done) j)) := by
      intro N4 S4 t4 m4 a4 w4 j hs4
      have hA4 : ∀ g, A g → w4.heap[g]? = (w1.putObj l (.loop { (lrec fn a.tmps p asg body D .ready none) with state := .busy })).heap[g]? := fun g hg => hs4.low.block g (.inr hg)
      have hl4 := (hA4 l hA).trans hl2
      refine ⟨run_endRound j hl4, (Mem.back hM2.low hs4 fun q hq => hs4.more.ghost q (List.mem_append_left _ hq)).put hA hB, fun g hg hne => ?_, World.putObj_heap_same (Array.getElem?_eq_some_iff.1 hl4).1⟩
      rw [World.putObj_heap_other hne, hA4 g hg, World.putObj_heap_other hne, hlA g hg]
    rintro e a4 w4 h4
    cases e <;> simp only [QK, roundPost] at h4 ⊢ <;> try (obtain ⟨N, S, t1, m1, hs, h⟩ := h4; exact h.elim)
    · obtain ⟨N4, S4, t4, m4, hs4, h4⟩ := h4
      obtain ⟨f1, f2, f3, f4⟩ := fin none hs4
      exact ⟨_, _, f1, m4, f2, f3, .inl ⟨rfl, h4, f4⟩⟩
    · obtain ⟨N4, S4, t4, m4, hs4, h4⟩ := h4
      obtain ⟨f1, f2, f3, f4⟩ := fin (some .ret) hs4
      exact ⟨_, _, f1, m4, f2, f3, .inr ⟨rfl, h4, f4⟩⟩

/-- What the iterator's call owes: all have come, or a round has left by a return. -/
def IterPost (B : Fr) (w0 : World) (G : List (V × Value)) (A : Nat → Prop) (fn : FuncId) (tm : Array Value) (p : Tmp) (asg body : Code) (D l : Nat) (Kn Kr : List (Option Bk) → Prop) : Ending → World → Prop := fun e w' =>
  (∃ v, e = .returned v) ∧ ∃ m', Mem B w0 G A m' w' ∧ w'.heap[D]? = some (.deferred (some [])) ∧
    ((Kn m' ∧ w'.heap[l]? = some (.loop (lrec fn tm p asg body D .ready none))) ∨ (Kr m' ∧ w'.heap[l]? = some (.loop (lrec fn tm p asg body D .done (some .ret)))))

/-- THE STATEMENT. -/
theorem range_run {n : Nat} {g : Operand} {p : Tmp} {asg body : Code} {gf : FuncId} {lb : Array Value} {Q : Exit → Act → World → Prop} (hs : Sat B w0 N S t m a w) (hg : B.ghost = []) (ha : ∀ g, ¬ B.aside g)
    (hev : a.eval g = .func (.func gf) #[] lb) (eg : ∀ args w, (callFunc gf args).run P w = .ok (.enter gf args) w) {Gx : List (V × Value)} (hGx : ∀ p ∈ Gx, RelV N S w p.1 p.2) {Kn Kr : List (Option Bk) → Prop}
    (hit : ∀ (fn : FuncId) (W : World) (A : Nat → Prop) (D l : Nat), A = (fun g => g = w.heap.size ∨ g = w.heap.size + 1) → A D → A l → D ≠ l → ¬ B.keep D → ¬ B.keep l → Mem B w0 (t.zip a.tmps.toList ++ Gx) A m W →
      W.heap[D]? = some (.deferred (some [])) → W.heap[l]? = some (.loop (lrec fn a.tmps p asg body D .ready none)) →
      CallsIn (fen none) (n - 1) P gf (#[.func (.yield l) #[] #[]] ++ lb) W (IterPost B w0 (t.zip a.tmps.toList ++ Gx) A fn a.tmps p asg body D l Kn Kr))
    (hQ : ∀ (A : Nat → Prop) (D : Nat) (m' : List (Option Bk)) (W : World), A D → ¬ B.keep D → Mem B w0 (t.zip a.tmps.toList ++ Gx) A m' W → W.heap[D]? = some (.deferred (some [])) →
      (Kn m' → Q .normal { a with defers := { target := .collected D, args := #[] } :: a.defers } W) ∧ (Kr m' → Q .ret { a with defers := { target := .collected D, args := #[] } :: a.defers } W)) :
    (Code.rangeFunc g #[p] asg body).wpIn (fen none) n P Q a w := by
  refine wpIn_rangeFunc ?_
  intro fn _
  obtain ⟨W1, hW1⟩ : ∃ W1, (w.alloc (.deferred (some []))).alloc (.loop (lrec fn a.tmps p asg body w.heap.size .ready none)) = W1 := ⟨_, rfl⟩
  have hM : Mem B w0 (t.zip a.tmps.toList ++ Gx) (fun g => g = w.heap.size ∨ g = w.heap.size + 1) m W1 := by rw [← hW1]; exact hs.leave hg ha _ _ hGx
  have hL1 : W1.heap[w.heap.size + 1]? = some (.loop (lrec fn a.tmps p asg body w.heap.size .ready none)) := by
    rw [← hW1]; have := World.alloc_heap_new (w.alloc (.deferred (some []))) (.loop (lrec fn a.tmps p asg body w.heap.size .ready none)); rwa [World.size_alloc] at this
  have hK1 : W1.heap[w.heap.size]? = some (.deferred (some [])) := by
    rw [← hW1]; exact (Below.heap_alloc _ _ _ (by simp)).trans (World.alloc_heap_new w _)
  have hkD : ¬ B.keep w.heap.size := fun h => by have := hs.base _ h; omega
  have hkl : ¬ B.keep (w.heap.size + 1) := fun h => by have := hs.base _ h; omega
  refine ⟨w.heap.size + 1, [{ target := .collected w.heap.size, args := #[] }], W1, { target := .fn (.func gf) lb, args := #[.func (.yield (w.heap.size + 1)) #[] #[]] }, W1, gf,
    #[.func (.yield (w.heap.size + 1)) #[] #[]] ++ lb, W1, ?_, ?_, ?_, ?_, fun h => by simp [fen, Fence.wide] at h, ?_⟩
  · rw [← hW1]; exact run_enterLoop_outer _ _ _ _ _
  · simp only [resolve, hev]
    simp [go_sem]
  · intro f' hf'; trivial
  · simp [invoke, go_sem, eg]
  · refine CallsIn.mono (hit fn W1 _ w.heap.size (w.heap.size + 1) rfl (.inl rfl) (.inr rfl) (by omega) hkD hkl hM hK1 hL1) ?_
    rintro e W2 ⟨⟨v, rfl⟩, m', hM2, hD2, h⟩
    have hD3 : ∀ o, (W2.putObj (w.heap.size + 1) o).heap[w.heap.size]? = some (.deferred (some [])) := fun o => (World.putObj_heap_other (by omega)).trans hD2
    rcases h with ⟨hk, hl2⟩ | ⟨hk, hl2⟩
    · exact ⟨none, _, run_endLoop hl2 (by simp), (hQ _ w.heap.size m' _ (.inl rfl) hkD (hM2.put (.inr rfl) hkl) (hD3 _)).1 hk⟩
    · exact ⟨some .ret, _, run_endLoop hl2 (by simp), wpIn_ret ((hQ _ w.heap.size m' _ (.inl rfl) hkD (hM2.put (.inr rfl) hkl) (hD3 _)).2 hk)⟩

/-- What a function returns, in the state in which its code ends. -/
theorem res_sound (hT : TOk P T) (hs : Sat B w0 N S t m a w) {fn : Func} {res : V} (h : resK T fn (fun v => v = res) ⟨t, m⟩) :
    ∃ v, (results fn a.tmps).run P w = .ok v w ∧ RelV (fun _ => none) (fun _ b => w0.heap.size ≤ b ∧ b < w.heap.size) w res v := by
  simp only [resK] at h
  obtain ⟨us, vs, h1, h2, h3⟩ := resL_sound hT hs _ _ h
  have hrun : ∀ v, (if h : us.toArray.size = 1 then us.toArray[0] else .tuple us.toArray) = v → (results fn a.tmps).run P w = .ok v w := by
    intro v hv
    unfold results
    rw [Array.mapM_eq_mapM_toList]
    change Sem.run P (do
      let vs ← List.toArray <$> fn.results.toList.mapM (resR a)
      pure (if h : vs.size = 1 then vs[0] else Value.tuple vs)) w = _
    simp only [Sem.run_bind, Sem.run_map, h1, Result.andThen_ok, Sem.run_pure, hv]
  split at h3
  · rename_i v
    subst h3
    obtain ⟨u, rfl⟩ : ∃ u, us = [u] := by
      have := h2.1
      match us, this with
      | [u], _ => exact ⟨u, rfl⟩
    exact ⟨u, hrun u rfl, by simpa using h2.2 0 v rfl⟩
  · rename_i hne
    subst h3
    have hsz : us.toArray.size ≠ 1 := by
      intro e
      have : us.length = 1 := by simpa using e
      have h4 := h2.1
      rw [this] at h4
      match vs, h4 with
      | [v], _ => exact hne v rfl
    refine ⟨.tuple us.toArray, hrun _ (by rw [dif_neg hsz]), .tu _ _ (by simpa using h2.1) fun i v hv => ?_⟩
    have := h2.2 i v hv
    rw [← getD_toList]; simpa using this

/-- What is said of a data function's end. -/
abbrev DPost (w0 : World) (res : V) : Ending → World → Prop := fun e w' => ∃ v, e = .returned v ∧ RelV (fun _ => none) (fun _ b => w0.heap.size ≤ b ∧ b < w'.heap.size) w' res v ∧ Below w0.heap.size w0 w'

/-- HOW SUCH A FUNCTION ENDS: without a mark; with one. -/
theorem ends0 (hT : TOk P T) {n : Nat} (hs : Sat { keep := (· < w0.heap.size), old := fun _ => True, lent := fun _ => none, ref := w0 } w0 N S t m a w) {fn : Func} {res : V} (h : resK T fn (fun v => v = res) ⟨t, m⟩) :
    LeavesInM (fen none) n P fn a.tmps (DPost w0 res) a.defers .returning w := by
  obtain ⟨v, h1, h2⟩ := res_sound hT hs h
  have : a.defers = [] := hs.nodef
  rw [this]
  exact ⟨v, h1, v, rfl, h2, hs.low.below⟩

theorem ends1 (hT : TOk P T) {n : Nat} {W1 : World} {D : Nat} (hA : A D) (hB : ¬ D < w0.heap.size) (hlow : Low (· < w0.heap.size) w0 W1) (hs : Sat (outB { keep := (· < w0.heap.size), old := fun _ => True, lent := fun _ => none, ref := w0 } W1 G A [{ target := .collected D, args := #[] }]) w0 N S t m a w)
    (hD : W1.heap[D]? = some (.deferred (some []))) {fn : Func} {res : V} (h : resK T fn (fun v => v = res) ⟨t, m⟩) :
    LeavesInM (fen none) n P fn a.tmps (DPost w0 res) a.defers .returning w := by
  have hd : a.defers = [{ target := .collected D, args := #[] }] := hs.nodef
  have hD2 : w.heap[D]? = some (.deferred (some [])) := (hs.low.block D (.inr hA)).trans hD
  have hM := (Mem.back (G' := t.zip a.tmps.toList) hlow hs (zip_of hs.tmps)).put (l := D) (o := .deferred none) hA hB
  obtain ⟨N2, S2, hs2⟩ := hM.frame (t := t) (a := a) fun N S hG => of_zip hs.tmps.1 hG
  obtain ⟨v, h1, h2⟩ := res_sound hT hs2 h
  rw [hd]
  exact ⟨by simp, .inl ⟨D, _, rfl, run_takeDeferred hD2, v, h1, v, rfl, h2, hM.low.below⟩⟩

end
end Go.Proofs.Ytppkkonhfkegoaa
