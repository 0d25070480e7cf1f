/-
  A reader of code over states that name their own memory: one block changes; loads and stores.
-/
import Derived.Test.YtppkkonhfkegoaaSxB
namespace Go.Proofs.Ytppkkonhfkegoaa
open Go.RowKit

/-- The table's rows, below n. -/
def tabN (n : Nat) (T : Tab) : Tab := ⟨fun t => match Nat.blt t n with
  | true => T t
  | false => none, T.fm⟩

structure TOk (P : Program) (T : Tab) : Prop where
  get : ∀ t i, T t = some i → ∃ j, P.info? t = some j ∧ j.size = i.size ∧ j.bytes = i.bytes ∧ (∃ z, j.zero = some z ∧ z.cells.toList = i.zero) ∧ (∃ d, P.underlying t = some d ∧ kdOf d = i.kd) ∧ i.ok = true

theorem TOk.of {P : Program} {T : Tab} {n : Nat} (h : TabOk P T n) : TOk P (tabN n T) := by
  refine ⟨fun t i ht => ?_⟩
  simp only [tabN] at ht
  split at ht
  rotate_left
  · cases ht
  rename_i hlt
  have hlt' : t < n := by simpa [Nat.blt_eq] using hlt
  have := congrArg (fun l => l[t]?) h
  simp only [List.getElem?_map, List.getElem?_range hlt', Option.map_some, ht, Option.bind_some, Option.some.injEq] at this
  cases hi : P.info? t with
  | none => rw [hi] at this; simp at this
  | some j =>
    rw [hi] at this
    simp only [Option.map_some, Option.some.injEq, Prod.mk.injEq] at this
    obtain ⟨h1, h2, h3, h4, h5⟩ := this
    refine ⟨j, rfl, h1, h2, ?_, ?_, h5.symm⟩
    · simpa using h3
    · simpa using h4

section
variable {P : Program} {T : Tab} {B : Fr} {w0 : World} {N : Names} {S : Sets} {t : List V} {m : List (Option Bk)} {a : Act} {w : World}

theorem add_mk (g o n : Nat) : (⟨g, o, none⟩ : Addr).add n = ⟨g, o + n, none⟩ := by
  unfold Addr.add; split <;> simp_all

theorem Low.refl (B : Nat → Prop) (w : World) : Low B w w := ⟨rfl, rfl, rfl, Nat.le_refl _, fun _ _ => rfl⟩
theorem Low.trans {B : Nat → Prop} {a b c : World} (h : Low B a b) (k : Low B b c) : Low B a c :=
  ⟨k.os.trans h.os, k.tape.trans h.tape, k.output.trans h.output, Nat.le_trans h.size k.size, fun i hi => (k.block i hi).trans (h.block i hi)⟩
theorem Low.mono {B B' : Nat → Prop} {w w' : World} (h : Low B w w') (hB : ∀ g, B' g → B g) : Low B' w w' := ⟨h.os, h.tape, h.output, h.size, fun k hk => h.block k (hB k hk)⟩
theorem Low.drew {B : Nat → Prop} {a w : World} (h : Low B a w) : Low B a w.drew := ⟨h.os, h.tape, h.output, h.size, h.block⟩
theorem Low.alloc {B : Nat → Prop} {a w : World} (h : Low B a w) (hB : ∀ g, B g → g < w.heap.size) (o : Obj) : Low B a (w.alloc o) :=
  h.trans ⟨rfl, rfl, rfl, by simp, fun k hk => Below.heap_alloc _ _ _ (hB k hk)⟩
theorem Low.grown {B : Nat → Prop} {a w w' : World} {row : Option Nat} (h : Low B a w) (hg : w.grownBy w' row) (hB : ∀ g, B g → g < w.heap.size) (hr : ∀ k, row = some k → ¬ B k) : Low B a w' :=
  h.trans ⟨hg.os, hg.tape, hg.output, hg.size, fun k hk => hg.block k (hB k hk) (fun e => hr k e.symm hk)⟩
theorem Low.of_below {n : Nat} {w w' : World} (h : Below n w w') : Low (· < n) w w' := ⟨h.os, h.tape, h.output, h.size, h.block⟩
theorem Low.below {n : Nat} {w w' : World} (h : Low (· < n) w w') : Below n w w' := ⟨h.os, h.tape, h.output, h.size, h.block⟩

theorem More.mono {N' : Names} {S' : Sets} {w' : World} (h : More B w0 N S w) (hsz : w.heap.size ≤ w'.heap.size) (hr : ∀ v u, RelV N S w v u → RelV N' S' w' v u) (hb : ∀ g, B.keep g → g < w.heap.size)
    (hS : ∀ f g, S' f g → S f g ∨ w.heap.size ≤ g ∨ ¬ B.keep g) : More B w0 N' S' w' :=
  ⟨Nat.le_trans h.size hsz, fun p hp => hr _ _ (h.ghost p hp), fun g hg => ⟨(h.aside g hg).1, fun f hf => by
    obtain ⟨h1, h2⟩ := h.aside g hg
    rcases hS f g hf with h3 | h3 | h3
    · exact h2 f h3
    · have := hb g h1; omega
    · exact h3 h1⟩⟩

theorem Sat.size (hs : Sat B w0 N S t m a w) : w0.heap.size ≤ w.heap.size := hs.more.size

theorem Holds.mono {H : Nat} {N' : Names} {S' : Sets} {w' : World} {n : Nat} {b : Bk} (hNn : N' n = N n) (hN : NLe N N') (hS : ∀ f g, S f g → S' f g) (hw : ∀ f g, S f g → w'.heap[g]? = w.heap[g]?)
    (hb : ∀ x v g, N n = some (x, v) → atOf v = some g → w'.heap[g]? = w.heap[g]?) (h : Holds H N S w n b) : Holds H N' S' w' n b := by
  cases b with
  | box cs =>
    obtain ⟨g, ty, us, h1, h2, h3, h4⟩ := h
    exact ⟨g, ty, us, hNn.trans h1, (hb _ _ g h1 rfl).trans h2, h3, fun i v hv => (h4 i v hv).mono hN hS hw⟩
  | row k E sz f xs =>
    obtain ⟨v, us, h1, h2, h3, h4, h5, h6⟩ := h
    refine ⟨v, us, hNn.trans h1, ?_, h3, h4, fun i j d hd => ?_, h6⟩
    · refine ⟨h2.1, ?_⟩
      rcases h2.2 with h | ⟨g, cap, cur, e1, e2, e3, e4⟩
      · exact .inl h
      · exact .inr ⟨g, cap, cur, e1, e2, (hb _ _ g h1 (by rw [e1]; rfl)).trans e3, e4⟩
    · obtain ⟨u, hu, hr⟩ := h5 i j d hd
      exact ⟨u, hu, hr.mono (hS _) (hw _)⟩

/-- The block of one name changes (or comes to be). -/
theorem Sat.set (hs : Sat B w0 N S t m a w) {w' : World} {d k : Nat} {v : Value} {b : Bk} (hd : d < m.length)
    (hle : ∀ k0 v0, N d = some (k0, v0) → (k0 = k ∧ v0 = v) ∨ ((∃ A l c, v0 = .slice A l c) ∧ k0 < k))
    (low : Low B.keep B.ref w') (hsz : w.heap.size ≤ w'.heap.size)
    (hkeep : ∀ g, g < w.heap.size → (∀ x v0, N d = some (x, v0) → atOf v0 ≠ some g) → w'.heap[g]? = w.heap[g]?)
    (hat : ∀ g, atOf v = some g → g < w'.heap.size ∧ (w.heap.size ≤ g ∨ ∃ x v0, N d = some (x, v0) ∧ atOf v0 = some g))
    (hb : ∀ N' : Names, N' d = some (k, v) → (∀ v u, RelV N S w v u → RelV N' S w' v u) → (∀ f d u, RelD (S f) w d u → RelD (S f) w' d u) → Holds w0.heap.size N' S w' d b) :
    ∃ N' : Names, N' d = some (k, v) ∧ (∀ v u, RelV N S w v u → RelV N' S w' v u) ∧ Sat B w0 N' S t (m.set d (some b)) a w' := by
  let N' : Names := fun n => if n = d then some (k, v) else N n
  have hNd : N' d = some (k, v) := by simp [N']
  have hNo : ∀ n, n ≠ d → N' n = N n := fun n hn => by simp [N', hn]
  have hN : NLe N N' := by
    intro n k0 v0 h0
    by_cases hn : n = d
    · subst hn
      rcases hle k0 v0 h0 with ⟨rfl, rfl⟩ | ⟨hsl, hlt⟩
      · exact .inl hNd
      · exact .inr ⟨hsl, k, v, hNd, hlt⟩
    · exact .inl ((hNo n hn).trans h0)
  have hw : ∀ f g, S f g → w'.heap[g]? = w.heap[g]? := fun f g hg => hkeep g (hs.data f g hg).1 fun x v0 h0 => (hs.data f g hg).2 d x v0 h0
  have hrel : ∀ v u, RelV N S w v u → RelV N' S w' v u := fun v u h => h.mono hN (fun _ _ h => h) hw
  refine ⟨N', hNd, hrel, ?_⟩
  refine ⟨low, hs.nodef, hs.tmps.mono hN (fun _ _ h => h) hw, ?_, ?_, ?_, ?_, hs.fresh, ?_, fun g hg => Nat.lt_of_lt_of_le (hs.base g hg) hsz, hs.old, fun n g hn => ⟨(hs.lent n g hn).1, (hs.lent n g hn).2.1, (by
    have h0 := (hs.lent n g hn).2.2
    rcases hN _ _ _ h0 with h | ⟨⟨A, l, c, h⟩, _⟩
    · exact h
    · cases h)⟩, hs.more.mono hsz hrel hs.base fun _ _ h => .inl h⟩
  · intro j b' hj
    by_cases hjd : j = d
    · subst hjd
      rw [List.getElem?_set_self hd] at hj
      cases hj
      exact hb N' hNd hrel fun f d u h => h.mono (fun _ h => h) (hw f)
    · rw [List.getElem?_set_ne (Ne.symm hjd)] at hj
      refine (hs.blk j b' hj).mono (hNo j hjd) hN (fun _ _ h => h) hw fun x v1 g h1 h2 => hkeep g (hs.own j x v1 g h1 h2).2 fun x' v0 h0 h3 => hjd (hs.apart j d x x' v1 v0 g h1 h0 h2 h3)
  · intro j hj
    by_cases hjd : j = d
    · subst hjd; exact absurd (List.getElem?_set_self hd) (hj b)
    · rw [hNo j hjd]
      exact hs.non j fun b' hb' => hj b' (by rw [List.getElem?_set_ne (Ne.symm hjd)]; exact hb')
  · have key : ∀ j x u g, j ≠ d → N j = some (x, u) → atOf u = some g → atOf v = some g → False := by
      intro j x u g hjd h1 h2 h3
      obtain ⟨_, h4⟩ := hat g h3
      have := (hs.own j x u g h1 h2).2
      rcases h4 with h4 | ⟨x0, v0, h0, h5⟩
      · omega
      · exact hjd (hs.apart j d x x0 u v0 g h1 h0 h2 h5)
    intro j l x y u u' g h1 h2 h3 h4
    by_cases hjd : j = d <;> by_cases hld : l = d
    · rw [hjd, hld]
    · subst hjd
      rw [hNd] at h1; cases h1
      rw [hNo l hld] at h2
      exact (key l y u' g hld h2 h4 h3).elim
    · subst hld
      rw [hNd] at h2; cases h2
      rw [hNo j hjd] at h1
      exact (key j x u g hjd h1 h3 h4).elim
    · rw [hNo j hjd] at h1; rw [hNo l hld] at h2
      exact hs.apart j l x y u u' g h1 h2 h3 h4
  · intro f g hg
    refine ⟨Nat.lt_of_lt_of_le (hs.data f g hg).1 hsz, fun j x v1 h1 h2 => ?_⟩
    by_cases hjd : j = d
    · subst hjd
      rw [hNd] at h1; cases h1
      obtain ⟨_, h4⟩ := hat g h2
      rcases h4 with h4 | ⟨x0, v0, h0, h5⟩
      · have := (hs.data f g hg).1; omega
      · exact (hs.data f g hg).2 j x0 v0 h0 h5
    · rw [hNo j hjd] at h1
      exact (hs.data f g hg).2 j x v1 h1 h2
  · intro j x v1 g h1 h2
    by_cases hjd : j = d
    · subst hjd
      rw [hNd] at h1; cases h1
      obtain ⟨h3, h4⟩ := hat g h2
      refine ⟨fun hB => ?_, h3⟩
      rcases h4 with h4 | ⟨x0, v0, h0, h5⟩
      · have := hs.base g hB; omega
      · exact (hs.own j x0 v0 g h0 h5).1 hB
    · rw [hNo j hjd] at h1
      exact ⟨(hs.own j x v1 g h1 h2).1, Nat.lt_of_lt_of_le (hs.own j x v1 g h1 h2).2 hsz⟩

theorem lt_of_get {α : Type} {l : List α} {i : Nat} {x : α} (h : l[i]? = some x) : i < l.length := by
  rcases Nat.lt_or_ge i l.length with h' | h'
  · exact h'
  · rw [List.getElem?_eq_none h'] at h; cases h

/-- A new block under a name that is free. -/
theorem Sat.alloc (hs : Sat B w0 N S t m a w) {d : Nat} {v : Value} {b : Bk} {us : Array Value} {ty : TypeId} (hd : m[d]? = some none) (hv : atOf v = some w.heap.size)
    (hb : ∀ N' : Names, N' d = some (0, v) → (∀ v u, RelV N S w v u → RelV N' S (w.alloc (.cells us ty)) v u) → (∀ f d u, RelD (S f) w d u → RelD (S f) (w.alloc (.cells us ty)) d u) → Holds w0.heap.size N' S (w.alloc (.cells us ty)) d b) :
    ∃ N' : Names, N' d = some (0, v) ∧ (∀ v u, RelV N S w v u → RelV N' S (w.alloc (.cells us ty)) v u) ∧ Sat B w0 N' S t (m.set d (some b)) a (w.alloc (.cells us ty)) := by
  have hnone : N d = none := hs.non d fun b' h => by rw [hd] at h; cases h
  refine hs.set (lt_of_get hd) (fun k0 v0 h => by rw [hnone] at h; cases h) (hs.low.alloc hs.base _) (by simp) (fun g hg _ => Below.heap_alloc _ _ _ hg) (fun g hg => ?_) hb
  rw [hv] at hg; cases hg
  exact ⟨by simp, .inl (Nat.le_refl _)⟩

end
end Go.Proofs.Ytppkkonhfkegoaa
