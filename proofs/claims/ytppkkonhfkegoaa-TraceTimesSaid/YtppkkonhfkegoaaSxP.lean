/-
  A reader of code over states that name their own memory: functions that are lent memory of their caller's. What is said of them; how such a call begins.
-/
import Derived.Test.YtppkkonhfkegoaaSxO
namespace Go.Proofs.Ytppkkonhfkegoaa
open Go.RowKit

/-- In what is said of a function the lent blocks are named 0, 1, ..; ns: what these names stand for. -/
def NamesOf (ns : List Value) : Names := fun n => (ns[n]?).map fun v => (0, v)
def blks (ns : List Value) (g : Nat) : Prop := ∃ v ∈ ns, atOf v = some g

structure MemOk (H : Nat) (S : Sets) (w : World) (ns : List Value) (m : List Bk) : Prop where
  len : ns.length = m.length
  blk : ∀ k b, m[k]? = some b → Holds H (NamesOf ns) S w k b
  apart : ∀ (j k : Nat) (u v : Value) g, ns[j]? = some u → ns[k]? = some v → atOf u = some g → atOf v = some g → j = k
  data : ∀ f g, S f g → g < w.heap.size ∧ ¬ blks ns g
  lt : ∀ g, blks ns g → g < w.heap.size

def oldS (So : Nat → Prop) : Sets := fun f g => f = false ∧ So g
def newS (So : Nat → Prop) (w w' : World) (ns' : List Value) : Sets := fun f g => g < w'.heap.size ∧ ¬ blks ns' g ∧ (w.heap.size ≤ g ∨ (f = false ∧ So g))

/-- WHAT IS SAID OF A FUNCTION THAT IS LENT MEMORY (st: the names stand for what they stood for): called with what reads as 'args', the lent blocks reading as 'm', it returns what reads as 'res', and these blocks, and perhaps some more, read as m'. -/
def MCallsG (st : Bool) (P : Program) (f : FuncId) (args : List V) (m : List Bk) (res : V) (m' : List Bk) : Prop :=
  (∃ fn, P.funcs[f]? = some fn ∧ (fn.name == "runtime.NumGoroutine") = false ∧ fn.body.isNone = false) ∧
  ∀ (w : World) (vs ns : List Value) (So : Nat → Prop), MemOk w.heap.size (oldS So) w ns m → RelL (NamesOf ns) (oldS So) w args vs →
    Calls P f vs.toArray w fun e w' => ∃ v ns', e = .returned v ∧ MemOk w.heap.size (newS So w w' ns') w' ns' m' ∧ RelV (NamesOf ns') (newS So w w' ns') w' res v ∧
      Low (fun g => g < w.heap.size ∧ ¬ blks ns g) w w' ∧ ns.length ≤ ns'.length ∧ (∀ (k : Nat) (a : Addr), ns[k]? = some (.pointer (some a)) → ns'[k]? = some (.pointer (some a))) ∧ (∀ g, blks ns' g → blks ns g ∨ w.heap.size ≤ g) ∧ (st = true → ∀ (k : Nat) (v : Value), ns[k]? = some v → ns'[k]? = some v)

abbrev MCalls := MCallsG false

/-! ### How it begins -/
def V.sh1 (base : Nat) : V → V
  | .bx n o => .bx (base + n) o
  | .ow n k => .ow (base + n) k
  | .oq n k s i o => .oq (base + n) k s i o
  | .vw n k s lo hi => .vw (base + n) k s lo hi
  | .cv v => .cv v
  | .kb b => .kb b
  | .sl f sz xs => .sl f sz xs
  | .el f cells o => .el f cells o
  | _ => .un

def V.sh (base : Nat) : V → V
  | .ag cs => .ag (cs.map (V.sh1 base))
  | .fn f n cs => .fn f n (cs.map (V.sh1 base))
  | v => v.sh1 base

def Bk.sh (base : Nat) : Bk → Bk
  | .box cs => .box (cs.map (V.sh base))
  | .row k E sz f xs => .row k E sz f xs

section
variable {P : Program} {T : Tab} {B : Fr} {w0 : World} {N : Names} {S : Sets} {t t' : List V} {m m' : List (Option Bk)} {a : Act} {w : World}

theorem sh_rel {N N' : Names} {base : Nat} (hN : ∀ n, N' (base + n) = N n) {v : V} {u : Value} (h : RelV N S w v u) : RelV N' S w (v.sh base) u := by
  have one : ∀ {v : V} {u : Value}, RelV N S w v u → RelV N' S w (v.sh1 base) u := by
    intro v u h
    cases h <;> simp only [V.sh1] <;> try exact .un _
    · exact .cv _
    · exact .kb _
    · exact .sl _ _ _ _ (by assumption)
    · exact .el _ _ _ _ _ (by assumption) _ (by assumption)
    · rename_i hn; exact .bx _ _ _ (by rw [hN]; exact hn)
    · rename_i hu hn; exact .ow _ _ _ hu (by rw [hN]; exact hn)
    · rename_i hu hn; exact .oq _ _ _ _ _ _ hu (by rw [hN]; exact hn)
    · rename_i hu hn; exact .vw _ _ _ _ _ _ hu (by rw [hN]; exact hn)
  have list : ∀ {cs : List V} {i : Nat} {v : V} {us : Array Value}, (∀ i v, cs[i]? = some v → RelV N S w v (us.getD i undef)) → (cs.map (V.sh1 base))[i]? = some v → RelV N' S w v (us.getD i undef) := by
    intro cs i v us h hv
    rw [List.getElem?_map, Option.map_eq_some_iff] at hv
    obtain ⟨v', hv', rfl⟩ := hv
    exact one (h i v' hv')
  unfold V.sh
  split
  · cases h with
    | ag _ us hl h => exact .ag _ us (by simpa using hl) fun i v hv => list h hv
  · cases h with
    | fn _ _ _ us vs hn hl h => exact .fn _ _ _ us vs hn (by simpa using hl) fun i v hv => list h hv
  · exact one h

theorem sh_holds {H : Nat} {N N' : Names} {base n : Nat} (hN : ∀ n, N' (base + n) = N n) {b : Bk} (h : Holds H N S w n b) : Holds H N' S w (base + n) (b.sh base) := by
  cases b with
  | box cs =>
    obtain ⟨g, ty, us, h1, h2, h3, h4⟩ := h
    refine ⟨g, ty, us, (hN n).trans h1, h2, by simpa using h3, fun i v hv => ?_⟩
    rw [List.getElem?_map, Option.map_eq_some_iff] at hv
    obtain ⟨v', hv', rfl⟩ := hv
    exact sh_rel hN (h4 i v' hv')
  | row k E sz f xs =>
    obtain ⟨v, us, h1, h2⟩ := h
    exact ⟨v, us, (hN n).trans h1, h2⟩

def inM (ntmps : Nat) (m : List Bk) : List (Option Bk) := List.replicate ntmps none ++ m.map (fun b => some (b.sh ntmps)) ++ List.replicate (32 - m.length) none

theorem inM_get {ntmps : Nat} {m : List Bk} {k : Nat} {b : Bk} (h : (inM ntmps m)[k]? = some (some b)) : ∃ n b0, k = ntmps + n ∧ m[n]? = some b0 ∧ b = b0.sh ntmps := by
  unfold inM at h
  rw [List.getElem?_append] at h
  split at h
  · rw [List.getElem?_append] at h
    split at h
    · rw [List.getElem?_replicate] at h; split at h <;> cases h
    · rename_i hlt
      rw [List.getElem?_map, Option.map_eq_some_iff] at h
      obtain ⟨b0, h1, h2⟩ := h
      cases h2
      simp only [List.length_replicate] at h1 hlt
      exact ⟨k - ntmps, b0, by omega, h1, rfl⟩
  · rw [List.getElem?_replicate] at h; split at h <;> cases h

theorem inM_none {ntmps : Nat} {m : List Bk} {k : Nat} (h : ∀ b, (inM ntmps m)[k]? ≠ some (some b)) : k < ntmps ∨ m.length ≤ k - ntmps := by
  rcases Nat.lt_or_ge k ntmps with h1 | h1
  · exact .inl h1
  rcases Nat.lt_or_ge (k - ntmps) m.length with h2 | h2
  · refine absurd ?_ (h (m[k - ntmps].sh ntmps))
    unfold inM
    rw [List.getElem?_append_left (by simp; omega), List.getElem?_append_right (by simp; omega), List.getElem?_map, List.length_replicate, List.getElem?_eq_getElem h2]
    rfl
  · exact .inr h2

def baseN (base : Nat) (ns : List Value) : Names := fun n => if base ≤ n then NamesOf ns (n - base) else none
theorem baseN_add (base : Nat) (ns : List Value) (n : Nat) : baseN base ns (base + n) = NamesOf ns n := by
  unfold baseN; rw [if_pos (by omega)]; congr 1; omega
theorem baseN_some {base : Nat} {ns : List Value} {n x : Nat} {v : Value} (h : baseN base ns n = some (x, v)) : ∃ k, n = base + k ∧ ns[k]? = some v ∧ x = 0 := by
  unfold baseN at h
  split at h
  · simp only [NamesOf, Option.map_eq_some_iff] at h
    obtain ⟨u, hu, he⟩ := h
    cases he
    exact ⟨n - base, by omega, hu, rfl⟩
  · cases h

def frM (w : World) (ns : List Value) (So : Nat → Prop) (n : Nat) : Fr := { keep := fun g => g < w.heap.size ∧ ¬ blks ns g, old := So, lent := fun k => if n ≤ k then (match ns[k - n]? with | some (.pointer (some a)) => some a | _ => none) else none, ref := w }

/-- The state in which such a call begins. -/
theorem sat_enterM {args : List V} {vs ns : List Value} {So : Nat → Prop} {m : List Bk} (hm : MemOk w.heap.size (oldS So) w ns m) (h : RelL (NamesOf ns) (oldS So) w args vs) (n : Nat) (hn : args.length ≤ n) (h16 : m.length ≤ 16) :
    Sat (frM w ns So n) w (baseN n ns) (oldS So) (args.map (V.sh n) ++ List.replicate (n - args.length) .un) (inM n m) { tmps := vs.toArray ++ Array.replicate (n - vs.toArray.size) undef, defers := [] } w := by
  have hN := baseN_add n ns
  refine ⟨Low.refl _ _, rfl, ⟨by simp [h.1], fun i v hv => ?_⟩, ?_, ?_, ?_, ?_, ?_, ?_, fun _ h => h.1, fun g hg => .inr hg.2, fun k a hk => ?_, ⟨Nat.le_refl _, fun p h => (by cases h), fun g h => h.elim⟩⟩
  · rw [List.getElem?_append] at hv
    split at hv
    · rename_i hlt
      rw [List.getElem?_map, Option.map_eq_some_iff] at hv
      obtain ⟨v', hv', rfl⟩ := hv
      have := sh_rel hN (h.2 i v' hv')
      have hlt' : i < vs.length := by rw [← h.1]; exact lt_of_get hv'
      have e : (({ tmps := vs.toArray ++ Array.replicate (n - vs.toArray.size) undef, defers := [] } : Act).tmps.toList).getD i undef = vs.getD i undef := by
        simp only [Array.toList_append, List.getD_eq_getElem?_getD]
        rw [List.getElem?_append_left hlt']
      rw [e]; exact this
    · rw [List.getElem?_replicate] at hv
      split at hv
      · cases hv; exact .un _
      · cases hv
  · intro k b hb
    obtain ⟨j, b0, rfl, h1, rfl⟩ := inM_get hb
    exact sh_holds hN (hm.blk j b0 h1)
  · intro k hk
    rcases inM_none hk with h1 | h1
    · unfold baseN; rw [if_neg (by omega)]
    · unfold baseN
      split
      · simp only [NamesOf]
        rw [List.getElem?_eq_none (by rw [hm.len]; exact h1)]; rfl
      · rfl
  · intro j k x y u v g h1 h2 h3 h4
    obtain ⟨j', rfl, a1, _⟩ := baseN_some h1
    obtain ⟨k', rfl, a2, _⟩ := baseN_some h2
    rw [hm.apart j' k' u v g a1 a2 h3 h4]
  · intro f g hg
    refine ⟨(hm.data f g hg).1, fun k x v h1 h2 => ?_⟩
    obtain ⟨k', rfl, a1, _⟩ := baseN_some h1
    exact (hm.data f g hg).2 ⟨v, List.mem_of_getElem? a1, h2⟩
  · intro g hg; cases hg.1
  · intro k x v g h1 h2
    obtain ⟨k', rfl, a1, _⟩ := baseN_some h1
    have : blks ns g := ⟨v, List.mem_of_getElem? a1, h2⟩
    exact ⟨fun hk => hk.2 this, hm.lt g this⟩
  · simp only [frM] at hk
    split at hk
    rotate_left
    · cases hk
    rename_i hle
    split at hk
    rotate_left
    · cases hk
    rename_i a' ha
    cases hk
    have hlt := lt_of_get ha
    rw [hm.len] at hlt
    have hlen : (args.map (V.sh n) ++ List.replicate (n - args.length) V.un).length = n := by simp; omega
    rw [hlen]
    refine ⟨hle, by omega, ?_⟩
    unfold baseN
    rw [if_pos hle]
    simp [NamesOf, ha]

end
end Go.Proofs.Ytppkkonhfkegoaa
