/- Texts joined by pack.py: XWords XSxG0 -/
import Derived.Test.YtglndfgmlminpaaGreatDoorRows
import Derived.WalkKit
import Derived.WalkSpells
import Derived.WalkLawsBesides
import Derived.Lib.Hide
import Derived.Lib.LaidTab
import Derived.Lib.ItoaNum
set_option maxHeartbeats 4000000
namespace Go.Proofs.YtglndfgmlminpaaGreatDoor
theorem oM {p : Prop} (h : p := by omega) : p := h
theorem kR {p : Prop} (h : p := by kernel_rfl) : p := h
theorem oL {p : Prop} (h : p := by (try simp only [List.length_append, List.length_cons, List.length_nil]); omega) : p := h
theorem sO {p : Prop} (h : p := by simp; omega) : p := h
theorem dC {p : Prop} (h : p := by decide) : p := h
theorem sI {p : Prop} (h : p := by simp) : p := h
abbrev a_ := @List.length_append
abbrev b_ := @List.length_cons
abbrev c_ := @List.length_nil
abbrev d_ := @List.length_map
abbrev e_ := @List.getElem?_map
abbrev f_ := @Nat.le_refl
abbrev g_ := @Int.natCast_nonneg
abbrev h_ := @List.getElem?_eq_getElem
abbrev i_ := @Int.toNat_natCast
abbrev j_ := @Bool.and_eq_true
abbrev k_ := @List.drop_eq_nil_of_le
abbrev l_ := @Nat.zero_le
abbrev m_ := @List.mem_of_getElem?
abbrev n_ := @Bool.true_and
abbrev o_ := @Option.map_eq_some_iff
abbrev p_ := @List.length_drop
abbrev q_ := @List.getElem_mem
abbrev r_ := @List.drop_eq_getElem_cons
abbrev s_ := @Nat.lt_or_ge
abbrev t_ := @Array.getD_eq_getD_getElem?
abbrev u_ := @Bool.false_and
abbrev v_ := @List.getD_eq_getElem?_getD
abbrev w_ := @Nat.le_trans
abbrev x_ := @List.getElem?_set_ne
abbrev y_ := @Bool.false_eq_true
abbrev z_ := @Bool.eq_iff_iff
abbrev A_ := @IntWalk.i64_in
abbrev B_ := @List.length_take
abbrev C_ := @Bool.or_eq_true
abbrev D_ := @List.getElem?_take
abbrev E_ := @List.getElem?_append_left
abbrev F_ := @List.getElem?_set_self
abbrev G_ := @List.length_singleton
abbrev H_ := @Nat.mul_le_mul_right
abbrev I_ := @Array.getElem?_eq_getElem
abbrev J_ := @List.getElem?_eq_none
abbrev K_ := @List.getElem?_drop
abbrev L_ := @List.getElem?_append_right
abbrev M_ := @List.take_of_length_le
abbrev N_ := @List.getElem?_replicate
abbrev O_ := @List.eq_nil_of_length_eq_zero
section
open Go.RowKit
structure Rd (w : World) (B size : Nat) (A : Option Addr) (n : Nat) (xs : List Value) : Prop where
 len : xs.length = n * size
 here : 0 < n → ∃ b o, A = some ⟨b, o, none⟩ ∧ b < B ∧ ∀ j u, xs[j]? = some u → w.cell? ⟨b, o + j, none⟩ = some u
theorem Rd.nil {w : World} {B size : Nat} {A : Option Addr} : Rd w B size A 0 [] := ⟨by simp, fun h => absurd h oM⟩
theorem Rd.below {w w' : World} {B size n : Nat} {A : Option Addr} {xs : List Value} (h : Rd w B size A n xs) (hb : Below B w w') : Rd w' B size A n xs :=
 ⟨h.len, fun hn => by
  obtain ⟨b, o, e, hlt, hc⟩ := h.here hn
  exact ⟨b, o, e, hlt, fun j u hu => (hb.cell (p := ⟨b, o + j, none⟩) hlt).trans (hc j u hu)⟩⟩
theorem Rd.more {w : World} {B B' size n : Nat} {A : Option Addr} {xs : List Value} (h : Rd w B size A n xs) (hB : B ≤ B') : Rd w B' size A n xs :=
 ⟨h.len, fun hn => by
  obtain ⟨b, o, e, hlt, hc⟩ := h.here hn
  exact ⟨b, o, e, oM, hc⟩⟩
theorem Rd.one {w : World} {B n k : Nat} {A : Option Addr} {xs : List Value} (h : Rd w B 1 A n xs) (hk : k < n) :
  ∃ b o u, A = some ⟨b, o, none⟩ ∧ b < B ∧ xs[k]? = some u ∧ w.cell? ⟨b, o + k, none⟩ = some u := by
 obtain ⟨b, o, e, hlt, hc⟩ := h.here oM
 have hl : k < xs.length := by have := h.len; omega
 exact ⟨b, o, xs[k], e, hlt, h_ hl, hc k _ (h_ hl)⟩
theorem Rd.fresh (w : World) (e : TypeId) (cs : Array Value) (B n : Nat) (hn : cs.size = n) (hB : w.heap.size < B) : Rd (w.alloc (.cells cs e)) B 1 (some ⟨w.heap.size, 0, none⟩) n cs.toList :=
 ⟨by simpa using hn, fun _ => ⟨w.heap.size, 0, rfl, hB, fun j u hu => by
  rw [cell_of_row (w.alloc (.cells cs e)) w.heap.size (0 + j) cs e (0, 0) (heap_alloc_new w _), Nat.zero_add]
  simpa using hu⟩⟩
theorem cf_ {w : World} {base size n : Nat} {e : TypeId} {v : Value} {xs : List Value} (h : w.ownsRow base e size v n xs) : ∃ A c, v = .slice A n c := by
 rcases h.2 with ⟨rfl, rfl⟩ | ⟨g, cap, cur, rfl, _⟩
 ·exact ⟨none, 0, rfl⟩
 ·exact ⟨_, _, rfl⟩
end
section
open Go.RowKit
def gcells : Nat → Option (List Value) := fun _ => none
def glob : Nat → Prop := fun g => g = 2 ∨ g = 3 ∨ (gcells g).isSome = true
def jj_ (w : World) : Prop :=
 (∃ ev, w.cell? ⟨2, 0, none⟩ = some ev ∧ (ev = .nilIface ∨ ∃ te pe, ev = .iface te pe)) ∧ Lib.TabIs Tryz.prog w "internal/strconv.uint64pow10" .u64 Lib.pow10Tab ∧
 ∀ g cs, gcells g = some cs → g < w.heap.size ∧ ∀ i v, cs[i]? = some v → w.cell? ⟨g, i, none⟩ = some v
theorem pg_ : Program.globalNamed Tryz.prog "internal/strconv.uint64pow10" = some 3 := kR
theorem ginv_cells {w : World} (h : jj_ w) {g : Nat} {cs : List Value} (hg : gcells g = some cs) : g < w.heap.size ∧ ∀ i v, cs[i]? = some v → w.cell? ⟨g, i, none⟩ = some v := h.2.2 g cs hg
theorem gz_ {keep : Nat → Prop} {w w' : World} (h : jj_ w) (hk : ∀ g, glob g → keep g) (hl : ∀ k, keep k → w'.heap[k]? = w.heap[k]?) : jj_ w' := by
 obtain ⟨⟨ev, h1, h2⟩, h3, h4⟩ := h
 have e2 := hl _ (hk 2 (.inl rfl))
 have e3 := hl _ (hk 3 (.inr (.inl rfl)))
 refine ⟨⟨ev, ?_, h2⟩, ?_, fun g cs hg => ?_⟩
 ·rw [← h1]; unfold World.cell?; simp only [e2]
 ·unfold Lib.TabIs World.var? at h3 ⊢
  rw [pg_] at h3 ⊢
  simp only [Option.bind_some, e3] at h3 ⊢
  exact h3
 ·have e4 := hl g (hk g (.inr (.inr (by rw [hg]; rfl))))
  obtain ⟨h5, h6⟩ := h4 g cs hg
  refine ⟨?_, fun i v hv => ?_⟩
  ·rcases s_ g w'.heap.size with h | h
   ·exact h
   ·rw [Array.getElem?_eq_none h, I_ h5] at e4; cases e4
  ·rw [← h6 i v hv]; unfold World.cell?; simp only [e4]
theorem ls_ {w : World} (h : jj_ w) {g : Nat} (hg : glob g) : g < w.heap.size := by
 obtain ⟨⟨ev, h1, h2⟩, h3, h4⟩ := h
 rcases hg with rfl | rfl | hg
 ·unfold World.cell? at h1
  rcases s_ 2 w.heap.size with h | h
  ·exact h
  ·simp [Array.getElem?_eq_none h] at h1
 ·unfold Lib.TabIs World.var? at h3
  rw [pg_] at h3
  rcases s_ 3 w.heap.size with h | h
  ·exact h
  ·simp [Array.getElem?_eq_none h] at h3
 ·obtain ⟨cs, hc⟩ := Option.isSome_iff_exists.1 hg
  exact (h4 g cs hc).1
end
end Go.Proofs.YtglndfgmlminpaaGreatDoor
