/-
  Contracts of the packages trace and faasref51, part twelve: Check in the reference; roots; children.
-/
import Derived.Test.YtppkkonhfkegoaaTrB
namespace Go.Proofs.Ytppkkonhfkegoaa
open Go.RowKit

set_option maxRecDepth 100000 in
theorem x_rcheck (l : List Sp) (hl : l.length ≤ 8796093022207) (hok : okAll l) : DCalls Try.prog 9 [sps l] (two (checkP l)) := by
  refine sx Try.func9 (by kernel_rfl) ?_
  conv => whnf
  rintro (_ | _) h0
  rotate_left
  · exact fin_two (p := (0, 3)) (by simp at h0; rw [checkP, if_pos (by omega)])
  simp at h0
  have hc : checkP l = match fstE (sgE l) l.length 0 with
    | some (i, e) => (i, e)
    | none => match fstE (lkE l) l.length 0 with
      | some (i, e) => (i, e)
      | none => match fstE (ccE l) l.length 0 with
        | some (i, e) => (i, e)
        | none => (0, 0) := if_neg (by omega)
  rw [hc]
  clear hc
  conv => whnf
  refine ⟨[], Nat, fun k => [(4, int k)], fun _ => [], fun k => k ≤ l.length ∧ fstE (sgE l) l.length 0 = fstE (sgE l) (l.length - k) k, fun k => l.length - k, 0, ⟨by omega, rfl⟩, ?_, ?_⟩
  · refine ⟨rfl, ?_, ?_⟩ <;> repeat' (first | exact trivial | exact rfl | refine and_rfl ?_ | refine and_two ?_ ?_)
  rintro k ⟨hk, hf⟩
  conv => whnf
  rintro (_ | _) h1
  rotate_left
  · simp at h1
    have e : l.length - k = (l.length - k - 1) + 1 := by omega
    rw [e] at hf
    simp only [fstE] at hf
    have hs : sgE l k = singleE l l[k] k := by simp [sgE, h1]
    rw [hs] at hf
    conv => whnf
    refine ⟨_, x_alone l k h1 hl (hok _ (List.getElem_mem h1)), ?_⟩
    conv => whnf
    rintro (_ | _) h2
    · simp at h2
      rw [if_pos h2] at hf
      conv => whnf
      refine ⟨k + 1, ⟨h1, by rw [hf]; congr 1⟩, by dsimp only; omega, ?_⟩
      refine ⟨rfl, ?_, ?_⟩ <;> repeat' (first | exact trivial | exact rfl | refine and_rfl ?_ | refine and_val (wrap_succ (by omega)) ?_ | refine and_two ?_ ?_)
    · simp at h2
      rw [if_neg h2] at hf
      rw [hf]
      rfl
  simp at h1
  have e : l.length - k = 0 := by omega
  rw [e] at hf
  rw [hf]
  clear hf e h1 hk
  simp only [fstE]
  conv => whnf
  refine ⟨[], Nat, fun k => [(6, int k)], fun _ => [], fun k => k ≤ l.length ∧ fstE (lkE l) l.length 0 = fstE (lkE l) (l.length - k) k, fun k => l.length - k, 0, ⟨by omega, rfl⟩, ?_, ?_⟩
  · refine ⟨rfl, ?_, ?_⟩ <;> repeat' (first | exact trivial | exact rfl | refine and_rfl ?_ | refine and_two ?_ ?_)
  rintro k ⟨hk, hf⟩
  conv => whnf
  rintro (_ | _) h1
  rotate_left
  · simp at h1
    have e : l.length - k = (l.length - k - 1) + 1 := by omega
    rw [e] at hf
    simp only [fstE] at hf
    have hs : lkE l k = linkE l l[k] := by simp [lkE, h1]
    rw [hs] at hf
    conv => whnf
    refine ⟨_, x_rlinked l k h1 hl, ?_⟩
    conv => whnf
    rintro (_ | _) h2
    · simp at h2
      rw [if_pos h2] at hf
      conv => whnf
      refine ⟨k + 1, ⟨h1, by rw [hf]; congr 1⟩, by dsimp only; omega, ?_⟩
      refine ⟨rfl, ?_, ?_⟩ <;> repeat' (first | exact trivial | exact rfl | refine and_rfl ?_ | refine and_val (wrap_succ (by omega)) ?_ | refine and_two ?_ ?_)
    · simp at h2
      rw [if_neg h2] at hf
      rw [hf]
      rfl
  simp at h1
  have e : l.length - k = 0 := by omega
  rw [e] at hf
  rw [hf]
  have hL := link_all fun i hi => fstE_none _ _ hf i (by omega) (by omega)
  clear hf e h1 hk
  simp only [fstE]
  conv => whnf
  refine ⟨[], Nat, fun k => [(8, int k)], fun _ => [], fun k => k ≤ l.length ∧ fstE (ccE l) l.length 0 = fstE (ccE l) (l.length - k) k, fun k => l.length - k, 0, ⟨by omega, rfl⟩, ?_, ?_⟩
  · refine ⟨rfl, ?_, ?_⟩ <;> repeat' (first | exact trivial | exact rfl | refine and_rfl ?_ | refine and_two ?_ ?_)
  rintro k ⟨hk, hf⟩
  conv => whnf
  rintro (_ | _) h1
  rotate_left
  · simp at h1
    have e : l.length - k = (l.length - k - 1) + 1 := by omega
    rw [e] at hf
    simp only [fstE] at hf
    conv => whnf
    refine ⟨_, x_rcircular l k h1 hl hL, ?_⟩
    conv => whnf
    rintro (_ | _) h2
    · rw [if_pos (by simp [ccE, h2])] at hf
      conv => whnf
      refine ⟨k + 1, ⟨h1, by rw [hf]; congr 1⟩, by dsimp only; omega, ?_⟩
      refine ⟨rfl, ?_, ?_⟩ <;> repeat' (first | exact trivial | exact rfl | refine and_rfl ?_ | refine and_val (wrap_succ (by omega)) ?_ | refine and_two ?_ ?_)
    · rw [if_neg (by simp [ccE, h2])] at hf
      rw [hf]
      simp only [ccE, h2]
      rfl
  simp at h1
  have e : l.length - k = 0 := by omega
  rw [e] at hf
  rw [hf]
  rfl

/-- The places of spans with a property. -/
def idxs (p : Sp → Bool) : List Sp → Nat → List Nat
  | [], _ => []
  | s :: l, i => if p s then i :: idxs p l (i + 1) else idxs p l (i + 1)
def natD (k : Nat) : List D := [.cv (.int .i64 k)]
abbrev nats (xs : List Nat) : V := .sl true 1 (xs.map natD)
theorem fin_nats {a b : List Nat} (h : a = b) : nats a = nats b := by rw [h]

theorem idxs_lt (p : Sp → Bool) : ∀ (l : List Sp) (i : Nat), ∀ x ∈ idxs p l i, i ≤ x ∧ x < i + l.length
  | [], i, x, h => by simp [idxs] at h
  | s :: l, i, x, h => by
    simp only [idxs] at h
    split at h
    · rcases List.mem_cons.1 h with rfl | h
      · simp
      · have := idxs_lt p l (i + 1) x h; simp; omega
    · have := idxs_lt p l (i + 1) x h; simp; omega

def validB (l : List Sp) : Bool := (checkP l).2 == 0
theorem x_valid (l : List Sp) (hl : l.length ≤ 8796093022207) (hok : okAll l) : DCalls Try.prog 34 [sps l] (boo (validB l)) := by
  refine sx Try.func34 (by kernel_rfl) ?_
  conv => whnf
  refine ⟨_, x_check l hl hok, ?_⟩
  rfl

def rootB (s : Sp) : Bool := sEq s.pa emp && sEq s.ca emp
def rootsP (l : List Sp) : List Nat := if validB l then idxs rootB l 0 else []

theorem drop_cons {α : Type} {l : List α} {k : Nat} (h : k < l.length) : l.drop k = l[k] :: l.drop (k + 1) := List.drop_eq_getElem_cons h

theorem app_len {acc : List Nat} {l : List Sp} {k : Nat} {p : Sp → Bool} {r : List Nat} (h : acc ++ idxs p (l.drop k) k = r) : acc.length ≤ r.length := by rw [← h]; simp

theorem idxs_len (p : Sp → Bool) : ∀ (l : List Sp) (i : Nat), (idxs p l i).length ≤ l.length
  | [], i => by simp [idxs]
  | s :: l, i => by
    simp only [idxs]
    have := idxs_len p l (i + 1)
    split <;> simp <;> omega

set_option maxRecDepth 100000 in
theorem x_roots (l : List Sp) (hl : l.length ≤ 8796093022207) (hok : okAll l) : DCalls Try.prog 11 [sps l] (nats (rootsP l)) := by
  refine sx Try.func11 (by kernel_rfl) ?_
  conv => whnf
  refine ⟨_, x_valid l hl hok, ?_⟩
  conv => whnf
  rintro (_ | _) h0
  rotate_left
  · have : rootsP l = [] := by simp at h0; simp [rootsP, h0]
    rw [this]; rfl
  simp at h0
  have hr : rootsP l = idxs rootB l 0 := by simp [rootsP, h0]
  rw [hr]
  have hlen := idxs_len rootB l 0
  conv => whnf
  refine ⟨[(3, 28, 3, 1)], Nat × List Nat, fun ⟨k, acc⟩ => [(12, int k), (3, .ow 28 0)], fun ⟨k, acc⟩ => [(28, some (.row 0 3 1 true (acc.map natD)))], fun ⟨k, acc⟩ => k ≤ l.length ∧ acc ++ idxs rootB (l.drop k) k = idxs rootB l 0, fun x => l.length - x.1, (0, []), ⟨by omega, rfl⟩, ?_, ?_⟩
  · refine ⟨rfl, ?_, ?_⟩ <;> repeat' (first | exact trivial | exact rfl | refine and_rfl ?_ | refine and_two ?_ ?_)
  rintro ⟨k, acc⟩ ⟨hk, hf⟩
  conv => whnf
  rintro (_ | _) h1
  · simp at h1
    have e : k = l.length := by omega
    subst e
    simp [idxs] at hf
    rw [← hf]; rfl
  simp at h1
  have ha := app_len hf
  rw [drop_cons h1] at hf
  simp only [idxs] at hf
  conv => whnf
  refine ⟨by omega, _, get_map spD h1, ?_⟩
  have no : rootB l[k] = false → acc ++ idxs rootB (l.drop (k + 1)) (k + 1) = idxs rootB l 0 := fun h => by rw [h] at hf; exact hf
  conv => whnf
  rintro (_ | _) h2
  · have h2 : sEq l[k].pa emp = false := h2
    conv => whnf
    refine ⟨(k + 1, acc), ⟨h1, no (by simp [rootB, h2])⟩, by dsimp only; omega, ?_⟩
    refine ⟨rfl, ?_, ?_⟩ <;> repeat' (first | exact trivial | exact rfl | refine and_rfl ?_ | refine and_val (wrap_succ (by omega)) ?_ | refine and_two ?_ ?_ | (simp [natD]; done))
  · have h2 : sEq l[k].pa emp = true := h2
    conv => whnf
    rintro (_ | _) h3
    · have h3 : sEq l[k].ca emp = false := h3
      conv => whnf
      refine ⟨(k + 1, acc), ⟨h1, no (by simp [rootB, h3])⟩, by dsimp only; omega, ?_⟩
      refine ⟨rfl, ?_, ?_⟩ <;> repeat' (first | exact trivial | exact rfl | refine and_rfl ?_ | refine and_val (wrap_succ (by omega)) ?_ | refine and_two ?_ ?_ | (simp [natD]; done))
    · have h3 : sEq l[k].ca emp = true := h3
      rw [show rootB l[k] = true by simp [rootB, h2, h3], if_pos rfl] at hf
      conv => whnf
      refine ⟨by simp; omega, ?_⟩
      conv => whnf
      refine ⟨(k + 1, acc ++ [k]), ⟨h1, by simpa using hf⟩, by dsimp only; omega, ?_⟩
      refine ⟨rfl, ?_, ?_⟩ <;> repeat' (first | exact trivial | exact rfl | refine and_rfl ?_ | refine and_val (wrap_succ (by omega)) ?_ | refine and_two ?_ ?_ | (simp [natD]; done))

set_option maxRecDepth 100000 in
theorem x_rroots (l : List Sp) (hl : l.length ≤ 8796093022207) (hok : okAll l) : DCalls Try.prog 12 [sps l] (nats (rootsP l)) := by
  refine sx Try.func12 (by kernel_rfl) ?_
  conv => whnf
  refine ⟨_, x_rcheck l hl hok, ?_⟩
  conv => whnf
  rintro (_ | _) h0
  rotate_left
  · have : rootsP l = [] := by simp at h0; simp [rootsP, validB, h0]
    rw [this]; rfl
  simp at h0
  have hr : rootsP l = idxs rootB l 0 := by simp [rootsP, validB, h0]
  rw [hr]
  have hlen := idxs_len rootB l 0
  conv => whnf
  refine ⟨[], Nat × List Nat, fun ⟨k, acc⟩ => [(6, int k), (3, .ow 7 0), (7, .un)], fun ⟨k, acc⟩ => [(7, some (.row 0 3 1 true (acc.map natD)))], fun ⟨k, acc⟩ => k ≤ l.length ∧ acc ++ idxs rootB (l.drop k) k = idxs rootB l 0, fun x => l.length - x.1, (0, []), ⟨by omega, rfl⟩, ?_, ?_⟩
  · refine ⟨rfl, ?_, ?_⟩ <;> repeat' (first | exact trivial | exact rfl | refine and_rfl ?_ | refine and_two ?_ ?_)
  rintro ⟨k, acc⟩ ⟨hk, hf⟩
  conv => whnf
  rintro (_ | _) h1
  · simp at h1
    have e : k = l.length := by omega
    subst e
    simp [idxs] at hf
    rw [← hf]; rfl
  simp at h1
  have ha := app_len hf
  rw [drop_cons h1] at hf
  simp only [idxs] at hf
  conv => whnf
  refine ⟨by omega, _, get_map spD h1, ?_⟩
  have no : rootB l[k] = false → acc ++ idxs rootB (l.drop (k + 1)) (k + 1) = idxs rootB l 0 := fun h => by rw [h] at hf; exact hf
  conv => whnf
  rintro (_ | _) h2
  · have h2 : sEq l[k].pa emp = false := h2
    conv => whnf
    refine ⟨(k + 1, acc), ⟨h1, no (by simp [rootB, h2])⟩, by dsimp only; omega, ?_⟩
    refine ⟨rfl, ?_, ?_⟩ <;> repeat' (first | exact trivial | exact rfl | refine and_rfl ?_ | refine and_val (wrap_succ (by omega)) ?_ | refine and_two ?_ ?_ | (simp [natD]; done))
  · have h2 : sEq l[k].pa emp = true := h2
    conv => whnf
    refine ⟨by omega, _, get_map spD h1, ?_⟩
    conv => whnf
    rintro (_ | _) h3
    · have h3 : sEq l[k].ca emp = false := h3
      conv => whnf
      refine ⟨(k + 1, acc), ⟨h1, no (by simp [rootB, h3])⟩, by dsimp only; omega, ?_⟩
      refine ⟨rfl, ?_, ?_⟩ <;> repeat' (first | exact trivial | exact rfl | refine and_rfl ?_ | refine and_val (wrap_succ (by omega)) ?_ | refine and_two ?_ ?_ | (simp [natD]; done))
    · have h3 : sEq l[k].ca emp = true := h3
      rw [show rootB l[k] = true by simp [rootB, h2, h3], if_pos rfl] at hf
      conv => whnf
      refine ⟨by simp; omega, ?_⟩
      conv => whnf
      refine ⟨(k + 1, acc ++ [k]), ⟨h1, by simpa using hf⟩, by dsimp only; omega, ?_⟩
      refine ⟨rfl, ?_, ?_⟩ <;> repeat' (first | exact trivial | exact rfl | refine and_rfl ?_ | refine and_val (wrap_succ (by omega)) ?_ | refine and_two ?_ ?_ | (simp [natD]; done))

def kidB (x : ByteArray) (s : Sp) : Bool := sEq s.pa x
def kidsP (l : List Sp) (x : ByteArray) : List Nat := idxs (kidB x) l 0

set_option maxRecDepth 100000 in
theorem x_kids (l : List Sp) (x : ByteArray) (hl : l.length ≤ 8796093022207) : DCalls Try.prog 36 [sps l, str x] (nats (kidsP l x)) := by
  refine sx Try.func36 (by kernel_rfl) ?_
  have hlen := idxs_len (kidB x) l 0
  conv => whnf
  refine ⟨[(5, 22, 3, 1)], Nat × List Nat, fun ⟨k, acc⟩ => [(10, int k), (5, .ow 22 0)], fun ⟨k, acc⟩ => [(22, some (.row 0 3 1 true (acc.map natD)))], fun ⟨k, acc⟩ => k ≤ l.length ∧ acc ++ idxs (kidB x) (l.drop k) k = idxs (kidB x) l 0, fun x => l.length - x.1, (0, []), ⟨by omega, rfl⟩, ?_, ?_⟩
  · refine ⟨rfl, ?_, ?_⟩ <;> repeat' (first | exact trivial | exact rfl | refine and_rfl ?_ | refine and_two ?_ ?_)
  rintro ⟨k, acc⟩ ⟨hk, hf⟩
  conv => whnf
  rintro (_ | _) h1
  · simp at h1
    have e : k = l.length := by omega
    subst e
    simp [idxs] at hf
    rw [kidsP, ← hf]; rfl
  simp at h1
  have ha := app_len hf
  rw [drop_cons h1] at hf
  simp only [idxs] at hf
  conv => whnf
  refine ⟨by omega, _, get_map spD h1, ?_⟩
  conv => whnf
  rintro (_ | _) h2
  · have h2 : kidB x l[k] = false := h2
    rw [h2] at hf
    conv => whnf
    refine ⟨(k + 1, acc), ⟨h1, hf⟩, by dsimp only; omega, ?_⟩
    refine ⟨rfl, ?_, ?_⟩ <;> repeat' (first | exact trivial | exact rfl | refine and_rfl ?_ | refine and_val (wrap_succ (by omega)) ?_ | refine and_two ?_ ?_ | (simp [natD]; done))
  · have h2 : kidB x l[k] = true := h2
    rw [h2, if_pos rfl] at hf
    conv => whnf
    refine ⟨by simp; omega, ?_⟩
    conv => whnf
    refine ⟨(k + 1, acc ++ [k]), ⟨h1, by simpa using hf⟩, by dsimp only; omega, ?_⟩
    refine ⟨rfl, ?_, ?_⟩ <;> repeat' (first | exact trivial | exact rfl | refine and_rfl ?_ | refine and_val (wrap_succ (by omega)) ?_ | refine and_two ?_ ?_ | (simp [natD]; done))

set_option maxRecDepth 100000 in
theorem x_rkids (l : List Sp) (x : ByteArray) (hl : l.length ≤ 8796093022207) : DCalls Try.prog 38 [sps l, str x] (nats (kidsP l x)) := by
  refine sx Try.func38 (by kernel_rfl) ?_
  have hlen := idxs_len (kidB x) l 0
  conv => whnf
  refine ⟨[], Nat × List Nat, fun ⟨k, acc⟩ => [(6, int k), (5, .ow 7 0), (7, .un)], fun ⟨k, acc⟩ => [(7, some (.row 0 3 1 true (acc.map natD)))], fun ⟨k, acc⟩ => k ≤ l.length ∧ acc ++ idxs (kidB x) (l.drop k) k = idxs (kidB x) l 0, fun x => l.length - x.1, (0, []), ⟨by omega, rfl⟩, ?_, ?_⟩
  · refine ⟨rfl, ?_, ?_⟩ <;> repeat' (first | exact trivial | exact rfl | refine and_rfl ?_ | refine and_two ?_ ?_)
  rintro ⟨k, acc⟩ ⟨hk, hf⟩
  conv => whnf
  rintro (_ | _) h1
  · simp at h1
    have e : k = l.length := by omega
    subst e
    simp [idxs] at hf
    rw [kidsP, ← hf]; rfl
  simp at h1
  have ha := app_len hf
  rw [drop_cons h1] at hf
  simp only [idxs] at hf
  conv => whnf
  refine ⟨by omega, _, get_map spD h1, ?_⟩
  conv => whnf
  rintro (_ | _) h2
  · have h2 : kidB x l[k] = false := h2
    rw [h2] at hf
    conv => whnf
    refine ⟨(k + 1, acc), ⟨h1, hf⟩, by dsimp only; omega, ?_⟩
    refine ⟨rfl, ?_, ?_⟩ <;> repeat' (first | exact trivial | exact rfl | refine and_rfl ?_ | refine and_val (wrap_succ (by omega)) ?_ | refine and_two ?_ ?_ | (simp [natD]; done))
  · have h2 : kidB x l[k] = true := h2
    rw [h2, if_pos rfl] at hf
    conv => whnf
    refine ⟨by simp; omega, ?_⟩
    conv => whnf
    refine ⟨(k + 1, acc ++ [k]), ⟨h1, by simpa using hf⟩, by dsimp only; omega, ?_⟩
    refine ⟨rfl, ?_, ?_⟩ <;> repeat' (first | exact trivial | exact rfl | refine and_rfl ?_ | refine and_val (wrap_succ (by omega)) ?_ | refine and_two ?_ ?_ | (simp [natD]; done))

/-- Where a span stands in a trace, and the error. -/
def spanP (l : List Sp) (x : ByteArray) : Int × Int := if (checkP l).2 ≠ 0 then (0, (checkP l).2) else if findI l x < 0 then (0, 5) else (findI l x, 0)

theorem x_span (l : List Sp) (x : ByteArray) (hl : l.length ≤ 8796093022207) (hok : okAll l) : DCalls Try.prog 39 [sps l, str x] (two (spanP l x)) := by
  refine sx Try.func39 (by kernel_rfl) ?_
  conv => whnf
  refine ⟨_, x_check l hl hok, ?_⟩
  conv => whnf
  rintro (_ | _) h0
  rotate_left
  · exact fin_two (p := (0, (checkP l).2)) (by simp at h0; rw [spanP, if_pos h0])
  simp at h0
  conv => whnf
  refine ⟨_, x_find l x hl, ?_⟩
  conv => whnf
  rintro (_ | _) h1
  · exact fin_two (p := (findI l x, 0)) (by simp at h1; rw [spanP, if_neg (by simp [h0]), if_neg (by omega)])
  · exact fin_two (p := (0, 5)) (by simp at h1; rw [spanP, if_neg (by simp [h0]), if_pos h1])

theorem x_place (l : List Sp) (x : ByteArray) (hl : l.length ≤ 8796093022207) (hok : okAll l) : DCalls Try.prog 37 [sps l, str x] (two (spanP l x)) := by
  refine sx Try.func37 (by kernel_rfl) ?_
  conv => whnf
  refine ⟨_, x_rcheck l hl hok, ?_⟩
  conv => whnf
  rintro (_ | _) h0
  rotate_left
  · exact fin_two (p := (0, (checkP l).2)) (by simp at h0; rw [spanP, if_pos h0])
  simp at h0
  conv => whnf
  refine ⟨_, x_rfind l x hl, ?_⟩
  conv => whnf
  rintro (_ | _) h1
  · exact fin_two (p := (findI l x, 0)) (by simp at h1; rw [spanP, if_neg (by simp [h0]), if_neg (by omega)])
  · exact fin_two (p := (0, 5)) (by simp at h1; rw [spanP, if_neg (by simp [h0]), if_pos h1])

def childrenP (l : List Sp) (x : ByteArray) : List Nat := if (spanP l x).2 = 0 then kidsP l x else []

theorem x_children (l : List Sp) (x : ByteArray) (hl : l.length ≤ 8796093022207) (hok : okAll l) : DCalls Try.prog 13 [sps l, str x] (nats (childrenP l x)) := by
  refine sx Try.func13 (by kernel_rfl) ?_
  conv => whnf
  refine ⟨_, x_valid l hl hok, ?_⟩
  conv => whnf
  rintro (_ | _) h0
  rotate_left
  · have : childrenP l x = [] := by simp [validB] at h0; simp [childrenP, spanP, h0]
    rw [this]; rfl
  simp [validB] at h0
  conv => whnf
  refine ⟨_, x_find l x hl, ?_⟩
  conv => whnf
  rintro (_ | _) h1
  · conv => whnf
    refine ⟨_, x_kids l x hl, ?_⟩
    have : childrenP l x = kidsP l x := by
      simp at h1
      have e : (spanP l x).2 = 0 := by rw [spanP, if_neg (by simp [h0]), if_neg (by omega)]
      rw [childrenP, if_pos e]
    rw [this]; rfl
  · have : childrenP l x = [] := by
      simp at h1
      have e : (spanP l x).2 = 5 := by rw [spanP, if_neg (by simp [h0]), if_pos h1]
      rw [childrenP, if_neg (by rw [e]; decide)]
    rw [this]; rfl

theorem x_rchildren (l : List Sp) (x : ByteArray) (hl : l.length ≤ 8796093022207) (hok : okAll l) : DCalls Try.prog 14 [sps l, str x] (nats (childrenP l x)) := by
  refine sx Try.func14 (by kernel_rfl) ?_
  conv => whnf
  refine ⟨_, x_place l x hl hok, ?_⟩
  conv => whnf
  rintro (_ | _) h0
  rotate_left
  · have : childrenP l x = [] := by simp at h0; simp [childrenP, h0]
    rw [this]; rfl
  simp at h0
  conv => whnf
  refine ⟨_, x_rkids l x hl, ?_⟩
  have : childrenP l x = kidsP l x := by rw [childrenP, if_pos h0]
  rw [this]; rfl

set_option maxRecDepth 100000 in
theorem x_ints (a b : List Nat) (ha : a.length ≤ 8796093022207) : DCalls Try.prog 10 [nats a, nats b] (boo (decide (a = b))) := by
  refine sx Try.func10 (by kernel_rfl) ?_
  conv => whnf
  rintro (_ | _) h0
  rotate_left
  · exact fin_boo (by simp at h0; simp; intro e; subst e; exact h0 rfl)
  simp at h0
  conv => whnf
  refine ⟨[], Nat, fun k => [(5, int k)], fun _ => [], fun k => k ≤ a.length ∧ ∀ i, (h : i < k) → a[i]? = b[i]?, fun k => a.length - k, 0, ⟨by omega, fun i h => by omega⟩, ?_, ?_⟩
  · refine ⟨rfl, ?_, ?_⟩ <;> repeat' (first | exact trivial | exact rfl | refine and_rfl ?_ | refine and_two ?_ ?_)
  rintro k ⟨hk, hf⟩
  conv => whnf
  rintro (_ | _) h1
  · simp at h1
    have e : k = a.length := by omega
    subst e
    have : a = b := by
      refine List.ext_getElem? fun i => ?_
      rcases Nat.lt_or_ge i a.length with h | h
      · exact hf i h
      · rw [List.getElem?_eq_none h, List.getElem?_eq_none (by omega)]
    exact fin_boo (by simp [this])
  simp at h1
  conv => whnf
  refine ⟨none, by kernel_rfl, ?_⟩
  conv => whnf
  refine ⟨by omega, _, get_map natD h1, ?_⟩
  conv => whnf
  refine ⟨by omega, _, get_map natD (show k < b.length by omega), ?_⟩
  conv => whnf
  rintro (_ | _) h2
  · simp at h2
    conv => whnf
    refine ⟨k + 1, ⟨h1, fun i hi => ?_⟩, by dsimp only; omega, ?_⟩
    · by_cases e : i = k
      · subst e
        rw [List.getElem?_eq_getElem h1, List.getElem?_eq_getElem (by omega)]
        congr 1; omega
      · exact hf i (by omega)
    refine ⟨rfl, ?_, ?_⟩ <;> repeat' (first | exact trivial | exact rfl | refine and_rfl ?_ | refine and_val (wrap_succ (by omega)) ?_ | refine and_two ?_ ?_ | (simp [natD]; done))
  · simp at h2
    exact fin_boo (by simp; intro e; subst e; exact h2 rfl)

end Go.Proofs.Ytppkkonhfkegoaa
