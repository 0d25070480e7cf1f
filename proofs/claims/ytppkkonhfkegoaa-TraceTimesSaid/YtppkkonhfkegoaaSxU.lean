/-
  A reader of code over states that name their own memory: words for its use.
-/
import Derived.Test.YtppkkonhfkegoaaSxT
import Derived.IntWalk
namespace Go.Proofs.Ytppkkonhfkegoaa
open Go.RowKit

theorem fin_int {a b : Int} (h : a = b) : int a = int b := by rw [h]
theorem fin_boo {a b : Bool} (h : a = b) : boo a = boo b := by rw [h]
theorem get_map {α : Type} (f : α → List D) {l : List α} {k : Nat} (h : k < l.length) : (l.map f)[(k : Int).toNat]? = some (f l[k]) := by
  simp [h]
theorem get_mapi {α : Type} (f : α → List D) {l : List α} {i : Int} {k : Nat} (e : i = k) (h : k < l.length) : (l.map f)[i.toNat]? = some (f l[k]) := by
  subst e; exact get_map f h
theorem wrap_in {n : Int} (h : -9223372036854775808 ≤ n ∧ n ≤ 9223372036854775807) : IntKind.i64.wrap n = n := IntWalk.i64_in _ h
theorem wrap_succ {k : Nat} (h : k < 9223372036854775807) : IntKind.i64.wrap ((k : Int) + 1) = ((k + 1 : Nat) : Int) := by
  rw [IntWalk.i64_in _ (by omega)]; rfl
theorem and_rfl {α : Type} {a : α} {p : Prop} (h : p) : a = a ∧ p := ⟨rfl, h⟩
theorem and_two {p q : Prop} (h : p) (h' : q) : p ∧ q := ⟨h, h'⟩
theorem and_val {a b : Int} {p : Prop} (e : a = b) (h : p) : V.cv (.int .i64 a) = V.cv (.int .i64 b) ∧ p := ⟨by rw [e], h⟩

/-- A value of which all is known. -/
def V.val1 : V → Option Value
  | .cv v => some v
  | .kb b => some (.bool b)
  | _ => none
def valsL : List V → Option (List Value)
  | [] => some []
  | v :: l => match v.val1, valsL l with
    | some u, some us => some (u :: us)
    | _, _ => none
def V.val2 : V → Option Value
  | .ag cs => (valsL cs).map fun us => .agg us.toArray
  | v => v.val1
def valsL2 : List V → Option (List Value)
  | [] => some []
  | v :: l => match v.val2, valsL2 l with
    | some u, some us => some (u :: us)
    | _, _ => none
def V.val : V → Option Value
  | .tu vs => (valsL2 vs).map fun us => .tuple us.toArray
  | v => v.val2

section
variable {N : Names} {S : Sets} {w : World}

theorem val1_eq {v : V} {u u' : Value} (h : RelV N S w v u) (hv : v.val1 = some u') : u = u' := by
  cases h <;> simp [V.val1] at hv <;> exact hv
theorem valsL_eq : ∀ (cs : List V) (us : List Value), valsL cs = some us → us.length = cs.length ∧ ∀ (i : Nat) (v : V), cs[i]? = some v → ∃ u, us[i]? = some u ∧ v.val1 = some u
  | [], us, h => by simp [valsL] at h; subst h; simp
  | c :: cs, us, h => by
    simp only [valsL] at h
    split at h
    · rename_i u us' h1 h2
      cases h
      obtain ⟨e1, e2⟩ := valsL_eq cs us' h2
      refine ⟨by simp [e1], fun i v hv => ?_⟩
      cases i with
      | zero => simp at hv; subst hv; exact ⟨u, by simp, h1⟩
      | succ i => simpa using e2 i v (by simpa using hv)
    · cases h
theorem val2_eq {v : V} {u u' : Value} (h : RelV N S w v u) (hv : v.val2 = some u') : u = u' := by
  cases v with
  | ag cs =>
    simp only [V.val2, Option.map_eq_some_iff] at hv
    obtain ⟨us', h1, rfl⟩ := hv
    obtain ⟨e1, e2⟩ := valsL_eq cs us' h1
    cases h with
    | ag _ us hl h =>
      congr 1
      apply Array.ext'
      refine List.ext_getElem? fun i => ?_
      cases hi : cs[i]? with
      | none =>
        have h1 : cs.length ≤ i := List.getElem?_eq_none_iff.1 hi
        rw [List.getElem?_eq_none (by simp; omega), List.getElem?_eq_none (by simp; omega)]
      | some v =>
        obtain ⟨u, h3, h4⟩ := e2 i v hi
        have := val1_eq (h i v hi) h4
        have hlt : i < us.size := by have := lt_of_get hi; omega
        rw [get_of_lt hlt, this]
        simpa using h3.symm
  | _ => exact val1_eq h hv
theorem of_val1 {v : V} {u : Value} (hv : v.val1 = some u) : RelV N S w v u := by
  cases v <;> simp [V.val1] at hv <;> subst hv
  · exact .cv _
  · exact .kb _
theorem of_val2 {v : V} {u : Value} (hv : v.val2 = some u) : RelV N S w v u := by
  cases v with
  | ag cs =>
    simp only [V.val2, Option.map_eq_some_iff] at hv
    obtain ⟨us', h1, rfl⟩ := hv
    obtain ⟨e1, e2⟩ := valsL_eq cs us' h1
    refine .ag _ _ (by simp [e1]) fun i v hi => ?_
    obtain ⟨u, h3, h4⟩ := e2 i v hi
    rw [getD_of_get (us := us'.toArray) (by simpa using h3)]
    exact of_val1 h4
  | _ => exact of_val1 hv
theorem valsL2_eq : ∀ (cs : List V) (us : List Value), valsL2 cs = some us → us.length = cs.length ∧ ∀ (i : Nat) (v : V), cs[i]? = some v → ∃ u, us[i]? = some u ∧ v.val2 = some u
  | [], us, h => by simp [valsL2] at h; subst h; simp
  | c :: cs, us, h => by
    simp only [valsL2] at h
    split at h
    · rename_i u us' h1 h2
      cases h
      obtain ⟨e1, e2⟩ := valsL2_eq cs us' h2
      refine ⟨by simp [e1], fun i v hv => ?_⟩
      cases i with
      | zero => simp at hv; subst hv; exact ⟨u, by simp, h1⟩
      | succ i => simpa using e2 i v (by simpa using hv)
    · cases h
theorem of_val {v : V} {u : Value} (hv : v.val = some u) : RelV N S w v u := by
  cases v with
  | tu cs =>
    simp only [V.val, Option.map_eq_some_iff] at hv
    obtain ⟨us', h1, rfl⟩ := hv
    obtain ⟨e1, e2⟩ := valsL2_eq cs us' h1
    refine .tu _ _ (by simp [e1]) fun i v hi => ?_
    obtain ⟨u, h3, h4⟩ := e2 i v hi
    rw [getD_of_get (us := us'.toArray) (by simpa using h3)]
    exact of_val2 h4
  | _ => exact of_val2 hv
end

/-- A contract that speaks of plain values. -/
theorem dcalls_val {f : FuncId} {fn : Func} {args : List V} {res : V} {us : List Value} {v : Value} (hf : Try.prog.funcs[f]? = some fn) (hn : (fn.name == "runtime.NumGoroutine") = false) (hb : fn.body.isNone = false) (ha : valsL2 args = some us) (hr : res.val = some v)
    (h : ∀ w, Calls Try.prog f us.toArray w fun e w' => e = .returned v ∧ Below w.heap.size w w') : DCalls Try.prog f args res := by
  refine ⟨⟨fn, hf, hn, hb⟩, fun w vs hvs => ?_⟩
  obtain ⟨e1, e2⟩ := valsL2_eq args us ha
  have : vs = us := by
    refine List.ext_getElem? fun i => ?_
    cases hi : args[i]? with
    | none =>
      have h1 : args.length ≤ i := List.getElem?_eq_none_iff.1 hi
      rw [List.getElem?_eq_none (by rw [← hvs.1]; exact h1), List.getElem?_eq_none (by omega)]
    | some v =>
      obtain ⟨u, h3, h4⟩ := e2 i v hi
      have h5 := val2_eq (hvs.2 i v hi) h4
      have hlt : i < vs.length := by rw [← hvs.1]; exact lt_of_get hi
      rw [h3, List.getElem?_eq_getElem hlt, ← h5, List.getD_eq_getElem?_getD, List.getElem?_eq_getElem hlt]
      rfl
  subst this
  exact (h w).mono fun e w' ⟨he, hb⟩ => ⟨v, he, of_val hr, hb⟩

/-- Data whose cells are plain, as a list of values. -/
def plains (xs : List (List D)) : List Value := xs.flatten.map fun | .cv v => v | .sl _ _ => undef

theorem flat_get {xs : List (List D)} {sz i j : Nat} {d : D} (hx : ∀ x ∈ xs, x.length = sz) (h : (xs[i]?.bind fun x => x[j]?) = some d) : xs.flatten[i * sz + j]? = some d := by
  induction xs generalizing i with
  | nil => simp at h
  | cons x xs ih =>
    have hl : x.length = sz := hx x (by simp)
    rw [List.flatten_cons]
    cases i with
    | zero =>
      simp at h
      rw [Nat.zero_mul, Nat.zero_add, List.getElem?_append_left (lt_of_get h)]; exact h
    | succ i =>
      have := ih (fun y hy => hx y (by simp [hy])) (i := i) (by simpa using h)
      rw [List.getElem?_append_right (by rw [hl, Nat.add_mul]; omega), hl, show (i + 1) * sz + j - sz = i * sz + j by rw [Nat.add_mul]; omega]
      exact this

theorem flat_len {xs : List (List D)} {sz : Nat} (hx : ∀ x ∈ xs, x.length = sz) : xs.flatten.length = xs.length * sz := by
  induction xs with
  | nil => simp
  | cons x xs ih =>
    rw [List.flatten_cons, List.length_append, ih (fun y hy => hx y (by simp [hy])), hx x (by simp), List.length_cons, Nat.add_mul]; omega

/-- A slice of plain data, as the older words have it. -/
theorem rd_of_sl {w : World} {B sz : Nat} {xs : List (List D)} {u : Value} (h0 : 0 < sz) (h : RelD (fun b => b < B) w (.sl sz xs) u) (hf : Flat xs) : ∃ A c, u = .slice A xs.length c ∧ Rd w B sz A xs.length (plains xs) := by
  cases h with
  | nil _ A cap => exact ⟨A, cap, rfl, ⟨by simp [plains], fun h => absurd h (by simp)⟩⟩
  | sl _ _ b o cap u hS hx hcap hc hd =>
    refine ⟨_, cap, rfl, by simp only [plains, List.length_map]; exact flat_len hx, fun hn => ⟨b, o, rfl, hS, fun q v hq => ?_⟩⟩
    simp only [plains, List.getElem?_map, Option.map_eq_some_iff] at hq
    obtain ⟨d, hd', rfl⟩ := hq
    have hlt := lt_of_get hd'
    rw [flat_len hx] at hlt
    have hi : q / sz < xs.length := Nat.div_lt_of_lt_mul (by rw [Nat.mul_comm]; exact hlt)
    have hj : q % sz < sz := Nat.mod_lt _ h0
    have hlx : (xs[q / sz]).length = sz := hx _ (List.getElem_mem hi)
    have hb : (xs[q / sz]?.bind fun x => x[q % sz]?) = some (xs[q / sz][q % sz]'(by omega)) := by
      rw [List.getElem?_eq_getElem hi]; simp only [Option.bind_some]; exact List.getElem?_eq_getElem _
    have hdm : q / sz * sz + q % sz = q := by rw [Nat.mul_comm]; exact Nat.div_add_mod q sz
    have h1 := flat_get hx hb
    rw [hdm, hd'] at h1
    cases h1
    have h2 := hc _ _ _ hb
    have h3 := hd _ _ _ hb
    rw [Nat.add_assoc, hdm] at h2
    rw [h2]
    obtain ⟨v, e⟩ := hf _ (List.getElem_mem hi) _ (List.getElem_mem (show q % sz < (xs[q / sz]).length by omega))
    rw [e] at h3 ⊢
    generalize u (q / sz) (q % sz) = z at h3
    cases h3; rfl

/-- What a call owns, as data. -/
theorem sl_of_own {w : World} {B sz e n : Nat} {v : Value} {xs : List (List D)} (h : w.ownsRow B e sz v n (plains xs)) (hx : ∀ x ∈ xs, x.length = sz) (hn : n = xs.length) (hf : ∀ x ∈ xs, ∀ d ∈ x, ∃ v : Value, d = .cv v ∧ v.oneCell' = true) : RelD (fun b => B ≤ b ∧ b < w.heap.size) w (.sl sz xs) v := by
  subst hn
  rcases h.2 with ⟨rfl, h0⟩ | ⟨g, cap, cu, rfl, hb, hg, hle, hm, hcs, htake⟩
  · rw [List.eq_nil_of_length_eq_zero h0]; exact .nil _ _ _
  · have hp : ∀ i j d, (xs[i]?.bind fun x => x[j]?) = some d → ∃ v, d = .cv v ∧ v.oneCell' = true ∧ cu[i * sz + j]? = some v := by
      intro i j d hd
      have h1 := flat_get hx hd
      obtain ⟨v, rfl, h1c⟩ : ∃ v : Value, d = .cv v ∧ v.oneCell' = true := by
        cases hi : xs[i]? with
        | none => rw [hi] at hd; cases hd
        | some x => rw [hi] at hd; exact hf x (List.mem_of_getElem? hi) d (List.mem_of_getElem? hd)
      refine ⟨v, rfl, h1c, ?_⟩
      have h2 : (plains xs)[i * sz + j]? = some v := by simp only [plains, List.getElem?_map, h1, Option.map_some]
      rw [← htake, List.getElem?_take] at h2
      split at h2
      · simpa using h2
      · cases h2
    refine .sl _ _ g 0 cap (fun i j => cu.getD (i * sz + j) undef) ⟨hb, (Array.getElem?_eq_some_iff.1 hg).1⟩ hx hle (fun i j d hd => ?_) (fun i j d hd => ?_)
    · obtain ⟨v, rfl, _, h2⟩ := hp i j d hd
      rw [cell_of_row w g _ cu e _ hg, Nat.zero_add, h2]
      simp [Array.getD_eq_getD_getElem?, h2]
    · obtain ⟨v, rfl, h1, h2⟩ := hp i j d hd
      have : cu.getD (i * sz + j) undef = v := by simp [Array.getD_eq_getD_getElem?, h2]
      rw [this]; exact .cv _ h1

end Go.Proofs.Ytppkkonhfkegoaa
