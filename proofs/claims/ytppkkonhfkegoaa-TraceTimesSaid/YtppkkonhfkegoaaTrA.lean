/-
  Contracts of the packages trace and faasref51, part ten: circles.
-/
import Derived.Test.YtppkkonhfkegoaaTr9
namespace Go.Proofs.Ytppkkonhfkegoaa
open Go.RowKit

/-- Identifiers stand once, and none is empty. -/
def onceAll (l : List Sp) : Prop := ∀ (i : Nat) (h : i < l.length), findI l l[i].id = i ∧ sEq l[i].id emp = false

theorem sEq_refl (a : ByteArray) : sEq a a = true := by simp [sEq]
theorem sEq_comm (a b : ByteArray) : sEq a b = sEq b a := by
  cases h : sEq a b with
  | true => rw [sEq_eq h, sEq_refl]
  | false =>
    cases h' : sEq b a with
    | false => rfl
    | true => rw [sEq_eq h', sEq_refl] at h; cases h

/-- The next span is the first one just where the name of the one is the parent of the other. -/
theorem back_any {l : List Sp} (hU : onceAll l) {i : Nat} (hi : i < l.length) : ∀ (n a : Nat), a < l.length →
    ((visits (stepP l) n a).any fun x => ((l[x]?).map fun s => sEq s.pa l[i].id).getD false) = back (stepP l) i n a
  | 0, a, _ => rfl
  | n + 1, a, ha => by
    simp only [visits, back, List.any_cons]
    have hx : ((l[a]?).map fun s => sEq s.pa l[i].id).getD false = sEq l[a].pa l[i].id := by simp [ha]
    rw [hx]
    obtain ⟨hu1, hu2⟩ := hU i hi
    cases hs : stepP l a with
    | none =>
      simp only [List.any_nil, Bool.or_false]
      cases hq : sEq l[a].pa l[i].id with
      | false => rfl
      | true =>
        have := sEq_eq hq
        unfold stepP at hs
        rw [List.getElem?_eq_getElem ha] at hs
        simp only [this, hu2] at hs
        rw [if_neg (by simp), hu1, if_neg (by omega)] at hs
        cases hs
    | some j =>
      have hj := stepP_lt hs
      have he : sEq l[a].pa l[i].id = decide (j = i) := by
        unfold stepP at hs
        rw [List.getElem?_eq_getElem ha] at hs
        simp only at hs
        split at hs
        · cases hs
        split at hs
        · cases hs
        rename_i h1 h2
        cases hs
        cases hq : sEq l[a].pa l[i].id with
        | true =>
          rw [sEq_eq hq, hu1]; simp
        | false =>
          rcases findI_spec l l[a].pa with ⟨h3, _⟩ | ⟨k, hk, h3, h4, _⟩
          · omega
          · rw [h3]
            by_cases hki : k = i
            · subst hki
              rw [sEq_comm, h4] at hq; cases hq
            · simp [hki]
      rw [he]
      by_cases hji : j = i
      · simp [hji]
      · simp only [hji, decide_false, Bool.false_or, if_false]
        exact back_any hU hi n j hj

theorem enters_fn {P : Program} {f : FuncId} {fn : Func} (hf : P.funcs[f]? = some fn) (hn : (fn.name == "runtime.NumGoroutine") = false) (hb : fn.body.isNone = false) (args : Array Value) (w : World) : (callFunc f args).run P w = .ok (.enter f args) w := by
  have hn' : ¬ fn.name = "runtime.NumGoroutine" := by simpa using hn
  have hb' : ¬ fn.body = none := by intro e; rw [e] at hb; cases hb
  simp [callFunc, hf, hn', hb']

/-- The memory of a walk over the spans above a span. -/
abbrev cirM (l : List Sp) (i : Nat) (b : Bool) (ii : Int) : List (Option Bk) :=
  [none, none, some (.box [.sl false 6 (l.map spD)]), some (.box [int i]), some (.box [boo b])] ++ List.replicate 5 none ++ [some (.box [.sl false 6 (l.map spD)]), some (.box [int ii]), some (.box [fnV 53])] ++ List.replicate 8 none

set_option maxRecDepth 100000 in
theorem x_circular (l : List Sp) (i : Nat) (hi : i < l.length) (hl : l.length ≤ 8796093022207) (hU : onceAll l) : DCalls Try.prog 30 [sps l, int i] (boo (circB l i)) := by
  refine ⟨⟨_, Try.func30, by kernel_rfl, by kernel_rfl⟩, fun w vs hvs => (callsIn_wide (n := 5)).1 ?_⟩
  refine callsIn_of_wp_marks (F := fen none) Try.func30 rfl trivial ?_ rfl
  have hs := sat_enter hvs Try.f30.ntmps
  refine wpIn_seq (go_norm (t1 := [.un, .un, .bx 2 0, .bx 3 0, .bx 4 0] ++ List.replicate 16 .un) (m1 := [none, none, some (.box [.sl false 6 (l.map spD)]), some (.box [int i]), some (.box [boo false])] ++ List.replicate 16 none) tok mixed hs ?_ ?_)
  · conv => whnf
    exact ⟨rfl, by simp [fgt, List.replicate]⟩
  clear hs
  intro N S a w hs
  refine wpIn_seq (wpIn_seq (go_norm (t1 := [.un, .un, .bx 2 0, .bx 3 0, .bx 4 0, .un, .un, .un, .fn 59 0 [.bx 10 0, .bx 11 0, .bx 12 0]] ++ List.replicate 12 .un) (m1 := cirM l i false i) tok mixed hs ?_ ?_))
  · conv => whnf
    refine mcall (T := TT) (φ := [10, 11, 12]) (x_up l i 53) ?_
    conv => whnf
    exact ⟨rfl, by simp [fgt, List.replicate]⟩
  clear hs
  intro N S a w2 hs
  refine wpIn_block ?_
  obtain ⟨lb, hlb, hrl⟩ := fn_of hs (d := 8) rfl
  obtain ⟨u1, u2, u3, rfl⟩ : ∃ u1 u2 u3, lb = #[u1, u2, u3] := by
    have := hrl.1
    match h : lb.toList, this with
    | [a, b, c], _ => exact ⟨a, b, c, by rw [← Array.toArray_toList (xs := lb), h]⟩
  obtain ⟨xs, hxs⟩ : ∃ xs, xs = visits (stepP l) l.length i := ⟨_, rfl⟩
  have hxl : ∀ (k x : Nat), xs[k]? = some x → x < l.length := by
    have key : ∀ (n a : Nat), a < l.length → ∀ x ∈ visits (stepP l) n a, x < l.length := by
      intro n
      induction n with
      | zero => intro a _ x h; simp [visits] at h
      | succ n ih =>
        intro a ha x hx
        simp only [visits, List.mem_cons] at hx
        rcases hx with rfl | hx
        · exact ha
        · split at hx
          · simp at hx
          · rename_i j hj; exact ih j (stepP_lt hj) x hx
    intro k x hx
    exact key _ _ hi x (by rw [← hxs]; exact List.mem_of_getElem? hx)
  refine range_run (Kn := fun m' => ∃ ii, m' = cirM l i false ii ∧ ∀ x ∈ xs.take xs.length, sEq (((l[x]?).map (·.pa)).getD emp) l[i].id = false)
    (Kr := fun m' => (∃ ii, m' = cirM l i true ii) ∧ ∃ x ∈ xs, sEq (((l[x]?).map (·.pa)).getD emp) l[i].id = true) hs rfl (fun g h => h) hlb (enters_fn Try.func59 (by kernel_rfl) (by kernel_rfl)) (Gx := List.zip [.bx 10 0, .bx 11 0, .bx 12 0] [u1, u2, u3]) (zip_of hrl) ?_ ?_
  · rintro fn W A D lp hA hAD hAl hne hBD hBl hM hWD hWl
    refine up1_in l hl Sp.pa 53 x_parent (by kernel_rfl) 10 11 12 (fun _ ii => cirM l i false ii) (fun _ _ => rfl) (fun _ _ => rfl) (fun _ _ => rfl) (fun _ _ _ => rfl) hAD hAl hne hBD hBl
      (fun k => ∀ x ∈ xs.take k, sEq (((l[x]?).map (·.pa)).getD emp) l[i].id = false) (by simp) xs ?_ i hi hxs (List.mem_append_right _ (by simp)) (List.mem_append_right _ (by simp)) (List.mem_append_right _ (by simp)) hM hWD hWl
    intro G' k x W2 hG1 hG2 hok hx hM2 hl2
    have hxx := hxl k x hx
    refine round_run tok mixed (a := a) (t := [.un, .un, .bx 2 0, .bx 3 0, .bx 4 0, .un, .un, .un, .fn 59 0 [.bx 10 0, .bx 11 0, .bx 12 0]] ++ List.replicate 12 .un) (Kn := fun m' => m' = cirM l i false x ∧ ∀ y ∈ xs.take (k + 1), sEq (((l[y]?).map (·.pa)).getD emp) l[i].id = false)
      rfl rfl hAl hBl (fun q hq => hG1 q (List.mem_append_left _ hq)) hs.tmps.1 hM2 hl2 ?_
    conv => whnf
    conv => whnf
    refine ⟨none, by kernel_rfl, ?_⟩
    conv => whnf
    refine ⟨by omega, _, get_map spD hxx, ?_⟩
    conv => whnf
    refine ⟨by omega, _, get_map spD hi, ?_⟩
    have hkx : xs.take (k + 1) = xs.take k ++ [x] := by rw [List.take_add_one, hx]; rfl
    conv => whnf
    rintro (_ | _) h
    · have h : sEq l[x].pa l[i].id = false := h
      conv => whnf
      exact ⟨rfl, fun y hy => by
          rw [hkx] at hy
          rcases List.mem_append.1 hy with hy | hy
          · exact hok y hy
          · rw [List.mem_singleton.1 hy]; simp [hxx, h]⟩
    · have h : sEq l[x].pa l[i].id = true := h
      conv => whnf
      exact ⟨⟨x, rfl⟩, x, List.mem_of_getElem? hx, by simp [hxx, h]⟩
  · intro A D m' W hAD hBD hM hD
    have hany := back_any hU hi l.length i hi
    have hda : a.defers = [] := hs.nodef
    have hlow := hM.low
    constructor
    · rintro ⟨ii, rfl, hk⟩
      rw [List.take_length] at hk
      have hc : circB l i = false := by
        rw [circB, ← hany, ← hxs, List.any_eq_false]
        intro x hx
        obtain ⟨k, hk2⟩ := List.getElem?_of_mem hx
        have := hk x hx
        simp [hxl k x hk2] at this ⊢
        exact this
      rw [hc]
      show Code.wpIn _ _ _ _ _ _ _
      obtain ⟨N2, S2, hs2⟩ := hM.frame (t := [.un, .un, .bx 2 0, .bx 3 0, .bx 4 0, .un, .un, .un, .fn 59 0 [.bx 10 0, .bx 11 0, .bx 12 0]] ++ List.replicate 12 .un) (a := { a with defers := { target := .collected D, args := #[] } :: a.defers }) fun N S hG => of_zip hs.tmps.1 fun q hq => hG q (List.mem_append_left _ hq)
      simp only [hda] at hs2 ⊢
      refine wpIn_seq (go_norm (t1 := [.un, .un, .un, .un, .bx 4 0] ++ List.replicate 16 .un) (m1 := cirM l i false ii) tok mixed hs2 ?_ ?_)
      · conv => whnf
        exact ⟨rfl, by simp [fgt, List.replicate]⟩
      intro N3 S3 a3 w3 hs3
      exact wpIn_ret (ends1 tok hAD hBD hlow hs3 hD rfl)
    · rintro ⟨⟨ii, rfl⟩, x, hx, hxe⟩
      have hc : circB l i = true := by
        rw [circB, ← hany, ← hxs, List.any_eq_true]
        refine ⟨x, hx, ?_⟩
        obtain ⟨k, hk2⟩ := List.getElem?_of_mem hx
        simp [hxl k x hk2] at hxe ⊢
        exact hxe
      rw [hc]
      obtain ⟨N2, S2, hs2⟩ := hM.frame (t := [.un, .un, .bx 2 0, .bx 3 0, .bx 4 0, .un, .un, .un, .fn 59 0 [.bx 10 0, .bx 11 0, .bx 12 0]] ++ List.replicate 12 .un) (a := { a with defers := { target := .collected D, args := #[] } :: a.defers }) fun N S hG => of_zip hs.tmps.1 fun q hq => hG q (List.mem_append_left _ hq)
      simp only [hda] at hs2 ⊢
      exact ends1 tok hAD hBD hlow hs2 hD rfl

end Go.Proofs.Ytppkkonhfkegoaa
