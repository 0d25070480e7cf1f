/- Texts joined by pack.py: XCd22 XCd23 -/
import Derived.Test.YtkpmlgpkmlhbjaaGreatDoorCp24
namespace Go.Proofs.YtkpmlgpkmlhbjaaGreatDoor
open Go.RowKit
def sB (x : In) : Bool :=
  if x.op == 4 then contB x.s else if x.op == 8 then (x.s == [45] || x.s == [110, 111, 116]) else if x.op == 9 then hasS x.s binOps else (x.op == 18 || x.op == 19 || x.s == [])
def formedB (nf : Nat) (f : Fn) (x : In) : Bool :=
  knownB x.op && opdB nf f x && keysB x.ks && !(x.op != 12 && decide (0 < x.ks.length)) && sB x
structure InOk (x : In) : Prop where
  s : x.s.length ≤ 281474976710656
  n : x.ks.length ≤ 8796093022207
  k : ∀ b ∈ x.ks, b.length ≤ 281474976710656
theorem fz_known {nf : Nat} {f : Fn} {x : In} (h : knownB x.op = false) : formedB nf f x = false := by unfold formedB; rw [h]; rfl
theorem fz_opd {nf : Nat} {f : Fn} {x : In} (h : opdB nf f x = false) : formedB nf f x = false := by unfold formedB; rw [h]; simp
theorem fz_keys {nf : Nat} {f : Fn} {x : In} (h : keysB x.ks = false) : formedB nf f x = false := by unfold formedB; rw [h]; simp
theorem fz_some {nf : Nat} {f : Fn} {x : In} (h : x.op ≠ 12) (h2 : 0 < x.ks.length) : formedB nf f x = false := by unfold formedB; simp [h, h2]
theorem fz_s {nf : Nat} {f : Fn} {x : In} (h1 : knownB x.op = true) (h2 : opdB nf f x = true) (h3 : keysB x.ks = true) (h4 : x.op = 12 ∨ ¬ 0 < x.ks.length) : formedB nf f x = sB x := by
  unfold formedB; rw [h1, h2, h3, show (x.op != 12 && decide (0 < x.ks.length)) = false by rcases h4 with h | h <;> simp [h]]; rfl
theorem lit0 (a : Bs) : ((mk a).toList == (⟨#[]⟩ : ByteArray).toList) = (a == []) := lit_eq a #[]
set_option maxHeartbeats 8000000 in
set_option maxRecDepth 100000 in
theorem x_rformed (c : Cd) (f : Fn) (x : In) (hx : InOk x) : DCalls Tryz.prog 58 [c.V, f.V, x.V] (boo (formedB c.fs.length f x)) := by
  have hlen : (x.ks.map strD).length = x.ks.length := List.length_map _
  refine sx Tryz.func58 (by kernel_rfl) ?_
  conv => whnf
  rintro (_ | _) h1
  rotate_left
  · have h1 : x.op < 1 := by simpa using h1
    rw [fz_known (x := x) (by unfold knownB; simp; omega)]
    (conv => whnf) <;> rfl
  have h1 : 1 ≤ x.op := by simp at h1; omega
  conv => whnf
  rintro (_ | _) h2
  rotate_left
  · have h2 : x.op > 20 := by simpa using h2
    rw [fz_known (x := x) (by unfold knownB; simp; omega)]
    (conv => whnf) <;> rfl
  have h2 : x.op ≤ 20 := by simp at h2; omega
  conv => whnf
  refine ⟨_, x_roperand c f x h1 h2, ?_⟩
  conv => whnf
  rintro (_ | _) h3
  rotate_left
  · have h3 : opdB c.fs.length f x = false := by simpa using h3
    rw [fz_opd h3]
    (conv => whnf) <;> rfl
  have h3 : opdB c.fs.length f x = true := by simpa using h3
  conv => whnf
  refine ⟨_, x_ascend x.ks hx.n hx.k, ?_⟩
  conv => whnf
  rintro (_ | _) h4
  rotate_left
  · have h4 : keysB x.ks = false := by simpa using h4
    rw [fz_keys h4]
    (conv => whnf) <;> rfl
  have h4 : keysB x.ks = true := by simpa using h4
  conv => whnf
  rintro (_ | _) h5
  · have hk : x.op = 12 ∨ ¬ 0 < x.ks.length := .inl (by simpa using h5)
    rw [fz_s (by unfold knownB; simp; omega) h3 h4 hk]
    clear h5
    revert hk
    intro _
    conv => whnf
    rintro (_ | _) h7
    rotate_left
    · have h7 : x.op = 4 := by simpa using h7
      rw [show sB x = contB x.s by unfold sB; rw [h7]; rfl]
      conv => whnf
      refine ⟨_, x_rtoken x.s hx.s, ?_⟩
      (conv => whnf) <;> rfl
    have h7 : (x.op == 4) = false := h7
    conv => whnf
    rintro (_ | _) h8
    rotate_left
    · have h8 : x.op = 8 := by simpa using h8
      rw [show sB x = (x.s == [45] || x.s == [110, 111, 116]) by unfold sB; rw [h8]; rfl]
      conv => whnf
      rintro (_ | _) h9
      · conv => whnf
        exact fin_b (by rw [← lit_eq x.s #[45], ← lit_eq x.s #[110, 111, 116], h9]; rfl)
      · conv => whnf
        exact fin_b (by rw [← lit_eq x.s #[45], h9]; rfl)
    have h8 : (x.op == 8) = false := h8
    conv => whnf
    rintro (_ | _) h9
    rotate_left
    · have h9 : x.op = 9 := by simpa using h9
      rw [show sB x = hasS x.s binOps by unfold sB; rw [h9]; rfl]
      conv => whnf
      refine ⟨_, x_rbinary x.s, ?_⟩
      (conv => whnf) <;> rfl
    have h9 : (x.op == 9) = false := h9
    have hS : sB x = (x.op == 18 || x.op == 19 || x.s == []) := by unfold sB; rw [h7, h8, h9]; rfl
    rw [hS]
    conv => whnf
    rintro (_ | _) ha
    rotate_left
    · conv => whnf
      exact fin_b (by rw [show (x.op == 18) = true from ha]; rfl)
    conv => whnf
    rintro (_ | _) hb
    rotate_left
    · conv => whnf
      exact fin_b (by rw [show (x.op == 18) = false from ha, show (x.op == 19) = true from hb]; rfl)
    conv => whnf
    exact fin_b (by rw [show (x.op == 18) = false from ha, show (x.op == 19) = false from hb, ← lit_eq x.s #[]]; rfl)
  · conv => whnf
    rintro (_ | _) h6
    rotate_left
    · have h6 : 0 < x.ks.length := by rw [← hlen]; simpa using h6
      rw [fz_some (by simpa using h5) h6]
      (conv => whnf) <;> rfl
    have hk : x.op = 12 ∨ ¬ 0 < x.ks.length := .inr (by rw [← hlen]; simpa using h6)
    rw [fz_s (by unfold knownB; simp; omega) h3 h4 hk]
    clear h5 h6
    revert hk
    intro _
    conv => whnf
    rintro (_ | _) h7
    rotate_left
    · have h7 : x.op = 4 := by simpa using h7
      rw [show sB x = contB x.s by unfold sB; rw [h7]; rfl]
      conv => whnf
      refine ⟨_, x_rtoken x.s hx.s, ?_⟩
      (conv => whnf) <;> rfl
    have h7 : (x.op == 4) = false := h7
    conv => whnf
    rintro (_ | _) h8
    rotate_left
    · have h8 : x.op = 8 := by simpa using h8
      rw [show sB x = (x.s == [45] || x.s == [110, 111, 116]) by unfold sB; rw [h8]; rfl]
      conv => whnf
      rintro (_ | _) h9
      · conv => whnf
        exact fin_b (by rw [← lit_eq x.s #[45], ← lit_eq x.s #[110, 111, 116], h9]; rfl)
      · conv => whnf
        exact fin_b (by rw [← lit_eq x.s #[45], h9]; rfl)
    have h8 : (x.op == 8) = false := h8
    conv => whnf
    rintro (_ | _) h9
    rotate_left
    · have h9 : x.op = 9 := by simpa using h9
      rw [show sB x = hasS x.s binOps by unfold sB; rw [h9]; rfl]
      conv => whnf
      refine ⟨_, x_rbinary x.s, ?_⟩
      (conv => whnf) <;> rfl
    have h9 : (x.op == 9) = false := h9
    have hS : sB x = (x.op == 18 || x.op == 19 || x.s == []) := by unfold sB; rw [h7, h8, h9]; rfl
    rw [hS]
    conv => whnf
    rintro (_ | _) ha
    rotate_left
    · conv => whnf
      exact fin_b (by rw [show (x.op == 18) = true from ha]; rfl)
    conv => whnf
    rintro (_ | _) hb
    rotate_left
    · conv => whnf
      exact fin_b (by rw [show (x.op == 18) = false from ha, show (x.op == 19) = true from hb]; rfl)
    conv => whnf
    exact fin_b (by rw [show (x.op == 18) = false from ha, show (x.op == 19) = false from hb, ← lit_eq x.s #[]]; rfl)
end Go.Proofs.YtkpmlgpkmlhbjaaGreatDoor
namespace Go.Proofs.YtkpmlgpkmlhbjaaGreatDoor
open Go.RowKit
def poB (nf : Nat) (f : Fn) (x : In) : Bool :=
  if x.op == 2 then inB x.a 0 1
  else if x.op == 3 then validB x.a
  else if x.op == 4 then contB x.s
  else if x.op == 5 || x.op == 6 then inB x.a 0 (f.ls - 1)
  else if x.op == 8 then (x.s == [45] || x.s == [110, 111, 116])
  else if x.op == 9 then hasS x.s binOps
  else if x.op == 11 then inB x.a 0 64
  else if x.op == 12 then (inB x.a 0 64 && (x.a == (x.ks.length : Int)) && keysB x.ks)
  else if x.op == 13 || x.op == 14 then inB x.a f.en (f.ed - 1)
  else if x.op == 17 then inB x.a 0 ((nf : Int) - 1)
  else if x.op == 18 then ((lookT x.s builtT).2 && x.a == (lookT x.s builtT).1)
  else if x.op == 19 then ((lookT x.s hostT).2 && x.a == (lookT x.s hostT).1)
  else true
structure FnOk (f : Fn) : Prop where
  l0 : 0 ≤ f.ls
  l1 : f.ls ≤ 32
  e0 : 0 ≤ f.en
  e1 : f.en < f.ed
  e2 : f.ed ≤ 4000
set_option maxHeartbeats 8000000 in
set_option maxRecDepth 100000 in
theorem x_operands (c : Cd) (f : Fn) (x : In) (hx : InOk x) (hf : FnOk f) (hn : c.fs.length ≤ 16) (h1 : 1 ≤ x.op) (h2 : x.op ≤ 20) : DCalls Tryz.prog 81 [c.V, f.V, x.V] (boo (poB c.fs.length f x)) := by
  obtain ⟨op, a, s, ks⟩ := x
  dsimp only at h1 h2
  have hlen : (ks.map strD).length = ks.length := List.length_map _
  have hlf : (c.fs.map fnD).length = c.fs.length := List.length_map _
  have w1 : IntKind.i64.wrap (f.ls - 1) = f.ls - 1 := IntWalk.i64_in _ (by have := hf.l0; have := hf.l1; omega)
  have w2 : IntKind.i64.wrap (f.ed - 1) = f.ed - 1 := IntWalk.i64_in _ (by have := hf.e0; have := hf.e1; have := hf.e2; omega)
  have w3 : IntKind.i64.wrap (((c.fs.map fnD).length : Int) - 1) = (c.fs.length : Int) - 1 := by rw [hlf]; exact IntWalk.i64_in _ (by omega)
  refine sx Tryz.func81 (by kernel_rfl) ?_
  rcases op20 h1 h2 with h | h | h | h | h | h | h | h | h | h | h | h | h | h | h | h | h | h | h | h <;> subst h
  all_goals repeat ((conv => whnf); first | refine known true rfl ?_ | refine known false rfl ?_)
  · (conv => whnf) <;> rfl
  · conv => whnf
    refine ⟨_, x_in a 0 1, ?_⟩
    (conv => whnf) <;> rfl
  · conv => whnf
    refine ⟨_, x_valid a, ?_⟩
    (conv => whnf) <;> rfl
  · conv => whnf
    refine ⟨_, x_ctext s hx.s, ?_⟩
    (conv => whnf) <;> rfl
  iterate 2
    · conv => whnf
      rw [w1]
      conv => whnf
      refine ⟨_, x_in a 0 (f.ls - 1), ?_⟩
      (conv => whnf) <;> rfl
  · (conv => whnf) <;> rfl
  · conv => whnf
    rintro (_ | _) h9
    · conv => whnf
      exact fin_b (show _ = (s == [45] || s == [110, 111, 116]) by rw [← lit_eq s #[45], ← lit_eq s #[110, 111, 116], h9]; rfl)
    · conv => whnf
      exact fin_b (show _ = (s == [45] || s == [110, 111, 116]) by rw [← lit_eq s #[45], h9]; rfl)
  · conv => whnf
    refine ⟨_, x_containsS binOps s (by decide), ?_⟩
    (conv => whnf) <;> rfl
  · (conv => whnf) <;> rfl
  · conv => whnf
    refine ⟨_, x_in a 0 64, ?_⟩
    (conv => whnf) <;> rfl
  · conv => whnf
    refine ⟨_, x_in a 0 64, ?_⟩
    conv => whnf
    rintro (_ | _) h
    · conv => whnf
      exact fin_b (show false = (inB a 0 64 && (a == (ks.length : Int)) && keysB ks) by rw [show inB a 0 64 = false from h]; rfl)
    conv => whnf
    rintro (_ | _) h'
    · conv => whnf
      exact fin_b (show false = (inB a 0 64 && (a == (ks.length : Int)) && keysB ks) by rw [show inB a 0 64 = true from h, show (a == (ks.length : Int)) = false by rw [← hlen]; exact h']; rfl)
    conv => whnf
    refine ⟨_, x_keys ks hx.n hx.k, ?_⟩
    conv => whnf
    exact fin_b (show keysB ks = (inB a 0 64 && (a == (ks.length : Int)) && keysB ks) by rw [show inB a 0 64 = true from h, show (a == (ks.length : Int)) = true by rw [← hlen]; exact h']; rfl)
  iterate 2
    · conv => whnf
      rw [w2]
      conv => whnf
      refine ⟨_, x_in a f.en (f.ed - 1), ?_⟩
      (conv => whnf) <;> rfl
  · (conv => whnf) <;> rfl
  · (conv => whnf) <;> rfl
  · conv => whnf
    rw [w3]
    conv => whnf
    refine ⟨_, x_in a 0 ((c.fs.length : Int) - 1), ?_⟩
    (conv => whnf) <;> rfl
  · conv => whnf
    refine ⟨_, x_built s, ?_⟩
    conv => whnf
    rintro (_ | _) h
    · conv => whnf
      exact fin_b (show false = ((lookT s builtT).2 && a == (lookT s builtT).1) by rw [show (lookT s builtT).2 = false from h]; rfl)
    · conv => whnf
      exact fin_b (show (a == (lookT s builtT).1) = ((lookT s builtT).2 && a == (lookT s builtT).1) by rw [show (lookT s builtT).2 = true from h]; rfl)
  · conv => whnf
    refine ⟨_, x_hostop s, ?_⟩
    conv => whnf
    rintro (_ | _) h
    · conv => whnf
      exact fin_b (show false = ((lookT s hostT).2 && a == (lookT s hostT).1) by rw [show (lookT s hostT).2 = false from h]; rfl)
    · conv => whnf
      exact fin_b (show (a == (lookT s hostT).1) = ((lookT s hostT).2 && a == (lookT s hostT).1) by rw [show (lookT s hostT).2 = true from h]; rfl)
  · (conv => whnf) <;> rfl
end Go.Proofs.YtkpmlgpkmlhbjaaGreatDoor
