/- Texts joined by pack.py: XCd24 XCd25 XCd26 -/
import Derived.Test.YtkpmlgpkmlhbjaaGreatDoorCp25
namespace Go.Proofs.YtkpmlgpkmlhbjaaGreatDoor
open Go.RowKit
theorem fz_sB {nf : Nat} {f : Fn} {x : In} (h : sB x = false) : formedB nf f x = false := by unfold formedB; rw [h]; simp
theorem ne0 {a : Int} (h : (a != 0) = true) : (a == 0) = false := by simpa using h
theorem neS {s : Bs} (h : (!((mk s).toList == (⟨#[]⟩ : ByteArray).toList)) = true) : (s == []) = false := by rw [lit0] at h; simpa using h
theorem eqS {s : Bs} (h : (!((mk s).toList == (⟨#[]⟩ : ByteArray).toList)) = false) : s = [] := by rw [lit0] at h; simpa using h
theorem len0 {ks : List Bs} (h : decide (((ks.map strD).length : Int) > 0) = false) : ks = [] := by
  rw [show (ks.map strD).length = ks.length from List.length_map _] at h
  cases ks with
  | nil => rfl
  | cons a l => simp at h
theorem keysPos {ks : List Bs} (h : decide (((ks.map strD).length : Int) > 0) = true) : 0 < ks.length := by
  rw [show (ks.map strD).length = ks.length from List.length_map _] at h
  simpa using h
set_option maxHeartbeats 8000000 in
set_option maxRecDepth 100000 in
theorem x_formed_1 (c : Cd) (f : Fn) (a : Int) (s : Bs) (ks : List Bs) (hx : InOk ⟨1, a, s, ks⟩) (hf : FnOk f) (hn : c.fs.length ≤ 16) : DCalls Tryz.prog 55 [c.V, f.V, (⟨1, a, s, ks⟩ : In).V] (boo (formedB c.fs.length f ⟨1, a, s, ks⟩)) := by
  have hp := x_operands c f ⟨1, a, s, ks⟩ hx hf hn (show (1 : Int) ≤ 1 by decide) (show (1 : Int) ≤ 20 by decide)
  refine sx Tryz.func55 (by kernel_rfl) ?_
  conv => whnf
  refine ⟨_, x_known 1, ?_⟩
  conv => whnf
  refine known false rfl ?_
  conv => whnf
  refine ⟨show (0 : Int) ≤ 1 by decide, show ((1 : Int)).toNat < 21 by decide, ?_⟩
  repeat ((conv => whnf); first | refine known true rfl ?_ | refine known false rfl ?_)
  conv => whnf
  rintro (_ | _) ha
  rotate_left
  · rw [fz_opd (show opdB c.fs.length f ⟨1, a, s, ks⟩ = false from (ne0 ha : (a == 0) = false))]
    (conv => whnf) <;> rfl
  have za : a = 0 := by simpa using ha
  repeat ((conv => whnf); first | refine known true rfl ?_ | refine known false rfl ?_)
  conv => whnf
  rintro (_ | _) hs
  rotate_left
  · rw [fz_sB (show sB ⟨1, a, s, ks⟩ = false from neS hs)]
    (conv => whnf) <;> rfl
  have zs : s = [] := eqS hs
  repeat ((conv => whnf); first | refine known true rfl ?_ | refine known false rfl ?_)
  conv => whnf
  rintro (_ | _) hk
  rotate_left
  · rw [fz_some (x := ⟨1, a, s, ks⟩) (show (1 : Int) ≠ 12 by decide) (keysPos hk)]
    (conv => whnf) <;> rfl
  have zk : ks = [] := len0 hk
  repeat ((conv => whnf); first | refine known true rfl ?_ | refine known false rfl ?_)
  rw [show formedB c.fs.length f ⟨1, a, s, ks⟩ = poB c.fs.length f ⟨1, a, s, ks⟩ by subst za; subst zs; subst zk; simp [formedB, knownB, opdB, bareB, poB, sB, keysB, keysF]]
  conv => whnf
  refine ⟨_, hp, ?_⟩
  (conv => whnf) <;> rfl
set_option maxHeartbeats 8000000 in
set_option maxRecDepth 100000 in
theorem x_formed_2 (c : Cd) (f : Fn) (a : Int) (s : Bs) (ks : List Bs) (hx : InOk ⟨2, a, s, ks⟩) (hf : FnOk f) (hn : c.fs.length ≤ 16) : DCalls Tryz.prog 55 [c.V, f.V, (⟨2, a, s, ks⟩ : In).V] (boo (formedB c.fs.length f ⟨2, a, s, ks⟩)) := by
  have hp := x_operands c f ⟨2, a, s, ks⟩ hx hf hn (show (1 : Int) ≤ 2 by decide) (show (2 : Int) ≤ 20 by decide)
  refine sx Tryz.func55 (by kernel_rfl) ?_
  conv => whnf
  refine ⟨_, x_known 2, ?_⟩
  conv => whnf
  refine known false rfl ?_
  conv => whnf
  refine ⟨show (0 : Int) ≤ 2 by decide, show ((2 : Int)).toNat < 21 by decide, ?_⟩
  repeat ((conv => whnf); first | refine known true rfl ?_ | refine known false rfl ?_)
  conv => whnf
  rintro (_ | _) hs
  rotate_left
  · rw [fz_sB (show sB ⟨2, a, s, ks⟩ = false from neS hs)]
    (conv => whnf) <;> rfl
  have zs : s = [] := eqS hs
  repeat ((conv => whnf); first | refine known true rfl ?_ | refine known false rfl ?_)
  conv => whnf
  rintro (_ | _) hk
  rotate_left
  · rw [fz_some (x := ⟨2, a, s, ks⟩) (show (2 : Int) ≠ 12 by decide) (keysPos hk)]
    (conv => whnf) <;> rfl
  have zk : ks = [] := len0 hk
  repeat ((conv => whnf); first | refine known true rfl ?_ | refine known false rfl ?_)
  rw [show formedB c.fs.length f ⟨2, a, s, ks⟩ = poB c.fs.length f ⟨2, a, s, ks⟩ by subst zs; subst zk; simp [formedB, knownB, opdB, bareB, poB, sB, keysB, keysF, inB]; rw [Bool.eq_iff_iff]; simp; omega]
  conv => whnf
  refine ⟨_, hp, ?_⟩
  (conv => whnf) <;> rfl
set_option maxHeartbeats 8000000 in
set_option maxRecDepth 100000 in
theorem x_formed_3 (c : Cd) (f : Fn) (a : Int) (s : Bs) (ks : List Bs) (hx : InOk ⟨3, a, s, ks⟩) (hf : FnOk f) (hn : c.fs.length ≤ 16) : DCalls Tryz.prog 55 [c.V, f.V, (⟨3, a, s, ks⟩ : In).V] (boo (formedB c.fs.length f ⟨3, a, s, ks⟩)) := by
  have hp := x_operands c f ⟨3, a, s, ks⟩ hx hf hn (show (1 : Int) ≤ 3 by decide) (show (3 : Int) ≤ 20 by decide)
  refine sx Tryz.func55 (by kernel_rfl) ?_
  conv => whnf
  refine ⟨_, x_known 3, ?_⟩
  conv => whnf
  refine known false rfl ?_
  conv => whnf
  refine ⟨show (0 : Int) ≤ 3 by decide, show ((3 : Int)).toNat < 21 by decide, ?_⟩
  repeat ((conv => whnf); first | refine known true rfl ?_ | refine known false rfl ?_)
  conv => whnf
  rintro (_ | _) hs
  rotate_left
  · rw [fz_sB (show sB ⟨3, a, s, ks⟩ = false from neS hs)]
    (conv => whnf) <;> rfl
  have zs : s = [] := eqS hs
  repeat ((conv => whnf); first | refine known true rfl ?_ | refine known false rfl ?_)
  conv => whnf
  rintro (_ | _) hk
  rotate_left
  · rw [fz_some (x := ⟨3, a, s, ks⟩) (show (3 : Int) ≠ 12 by decide) (keysPos hk)]
    (conv => whnf) <;> rfl
  have zk : ks = [] := len0 hk
  repeat ((conv => whnf); first | refine known true rfl ?_ | refine known false rfl ?_)
  rw [show formedB c.fs.length f ⟨3, a, s, ks⟩ = poB c.fs.length f ⟨3, a, s, ks⟩ by subst zs; subst zk; simp [formedB, knownB, opdB, bareB, poB, sB, keysB, keysF]]
  conv => whnf
  refine ⟨_, hp, ?_⟩
  (conv => whnf) <;> rfl
set_option maxHeartbeats 8000000 in
set_option maxRecDepth 100000 in
theorem x_formed_4 (c : Cd) (f : Fn) (a : Int) (s : Bs) (ks : List Bs) (hx : InOk ⟨4, a, s, ks⟩) (hf : FnOk f) (hn : c.fs.length ≤ 16) : DCalls Tryz.prog 55 [c.V, f.V, (⟨4, a, s, ks⟩ : In).V] (boo (formedB c.fs.length f ⟨4, a, s, ks⟩)) := by
  have hp := x_operands c f ⟨4, a, s, ks⟩ hx hf hn (show (1 : Int) ≤ 4 by decide) (show (4 : Int) ≤ 20 by decide)
  refine sx Tryz.func55 (by kernel_rfl) ?_
  conv => whnf
  refine ⟨_, x_known 4, ?_⟩
  conv => whnf
  refine known false rfl ?_
  conv => whnf
  refine ⟨show (0 : Int) ≤ 4 by decide, show ((4 : Int)).toNat < 21 by decide, ?_⟩
  repeat ((conv => whnf); first | refine known true rfl ?_ | refine known false rfl ?_)
  conv => whnf
  rintro (_ | _) ha
  rotate_left
  · rw [fz_opd (show opdB c.fs.length f ⟨4, a, s, ks⟩ = false from (ne0 ha : (a == 0) = false))]
    (conv => whnf) <;> rfl
  have za : a = 0 := by simpa using ha
  repeat ((conv => whnf); first | refine known true rfl ?_ | refine known false rfl ?_)
  conv => whnf
  rintro (_ | _) hk
  rotate_left
  · rw [fz_some (x := ⟨4, a, s, ks⟩) (show (4 : Int) ≠ 12 by decide) (keysPos hk)]
    (conv => whnf) <;> rfl
  have zk : ks = [] := len0 hk
  repeat ((conv => whnf); first | refine known true rfl ?_ | refine known false rfl ?_)
  rw [show formedB c.fs.length f ⟨4, a, s, ks⟩ = poB c.fs.length f ⟨4, a, s, ks⟩ by subst za; subst zk; simp [formedB, knownB, opdB, bareB, poB, sB, keysB, keysF]]
  conv => whnf
  refine ⟨_, hp, ?_⟩
  (conv => whnf) <;> rfl
set_option maxHeartbeats 8000000 in
set_option maxRecDepth 100000 in
theorem x_formed_5 (c : Cd) (f : Fn) (a : Int) (s : Bs) (ks : List Bs) (hx : InOk ⟨5, a, s, ks⟩) (hf : FnOk f) (hn : c.fs.length ≤ 16) : DCalls Tryz.prog 55 [c.V, f.V, (⟨5, a, s, ks⟩ : In).V] (boo (formedB c.fs.length f ⟨5, a, s, ks⟩)) := by
  have hp := x_operands c f ⟨5, a, s, ks⟩ hx hf hn (show (1 : Int) ≤ 5 by decide) (show (5 : Int) ≤ 20 by decide)
  refine sx Tryz.func55 (by kernel_rfl) ?_
  conv => whnf
  refine ⟨_, x_known 5, ?_⟩
  conv => whnf
  refine known false rfl ?_
  conv => whnf
  refine ⟨show (0 : Int) ≤ 5 by decide, show ((5 : Int)).toNat < 21 by decide, ?_⟩
  repeat ((conv => whnf); first | refine known true rfl ?_ | refine known false rfl ?_)
  conv => whnf
  rintro (_ | _) hs
  rotate_left
  · rw [fz_sB (show sB ⟨5, a, s, ks⟩ = false from neS hs)]
    (conv => whnf) <;> rfl
  have zs : s = [] := eqS hs
  repeat ((conv => whnf); first | refine known true rfl ?_ | refine known false rfl ?_)
  conv => whnf
  rintro (_ | _) hk
  rotate_left
  · rw [fz_some (x := ⟨5, a, s, ks⟩) (show (5 : Int) ≠ 12 by decide) (keysPos hk)]
    (conv => whnf) <;> rfl
  have zk : ks = [] := len0 hk
  repeat ((conv => whnf); first | refine known true rfl ?_ | refine known false rfl ?_)
  rw [show formedB c.fs.length f ⟨5, a, s, ks⟩ = poB c.fs.length f ⟨5, a, s, ks⟩ by subst zs; subst zk; simp [formedB, knownB, opdB, bareB, poB, sB, keysB, keysF, inB]; rw [Bool.eq_iff_iff]; simp; omega]
  conv => whnf
  refine ⟨_, hp, ?_⟩
  (conv => whnf) <;> rfl
set_option maxHeartbeats 8000000 in
set_option maxRecDepth 100000 in
theorem x_formed_6 (c : Cd) (f : Fn) (a : Int) (s : Bs) (ks : List Bs) (hx : InOk ⟨6, a, s, ks⟩) (hf : FnOk f) (hn : c.fs.length ≤ 16) : DCalls Tryz.prog 55 [c.V, f.V, (⟨6, a, s, ks⟩ : In).V] (boo (formedB c.fs.length f ⟨6, a, s, ks⟩)) := by
  have hp := x_operands c f ⟨6, a, s, ks⟩ hx hf hn (show (1 : Int) ≤ 6 by decide) (show (6 : Int) ≤ 20 by decide)
  refine sx Tryz.func55 (by kernel_rfl) ?_
  conv => whnf
  refine ⟨_, x_known 6, ?_⟩
  conv => whnf
  refine known false rfl ?_
  conv => whnf
  refine ⟨show (0 : Int) ≤ 6 by decide, show ((6 : Int)).toNat < 21 by decide, ?_⟩
  repeat ((conv => whnf); first | refine known true rfl ?_ | refine known false rfl ?_)
  conv => whnf
  rintro (_ | _) hs
  rotate_left
  · rw [fz_sB (show sB ⟨6, a, s, ks⟩ = false from neS hs)]
    (conv => whnf) <;> rfl
  have zs : s = [] := eqS hs
  repeat ((conv => whnf); first | refine known true rfl ?_ | refine known false rfl ?_)
  conv => whnf
  rintro (_ | _) hk
  rotate_left
  · rw [fz_some (x := ⟨6, a, s, ks⟩) (show (6 : Int) ≠ 12 by decide) (keysPos hk)]
    (conv => whnf) <;> rfl
  have zk : ks = [] := len0 hk
  repeat ((conv => whnf); first | refine known true rfl ?_ | refine known false rfl ?_)
  rw [show formedB c.fs.length f ⟨6, a, s, ks⟩ = poB c.fs.length f ⟨6, a, s, ks⟩ by subst zs; subst zk; simp [formedB, knownB, opdB, bareB, poB, sB, keysB, keysF, inB]; rw [Bool.eq_iff_iff]; simp; omega]
  conv => whnf
  refine ⟨_, hp, ?_⟩
  (conv => whnf) <;> rfl
set_option maxHeartbeats 8000000 in
set_option maxRecDepth 100000 in
theorem x_formed_7 (c : Cd) (f : Fn) (a : Int) (s : Bs) (ks : List Bs) (hx : InOk ⟨7, a, s, ks⟩) (hf : FnOk f) (hn : c.fs.length ≤ 16) : DCalls Tryz.prog 55 [c.V, f.V, (⟨7, a, s, ks⟩ : In).V] (boo (formedB c.fs.length f ⟨7, a, s, ks⟩)) := by
  have hp := x_operands c f ⟨7, a, s, ks⟩ hx hf hn (show (1 : Int) ≤ 7 by decide) (show (7 : Int) ≤ 20 by decide)
  refine sx Tryz.func55 (by kernel_rfl) ?_
  conv => whnf
  refine ⟨_, x_known 7, ?_⟩
  conv => whnf
  refine known false rfl ?_
  conv => whnf
  refine ⟨show (0 : Int) ≤ 7 by decide, show ((7 : Int)).toNat < 21 by decide, ?_⟩
  repeat ((conv => whnf); first | refine known true rfl ?_ | refine known false rfl ?_)
  conv => whnf
  rintro (_ | _) ha
  rotate_left
  · rw [fz_opd (show opdB c.fs.length f ⟨7, a, s, ks⟩ = false from (ne0 ha : (a == 0) = false))]
    (conv => whnf) <;> rfl
  have za : a = 0 := by simpa using ha
  repeat ((conv => whnf); first | refine known true rfl ?_ | refine known false rfl ?_)
  conv => whnf
  rintro (_ | _) hs
  rotate_left
  · rw [fz_sB (show sB ⟨7, a, s, ks⟩ = false from neS hs)]
    (conv => whnf) <;> rfl
  have zs : s = [] := eqS hs
  repeat ((conv => whnf); first | refine known true rfl ?_ | refine known false rfl ?_)
  conv => whnf
  rintro (_ | _) hk
  rotate_left
  · rw [fz_some (x := ⟨7, a, s, ks⟩) (show (7 : Int) ≠ 12 by decide) (keysPos hk)]
    (conv => whnf) <;> rfl
  have zk : ks = [] := len0 hk
  repeat ((conv => whnf); first | refine known true rfl ?_ | refine known false rfl ?_)
  rw [show formedB c.fs.length f ⟨7, a, s, ks⟩ = poB c.fs.length f ⟨7, a, s, ks⟩ by subst za; subst zs; subst zk; simp [formedB, knownB, opdB, bareB, poB, sB, keysB, keysF]]
  conv => whnf
  refine ⟨_, hp, ?_⟩
  (conv => whnf) <;> rfl
set_option maxHeartbeats 8000000 in
set_option maxRecDepth 100000 in
theorem x_formed_8 (c : Cd) (f : Fn) (a : Int) (s : Bs) (ks : List Bs) (hx : InOk ⟨8, a, s, ks⟩) (hf : FnOk f) (hn : c.fs.length ≤ 16) : DCalls Tryz.prog 55 [c.V, f.V, (⟨8, a, s, ks⟩ : In).V] (boo (formedB c.fs.length f ⟨8, a, s, ks⟩)) := by
  have hp := x_operands c f ⟨8, a, s, ks⟩ hx hf hn (show (1 : Int) ≤ 8 by decide) (show (8 : Int) ≤ 20 by decide)
  refine sx Tryz.func55 (by kernel_rfl) ?_
  conv => whnf
  refine ⟨_, x_known 8, ?_⟩
  conv => whnf
  refine known false rfl ?_
  conv => whnf
  refine ⟨show (0 : Int) ≤ 8 by decide, show ((8 : Int)).toNat < 21 by decide, ?_⟩
  repeat ((conv => whnf); first | refine known true rfl ?_ | refine known false rfl ?_)
  conv => whnf
  rintro (_ | _) ha
  rotate_left
  · rw [fz_opd (show opdB c.fs.length f ⟨8, a, s, ks⟩ = false from (ne0 ha : (a == 0) = false))]
    (conv => whnf) <;> rfl
  have za : a = 0 := by simpa using ha
  repeat ((conv => whnf); first | refine known true rfl ?_ | refine known false rfl ?_)
  conv => whnf
  rintro (_ | _) hk
  rotate_left
  · rw [fz_some (x := ⟨8, a, s, ks⟩) (show (8 : Int) ≠ 12 by decide) (keysPos hk)]
    (conv => whnf) <;> rfl
  have zk : ks = [] := len0 hk
  repeat ((conv => whnf); first | refine known true rfl ?_ | refine known false rfl ?_)
  rw [show formedB c.fs.length f ⟨8, a, s, ks⟩ = poB c.fs.length f ⟨8, a, s, ks⟩ by subst za; subst zk; simp [formedB, knownB, opdB, bareB, poB, sB, keysB, keysF]]
  conv => whnf
  refine ⟨_, hp, ?_⟩
  (conv => whnf) <;> rfl
set_option maxHeartbeats 8000000 in
set_option maxRecDepth 100000 in
theorem x_formed_9 (c : Cd) (f : Fn) (a : Int) (s : Bs) (ks : List Bs) (hx : InOk ⟨9, a, s, ks⟩) (hf : FnOk f) (hn : c.fs.length ≤ 16) : DCalls Tryz.prog 55 [c.V, f.V, (⟨9, a, s, ks⟩ : In).V] (boo (formedB c.fs.length f ⟨9, a, s, ks⟩)) := by
  have hp := x_operands c f ⟨9, a, s, ks⟩ hx hf hn (show (1 : Int) ≤ 9 by decide) (show (9 : Int) ≤ 20 by decide)
  refine sx Tryz.func55 (by kernel_rfl) ?_
  conv => whnf
  refine ⟨_, x_known 9, ?_⟩
  conv => whnf
  refine known false rfl ?_
  conv => whnf
  refine ⟨show (0 : Int) ≤ 9 by decide, show ((9 : Int)).toNat < 21 by decide, ?_⟩
  repeat ((conv => whnf); first | refine known true rfl ?_ | refine known false rfl ?_)
  conv => whnf
  rintro (_ | _) ha
  rotate_left
  · rw [fz_opd (show opdB c.fs.length f ⟨9, a, s, ks⟩ = false from (ne0 ha : (a == 0) = false))]
    (conv => whnf) <;> rfl
  have za : a = 0 := by simpa using ha
  repeat ((conv => whnf); first | refine known true rfl ?_ | refine known false rfl ?_)
  conv => whnf
  rintro (_ | _) hk
  rotate_left
  · rw [fz_some (x := ⟨9, a, s, ks⟩) (show (9 : Int) ≠ 12 by decide) (keysPos hk)]
    (conv => whnf) <;> rfl
  have zk : ks = [] := len0 hk
  repeat ((conv => whnf); first | refine known true rfl ?_ | refine known false rfl ?_)
  rw [show formedB c.fs.length f ⟨9, a, s, ks⟩ = poB c.fs.length f ⟨9, a, s, ks⟩ by subst za; subst zk; simp [formedB, knownB, opdB, bareB, poB, sB, keysB, keysF]]
  conv => whnf
  refine ⟨_, hp, ?_⟩
  (conv => whnf) <;> rfl
set_option maxHeartbeats 8000000 in
set_option maxRecDepth 100000 in
theorem x_formed_10 (c : Cd) (f : Fn) (a : Int) (s : Bs) (ks : List Bs) (hx : InOk ⟨10, a, s, ks⟩) (hf : FnOk f) (hn : c.fs.length ≤ 16) : DCalls Tryz.prog 55 [c.V, f.V, (⟨10, a, s, ks⟩ : In).V] (boo (formedB c.fs.length f ⟨10, a, s, ks⟩)) := by
  have hp := x_operands c f ⟨10, a, s, ks⟩ hx hf hn (show (1 : Int) ≤ 10 by decide) (show (10 : Int) ≤ 20 by decide)
  refine sx Tryz.func55 (by kernel_rfl) ?_
  conv => whnf
  refine ⟨_, x_known 10, ?_⟩
  conv => whnf
  refine known false rfl ?_
  conv => whnf
  refine ⟨show (0 : Int) ≤ 10 by decide, show ((10 : Int)).toNat < 21 by decide, ?_⟩
  repeat ((conv => whnf); first | refine known true rfl ?_ | refine known false rfl ?_)
  conv => whnf
  rintro (_ | _) ha
  rotate_left
  · rw [fz_opd (show opdB c.fs.length f ⟨10, a, s, ks⟩ = false from (ne0 ha : (a == 0) = false))]
    (conv => whnf) <;> rfl
  have za : a = 0 := by simpa using ha
  repeat ((conv => whnf); first | refine known true rfl ?_ | refine known false rfl ?_)
  conv => whnf
  rintro (_ | _) hs
  rotate_left
  · rw [fz_sB (show sB ⟨10, a, s, ks⟩ = false from neS hs)]
    (conv => whnf) <;> rfl
  have zs : s = [] := eqS hs
  repeat ((conv => whnf); first | refine known true rfl ?_ | refine known false rfl ?_)
  conv => whnf
  rintro (_ | _) hk
  rotate_left
  · rw [fz_some (x := ⟨10, a, s, ks⟩) (show (10 : Int) ≠ 12 by decide) (keysPos hk)]
    (conv => whnf) <;> rfl
  have zk : ks = [] := len0 hk
  repeat ((conv => whnf); first | refine known true rfl ?_ | refine known false rfl ?_)
  rw [show formedB c.fs.length f ⟨10, a, s, ks⟩ = poB c.fs.length f ⟨10, a, s, ks⟩ by subst za; subst zs; subst zk; simp [formedB, knownB, opdB, bareB, poB, sB, keysB, keysF]]
  conv => whnf
  refine ⟨_, hp, ?_⟩
  (conv => whnf) <;> rfl
set_option maxHeartbeats 8000000 in
set_option maxRecDepth 100000 in
theorem x_formed_11 (c : Cd) (f : Fn) (a : Int) (s : Bs) (ks : List Bs) (hx : InOk ⟨11, a, s, ks⟩) (hf : FnOk f) (hn : c.fs.length ≤ 16) : DCalls Tryz.prog 55 [c.V, f.V, (⟨11, a, s, ks⟩ : In).V] (boo (formedB c.fs.length f ⟨11, a, s, ks⟩)) := by
  have hp := x_operands c f ⟨11, a, s, ks⟩ hx hf hn (show (1 : Int) ≤ 11 by decide) (show (11 : Int) ≤ 20 by decide)
  refine sx Tryz.func55 (by kernel_rfl) ?_
  conv => whnf
  refine ⟨_, x_known 11, ?_⟩
  conv => whnf
  refine known false rfl ?_
  conv => whnf
  refine ⟨show (0 : Int) ≤ 11 by decide, show ((11 : Int)).toNat < 21 by decide, ?_⟩
  repeat ((conv => whnf); first | refine known true rfl ?_ | refine known false rfl ?_)
  conv => whnf
  rintro (_ | _) hs
  rotate_left
  · rw [fz_sB (show sB ⟨11, a, s, ks⟩ = false from neS hs)]
    (conv => whnf) <;> rfl
  have zs : s = [] := eqS hs
  repeat ((conv => whnf); first | refine known true rfl ?_ | refine known false rfl ?_)
  conv => whnf
  rintro (_ | _) hk
  rotate_left
  · rw [fz_some (x := ⟨11, a, s, ks⟩) (show (11 : Int) ≠ 12 by decide) (keysPos hk)]
    (conv => whnf) <;> rfl
  have zk : ks = [] := len0 hk
  repeat ((conv => whnf); first | refine known true rfl ?_ | refine known false rfl ?_)
  rw [show formedB c.fs.length f ⟨11, a, s, ks⟩ = poB c.fs.length f ⟨11, a, s, ks⟩ by subst zs; subst zk; simp [formedB, knownB, opdB, bareB, poB, sB, keysB, keysF, inB]]
  conv => whnf
  refine ⟨_, hp, ?_⟩
  (conv => whnf) <;> rfl
set_option maxHeartbeats 8000000 in
set_option maxRecDepth 100000 in
theorem x_formed_12 (c : Cd) (f : Fn) (a : Int) (s : Bs) (ks : List Bs) (hx : InOk ⟨12, a, s, ks⟩) (hf : FnOk f) (hn : c.fs.length ≤ 16) : DCalls Tryz.prog 55 [c.V, f.V, (⟨12, a, s, ks⟩ : In).V] (boo (formedB c.fs.length f ⟨12, a, s, ks⟩)) := by
  have hp := x_operands c f ⟨12, a, s, ks⟩ hx hf hn (show (1 : Int) ≤ 12 by decide) (show (12 : Int) ≤ 20 by decide)
  refine sx Tryz.func55 (by kernel_rfl) ?_
  conv => whnf
  refine ⟨_, x_known 12, ?_⟩
  conv => whnf
  refine known false rfl ?_
  conv => whnf
  refine ⟨show (0 : Int) ≤ 12 by decide, show ((12 : Int)).toNat < 21 by decide, ?_⟩
  repeat ((conv => whnf); first | refine known true rfl ?_ | refine known false rfl ?_)
  conv => whnf
  rintro (_ | _) hs
  rotate_left
  · rw [fz_sB (show sB ⟨12, a, s, ks⟩ = false from neS hs)]
    (conv => whnf) <;> rfl
  have zs : s = [] := eqS hs
  repeat ((conv => whnf); first | refine known true rfl ?_ | refine known false rfl ?_)
  rw [show formedB c.fs.length f ⟨12, a, s, ks⟩ = poB c.fs.length f ⟨12, a, s, ks⟩ by subst zs; simp [formedB, knownB, opdB, bareB, poB, sB, inB]; generalize keysB ks = K; rw [Bool.eq_iff_iff]; cases K <;> simp <;> omega]
  conv => whnf
  refine ⟨_, hp, ?_⟩
  (conv => whnf) <;> rfl
set_option maxHeartbeats 8000000 in
set_option maxRecDepth 100000 in
theorem x_formed_13 (c : Cd) (f : Fn) (a : Int) (s : Bs) (ks : List Bs) (hx : InOk ⟨13, a, s, ks⟩) (hf : FnOk f) (hn : c.fs.length ≤ 16) : DCalls Tryz.prog 55 [c.V, f.V, (⟨13, a, s, ks⟩ : In).V] (boo (formedB c.fs.length f ⟨13, a, s, ks⟩)) := by
  have hp := x_operands c f ⟨13, a, s, ks⟩ hx hf hn (show (1 : Int) ≤ 13 by decide) (show (13 : Int) ≤ 20 by decide)
  refine sx Tryz.func55 (by kernel_rfl) ?_
  conv => whnf
  refine ⟨_, x_known 13, ?_⟩
  conv => whnf
  refine known false rfl ?_
  conv => whnf
  refine ⟨show (0 : Int) ≤ 13 by decide, show ((13 : Int)).toNat < 21 by decide, ?_⟩
  repeat ((conv => whnf); first | refine known true rfl ?_ | refine known false rfl ?_)
  conv => whnf
  rintro (_ | _) hs
  rotate_left
  · rw [fz_sB (show sB ⟨13, a, s, ks⟩ = false from neS hs)]
    (conv => whnf) <;> rfl
  have zs : s = [] := eqS hs
  repeat ((conv => whnf); first | refine known true rfl ?_ | refine known false rfl ?_)
  conv => whnf
  rintro (_ | _) hk
  rotate_left
  · rw [fz_some (x := ⟨13, a, s, ks⟩) (show (13 : Int) ≠ 12 by decide) (keysPos hk)]
    (conv => whnf) <;> rfl
  have zk : ks = [] := len0 hk
  repeat ((conv => whnf); first | refine known true rfl ?_ | refine known false rfl ?_)
  rw [show formedB c.fs.length f ⟨13, a, s, ks⟩ = poB c.fs.length f ⟨13, a, s, ks⟩ by subst zs; subst zk; simp [formedB, knownB, opdB, bareB, poB, sB, keysB, keysF, inB]; rw [Bool.eq_iff_iff]; simp; omega]
  conv => whnf
  refine ⟨_, hp, ?_⟩
  (conv => whnf) <;> rfl
set_option maxHeartbeats 8000000 in
set_option maxRecDepth 100000 in
theorem x_formed_14 (c : Cd) (f : Fn) (a : Int) (s : Bs) (ks : List Bs) (hx : InOk ⟨14, a, s, ks⟩) (hf : FnOk f) (hn : c.fs.length ≤ 16) : DCalls Tryz.prog 55 [c.V, f.V, (⟨14, a, s, ks⟩ : In).V] (boo (formedB c.fs.length f ⟨14, a, s, ks⟩)) := by
  have hp := x_operands c f ⟨14, a, s, ks⟩ hx hf hn (show (1 : Int) ≤ 14 by decide) (show (14 : Int) ≤ 20 by decide)
  refine sx Tryz.func55 (by kernel_rfl) ?_
  conv => whnf
  refine ⟨_, x_known 14, ?_⟩
  conv => whnf
  refine known false rfl ?_
  conv => whnf
  refine ⟨show (0 : Int) ≤ 14 by decide, show ((14 : Int)).toNat < 21 by decide, ?_⟩
  repeat ((conv => whnf); first | refine known true rfl ?_ | refine known false rfl ?_)
  conv => whnf
  rintro (_ | _) hs
  rotate_left
  · rw [fz_sB (show sB ⟨14, a, s, ks⟩ = false from neS hs)]
    (conv => whnf) <;> rfl
  have zs : s = [] := eqS hs
  repeat ((conv => whnf); first | refine known true rfl ?_ | refine known false rfl ?_)
  conv => whnf
  rintro (_ | _) hk
  rotate_left
  · rw [fz_some (x := ⟨14, a, s, ks⟩) (show (14 : Int) ≠ 12 by decide) (keysPos hk)]
    (conv => whnf) <;> rfl
  have zk : ks = [] := len0 hk
  repeat ((conv => whnf); first | refine known true rfl ?_ | refine known false rfl ?_)
  rw [show formedB c.fs.length f ⟨14, a, s, ks⟩ = poB c.fs.length f ⟨14, a, s, ks⟩ by subst zs; subst zk; simp [formedB, knownB, opdB, bareB, poB, sB, keysB, keysF, inB]; rw [Bool.eq_iff_iff]; simp; omega]
  conv => whnf
  refine ⟨_, hp, ?_⟩
  (conv => whnf) <;> rfl
set_option maxHeartbeats 8000000 in
set_option maxRecDepth 100000 in
theorem x_formed_15 (c : Cd) (f : Fn) (a : Int) (s : Bs) (ks : List Bs) (hx : InOk ⟨15, a, s, ks⟩) (hf : FnOk f) (hn : c.fs.length ≤ 16) : DCalls Tryz.prog 55 [c.V, f.V, (⟨15, a, s, ks⟩ : In).V] (boo (formedB c.fs.length f ⟨15, a, s, ks⟩)) := by
  have hp := x_operands c f ⟨15, a, s, ks⟩ hx hf hn (show (1 : Int) ≤ 15 by decide) (show (15 : Int) ≤ 20 by decide)
  refine sx Tryz.func55 (by kernel_rfl) ?_
  conv => whnf
  refine ⟨_, x_known 15, ?_⟩
  conv => whnf
  refine known false rfl ?_
  conv => whnf
  refine ⟨show (0 : Int) ≤ 15 by decide, show ((15 : Int)).toNat < 21 by decide, ?_⟩
  repeat ((conv => whnf); first | refine known true rfl ?_ | refine known false rfl ?_)
  conv => whnf
  rintro (_ | _) ha
  rotate_left
  · rw [fz_opd (show opdB c.fs.length f ⟨15, a, s, ks⟩ = false from (ne0 ha : (a == 0) = false))]
    (conv => whnf) <;> rfl
  have za : a = 0 := by simpa using ha
  repeat ((conv => whnf); first | refine known true rfl ?_ | refine known false rfl ?_)
  conv => whnf
  rintro (_ | _) hs
  rotate_left
  · rw [fz_sB (show sB ⟨15, a, s, ks⟩ = false from neS hs)]
    (conv => whnf) <;> rfl
  have zs : s = [] := eqS hs
  repeat ((conv => whnf); first | refine known true rfl ?_ | refine known false rfl ?_)
  conv => whnf
  rintro (_ | _) hk
  rotate_left
  · rw [fz_some (x := ⟨15, a, s, ks⟩) (show (15 : Int) ≠ 12 by decide) (keysPos hk)]
    (conv => whnf) <;> rfl
  have zk : ks = [] := len0 hk
  repeat ((conv => whnf); first | refine known true rfl ?_ | refine known false rfl ?_)
  rw [show formedB c.fs.length f ⟨15, a, s, ks⟩ = poB c.fs.length f ⟨15, a, s, ks⟩ by subst za; subst zs; subst zk; simp [formedB, knownB, opdB, bareB, poB, sB, keysB, keysF]]
  conv => whnf
  refine ⟨_, hp, ?_⟩
  (conv => whnf) <;> rfl
set_option maxHeartbeats 8000000 in
set_option maxRecDepth 100000 in
theorem x_formed_16 (c : Cd) (f : Fn) (a : Int) (s : Bs) (ks : List Bs) (hx : InOk ⟨16, a, s, ks⟩) (hf : FnOk f) (hn : c.fs.length ≤ 16) : DCalls Tryz.prog 55 [c.V, f.V, (⟨16, a, s, ks⟩ : In).V] (boo (formedB c.fs.length f ⟨16, a, s, ks⟩)) := by
  have hp := x_operands c f ⟨16, a, s, ks⟩ hx hf hn (show (1 : Int) ≤ 16 by decide) (show (16 : Int) ≤ 20 by decide)
  refine sx Tryz.func55 (by kernel_rfl) ?_
  conv => whnf
  refine ⟨_, x_known 16, ?_⟩
  conv => whnf
  refine known false rfl ?_
  conv => whnf
  refine ⟨show (0 : Int) ≤ 16 by decide, show ((16 : Int)).toNat < 21 by decide, ?_⟩
  repeat ((conv => whnf); first | refine known true rfl ?_ | refine known false rfl ?_)
  conv => whnf
  rintro (_ | _) ha
  rotate_left
  · rw [fz_opd (show opdB c.fs.length f ⟨16, a, s, ks⟩ = false from (ne0 ha : (a == 0) = false))]
    (conv => whnf) <;> rfl
  have za : a = 0 := by simpa using ha
  repeat ((conv => whnf); first | refine known true rfl ?_ | refine known false rfl ?_)
  conv => whnf
  rintro (_ | _) hs
  rotate_left
  · rw [fz_sB (show sB ⟨16, a, s, ks⟩ = false from neS hs)]
    (conv => whnf) <;> rfl
  have zs : s = [] := eqS hs
  repeat ((conv => whnf); first | refine known true rfl ?_ | refine known false rfl ?_)
  conv => whnf
  rintro (_ | _) hk
  rotate_left
  · rw [fz_some (x := ⟨16, a, s, ks⟩) (show (16 : Int) ≠ 12 by decide) (keysPos hk)]
    (conv => whnf) <;> rfl
  have zk : ks = [] := len0 hk
  repeat ((conv => whnf); first | refine known true rfl ?_ | refine known false rfl ?_)
  rw [show formedB c.fs.length f ⟨16, a, s, ks⟩ = poB c.fs.length f ⟨16, a, s, ks⟩ by subst za; subst zs; subst zk; simp [formedB, knownB, opdB, bareB, poB, sB, keysB, keysF]]
  conv => whnf
  refine ⟨_, hp, ?_⟩
  (conv => whnf) <;> rfl
set_option maxHeartbeats 8000000 in
set_option maxRecDepth 100000 in
theorem x_formed_17 (c : Cd) (f : Fn) (a : Int) (s : Bs) (ks : List Bs) (hx : InOk ⟨17, a, s, ks⟩) (hf : FnOk f) (hn : c.fs.length ≤ 16) : DCalls Tryz.prog 55 [c.V, f.V, (⟨17, a, s, ks⟩ : In).V] (boo (formedB c.fs.length f ⟨17, a, s, ks⟩)) := by
  have hp := x_operands c f ⟨17, a, s, ks⟩ hx hf hn (show (1 : Int) ≤ 17 by decide) (show (17 : Int) ≤ 20 by decide)
  refine sx Tryz.func55 (by kernel_rfl) ?_
  conv => whnf
  refine ⟨_, x_known 17, ?_⟩
  conv => whnf
  refine known false rfl ?_
  conv => whnf
  refine ⟨show (0 : Int) ≤ 17 by decide, show ((17 : Int)).toNat < 21 by decide, ?_⟩
  repeat ((conv => whnf); first | refine known true rfl ?_ | refine known false rfl ?_)
  conv => whnf
  rintro (_ | _) hs
  rotate_left
  · rw [fz_sB (show sB ⟨17, a, s, ks⟩ = false from neS hs)]
    (conv => whnf) <;> rfl
  have zs : s = [] := eqS hs
  repeat ((conv => whnf); first | refine known true rfl ?_ | refine known false rfl ?_)
  conv => whnf
  rintro (_ | _) hk
  rotate_left
  · rw [fz_some (x := ⟨17, a, s, ks⟩) (show (17 : Int) ≠ 12 by decide) (keysPos hk)]
    (conv => whnf) <;> rfl
  have zk : ks = [] := len0 hk
  repeat ((conv => whnf); first | refine known true rfl ?_ | refine known false rfl ?_)
  rw [show formedB c.fs.length f ⟨17, a, s, ks⟩ = poB c.fs.length f ⟨17, a, s, ks⟩ by subst zs; subst zk; simp [formedB, knownB, opdB, bareB, poB, sB, keysB, keysF, inB]; rw [Bool.eq_iff_iff]; simp; omega]
  conv => whnf
  refine ⟨_, hp, ?_⟩
  (conv => whnf) <;> rfl
set_option maxHeartbeats 8000000 in
set_option maxRecDepth 100000 in
theorem x_formed_18 (c : Cd) (f : Fn) (a : Int) (s : Bs) (ks : List Bs) (hx : InOk ⟨18, a, s, ks⟩) (hf : FnOk f) (hn : c.fs.length ≤ 16) : DCalls Tryz.prog 55 [c.V, f.V, (⟨18, a, s, ks⟩ : In).V] (boo (formedB c.fs.length f ⟨18, a, s, ks⟩)) := by
  have hp := x_operands c f ⟨18, a, s, ks⟩ hx hf hn (show (1 : Int) ≤ 18 by decide) (show (18 : Int) ≤ 20 by decide)
  refine sx Tryz.func55 (by kernel_rfl) ?_
  conv => whnf
  refine ⟨_, x_known 18, ?_⟩
  conv => whnf
  refine known false rfl ?_
  conv => whnf
  refine ⟨show (0 : Int) ≤ 18 by decide, show ((18 : Int)).toNat < 21 by decide, ?_⟩
  repeat ((conv => whnf); first | refine known true rfl ?_ | refine known false rfl ?_)
  conv => whnf
  rintro (_ | _) hk
  rotate_left
  · rw [fz_some (x := ⟨18, a, s, ks⟩) (show (18 : Int) ≠ 12 by decide) (keysPos hk)]
    (conv => whnf) <;> rfl
  have zk : ks = [] := len0 hk
  repeat ((conv => whnf); first | refine known true rfl ?_ | refine known false rfl ?_)
  rw [show formedB c.fs.length f ⟨18, a, s, ks⟩ = poB c.fs.length f ⟨18, a, s, ks⟩ by subst zk; simp [formedB, knownB, opdB, bareB, poB, sB, keysB, keysF]]
  conv => whnf
  refine ⟨_, hp, ?_⟩
  (conv => whnf) <;> rfl
set_option maxHeartbeats 8000000 in
set_option maxRecDepth 100000 in
theorem x_formed_19 (c : Cd) (f : Fn) (a : Int) (s : Bs) (ks : List Bs) (hx : InOk ⟨19, a, s, ks⟩) (hf : FnOk f) (hn : c.fs.length ≤ 16) : DCalls Tryz.prog 55 [c.V, f.V, (⟨19, a, s, ks⟩ : In).V] (boo (formedB c.fs.length f ⟨19, a, s, ks⟩)) := by
  have hp := x_operands c f ⟨19, a, s, ks⟩ hx hf hn (show (1 : Int) ≤ 19 by decide) (show (19 : Int) ≤ 20 by decide)
  refine sx Tryz.func55 (by kernel_rfl) ?_
  conv => whnf
  refine ⟨_, x_known 19, ?_⟩
  conv => whnf
  refine known false rfl ?_
  conv => whnf
  refine ⟨show (0 : Int) ≤ 19 by decide, show ((19 : Int)).toNat < 21 by decide, ?_⟩
  repeat ((conv => whnf); first | refine known true rfl ?_ | refine known false rfl ?_)
  conv => whnf
  rintro (_ | _) hk
  rotate_left
  · rw [fz_some (x := ⟨19, a, s, ks⟩) (show (19 : Int) ≠ 12 by decide) (keysPos hk)]
    (conv => whnf) <;> rfl
  have zk : ks = [] := len0 hk
  repeat ((conv => whnf); first | refine known true rfl ?_ | refine known false rfl ?_)
  rw [show formedB c.fs.length f ⟨19, a, s, ks⟩ = poB c.fs.length f ⟨19, a, s, ks⟩ by subst zk; simp [formedB, knownB, opdB, bareB, poB, sB, keysB, keysF]]
  conv => whnf
  refine ⟨_, hp, ?_⟩
  (conv => whnf) <;> rfl
set_option maxHeartbeats 8000000 in
set_option maxRecDepth 100000 in
theorem x_formed_20 (c : Cd) (f : Fn) (a : Int) (s : Bs) (ks : List Bs) (hx : InOk ⟨20, a, s, ks⟩) (hf : FnOk f) (hn : c.fs.length ≤ 16) : DCalls Tryz.prog 55 [c.V, f.V, (⟨20, a, s, ks⟩ : In).V] (boo (formedB c.fs.length f ⟨20, a, s, ks⟩)) := by
  have hp := x_operands c f ⟨20, a, s, ks⟩ hx hf hn (show (1 : Int) ≤ 20 by decide) (show (20 : Int) ≤ 20 by decide)
  refine sx Tryz.func55 (by kernel_rfl) ?_
  conv => whnf
  refine ⟨_, x_known 20, ?_⟩
  conv => whnf
  refine known false rfl ?_
  conv => whnf
  refine ⟨show (0 : Int) ≤ 20 by decide, show ((20 : Int)).toNat < 21 by decide, ?_⟩
  repeat ((conv => whnf); first | refine known true rfl ?_ | refine known false rfl ?_)
  conv => whnf
  rintro (_ | _) ha
  rotate_left
  · rw [fz_opd (show opdB c.fs.length f ⟨20, a, s, ks⟩ = false from (ne0 ha : (a == 0) = false))]
    (conv => whnf) <;> rfl
  have za : a = 0 := by simpa using ha
  repeat ((conv => whnf); first | refine known true rfl ?_ | refine known false rfl ?_)
  conv => whnf
  rintro (_ | _) hs
  rotate_left
  · rw [fz_sB (show sB ⟨20, a, s, ks⟩ = false from neS hs)]
    (conv => whnf) <;> rfl
  have zs : s = [] := eqS hs
  repeat ((conv => whnf); first | refine known true rfl ?_ | refine known false rfl ?_)
  conv => whnf
  rintro (_ | _) hk
  rotate_left
  · rw [fz_some (x := ⟨20, a, s, ks⟩) (show (20 : Int) ≠ 12 by decide) (keysPos hk)]
    (conv => whnf) <;> rfl
  have zk : ks = [] := len0 hk
  repeat ((conv => whnf); first | refine known true rfl ?_ | refine known false rfl ?_)
  rw [show formedB c.fs.length f ⟨20, a, s, ks⟩ = poB c.fs.length f ⟨20, a, s, ks⟩ by subst za; subst zs; subst zk; simp [formedB, knownB, opdB, bareB, poB, sB, keysB, keysF]]
  conv => whnf
  refine ⟨_, hp, ?_⟩
  (conv => whnf) <;> rfl
theorem x_formed (c : Cd) (f : Fn) (x : In) (hx : InOk x) (hf : FnOk f) (hn : c.fs.length ≤ 16) : DCalls Tryz.prog 55 [c.V, f.V, x.V] (boo (formedB c.fs.length f x)) := by
  cases h1 : knownB x.op with
  | false =>
    rw [fz_known h1]
    refine sx Tryz.func55 (by kernel_rfl) ?_
    conv => whnf
    refine ⟨_, x_known x.op, ?_⟩
    conv => whnf
    refine known true (by rw [h1]; rfl) ?_
    (conv => whnf) <;> rfl
  | true =>
    obtain ⟨op, a, s, ks⟩ := x
    have h2 : 1 ≤ op ∧ op ≤ 20 := by unfold knownB at h1; simpa using h1
    rcases op20 h2.1 h2.2 with h | h | h | h | h | h | h | h | h | h | h | h | h | h | h | h | h | h | h | h <;> subst h
    · exact x_formed_1 c f a s ks hx hf hn
    · exact x_formed_2 c f a s ks hx hf hn
    · exact x_formed_3 c f a s ks hx hf hn
    · exact x_formed_4 c f a s ks hx hf hn
    · exact x_formed_5 c f a s ks hx hf hn
    · exact x_formed_6 c f a s ks hx hf hn
    · exact x_formed_7 c f a s ks hx hf hn
    · exact x_formed_8 c f a s ks hx hf hn
    · exact x_formed_9 c f a s ks hx hf hn
    · exact x_formed_10 c f a s ks hx hf hn
    · exact x_formed_11 c f a s ks hx hf hn
    · exact x_formed_12 c f a s ks hx hf hn
    · exact x_formed_13 c f a s ks hx hf hn
    · exact x_formed_14 c f a s ks hx hf hn
    · exact x_formed_15 c f a s ks hx hf hn
    · exact x_formed_16 c f a s ks hx hf hn
    · exact x_formed_17 c f a s ks hx hf hn
    · exact x_formed_18 c f a s ks hx hf hn
    · exact x_formed_19 c f a s ks hx hf hn
    · exact x_formed_20 c f a s ks hx hf hn
end Go.Proofs.YtkpmlgpkmlhbjaaGreatDoor
namespace Go.Proofs.YtkpmlgpkmlhbjaaGreatDoor
open Go.RowKit
def popsN (fs : List Fn) (x : In) : Int :=
  if x.op == 6 || x.op == 7 || x.op == 8 || x.op == 14 || x.op == 15 || x.op == 16 || x.op == 20 then 1
  else if x.op == 9 || x.op == 10 then 2
  else if x.op == 11 || x.op == 12 || x.op == 18 || x.op == 19 then x.a
  else if x.op == 17 then (match fs[x.a.toNat]? with | some f => f.ps | none => 0)
  else 0
def pushN (x : In) : Int := if x.op == 6 || x.op == 7 || x.op == 13 || x.op == 14 || x.op == 20 then 0 else if x.op == 16 then 2 else 1
set_option maxHeartbeats 8000000 in
set_option maxRecDepth 100000 in
theorem x_rpushes (x : In) (h1 : 1 ≤ x.op) (h2 : x.op ≤ 20) : DCalls Tryz.prog 89 [x.V] (int (pushN x)) := by
  obtain ⟨op, a, s, ks⟩ := x
  dsimp only at h1 h2
  refine sx Tryz.func89 (by kernel_rfl) ?_
  rcases op20 h1 h2 with h | h | h | h | h | h | h | h | h | h | h | h | h | h | h | h | h | h | h | h <;> subst h
  all_goals repeat ((conv => whnf); first | refine known true rfl ?_ | refine known false rfl ?_)
  all_goals ((conv => whnf) <;> rfl)
set_option maxHeartbeats 8000000 in
set_option maxRecDepth 100000 in
theorem x_rpops (c : Cd) (x : In) (h1 : 1 ≤ x.op) (h2 : x.op ≤ 20) (h3 : x.op = 17 → 0 ≤ x.a ∧ x.a < c.fs.length) : DCalls Tryz.prog 88 [c.V, x.V] (int (popsN c.fs x)) := by
  obtain ⟨op, a, s, ks⟩ := x
  dsimp only at h1 h2 h3
  refine sx Tryz.func88 (by kernel_rfl) ?_
  rcases op20 h1 h2 with h | h | h | h | h | h | h | h | h | h | h | h | h | h | h | h | h | h | h | h <;> subst h
  all_goals repeat ((conv => whnf); first | refine known true rfl ?_ | refine known false rfl ?_)
  all_goals try ((conv => whnf) <;> rfl)
  obtain ⟨h3, h4⟩ := h3 rfl
  obtain ⟨n, rfl⟩ : ∃ n : Nat, a = n := ⟨a.toNat, by omega⟩
  have h5 : n < c.fs.length := by omega
  conv => whnf
  refine ⟨by dsimp only; omega, _, get_map fnD h5, ?_⟩
  rw [show popsN c.fs ⟨17, n, s, ks⟩ = c.fs[n].ps by simp [popsN, h5]]
  (conv => whnf) <;> rfl
set_option maxHeartbeats 8000000 in
set_option maxRecDepth 100000 in
theorem x_pops (c : Cd) (x : In) (h1 : 1 ≤ x.op) (h2 : x.op ≤ 20) (h3 : x.op = 17 → 0 ≤ x.a ∧ x.a < c.fs.length) : DCalls Tryz.prog 82 [c.V, x.V] (int (popsN c.fs x)) := by
  obtain ⟨op, a, s, ks⟩ := x
  dsimp only at h1 h2 h3
  refine sx Tryz.func82 (by kernel_rfl) ?_
  conv => whnf
  refine ⟨show 0 ≤ op by omega, show op.toNat < 21 by omega, ?_⟩
  rcases op20 h1 h2 with h | h | h | h | h | h | h | h | h | h | h | h | h | h | h | h | h | h | h | h <;> subst h
  all_goals repeat ((conv => whnf); first | refine known true rfl ?_ | refine known false rfl ?_)
  all_goals try ((conv => whnf) <;> rfl)
  obtain ⟨h3, h4⟩ := h3 rfl
  obtain ⟨n, rfl⟩ : ∃ n : Nat, a = n := ⟨a.toNat, by omega⟩
  have h5 : n < c.fs.length := by omega
  conv => whnf
  refine ⟨by dsimp only; omega, _, get_map fnD h5, ?_⟩
  rw [show popsN c.fs ⟨17, n, s, ks⟩ = c.fs[n].ps by simp [popsN, h5]]
  (conv => whnf) <;> rfl
def intD (n : Int) : List D := [.cv (.int .i64 n)]
abbrev intsV (l : List Int) : V := .sl true 1 (l.map intD)
def succs (x : In) (i : Nat) : List Int := if x.op == 13 then [x.a] else if x.op == 20 then [] else if x.op == 14 then [((i + 1 : Nat) : Int), x.a] else [((i + 1 : Nat) : Int)]
set_option maxHeartbeats 8000000 in
set_option maxRecDepth 100000 in
theorem x_succ (x : In) (i : Nat) (h1 : 1 ≤ x.op) (h2 : x.op ≤ 20) (hi : i ≤ 4000) : DCalls Tryz.prog 83 [x.V, int i] (intsV (succs x i)) := by
  obtain ⟨op, a, s, ks⟩ := x
  dsimp only at h1 h2
  have hw : IntKind.i64.wrap (((i : Nat) : Int) + 1) = ((i + 1 : Nat) : Int) := wrap_succ (by omega)
  refine sx Tryz.func83 (by kernel_rfl) ?_
  rcases op20 h1 h2 with h | h | h | h | h | h | h | h | h | h | h | h | h | h | h | h | h | h | h | h <;> subst h
  all_goals repeat ((conv => whnf); first | refine known true rfl ?_ | refine known false rfl ?_)
  all_goals conv => whnf
  all_goals try rw [hw]
  all_goals first | rfl | ((conv => whnf) <;> rfl) | (refine ⟨none, by kernel_rfl, ?_⟩; (conv => whnf); (try rw [hw]); rfl)
set_option maxHeartbeats 8000000 in
set_option maxRecDepth 100000 in
theorem x_rsucc (c : Cd) (i : Nat) (hi : i < c.is.length) (hn : c.is.length ≤ 4000) (h1 : 1 ≤ c.is[i].op) (h2 : c.is[i].op ≤ 20) : DCalls Tryz.prog 90 [c.V, int i] (intsV (succs c.is[i] i)) := by
  have hw : IntKind.i64.wrap (((i : Nat) : Int) + 1) = ((i + 1 : Nat) : Int) := wrap_succ (by omega)
  refine sx Tryz.func90 (by kernel_rfl) ?_
  conv => whnf
  refine ⟨by omega, _, get_map inD hi, ?_⟩
  generalize c.is[i] = x at *
  obtain ⟨op, a, s, ks⟩ := x
  dsimp only at h1 h2
  rcases op20 h1 h2 with h | h | h | h | h | h | h | h | h | h | h | h | h | h | h | h | h | h | h | h <;> subst h
  all_goals repeat ((conv => whnf); first | refine known true rfl ?_ | refine known false rfl ?_)
  all_goals conv => whnf
  all_goals try rw [hw]
  all_goals first | rfl | ((conv => whnf) <;> rfl) | (refine ⟨none, by kernel_rfl, ?_⟩; (conv => whnf); (try rw [hw]); rfl)
end Go.Proofs.YtkpmlgpkmlhbjaaGreatDoor
namespace Go.Proofs.YtkpmlgpkmlhbjaaGreatDoor
open Go.RowKit
def cdM : List (Nat × Bool) := [(35, false), (34, false)]
def findF (x : Bs) : List Fn → Nat → Int
  | [], _ => -1
  | s :: l, i => if s.nm == x then i else findF x l (i + 1)
theorem findF_cons (x : Bs) (s : Fn) (l : List Fn) (i : Nat) : findF x (s :: l) i = if s.nm == x then (i : Int) else findF x l (i + 1) := rfl
theorem x_find1 (f : Fn) (x : Bs) : MCalls Tryz.prog 35 [f.V, .bx 0 0] [.box [bstr x]] (boo (sEq (mk f.nm) (mk x))) [.box [bstr x]] := by
  refine msx Tryz.func35 (by kernel_rfl) (by kernel_rfl) ?_
  exact ⟨rfl, rfl, rfl⟩
set_option maxRecDepth 100000 in
theorem x_indexF (l : List Fn) (x : Bs) (hl : l.length ≤ 8796093022207) :
    MCalls Tryz.prog 34 [.sl false 5 (l.map fnD), .fn 35 0 [.bx 0 0]] [.box [bstr x]] (int (findF x l 0)) [.box [bstr x]] := by
  refine msxm cdM Tryz.func34 (by kernel_rfl) (by kernel_rfl) ?_
  conv => whnf
  refine ⟨[], Nat, fun k => [(8, int k)], fun _ => [], fun k => k ≤ l.length ∧ findF x (l.drop k) k = findF x l 0, fun k => l.length - k, 0, ⟨by simp, rfl⟩, ?_, ?_⟩
  · refine ⟨rfl, ?_, ?_⟩ <;> repeat' (first | exact trivial | exact rfl | refine and_rfl ?_ | refine and_two ?_ ?_)
  rintro k ⟨hk, hf⟩
  conv => whnf
  rintro (_ | _) h1
  · have h1 : l.length ≤ k := by simp at h1; omega
    rw [List.drop_eq_nil_of_le h1] at hf
    exact ⟨rfl, rfl, by rw [← hf]; rfl⟩
  have h1 : k < l.length := by simp at h1; omega
  rw [List.drop_eq_getElem_cons h1, findF_cons] at hf
  conv => whnf
  refine ⟨by omega, _, get_map fnD h1, ?_⟩
  conv => whnf
  refine mcall (T := TM cdM) (φ := []) (x_find1 l[k] x) ?_
  conv => whnf
  rintro (_ | _) h2
  · rw [sEq_mk] at h2
    rw [h2, if_neg (by simp)] at hf
    conv => whnf
    refine ⟨k + 1, ⟨h1, hf⟩, by dsimp only; omega, ?_⟩
    refine ⟨rfl, ?_, ?_⟩ <;> repeat' (first | exact trivial | exact rfl | refine and_rfl ?_ | refine and_val (wrap_succ (by omega)) ?_ | refine and_two ?_ ?_)
  · rw [sEq_mk] at h2
    rw [h2, if_pos rfl] at hf
    exact ⟨rfl, rfl, by rw [← hf]; rfl⟩
theorem x_find (c : Cd) (x : Bs) (hl : c.fs.length ≤ 8796093022207) : DCalls Tryz.prog 17 [c.V, bstr x] (int (findF x c.fs 0)) := by
  refine sxm cdM Tryz.func17 (by kernel_rfl) ?_
  conv => whnf
  refine mcall (T := TM cdM) (φ := []) (x_indexF c.fs x hl) ?_
  rfl
set_option maxRecDepth 100000 in
theorem x_rfind (c : Cd) (x : Bs) (hl : c.fs.length ≤ 8796093022207) : DCalls Tryz.prog 18 [c.V, bstr x] (int (findF x c.fs 0)) := by
  refine sx Tryz.func18 (by kernel_rfl) ?_
  conv => whnf
  refine ⟨[], Nat, fun k => [(5, int k)], fun _ => [], fun k => k ≤ c.fs.length ∧ findF x (c.fs.drop k) k = findF x c.fs 0, fun k => c.fs.length - k, 0, ⟨by simp, rfl⟩, ?_, ?_⟩
  · refine ⟨rfl, ?_, ?_⟩ <;> repeat' (first | exact trivial | exact rfl | refine and_rfl ?_ | refine and_two ?_ ?_)
  rintro k ⟨hk, hf⟩
  conv => whnf
  rintro (_ | _) h1
  · have h1 : c.fs.length ≤ k := by simp at h1; omega
    rw [List.drop_eq_nil_of_le h1] at hf
    rw [← hf]
    (conv => whnf) <;> rfl
  have h1 : k < c.fs.length := by simp at h1; omega
  rw [List.drop_eq_getElem_cons h1, findF_cons] at hf
  conv => whnf
  refine ⟨by omega, _, get_map fnD h1, ?_⟩
  conv => whnf
  rintro (_ | _) h2
  · have h2 : (c.fs[k].nm == x) = false := by rw [← sEq_mk]; exact h2
    rw [h2, if_neg (by simp)] at hf
    conv => whnf
    refine ⟨k + 1, ⟨h1, hf⟩, by dsimp only; omega, ?_⟩
    refine ⟨rfl, ?_, ?_⟩ <;> repeat' (first | exact trivial | exact rfl | refine and_rfl ?_ | refine and_val (wrap_succ (by omega)) ?_ | refine and_two ?_ ?_)
  · have h2 : (c.fs[k].nm == x) = true := by rw [← sEq_mk]; exact h2
    rw [h2, if_pos rfl] at hf
    rw [← hf]
    (conv => whnf) <;> rfl
end Go.Proofs.YtkpmlgpkmlhbjaaGreatDoor
