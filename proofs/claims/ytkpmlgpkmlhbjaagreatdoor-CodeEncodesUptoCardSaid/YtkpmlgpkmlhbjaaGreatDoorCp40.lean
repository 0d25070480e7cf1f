/- Texts joined by pack.py: XCd45 -/
import Derived.Test.YtkpmlgpkmlhbjaaGreatDoorCp39
import Derived.Test.YtkpmlgpkmlhbjaaGreatDoorCp14
namespace Go.Proofs.YtkpmlgpkmlhbjaaGreatDoor
open Go.RowKit
def eB (s : Bs) : Bool := (pnumG s).2 != 0
def nB (s : Bs) : Int := (pnumG s).1
def gB (f : List Bs) (i : Nat) : Bs := f.getD i []
def fnOf (f : List Bs) : Fn := ⟨gB f 0, nB (gB f 1), nB (gB f 2), nB (gB f 3), nB (gB f 4)⟩
def fnE (f : List Bs) (bad : Bool) : Bool := bad || eB (gB f 1) || eB (gB f 2) || eB (gB f 3) || eB (gB f 4)
def rdF : Nat → Int → List Bs → Bool → List Fn → List Fn × List Bs × Bool
  | 0, _, l, bad, acc => (acc, l, bad)
  | k + 1, n, l, bad, acc => if decide (0 < n) && !bad then
      rdF k (n - 1) (nextF 5 l bad).2.1 (fnE (nextF 5 l bad).1 (nextF 5 l bad).2.2) (acc ++ [fnOf (nextF 5 l bad).1])
    else (acc, l, bad)
def rdK : Nat → Int → List Bs → Bool → List Bs → List Bs × List Bs × Bool
  | 0, _, l, bad, acc => (acc, l, bad)
  | k + 1, n, l, bad, acc => if decide (0 < n) && !bad then
      rdK k (n - 1) (nextF 1 l bad).2.1 (nextF 1 l bad).2.2 (acc ++ [gB (nextF 1 l bad).1 0])
    else (acc, l, bad)
def inE (f : List Bs) (bad : Bool) : Bool := bad || eB (gB f 0) || eB (gB f 1)
def rdX (f : List Bs) (l : List Bs) (bad : Bool) : List Bs × List Bs × Bool := rdK (l.length + 1) (if nB (gB f 0) = 12 then nB (gB f 1) else 0) l (inE f bad) []
def rdI : Nat → Int → List Bs → Bool → List In → List In × List Bs × Bool
  | 0, _, l, bad, acc => (acc, l, bad)
  | k + 1, n, l, bad, acc => if decide (0 < n) && !bad then
      rdI k (n - 1) (rdX (nextF 3 l bad).1 (nextF 3 l bad).2.1 (nextF 3 l bad).2.2).2.1 (rdX (nextF 3 l bad).1 (nextF 3 l bad).2.1 (nextF 3 l bad).2.2).2.2
        (acc ++ [⟨nB (gB (nextF 3 l bad).1 0), nB (gB (nextF 3 l bad).1 1), gB (nextF 3 l bad).1 2, (rdX (nextF 3 l bad).1 (nextF 3 l bad).2.1 (nextF 3 l bad).2.2).1⟩])
    else (acc, l, bad)
def rdH (l : List Bs) (bad : Bool) : List Bs × List Bs × Bool := ((nextF 2 l bad).1, (nextF 2 l bad).2.1, (nextF 2 l bad).2.2 || eB (gB (nextF 2 l bad).1 0) || eB (gB (nextF 2 l bad).1 1))
def rdFs (l : List Bs) (bad : Bool) : List Fn × List Bs × Bool := rdF (l.length + 1) (nB (gB (rdH l bad).1 0)) (rdH l bad).2.1 (rdH l bad).2.2 []
def rdIs (l : List Bs) (bad : Bool) : List In × List Bs × Bool := rdI (l.length + 1) (nB (gB (rdH l bad).1 1)) (rdFs l bad).2.1 (rdFs l bad).2.2 []
def rdC (l : List Bs) (bad : Bool) : Cd × List Bs × Bool := (⟨(rdFs l bad).1, (rdIs l bad).1⟩, (rdIs l bad).2.1, (rdIs l bad).2.2)
theorem next_len (n : Nat) (l : List Bs) (bad : Bool) : (nextF n l bad).1.length = n := by
  cases l with
  | nil => simp [nextF]
  | cons b r =>
    rw [next_cons]
    split
    · simp
    · simp; omega
theorem next_dec (n : Nat) (l : List Bs) (bad : Bool) : (nextF n l bad).2.2 = true ∨ (nextF n l bad).2.1.length + 1 = l.length := by
  cases l with
  | nil => exact .inl rfl
  | cons b r =>
    rw [next_cons]
    split
    · exact .inl rfl
    · exact .inr (by simp)
theorem next_le (n : Nat) (l : List Bs) (bad : Bool) : (nextF n l bad).2.1.length ≤ l.length := by
  cases l with
  | nil => simp [nextF]
  | cons b r => rw [next_cons]; split <;> simp
theorem next_sub (n : Nat) (l : List Bs) (bad : Bool) : ∀ b ∈ (nextF n l bad).2.1, b ∈ l := by
  cases l with
  | nil => simp [nextF]
  | cons b r => rw [next_cons]; split <;> (intro x hx; exact List.mem_cons_of_mem _ hx)
theorem unpB_mem : ∀ (n : Nat) (s : Bs) (acc : List Bs), (∀ x ∈ acc, x.length ≤ 4000) → ∀ x ∈ (unpB n s acc).1, x.length ≤ 4000
  | 0, s, acc, ha => by
    unfold unpB
    split
    · exact ha
    · simp
  | n + 1, [], acc, ha => by unfold unpB; simp
  | n + 1, [a], acc, ha => by unfold unpB; simp
  | n + 1, a :: b :: r, acc, ha => by
    unfold unpB
    split
    · simp
    · split
      · simp
      · refine unpB_mem n _ _ fun x hx => ?_
        rcases List.mem_append.1 hx with hx | hx
        · exact ha x hx
        · simp at hx; subst hx; simp; omega
theorem unpack_mem (b : Bs) : ∀ x ∈ (unpackP b).1, x.length ≤ 4000 := by
  cases b with
  | nil => simp [unpackP]
  | cons c r =>
    rw [unpack_cons]
    split
    · simp
    · exact unpB_mem _ _ _ (by simp)
theorem next_fld (n : Nat) (l : List Bs) (bad : Bool) : ∀ x ∈ (nextF n l bad).1, x.length ≤ 4000 := by
  have hrep : ∀ x ∈ List.replicate n ([] : Bs), x.length ≤ 4000 := fun x hx => by rw [List.eq_of_mem_replicate hx]; simp
  cases l with
  | nil => exact hrep
  | cons b r =>
    rw [next_cons]
    split
    · exact hrep
    · intro x hx
      rcases List.mem_append.1 hx with hx | hx
      · exact unpack_mem b x (List.mem_of_mem_take hx)
      · exact hrep x (List.mem_of_mem_drop hx)
theorem rdF_go {k : Nat} {n : Int} {l : List Bs} {bad : Bool} {acc : List Fn} (h1 : 0 < n) (h2 : bad = false) : rdF (k + 1) n l bad acc = rdF k (n - 1) (nextF 5 l bad).2.1 (fnE (nextF 5 l bad).1 (nextF 5 l bad).2.2) (acc ++ [fnOf (nextF 5 l bad).1]) := by
  conv => lhs; unfold rdF
  rw [if_pos (by simp [h1, h2])]
theorem rdF_end {k : Nat} {n : Int} {l : List Bs} {bad : Bool} {acc : List Fn} (h : ¬ 0 < n ∨ bad = true) : rdF k n l bad acc = (acc, l, bad) := by
  cases k with
  | zero => rfl
  | succ k => unfold rdF; rw [if_neg (by rcases h with h | h <;> simp [h])]
theorem rdK_go {k : Nat} {n : Int} {l : List Bs} {bad : Bool} {acc : List Bs} (h1 : 0 < n) (h2 : bad = false) : rdK (k + 1) n l bad acc = rdK k (n - 1) (nextF 1 l bad).2.1 (nextF 1 l bad).2.2 (acc ++ [gB (nextF 1 l bad).1 0]) := by
  conv => lhs; unfold rdK
  rw [if_pos (by simp [h1, h2])]
theorem rdK_end {k : Nat} {n : Int} {l : List Bs} {bad : Bool} {acc : List Bs} (h : ¬ 0 < n ∨ bad = true) : rdK k n l bad acc = (acc, l, bad) := by
  cases k with
  | zero => rfl
  | succ k => unfold rdK; rw [if_neg (by rcases h with h | h <;> simp [h])]
theorem rdI_go {k : Nat} {n : Int} {l : List Bs} {bad : Bool} {acc : List In} {f l1 ks l2 : List Bs} {b1 b2 : Bool} (h1 : 0 < n) (h2 : bad = false) (h3 : nextF 3 l bad = (f, l1, b1)) (h4 : rdX f l1 b1 = (ks, l2, b2)) :
    rdI (k + 1) n l bad acc = rdI k (n - 1) l2 b2 (acc ++ [⟨nB (gB f 0), nB (gB f 1), gB f 2, ks⟩]) := by
  conv => lhs; unfold rdI
  rw [if_pos (by simp [h1, h2]), h3]
  dsimp only
  rw [h4]
theorem rdI_end {k : Nat} {n : Int} {l : List Bs} {bad : Bool} {acc : List In} (h : ¬ 0 < n ∨ bad = true) : rdI k n l bad acc = (acc, l, bad) := by
  cases k with
  | zero => rfl
  | succ k => unfold rdI; rw [if_neg (by rcases h with h | h <;> simp [h])]
theorem rdK_le : ∀ (k : Nat) (n : Int) (l : List Bs) (bad : Bool) (acc : List Bs), (rdK k n l bad acc).2.1.length ≤ l.length ∧ ((rdK k n l bad acc).1.length ≤ acc.length + k) ∧ ∀ b ∈ (rdK k n l bad acc).2.1, b ∈ l
  | 0, n, l, bad, acc => by unfold rdK; simp
  | k + 1, n, l, bad, acc => by
    by_cases h : 0 < n ∧ bad = false
    · rw [rdK_go h.1 h.2]
      obtain ⟨h1, h2, h3⟩ := rdK_le k (n - 1) (nextF 1 l bad).2.1 (nextF 1 l bad).2.2 (acc ++ [gB (nextF 1 l bad).1 0])
      have := next_le 1 l bad
      simp only [List.length_append, List.length_singleton] at h2
      exact ⟨by omega, by omega, fun b hb => next_sub 1 l bad b (h3 b hb)⟩
    · rw [rdK_end (by cases bad <;> simp_all)]; simp
theorem list5 {l : List Bs} (h : l.length = 5) : ∃ a b c d e, l = [a, b, c, d, e] := by
  match l, h with
  | [a, b, c, d, e], _ => exact ⟨a, b, c, d, e, rfl⟩
theorem list3 {l : List Bs} (h : l.length = 3) : ∃ a b c, l = [a, b, c] := by
  match l, h with
  | [a, b, c], _ => exact ⟨a, b, c, rfl⟩
theorem list2 {l : List Bs} (h : l.length = 2) : ∃ a b, l = [a, b] := by
  match l, h with
  | [a, b], _ => exact ⟨a, b, rfl⟩
theorem list1 {l : List Bs} (h : l.length = 1) : ∃ a, l = [a] := by
  match l, h with
  | [a], _ => exact ⟨a, rfl⟩
theorem share0 {A : Prop} (E : Prop) (f : E → A) (e : E) : A := f e
def codeM : List (Nat × Bool) := [(65, false), (66, false), (2000023, false)]
def planC3 : Plan := .one 0 (.one 1 (.one 2 (.one 3 (.one 5 (.one 6 (.pull 7 (.pull 8 (.one 4 (.one 9 (.one 10 (.one 11 (.done))))))))))))
def planC8 : Plan := .one 2 (.one 5 (.one 6 (.one 7 (.one 8 (.one 10 (.one 11 (.one 15 (.one 16 (.one 20 (.one 21 (.pull 0 (.pull 3 (.pull 4 (.pull 12 (.pull 13 (.pull 17 (.pull 18 (.pull 22 (.pull 23 (.alt 1 (.one 9 (.one 14 (.one 19 (.one 24 (.one 25 (.one 26 (.one 27 (.one 28 (.one 29 (.done)))))))))) (.alt 9 (.alt 1 (.one 14 (.one 19 (.one 24 (.one 25 (.one 26 (.one 27 (.one 28 (.one 29 (.done))))))))) (.alt 14 (.alt 1 (.one 19 (.one 24 (.one 25 (.one 26 (.one 27 (.one 28 (.one 29 (.done)))))))) (.alt 19 (.alt 1 (.one 24 (.one 25 (.one 26 (.one 27 (.one 28 (.one 29 (.done))))))) (.alt 24 (.one 1 (.one 25 (.one 26 (.one 27 (.one 28 (.one 29 (.done))))))) (.stop))) (.stop))) (.stop))) (.stop))))))))))))))))))))))
def planC13 : Plan := .one 0 (.one 1 (.one 2 (.one 3 (.one 5 (.one 6 (.one 10 (.pull 7 (.pull 8 (.pull 11 (.pull 12 (.alt 4 (.alt 9 (.one 13 (.one 14 (.one 15 (.done)))) (.alt 14 (.one 9 (.one 13 (.one 15 (.done)))) (.stop))) (.alt 14 (.one 4 (.one 9 (.one 13 (.one 15 (.done))))) (.stop)))))))))))))
def planC17 : Plan := .one 2 (.pull 0 (.alt 1 (.one 3 (.one 4 (.one 5 (.one 6 (.one 7 (.one 8 (.one 9 (.done)))))))) (.alt 3 (.one 1 (.one 4 (.one 5 (.one 6 (.one 7 (.one 8 (.one 9 (.done)))))))) (.stop))))
set_option maxHeartbeats 16000000 in
set_option maxRecDepth 100000 in
theorem x_rcode (l : List Bs) (bad : Bool) (hl : ∀ b ∈ l, b.length ≤ 140737488355328) (hn : l.length ≤ 100000000000) :
    MCalls Tryz.prog 48 [.bx 0 0] [rdM l bad] (rdC l bad).1.V [rdM (rdC l bad).2.1 (rdC l bad).2.2] := by
  refine msxm codeM Tryz.func48 (by kernel_rfl) (by kernel_rfl) ?_
  generalize hR : rdC l bad = R
  obtain ⟨h0, h1, hf⟩ := list2 (next_len 2 l bad)
  have hx2 := x_next 2 l bad (by omega) hl
  have hfl := next_fld 2 l bad
  have hle := next_le 2 l bad
  have hsub := next_sub 2 l bad
  have hH : rdH l bad = ([h0, h1], (nextF 2 l bad).2.1, (nextF 2 l bad).2.2 || eB h0 || eB h1) := by unfold rdH; rw [hf]; rfl
  unfold rdC rdIs rdFs at hR
  rw [hH] at hR
  dsimp only at hR
  rw [hf] at hx2 hfl
  generalize (nextF 2 l bad).2.1 = l1 at *
  generalize (nextF 2 l bad).2.2 = b1 at *
  clear hH hf
  conv => whnf
  refine mcall (T := TM codeM) (φ := []) (gf := false) hx2 ?_
  rw [show Tryz.f48.ntmps = 130 from rfl]
  conv => whnf
  refine ⟨some planC3, by kernel_rfl, ?_⟩
  conv => whnf
  refine ⟨by decide, _, rfl, ?_⟩
  conv => whnf
  refine ⟨.el true (strD h1) 0, fun m2 K2 hK => ⟨by decide, _, rfl, hK⟩, ?_⟩
  conv => whnf
  refine ⟨.cv (.string (mk h1)), fun m2 K2 hK => hK, ?_⟩
  conv => whnf
  refine mcall (T := TM codeM) (φ := []) (gf := false) (x_rnum h0 l1 b1 (by have := hfl h0 (by simp); omega)) ?_
  conv => whnf
  refine mcall (T := TM codeM) (φ := []) (gf := false) (x_rnum h1 l1 _ (by have := hfl h1 (by simp); omega)) ?_
  generalize hB : (b1 || eB h0 || eB h1) = B at hR
  have hl1 : ∀ b ∈ l1, b.length ≤ 140737488355328 := fun b hb => hl b (hsub b hb)
  rw [show gB [h0, h1] 0 = h0 from rfl, show gB [h0, h1] 1 = h1 from rfl] at hR
  generalize hRF : rdF (l.length + 1) (nB h0) l1 B [] = RF at hR
  conv => whnf
  refine ⟨[(1003000, 66, 50, 5)], Nat × Nat × List Bs × Bool × List Fn, fun ⟨i, fu, l, b, acc⟩ => [(7, int i)], fun ⟨i, fu, l, b, acc⟩ => [(3, some (.box [.ow 66 0, .cv (.slice none 0 0)])), (66, some (.row 0 50 5 true (acc.map fnD))), (130, some (.box [.sl false 1 (l.map strD), boo b]))],
    fun ⟨i, fu, lx, b, acc⟩ => i + fu = l.length + 1 ∧ acc.length ≤ i ∧ lx.length ≤ l.length ∧ (b = true ∨ lx.length < fu) ∧ (∀ x ∈ lx, x.length ≤ 140737488355328) ∧ rdF fu (nB h0 - i) lx b acc = RF, fun x => x.2.1, (0, l.length + 1, l1, B, []), ⟨by omega, Nat.le_refl _, hle, .inr (by omega), hl1, by rw [← hRF]; simp⟩, ?_, ?_⟩
  · refine ⟨rfl, ?_, ?_⟩ <;> repeat' (first | exact trivial | exact rfl | refine and_rfl ?_ | (rw [← hB]; rfl) | refine and_two ?_ ?_)
  rintro ⟨i, fu, lx0, bx0, acc⟩ ⟨j1, j2, j3, j4, j5, j6⟩
  have done1 : (¬ 0 < nB h0 - (i : Int) ∨ bx0 = true) → RF = (acc, lx0, bx0) := fun h => by rw [← j6]; exact rdF_end h
  conv => whnf
  rintro (_ | _) k1
  have k2 := done1 (.inl (by have k1 : ¬ (i : Int) < nB h0 := by simpa [nB] using k1
                             omega))
  rotate_left
  have k1 : (i : Int) < nB h0 := by simpa [nB] using k1
  conv => whnf
  rintro (_ | _) k3
  have k2 := done1 (.inr (by simpa using k3))
  rotate_left
  · have k3 : bx0 = false := by simpa using k3
    clear done1
    have j4 : lx0.length < fu := by
      rcases j4 with h | h
      · rw [k3] at h; cases h
      · exact h
    obtain ⟨fu, rfl⟩ : ∃ f, fu = f + 1 := ⟨fu - 1, by omega⟩
    rw [rdF_go (by omega) k3] at j6
    obtain ⟨f0, f1, f2, f3, f4, hf⟩ := list5 (next_len 5 lx0 bx0)
    have hx5 := x_next 5 lx0 bx0 (by omega) j5
    have hfx := next_fld 5 lx0 bx0
    have hdec := next_dec 5 lx0 bx0
    have hle5 := next_le 5 lx0 bx0
    have hsub5 := next_sub 5 lx0 bx0
    rw [hf] at hx5 hfx j6
    generalize (nextF 5 lx0 bx0).2.1 = lx at *
    generalize (nextF 5 lx0 bx0).2.2 = bx at *
    clear hf
    have hb0 : f0.length ≤ 281474976710656 := by have := hfx f0 (by simp); omega
    have hb1 : f1.length ≤ 281474976710656 := by have := hfx f1 (by simp); omega
    have hb2 : f2.length ≤ 281474976710656 := by have := hfx f2 (by simp); omega
    have hb3 : f3.length ≤ 281474976710656 := by have := hfx f3 (by simp); omega
    have hb4 : f4.length ≤ 281474976710656 := by have := hfx f4 (by simp); omega
    have hla : (acc.map fnD).length = acc.length := List.length_map _
    have hw : IntKind.i64.wrap (((i : Nat) : Int) + 1) = ((i + 1 : Nat) : Int) := wrap_succ (by omega)
    have hnext : (i + 1) + fu = l.length + 1 ∧ (acc ++ [fnOf [f0, f1, f2, f3, f4]]).length ≤ i + 1 ∧ lx.length ≤ l.length ∧ (fnE [f0, f1, f2, f3, f4] bx = true ∨ lx.length < fu) ∧ (∀ x ∈ lx, x.length ≤ 140737488355328) ∧ rdF fu (nB h0 - ((i + 1 : Nat) : Int)) lx (fnE [f0, f1, f2, f3, f4] bx) (acc ++ [fnOf [f0, f1, f2, f3, f4]]) = RF := by
      refine ⟨by omega, by simp; omega, by omega, ?_, fun x hx => j5 x (hsub5 x hx), ?_⟩
      · rcases hdec with h | h
        · left; unfold fnE; rw [h]; simp
        · right; omega
      · rw [← j6]; congr 1; omega
    conv => whnf
    refine mcall (T := TM codeM) (φ := []) (gf := false) hx5 ?_
    conv => whnf
    refine ⟨some planC8, by kernel_rfl, ?_⟩
    conv => whnf
    refine ⟨by decide, _, rfl, ?_⟩
    conv => whnf
    refine ⟨.bx 3 0, fun m2 K2 hK => hK, ?_⟩
    conv => whnf
    refine ⟨.el true (strD f0) 0, fun m2 K2 hK => ⟨by decide, _, rfl, hK⟩, ?_⟩
    conv => whnf
    refine ⟨.cv (.string (mk f0)), fun m2 K2 hK => hK, ?_⟩
    conv => whnf
    refine ⟨.el true (strD f2) 0, fun m2 K2 hK => ⟨by decide, _, rfl, hK⟩, ?_⟩
    conv => whnf
    refine ⟨.cv (.string (mk f2)), fun m2 K2 hK => hK, ?_⟩
    conv => whnf
    refine ⟨.el true (strD f3) 0, fun m2 K2 hK => ⟨by decide, _, rfl, hK⟩, ?_⟩
    conv => whnf
    refine ⟨.cv (.string (mk f3)), fun m2 K2 hK => hK, ?_⟩
    conv => whnf
    refine ⟨.el true (strD f4) 0, fun m2 K2 hK => ⟨by decide, _, rfl, hK⟩, ?_⟩
    conv => whnf
    refine ⟨.cv (.string (mk f4)), fun m2 K2 hK => hK, ?_⟩
    refine share0 ?E1 (fun hsh => ?f1) ?e1
    case f1 =>
      conv => whnf
      refine ⟨?_, ?_, trivial⟩
      · conv => whnf
        refine mcall (T := TM codeM) (φ := []) (gf := false) (x_rnum f1 lx _ hb1) ?_
        conv => whnf
        refine mcall (T := TM codeM) (φ := []) (gf := false) (x_rnum f2 lx _ hb2) ?_
        conv => whnf
        refine mcall (T := TM codeM) (φ := []) (gf := false) (x_rnum f3 lx _ hb3) ?_
        conv => whnf
        refine mcall (T := TM codeM) (φ := []) (gf := false) (x_rnum f4 lx _ hb4) ?_
        conv => whnf
        exact hsh
      · conv => whnf
        refine mcall (T := TM codeM) (φ := []) (gf := false) (x_rnum f1 lx _ hb1) ?_
        conv => whnf
        refine ⟨?_, ?_, trivial⟩
        · conv => whnf
          refine mcall (T := TM codeM) (φ := []) (gf := false) (x_rnum f2 lx _ hb2) ?_
          conv => whnf
          refine mcall (T := TM codeM) (φ := []) (gf := false) (x_rnum f3 lx _ hb3) ?_
          conv => whnf
          refine mcall (T := TM codeM) (φ := []) (gf := false) (x_rnum f4 lx _ hb4) ?_
          conv => whnf
          exact hsh
        · conv => whnf
          refine mcall (T := TM codeM) (φ := []) (gf := false) (x_rnum f2 lx _ hb2) ?_
          conv => whnf
          refine ⟨?_, ?_, trivial⟩
          · conv => whnf
            refine mcall (T := TM codeM) (φ := []) (gf := false) (x_rnum f3 lx _ hb3) ?_
            conv => whnf
            refine mcall (T := TM codeM) (φ := []) (gf := false) (x_rnum f4 lx _ hb4) ?_
            conv => whnf
            exact hsh
          · conv => whnf
            refine mcall (T := TM codeM) (φ := []) (gf := false) (x_rnum f3 lx _ hb3) ?_
            conv => whnf
            refine ⟨?_, ?_, trivial⟩
            · conv => whnf
              refine mcall (T := TM codeM) (φ := []) (gf := false) (x_rnum f4 lx _ hb4) ?_
              conv => whnf
              exact hsh
            · conv => whnf
              refine mcall (T := TM codeM) (φ := []) (gf := false) (x_rnum f4 lx _ hb4) ?_
              conv => whnf
              exact hsh
    case e1 =>
      conv => whnf
      refine ⟨by rw [hla]; simp; omega, ?_⟩
      conv => whnf
      refine ⟨(i + 1, fu, lx, fnE [f0, f1, f2, f3, f4] bx, acc ++ [fnOf [f0, f1, f2, f3, f4]]), hnext, Nat.lt_succ_self _, ?_⟩
      refine ⟨rfl, ?_, ?_⟩ <;> repeat' (first | exact trivial | exact rfl | refine and_rfl ?_ | refine and_val hw ?_ | (simp [fnD, fnOf, gB, nB]; done) | refine and_two ?_ ?_)
  all_goals
    subst k2
    clear done1 j6
    dsimp only at hR
    generalize hRI : rdI (l.length + 1) (nB h1) lx0 bx0 [] = RI at hR
    conv => whnf
    refine ⟨[(1003001, 127, 53, 4)], Nat × Nat × List Bs × Bool × List In, fun ⟨i, fu, l, b, acc2⟩ => [(9, int i)], fun ⟨i, fu, l, b, acc2⟩ => [(3, some (.box [.ow 66 0, .ow 127 0])), (127, some (.row 0 53 4 true (acc2.map inD))), (130, some (.box [.sl false 1 (l.map strD), boo b]))],
      fun ⟨i, fu, lx, b, acc2⟩ => i + fu = l.length + 1 ∧ acc2.length ≤ i ∧ lx.length ≤ l.length ∧ (b = true ∨ lx.length < fu) ∧ (∀ x ∈ lx, x.length ≤ 140737488355328) ∧ rdI fu (nB h1 - i) lx b acc2 = RI, fun x => x.2.1, (0, l.length + 1, lx0, bx0, []), ⟨by omega, Nat.le_refl _, j3, .inr (by omega), j5, by rw [← hRI]; simp⟩, ?_, ?_⟩
    · refine ⟨rfl, ?_, ?_⟩ <;> repeat' (first | exact trivial | exact rfl | refine and_rfl ?_ | refine and_two ?_ ?_)
    clear hRI j1 j2 j3 j4 j5
    rintro ⟨i2, fu2, lw, bw, acc2⟩ ⟨j1, j2, j3, j4, j5, j6⟩
    have done2 : (¬ 0 < nB h1 - (i2 : Int) ∨ bw = true) → R = (⟨acc, acc2⟩, lw, bw) := fun h => by rw [← hR, ← j6, rdI_end h]
    conv => whnf
    rintro (_ | _) k1
    · have k2 := done2 (.inl (by have k1 : ¬ (i2 : Int) < nB h1 := by simpa [nB] using k1
                                 omega))
      subst k2
      conv => whnf
      exact ⟨rfl, rfl, rfl⟩
    have k1 : (i2 : Int) < nB h1 := by simpa [nB] using k1
    conv => whnf
    rintro (_ | _) k3
    · have k2 := done2 (.inr (by simpa using k3))
      subst k2
      conv => whnf
      exact ⟨rfl, rfl, rfl⟩
    have k3 : bw = false := by simpa using k3
    clear done2
    have j4 : lw.length < fu2 := by
      rcases j4 with h | h
      · rw [k3] at h; cases h
      · exact h
    obtain ⟨fu2, rfl⟩ : ∃ f, fu2 = f + 1 := ⟨fu2 - 1, by omega⟩
    obtain ⟨f0, f1, f2, hf⟩ := list3 (next_len 3 lw bw)
    have hx3 := x_next 3 lw bw (by omega) j5
    have hfx := next_fld 3 lw bw
    have hdec := next_dec 3 lw bw
    have hle5 := next_le 3 lw bw
    have hsub5 := next_sub 3 lw bw
    have hpr : nextF 3 lw bw = ([f0, f1, f2], (nextF 3 lw bw).2.1, (nextF 3 lw bw).2.2) := by rw [← hf]
    rw [hf] at hx3 hfx
    generalize (nextF 3 lw bw).2.1 = lx at *
    generalize (nextF 3 lw bw).2.2 = bx at *
    clear hf
    have hb0 : f0.length ≤ 281474976710656 := by have := hfx f0 (by simp); omega
    have hb1 : f1.length ≤ 281474976710656 := by have := hfx f1 (by simp); omega
    have hla2 : (acc2.map inD).length = acc2.length := List.length_map _
    have hw2 : IntKind.i64.wrap (((i2 : Nat) : Int) + 1) = ((i2 + 1 : Nat) : Int) := wrap_succ (by omega)
    have hX : rdX [f0, f1, f2] lx bx = rdK (lx.length + 1) (if nB f0 = 12 then nB f1 else 0) lx (inE [f0, f1, f2] bx) [] := rfl
    have hnext2 : ∀ {ks ly : List Bs} {by_ : Bool}, rdX [f0, f1, f2] lx bx = (ks, ly, by_) ∧ (by_ = true ∨ ly.length ≤ lx.length) ∧ ly.length ≤ lx.length ∧ (∀ x ∈ ly, x.length ≤ 140737488355328) ∧ (by_ = true ∨ bx = false) → i2 + 1 + fu2 = l.length + 1 ∧ (acc2 ++ [(⟨nB f0, nB f1, f2, ks⟩ : In)]).length ≤ i2 + 1 ∧ ly.length ≤ l.length ∧ (by_ = true ∨ ly.length < fu2) ∧ (∀ x ∈ ly, x.length ≤ 140737488355328) ∧ rdI fu2 (nB h1 - ((i2 + 1 : Nat) : Int)) ly by_ (acc2 ++ [⟨nB f0, nB f1, f2, ks⟩]) = RI := by
      rintro ks ly by_ ⟨e1, e2, e3, e4, e5⟩
      refine ⟨by omega, by simp; omega, by omega, ?_, e4, ?_⟩
      · rcases e5 with h | h
        · exact .inl h
        · rcases hdec with h' | h'
          · rw [h] at h'; cases h'
          · right; omega
      · rw [rdI_go (by omega) k3 hpr e1] at j6
        rw [← j6]; congr 1; omega
    conv => whnf
    refine mcall (T := TM codeM) (φ := []) (gf := false) hx3 ?_
    conv => whnf
    refine ⟨some planC13, by kernel_rfl, ?_⟩
    conv => whnf
    refine ⟨by decide, _, rfl, ?_⟩
    conv => whnf
    refine ⟨.el true (strD f1) 0, fun m2 K2 hK => ⟨by decide, _, rfl, hK⟩, ?_⟩
    conv => whnf
    refine ⟨.cv (.string (mk f1)), fun m2 K2 hK => hK, ?_⟩
    conv => whnf
    refine ⟨.el true (strD f2) 0, fun m2 K2 hK => ⟨by decide, _, rfl, hK⟩, ?_⟩
    conv => whnf
    refine ⟨.cv (.string (mk f2)), fun m2 K2 hK => hK, ?_⟩
    refine share0 ?_ (fun hsh3 => ?_) ?_
    rotate_left
    · conv => whnf
      refine ⟨?_, ?_, trivial⟩
      conv => whnf
      refine mcall (T := TM codeM) (φ := []) (gf := false) (x_rnum f0 lx _ hb0) ?_
      conv => whnf
      refine ⟨?_, ?_, trivial⟩
      conv => whnf
      refine mcall (T := TM codeM) (φ := []) (gf := false) (x_rnum f1 lx _ hb1) ?_
      rotate_left
      conv => whnf
      refine mcall (T := TM codeM) (φ := []) (gf := false) (x_rnum f1 lx _ hb1) ?_
      rotate_left
      conv => whnf
      refine mcall (T := TM codeM) (φ := []) (gf := false) (x_rnum f0 lx _ hb0) ?_
      conv => whnf
      refine mcall (T := TM codeM) (φ := []) (gf := false) (x_rnum f1 lx _ hb1) ?_
      all_goals
        conv => whnf
        exact hsh3
    · generalize hRK : rdX [f0, f1, f2] lx bx = RK at hX hnext2
      conv => whnf
      refine ⟨[(1011003, 121, 9, 1)], Nat × Nat × List Bs × Bool × List Bs, fun ⟨k, fu, l, b, ks⟩ => [(12, int k)], fun ⟨k, fu, l, b, ks⟩ => [(11, some (.box [int (nB f0), int (nB f1), bstr f2, .ow 121 0])), (121, some (.row 0 9 1 true (ks.map strD))), (130, some (.box [.sl false 1 (l.map strD), boo b]))],
        fun ⟨k, fu, ly, b, ks⟩ => k + fu = lx.length + 1 ∧ ks.length ≤ k ∧ ly.length ≤ lx.length ∧ (b = true ∨ ly.length < fu) ∧ (∀ x ∈ ly, x.length ≤ 140737488355328) ∧ (b = true ∨ bx = false) ∧ rdK fu ((if nB f0 = 12 then nB f1 else 0) - k) ly b ks = RK, fun x => x.2.1, (0, lx.length + 1, lx, inE [f0, f1, f2] bx, []), ⟨by omega, Nat.le_refl _, Nat.le_refl _, .inr (by omega), fun x hx => j5 x (hsub5 x hx), (by unfold inE; cases bx <;> simp), by rw [hX]; simp⟩, ?_, ?_⟩
      · refine ⟨rfl, ?_, ?_⟩ <;> repeat' (first | exact trivial | exact rfl | refine and_rfl ?_ | refine and_two ?_ ?_)
      rintro ⟨k, fu3, ly, by_, ks⟩ ⟨u1, u2, u3, u4, u5, u6, u7⟩
      have hlk : (ks.map strD).length = ks.length := List.length_map _
      have hw3 : k ≤ lx.length → IntKind.i64.wrap (((k : Nat) : Int) + 1) = ((k + 1 : Nat) : Int) := fun h => wrap_succ (by omega)
      have done3 : (¬ 0 < (if nB f0 = 12 then nB f1 else 0) - (k : Int) ∨ by_ = true) → RK = (ks, ly, by_) ∧ (by_ = true ∨ ly.length ≤ lx.length) ∧ ly.length ≤ lx.length ∧ (∀ x ∈ ly, x.length ≤ 140737488355328) ∧ (by_ = true ∨ bx = false) := fun h => ⟨by rw [← u7, rdK_end h], .inr u3, u3, u5, u6⟩
      conv => whnf
      rintro (_ | _) v1
      · have v1 : ¬ nB f0 = 12 := by simpa [nB] using v1
        have q2 := done3 (.inl (by rw [if_neg v1]; omega))
        conv => whnf
        refine ⟨_, _, ot_build1 (tokM codeM) rfl rfl rfl rfl rfl rfl rfl rfl rfl rfl, ?_⟩
        conv => whnf
        refine ⟨by rw [hla2]; simp; omega, ?_⟩
        conv => whnf
        refine ⟨(i2 + 1, fu2, ly, by_, acc2 ++ [⟨nB f0, nB f1, f2, ks⟩]), hnext2 q2, Nat.lt_succ_self _, ?_⟩
        refine ⟨rfl, ?_, ?_⟩ <;> repeat' (first | exact trivial | exact rfl | refine and_rfl ?_ | refine and_val hw2 ?_ | (simp [inD, nB]; done) | refine and_two ?_ ?_)
      have v1 : nB f0 = 12 := by simpa [nB] using v1
      rw [if_pos v1] at u7 done3
      conv => whnf
      rintro (_ | _) v2
      · have q2 := done3 (.inl (by have v2 : ¬ (k : Int) < nB f1 := of_decide_eq_false v2
                                   omega))
        conv => whnf
        refine ⟨_, _, ot_build1 (tokM codeM) rfl rfl rfl rfl rfl rfl rfl rfl rfl rfl, ?_⟩
        conv => whnf
        refine ⟨by rw [hla2]; simp; omega, ?_⟩
        conv => whnf
        refine ⟨(i2 + 1, fu2, ly, by_, acc2 ++ [⟨nB f0, nB f1, f2, ks⟩]), hnext2 q2, Nat.lt_succ_self _, ?_⟩
        refine ⟨rfl, ?_, ?_⟩ <;> repeat' (first | exact trivial | exact rfl | refine and_rfl ?_ | refine and_val hw2 ?_ | (simp [inD, nB]; done) | refine and_two ?_ ?_)
      have v2 : (k : Int) < nB f1 := of_decide_eq_true v2
      conv => whnf
      rintro (_ | _) v3
      · have q2 := done3 (.inr (by simpa using v3))
        conv => whnf
        refine ⟨_, _, ot_build1 (tokM codeM) rfl rfl rfl rfl rfl rfl rfl rfl rfl rfl, ?_⟩
        conv => whnf
        refine ⟨by rw [hla2]; simp; omega, ?_⟩
        conv => whnf
        refine ⟨(i2 + 1, fu2, ly, by_, acc2 ++ [⟨nB f0, nB f1, f2, ks⟩]), hnext2 q2, Nat.lt_succ_self _, ?_⟩
        refine ⟨rfl, ?_, ?_⟩ <;> repeat' (first | exact trivial | exact rfl | refine and_rfl ?_ | refine and_val hw2 ?_ | (simp [inD, nB]; done) | refine and_two ?_ ?_)
      have v3 : by_ = false := by simpa using v3
      have u4 : ly.length < fu3 := by
        rcases u4 with h | h
        · rw [v3] at h; cases h
        · exact h
      obtain ⟨fu3, rfl⟩ : ∃ f, fu3 = f + 1 := ⟨fu3 - 1, by omega⟩
      rw [rdK_go (by omega) v3] at u7
      obtain ⟨g0, hg⟩ := list1 (next_len 1 ly by_)
      have hx1 := x_next 1 ly by_ (by omega) u5
      have hdec1 := next_dec 1 ly by_
      have hle1 := next_le 1 ly by_
      have hsub1 := next_sub 1 ly by_
      rw [hg] at hx1 u7
      generalize (nextF 1 ly by_).2.1 = lz at *
      generalize (nextF 1 ly by_).2.2 = bz at *
      clear hg
      have hw3 := hw3 (by omega)
      have hnext3 : k + 1 + fu3 = lx.length + 1 ∧ (ks ++ [g0]).length ≤ k + 1 ∧ lz.length ≤ lx.length ∧ (bz = true ∨ lz.length < fu3) ∧ (∀ x ∈ lz, x.length ≤ 140737488355328) ∧ (bz = true ∨ bx = false) ∧ rdK fu3 ((if nB f0 = 12 then nB f1 else 0) - ((k + 1 : Nat) : Int)) lz bz (ks ++ [g0]) = RK := by
        refine ⟨by omega, by simp; omega, by omega, ?_, fun x hx => u5 x (hsub1 x hx), ?_, ?_⟩
        · rcases hdec1 with h | h
          · exact .inl h
          · right; omega
        · rcases u6 with h | h
          · rw [v3] at h; cases h
          · exact .inr h
        · rw [if_pos v1, ← u7, show gB [g0] 0 = g0 from rfl]; congr 1; omega
      conv => whnf
      refine ⟨some planC17, by kernel_rfl, ?_⟩
      conv => whnf
      refine ⟨.bx 11 3, fun m2 K2 hK => hK, ?_⟩
      conv => whnf
      refine ⟨?_, ?_, trivial⟩
      · conv => whnf
        refine mcall (T := TM codeM) (φ := []) (gf := false) hx1 ?_
        conv => whnf
        refine ⟨by decide, _, rfl, ?_⟩
        conv => whnf
        refine ⟨by rw [hlk]; simp; omega, ?_⟩
        conv => whnf
        refine ⟨(k + 1, fu3, lz, bz, ks ++ [g0]), hnext3, Nat.lt_succ_self _, ?_⟩
        refine ⟨rfl, ?_, ?_⟩ <;> repeat' (first | exact trivial | exact rfl | refine and_rfl ?_ | refine and_val hw3 ?_ | (simp [strD]; done) | refine and_two ?_ ?_)
      · conv => whnf
        refine mcall (T := TM codeM) (φ := []) (gf := false) hx1 ?_
        conv => whnf
        refine ⟨by decide, _, rfl, ?_⟩
        conv => whnf
        refine ⟨by rw [hlk]; simp; omega, ?_⟩
        conv => whnf
        refine ⟨(k + 1, fu3, lz, bz, ks ++ [g0]), hnext3, Nat.lt_succ_self _, ?_⟩
        refine ⟨rfl, ?_, ?_⟩ <;> repeat' (first | exact trivial | exact rfl | refine and_rfl ?_ | refine and_val hw3 ?_ | (simp [strD]; done) | refine and_two ?_ ?_)
end Go.Proofs.YtkpmlgpkmlhbjaaGreatDoor
