/- Texts joined by pack.py: XFc4 -/
import Derived.Test.YtmlednjhemnncaaFs30
import Derived.Test.YtmlednjhemnncaaFs27
namespace Go.Proofs.Ytmlednjhemnncaa
open Go.RowKit
set_option maxRecDepth 100000 in
theorem nm_push (j : Jb) : MCalls Try.prog 10 [nilP, j.V] [] (int 10) [] := by
  refine msxm [] Try.func10 (by kernel_rfl) (by kernel_rfl) ?_
  conv => whnf
  refine ⟨_, n_made, ?_⟩
  conv => whnf
  refine known true rfl ?_
  conv => whnf
  exact ⟨rfl, rfl, rfl⟩
abbrev FM : List (Nat × Bool) := [(7, false), (10, false), (12, false), (14, false), (15, false), (17, false), (19, false), (21, false), (23, false), (25, false), (26, false)]
abbrev jA1 : Jb := ⟨⟨#[97, 49]⟩, sa, 5⟩
abbrev jA2 : Jb := ⟨⟨#[97, 50]⟩, sa, 5⟩
abbrev jB1 : Jb := ⟨⟨#[98, 49]⟩, sb, 5⟩
abbrev jB2 : Jb := ⟨⟨#[98, 50]⟩, sb, 5⟩
abbrev jB3 : Jb := ⟨⟨#[98, 51]⟩, sb, 5⟩
abbrev jX3 : Jb := ⟨⟨#[98, 51]⟩, sa, 5⟩
abbrev sc : ByteArray := ⟨#[99]⟩
abbrev jC0 : Jb := ⟨sc, ⟨#[67]⟩, 5⟩
abbrev jC1 : Jb := ⟨sc, sc, 5001⟩
abbrev jC : Jb := ⟨sc, sc, 5⟩
def svJ : Nat → Jb
  | 0 => jA1
  | 1 => jB1
  | 2 => jB2
  | 3 => jA2
  | _ => jB3
def svS : Nat → ByteArray
  | 0 => ⟨#[]⟩
  | n + 1 => svS n ++ (svJ n).id
theorem svS_size (i : Nat) (h : i < 5) : (svS i).size + (svJ i).id.size ≤ 9223372036854775807 := by
  obtain rfl | rfl | rfl | rfl | rfl : i = 0 ∨ i = 1 ∨ i = 2 ∨ i = 3 ∨ i = 4 := by omega
  all_goals exact of_decide_eq_true (by kernel_rfl)
abbrev fPush : Nat := 10
abbrev fPop : Nat := 17
abbrev fWeigh : Nat := 12
abbrev fDrop : Nat := 15
abbrev fLen : Nat := 19
abbrev fBacklog : Nat := 21
abbrev fDeficit : Nat := 23
set_option maxRecDepth 100000 in
set_option maxHeartbeats 8000000 in
theorem awake_walk {s1 s2 s3 s4 s5 s6 s7 s8 s9 : Qs} {M1 M2 M3 M4 M5 M6 M7 M8 M9 N1 N2 : Qm} {ps : Nat → Qs} {Ms : Nat → Qm}
    (c1 : MCalls Try.prog fWeigh [.bx 0 0, str sb, int 2] (qM 5 false [] [] [] []) (int 0) (mem s1 M1))
    (c2 : MCalls Try.prog fPush [.bx 0 0, jA1.V] (mem s1 M1) (int 0) (mem s2 M2))
    (c3 : MCalls Try.prog fPush [.bx 0 0, jA2.V] (mem s2 M2) (int 0) (mem s3 M3))
    (c4 : MCalls Try.prog fPush [.bx 0 0, jB1.V] (mem s3 M3) (int 0) (mem s4 M4))
    (c5 : MCalls Try.prog fPush [.bx 0 0, jB2.V] (mem s4 M4) (int 0) (mem s5 M5))
    (c6 : MCalls Try.prog fPush [.bx 0 0, jB3.V] (mem s5 M5) (int 0) (mem s6 M6))
    (c7 : MCalls Try.prog fPush [.bx 0 0, jX3.V] (mem s6 M6) (int 6) (mem (ps 0) (Ms 0)))
    (d1 : MCallsG true Try.prog fLen [.bx 0 0] (mem (ps 0) (Ms 0)) (int 5) (mem (ps 0) (Ms 0)))
    (d2 : MCallsG true Try.prog fBacklog [.bx 0 0, str sb] (mem (ps 0) (Ms 0)) (int 15) (mem (ps 0) (Ms 0)))
    (d3 : MCallsG true Try.prog fDeficit [.bx 0 0, str sa] (mem (ps 0) (Ms 0)) (int 0) (mem (ps 0) (Ms 0)))
    (e1 : ∀ i, i < 5 → MCalls Try.prog fPop [.bx 0 0] (mem (ps i) (Ms i)) (.tu [(svJ i).V, boo true]) (mem (ps (i + 1)) (Ms (i + 1))))
    (e2 : MCallsG true Try.prog fDeficit [.bx 0 0, str sb] (mem (ps 2) (Ms 2)) (int 5) (mem (ps 2) (Ms 2)))
    (e3 : MCalls Try.prog fPop [.bx 0 0] (mem (ps 5) (Ms 5)) (.tu [Jb.zero.V, boo false]) (mem s7 M7))
    (f1 : MCalls Try.prog fPush [.bx 0 0, jC0.V] (mem s7 M7) (int 4) (mem s7 N1))
    (f2 : MCalls Try.prog fPush [.bx 0 0, jC1.V] (mem s7 N1) (int 2) (mem s7 N2))
    (f3 : MCalls Try.prog fPush [.bx 0 0, jC.V] (mem s7 N2) (int 0) (mem s8 M8))
    (f4 : MCalls Try.prog fDrop [.bx 0 0, str sc] (mem s8 M8) (.ow 5 0) (mem s9 M9 ++ [.row 0 34 3 false ([jC].map jobD)]))
    (f5 : MCallsG true Try.prog fLen [.bx 0 0] (mem s9 M9) (int 0) (mem s9 M9)) :
    DCalls Try.prog 9 [] (boo true) := by
  refine sxm FM Try.func9 (by kernel_rfl) ?_
  conv => whnf
  refine mcallV (gf := true) (T := TT) (φ := [16, 19, 20, 21, 22]) (x_new 5 (by decide)) ?_
  repeat ((conv => whnf); first | refine known false rfl ?_ | refine known true rfl ?_ | refine ⟨_, x_job _ _, ?_⟩ | refine mcallV (ρ := [16, 19, 20, 21, 22]) (ln := true) (gf := false) (T := TT) (φ := []) c1 ?_ | refine mcallV (ρ := [16, 19, 20, 21, 22]) (ln := true) (gf := false) (T := TT) (φ := []) c2 ?_ | refine mcallV (ρ := [16, 19, 20, 21, 22]) (ln := true) (gf := false) (T := TT) (φ := []) c3 ?_ | refine mcallV (ρ := [16, 19, 20, 21, 22]) (ln := true) (gf := false) (T := TT) (φ := []) c4 ?_ | refine mcallV (ρ := [16, 19, 20, 21, 22]) (ln := true) (gf := false) (T := TT) (φ := []) c5 ?_ | refine mcallV (ρ := [16, 19, 20, 21, 22]) (ln := true) (gf := false) (T := TT) (φ := []) c6 ?_ | refine mcallV (ρ := [16, 19, 20, 21, 22]) (ln := true) (gf := false) (T := TT) (φ := []) c7 ?_)
  repeat ((conv => whnf); first | refine known false rfl ?_ | refine known true rfl ?_ | refine mcallV (ρ := [16, 19, 20, 21, 22]) (ln := true) (gf := false) (T := TT) (φ := []) d1 ?_ | refine mcallV (ρ := [16, 19, 20, 21, 22]) (ln := true) (gf := false) (T := TT) (φ := []) d2 ?_ | refine mcallV (ρ := [16, 19, 20, 21, 22]) (ln := true) (gf := false) (T := TT) (φ := []) d3 ?_)
  conv => whnf
  refine ⟨[], Nat, fun i => [(3, str (svS i)), (4, int i), (11, .un), (12, .un)], fun i => [(16, some (.box [int (ps i).q, .ow 19 0, .ow 20 0, .ow 21 0, .ow 22 0, boo (Ms i).tu])), (19, some (.asr 0 (mapC (intM (ps i).W)) [])), (20, some (.asr 0 (mapC (jobM (Ms i).J)) [])), (21, some (.asr 0 (mapC (intM (Ms i).De)) [])), (22, some (.row 0 9 1 false ((Ms i).R.map strD)))], fun i => i ≤ 5, fun i => 5 - i, 0, by decide, ?_, ?_⟩
  · refine ⟨rfl, ?_, ?_⟩ <;> repeat' (first | exact trivial | exact rfl | refine and_rfl ?_ | refine and_two ?_ ?_)
  intro i hi
  conv => whnf
  rintro (_ | _) h1
  · simp at h1
    obtain rfl : i = 5 := by omega
    conv => whnf
    refine mcallV (ρ := [16, 19, 20, 21, 22]) (ln := true) (gf := false) (T := TT) (φ := []) e3 ?_
    conv => whnf
    refine mcallV (gf := true) (T := TT) (φ := []) (x_new0 0 (by decide)) ?_
    conv => whnf
    refine known false (by kernel_rfl) ?_
    repeat ((conv => whnf); first | refine known false rfl ?_ | refine known true rfl ?_ | refine ⟨_, x_job _ _, ?_⟩ | refine mcallV (ρ := [16, 19, 20, 21, 22]) (ln := true) (gf := false) (T := TT) (φ := []) f1 ?_ | refine mcallV (ρ := [16, 19, 20, 21, 22]) (ln := true) (gf := false) (T := TT) (φ := []) f2 ?_ | refine mcallV (ρ := [16, 19, 20, 21, 22]) (ln := true) (gf := false) (T := TT) (φ := []) f3 ?_ | refine mcallV (ρ := [16, 19, 20, 21, 22]) (ln := true) (gf := false) (T := TT) (φ := [24]) f4 ?_ | refine mcallV (ρ := [16, 19, 20, 21, 22]) (ln := true) (gf := false) (T := TT) (φ := []) f5 ?_)
    conv => whnf
    refine ⟨by omega, by simp, ?_⟩
    conv => whnf
    refine ⟨_, rfl, ?_⟩
    repeat ((conv => whnf); first | refine known false rfl ?_ | refine known true rfl ?_ | refine known true (by kernel_rfl) ?_ | refine mcallV (ρ := [16, 19, 20, 21, 22]) (ln := true) (gf := false) (T := TT) (φ := []) f5 ?_ | refine mcallV (ρ := []) (ln := true) (gf := true) (T := TT) (φ := []) (nm_push ⟨⟨#[97]⟩, sa, 5⟩) ?_ | refine ⟨_, x_job _ _, ?_⟩)
    (conv => whnf) <;> rfl
  simp at h1
  conv => whnf
  refine mcallV (ρ := [16, 19, 20, 21, 22]) (ln := true) (gf := false) (T := TT) (φ := []) (e1 i (by omega)) ?_
  conv => whnf
  refine known false rfl ?_
  conv => whnf
  refine ⟨svS_size i (by omega), ?_⟩
  conv => whnf
  rintro (_ | _) h2
  · conv => whnf
    refine ⟨i + 1, by omega, by dsimp only; omega, ?_⟩
    refine ⟨rfl, ?_, ?_⟩ <;> repeat' (first | exact trivial | exact rfl | refine and_rfl ?_ | refine and_val (wrap_succ (by omega)) ?_ | refine and_two ?_ ?_)
  · obtain rfl : i = 1 := by simp at h2; omega
    conv => whnf
    refine mcallV (ρ := [16, 19, 20, 21, 22]) (ln := true) (gf := false) (T := TT) (φ := []) e2 ?_
    conv => whnf
    refine known false rfl ?_
    conv => whnf
    refine ⟨1 + 1, by omega, by dsimp only; omega, ?_⟩
    refine ⟨rfl, ?_, ?_⟩ <;> repeat' (first | exact trivial | exact rfl | refine and_rfl ?_ | refine and_val (wrap_succ (by omega)) ?_ | refine and_two ?_ ?_)
theorem x_awake : DCalls Try.prog 9 [] (boo true) := by
  have hz : ∀ n, n ≤ 16 → n ≤ maxLen := fun n h => Nat.le_trans h (by decide)
  have g0 : (Qs.new 5).fine := fine_new (by decide)
  have h0 := fit_new 5
  have c1 := c_weigh h0 g0 sb 2 (hz _ (by decide))
  rw [ea1] at c1
  have h1 : Fit aw1 _ := h0.weigh sb 2
  have g1 : aw1.fine := g0.weigh sb 2
  obtain ⟨M2, h2, c2⟩ := c_push h1 g1 jA1 (hz _ (by decide)) (hz _ (by decide))
  rw [ea2] at c2
  have g2 : aw2.fine := g1.push jA1
  obtain ⟨M3, h3, c3⟩ := c_push (s := aw2) h2 g2 jA2 (hz _ (by decide)) (hz _ (by decide))
  rw [ea3] at c3
  have g3 : aw3.fine := g2.push jA2
  obtain ⟨M4, h4, c4⟩ := c_push (s := aw3) h3 g3 jB1 (hz _ (by decide)) (hz _ (by decide))
  rw [ea4] at c4
  have g4 : aw4.fine := g3.push jB1
  obtain ⟨M5, h5, c5⟩ := c_push (s := aw4) h4 g4 jB2 (hz _ (by decide)) (hz _ (by decide))
  rw [ea5] at c5
  have g5 : aw5.fine := g4.push jB2
  obtain ⟨M6, h6, c6⟩ := c_push (s := aw5) h5 g5 jB3 (hz _ (by decide)) (hz _ (by decide))
  rw [ea6] at c6
  have g6 : aw6.fine := g5.push jB3
  obtain ⟨M7, h7, c7⟩ := c_push (s := aw6) h6 g6 jX3 (hz _ (by decide)) (hz _ (by decide))
  rw [ea7, aw7] at c7
  rw [aw7] at h7
  have d1 := c_len h7 g6
  rw [ea8.1] at d1
  have d2 := c_backlog h7 g6 sb
  rw [ea8.2.1] at d2
  have d3 := c_deficit h7 g6 sa
  rw [ea8.2.2] at d3
  obtain ⟨P1, k1, p1⟩ := c_pop h7 g6
  rw [ep1] at p1
  have l1 : pp1.fine := popF_fine _ g6
  obtain ⟨P2, k2, p2⟩ := c_pop (s := pp1) k1 l1
  rw [ep2] at p2
  have l2 : pp2.fine := popF_fine _ l1
  have e2 := c_deficit (s := pp2) k2 l2 sb
  rw [ep2d] at e2
  obtain ⟨P3, k3, p3⟩ := c_pop (s := pp2) k2 l2
  rw [ep3] at p3
  have l3 : pp3.fine := popF_fine _ l2
  obtain ⟨P4, k4, p4⟩ := c_pop (s := pp3) k3 l3
  rw [ep4] at p4
  have l4 : pp4.fine := popF_fine _ l3
  obtain ⟨P5, k5, p5⟩ := c_pop (s := pp4) k4 l4
  rw [ep5] at p5
  have l5 : pp5.fine := popF_fine _ l4
  obtain ⟨P6, k6, p6⟩ := c_pop (s := pp5) k5 l5
  rw [ep6] at p6
  have l6 : pp6.fine := popF_fine _ l5
  obtain ⟨P7, k7, f1⟩ := c_push (s := pp6) k6 l6 jC0 (hz _ (by decide)) (hz _ (by decide))
  have q1 : pp6.push jC0 = pp6 := by unfold Qs.push; rw [eq1]; rfl
  rw [eq1, q1] at f1
  rw [q1] at k7
  obtain ⟨P8, k8, f2⟩ := c_push (s := pp6) k7 l6 jC1 (hz _ (by decide)) (hz _ (by decide))
  have q2 : pp6.push jC1 = pp6 := by unfold Qs.push; rw [eq2]; rfl
  rw [eq2, q2] at f2
  rw [q2] at k8
  obtain ⟨P9, k9, f3⟩ := c_push (s := pp6) k8 l6 jC (hz _ (by decide)) (hz _ (by decide))
  rw [eq3] at f3
  have l8 : aw8.fine := l6.push jC
  obtain ⟨js, hjs⟩ : ∃ js, getE P9.J sc = some js := by
    cases h : getE P9.J sc with
    | some js => exact ⟨js, rfl⟩
    | none =>
      have := (c_drop0 (s := aw8) k9 l8 h).2.1
      rw [eq4] at this; cases this
  obtain ⟨q3, P10, k10, f4⟩ := c_drop1 (s := aw8) k9 l8 hjs
  rw [eq4] at q3
  subst q3
  have l9 : aw9.fine := l8.drop sc
  have f5 := c_len (s := aw9) k10 l9
  rw [eq5] at f5
  refine awake_walk (ps := fun | 0 => aw6 | 1 => pp1 | 2 => pp2 | 3 => pp3 | 4 => pp4 | _ => pp5) (Ms := fun | 0 => M7 | 1 => P1 | 2 => P2 | 3 => P3 | 4 => P4 | _ => P5) c1 c2 c3 c4 c5 c6 c7 d1 d2 d3 ?_ e2 p6 f1 f2 f3 f4 f5
  intro i hi
  match i, hi with
  | 0, _ => exact p1
  | 1, _ => exact p2
  | 2, _ => exact p3
  | 3, _ => exact p4
  | 4, _ => exact p5
end Go.Proofs.Ytmlednjhemnncaa
