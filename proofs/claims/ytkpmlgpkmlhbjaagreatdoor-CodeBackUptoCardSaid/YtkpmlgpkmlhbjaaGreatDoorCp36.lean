/- Texts joined by pack.py: XLx23c -/
import Derived.Test.YtkpmlgpkmlhbjaaGreatDoorCp33
namespace Go.Proofs.YtkpmlgpkmlhbjaaGreatDoor
open Go.RowKit
set_option maxHeartbeats 8000000 in
set_option maxRecDepth 100000 in
theorem xt_str_c (l : Bs) (v a : Int) (hl : l.length ≤ 1000000) (hw : (!(mk l).toList == (⟨#[]⟩ : ByteArray).toList) = true) (hw2 : ((runL l : Int) == ((mk l).size : Int)) = true) : DCalls Tryz.prog 112 [(⟨4, l, v, a⟩ : Tok).V] (teV (textT ⟨4, l, v, a⟩)) := by
  refine sxm tmS Tryz.func112 (by kernel_rfl) ?_
  conv => whnf
  refine ⟨none, by kernel_rfl, ?_⟩
  conv => whnf
  refine known true hw ?_
  conv => whnf
  refine ⟨_, x_run l (by omega), ?_⟩
  conv => whnf
  refine known true hw2 ?_
  conv => whnf
  refine known false rfl ?_
  conv => whnf
  rintro (_ | _) v0
  rotate_left
  · have v0 : v ≠ 0 := by simpa using v0
    conv => whnf
    exact fin_te1 (by rw [te_str]; simp [v0])
  have v0 : v = 0 := by simpa using v0
  conv => whnf
  refine known false rfl ?_
  conv => whnf
  refine known false rfl ?_
  conv => whnf
  refine known false rfl ?_
  conv => whnf
  refine known false rfl ?_
  conv => whnf
  refine known true rfl ?_
  conv => whnf
  refine ⟨_, x_contents l, ?_⟩
  conv => whnf
  rintro (_ | _) i4
  · conv => whnf
    exact fin_te1 (by rw [te_str]; simp [v0, i4])
  have hlc := contB_len i4
  have hel := esc_len l
  have hxl := ex_le l
  have hs1 : (⟨#[34]⟩ : ByteArray).size + (mk (esc l)).size ≤ 9223372036854775807 := by rw [mk_size, show (⟨#[34]⟩ : ByteArray).size = 1 from rfl]; omega
  have hs2 : ((⟨#[34]⟩ : ByteArray) ++ mk (esc l)).size + (⟨#[34]⟩ : ByteArray).size ≤ 9223372036854775807 := by
    rw [show (⟨#[34]⟩ : ByteArray) ++ mk (esc l) = mk (34 :: esc l) from mk_app [34] _, mk_size, show (⟨#[34]⟩ : ByteArray).size = 1 from rfl, List.length_cons]; omega
  conv => whnf
  refine ⟨some (.alt 0 (.alt 1 (.one 2 (.one 3 (.one 4 (.one 5 (.one 6 (.one 7 (.one 8 (.done)))))))) (.alt 2 (.alt 1 (.one 3 (.one 4 (.one 5 (.one 6 (.one 7 (.one 8 (.done))))))) (.alt 3 (.one 1 (.one 4 (.one 5 (.one 6 (.one 7 (.one 8 (.done))))))) (.stop))) (.stop))) (.alt 2 (.alt 0 (.alt 1 (.one 3 (.one 4 (.one 5 (.one 6 (.one 7 (.one 8 (.done))))))) (.alt 3 (.one 1 (.one 4 (.one 5 (.one 6 (.one 7 (.one 8 (.done))))))) (.stop))) (.alt 3 (.one 0 (.one 1 (.one 4 (.one 5 (.one 6 (.one 7 (.one 8 (.done)))))))) (.stop))) (.stop))), by kernel_rfl, ?_⟩
  have hfin : V.tu [.cv (.string (⟨#[34]⟩ ++ mk (esc l) ++ ⟨#[34]⟩)), int 0] = teV (textT ⟨4, l, v, a⟩) := fin_te4 (by rw [te_str]; simp [v0, i4])
  repeat' ((conv => whnf); first
      | exact trivial
      | exact hfin
      | with_reducible refine And.intro ?_ ?_
      | refine mcall (T := TM tmS) (φ := [5, 6]) x_newReplacer ?_
      | refine mcall (T := TM tmS) (φ := []) (x_replace l hl) ?_
      | exact hs1
      | exact hs2)
end Go.Proofs.YtkpmlgpkmlhbjaaGreatDoor
