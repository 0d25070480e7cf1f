/- Texts joined by pack.py: XFb0 -/
import Derived.Test.YtmlednjhemnncaaFq18
namespace Go.Proofs.Ytmlednjhemnncaa
open Go.RowKit
abbrev serveM : List (Nat × Bool) := [(40, false), (56, false), (6000027, false), (6000035, false), (6000049, false)]
abbrev planS6 : Plan := .one 0 (.one 1 (.one 4 (.one 5 (.one 6 (.one 7 (.one 8 (.one 9 (.one 10 (.one 11 (.pull 2 (.alt 3 (.one 12 (.one 13 (.done))) (.alt 12 (.one 3 (.one 13 (.done))) (.stop)))))))))))))
set_option maxRecDepth 100000 in
set_option maxHeartbeats 4000000 in
theorem x_serve0 (q : Int) (tu : Bool) (W : List (ByteArray × Int)) (J : List (ByteArray × List Jb)) (De : List (ByteArray × Int)) (l : List ByteArray) (t : ByteArray) {j : Jb} {js : List Jb} (hg : getE J t = some (j :: js)) (hdf : (getE De t).getD 0 < j.co) :
    MCalls Try.prog 41 [.bx 0 0] (qM q tu W J De (t :: l)) (.tu [Jb.zero.V, boo false]) (qM q tu W J De (t :: l)) := by
  refine msxg serveM Try.func41 (by kernel_rfl) (by kernel_rfl) ?_
  conv => whnf
  refine ⟨by omega, by simp, ?_⟩
  conv => whnf
  refine ⟨_, rfl, ?_⟩
  conv => whnf
  refine at_tr (open_j (n := 66) (d := 17) rfl rfl rfl rfl rfl hg) ?_
  conv => whnf
  refine ⟨by omega, by simp, ?_⟩
  conv => whnf
  refine ⟨_, rfl, ?_⟩
  conv => whnf
  refine ⟨none, by kernel_rfl, ?_⟩
  conv => whnf
  refine at_rd (look_int rfl rfl rfl rfl) ?_
  conv => whnf
  refine known true (by simp; omega) ?_
  conv => whnf
  refine ⟨_, GhM.gh (close_j (n := 66) (d := 17) hg rfl rfl), ?_⟩
  exact ⟨rfl, rfl, rfl⟩
theorem kill_j {m : List (Option Bk)} {n k : Nat} {x : V} {J : List (ByteArray × List Jb)} {t : ByteArray} {js : List Jb} (hg : getE J t = some js) (hm : m[n]? = some (some (.asr k (mapC (putE (jobM J) t (.o 0))) [x]))) :
    GhM m (m.set n (some (.asr k (mapC (putE (jobM J) t .z)) []))) := by
  have hg' : getE (jobM J) t = some (jobsC js) := by rw [getE_map, hg]; rfl
  have h1 := gh_killE hg' hm
  have hl := lt_of_get hm
  have hz : ∀ c ∈ (putE (jobM J) t Cl.z).map (·.2), c.isO = false := by
    intro c hc
    obtain ⟨e, he, rfl⟩ := List.mem_map.1 hc
    obtain ⟨l1, l2, rfl, h2⟩ := getE_some hg
    have : jobM (l1 ++ (t, js) :: l2) = jobM l1 ++ (t, jobsC js) :: jobM l2 := by simp [jobM]
    have h3 : t ∉ (jobM l1).map (·.1) := by simpa [jobM] using h2
    rw [this, putE_old h3] at he
    simp at he
    rcases he with ⟨a, b, _, rfl⟩ | rfl | ⟨a, b, _, rfl⟩ <;> rfl
  have h2 := gh_dropE (m := m.set n (some (.asr k (mapC (putE (jobM J) t .z)) [x]))) (n := n) (k := k) (es := putE (jobM J) t .z) (outs := []) (x := x) (by rw [List.getElem?_set_self hl]; rfl) (useO_none hz)
  have h3 := h1.trans h2
  rwa [List.set_set] at h3
theorem delE_put {α : Type} : ∀ (l : List (ByteArray × α)) (t : ByteArray) (c : α), delE (putE l t c) t = delE l t
  | [], t, c => by simp [putE, delE]
  | (k, x) :: l, t, c => by
    simp only [putE, delE]
    split
    · rename_i e; simp [delE]
    · rename_i e
      simp only [delE, if_neg e, delE_put l t c]
theorem getE_put {α : Type} : ∀ (l : List (ByteArray × α)) (t : ByteArray) (c : α), getE (putE l t c) t = some c
  | [], t, c => by simp [putE, getE]
  | (k, x) :: l, t, c => by
    simp only [putE]
    split
    · rename_i e; simp [getE]
    · rename_i e
      simp only [getE, if_neg e, getE_put l t c]
theorem x_clonej' (j : Jb) (l : List Jb) (hl : l.length ≤ 1000000) : MCallsG true Try.prog 56 [.vw 0 0 3 1 ((j :: l).map jobD).length] [.row 0 34 3 false ((j :: l).map jobD)] (.ow 1 0) [.row 0 34 3 false ((j :: l).map jobD), .row 0 34 3 true (l.map jobD)] := by
  rw [show ((j :: l).map jobD).length = l.length + 1 by simp]
  exact x_clonej j l hl
theorem x_clones' (a : ByteArray) (l : List ByteArray) (hl : l.length ≤ 1000000) : MCallsG true Try.prog 43 [.vw 0 0 1 1 ((a :: l).map strD).length] [.row 0 9 1 false ((a :: l).map strD)] (.ow 1 0) [.row 0 9 1 false ((a :: l).map strD), .row 0 9 1 true (l.map strD)] := by
  rw [show ((a :: l).map strD).length = l.length + 1 by simp]
  exact x_clones a l hl
set_option maxRecDepth 100000 in
set_option maxHeartbeats 4000000 in
theorem x_serve1 (q : Int) (tu : Bool) (W : List (ByteArray × Int)) (J : List (ByteArray × List Jb)) (De : List (ByteArray × Int)) (l : List ByteArray) (t : ByteArray) {j j' : Jb} {js : List Jb} (hg : getE J t = some (j :: j' :: js)) (hdf : j.co ≤ (getE De t).getD 0) (hd : (getE De t).getD 0 ≤ 1000000000000000) (hc : 1 ≤ j.co) (hl : js.length < 1000000) :
    MCalls Try.prog 41 [.bx 0 0] (qM q tu W J De (t :: l)) (.tu [j.V, boo true]) (qM q tu W (putE J t (j' :: js)) (putE De t ((getE De t).getD 0 - j.co)) (t :: l)) := by
  refine msxg serveM Try.func41 (by kernel_rfl) (by kernel_rfl) ?_
  conv => whnf
  refine ⟨by omega, by simp, ?_⟩
  conv => whnf
  refine ⟨_, rfl, ?_⟩
  conv => whnf
  refine at_tr (open_j (n := 66) (d := 17) rfl rfl rfl rfl rfl hg) ?_
  conv => whnf
  refine ⟨by omega, by simp, ?_⟩
  conv => whnf
  refine ⟨_, rfl, ?_⟩
  conv => whnf
  refine ⟨none, by kernel_rfl, ?_⟩
  conv => whnf
  refine at_rd (look_int rfl rfl rfl rfl) ?_
  conv => whnf
  refine known false (by simp; omega) ?_
  conv => whnf
  refine ⟨none, by kernel_rfl, ?_⟩
  conv => whnf
  refine at_rd (look_int rfl rfl rfl rfl) ?_
  conv => whnf
  refine at_tr (upd_int (v := (getE De t).getD 0 - j.co) rfl rfl rfl (fin_int (wrap_in (by omega))) rfl) ?_
  conv => whnf
  refine ⟨some planS6, by kernel_rfl, ?_⟩
  conv => whnf
  refine at_rd (again_j (n := 66) (d := 17) (kd := 0) hg rfl rfl rfl rfl) ?_
  conv => whnf
  refine ⟨by omega, by simp; omega, by omega, ?_⟩
  conv => whnf
  refine ⟨.bx 64 2, fun m2 K2 hK => hK, ?_⟩
  conv => whnf
  refine And.intro ?_ ?_
  · conv => whnf
    refine mcall (T := TT) (φ := [51]) (x_clonej' j (j' :: js) (by simp; omega)) ?_ (ln := true)
    conv => whnf
    refine at_tr (upd_job1 (n := 66) (d := 51) (js := j' :: js) rfl rfl rfl rfl rfl rfl rfl) ?_
    conv => whnf
    refine at_tr (open_j (n := 66) (d := 57) rfl rfl rfl rfl rfl (getE_put _ _ _)) ?_
    conv => whnf
    refine known false (by simp; omega) ?_
    conv => whnf
    refine ⟨_, GhM.gh (close_j (n := 66) (d := 57) (getE_put _ _ _) rfl rfl), ?_⟩
    exact ⟨rfl, rfl, rfl⟩
  · conv => whnf
    refine ⟨?_, by exact trivial⟩
    conv => whnf
    refine mcall (T := TT) (φ := [51]) (x_clonej' j (j' :: js) (by simp; omega)) ?_ (ln := true)
    conv => whnf
    refine at_tr (upd_job1 (n := 66) (d := 51) (js := j' :: js) rfl rfl rfl rfl rfl rfl rfl) ?_
    conv => whnf
    refine at_tr (open_j (n := 66) (d := 57) rfl rfl rfl rfl rfl (getE_put _ _ _)) ?_
    conv => whnf
    refine known false (by simp; omega) ?_
    conv => whnf
    refine ⟨_, GhM.gh (close_j (n := 66) (d := 57) (getE_put _ _ _) rfl rfl), ?_⟩
    exact ⟨rfl, rfl, rfl⟩
set_option maxRecDepth 100000 in
set_option maxHeartbeats 4000000 in
theorem x_serve2 (q : Int) (tu : Bool) (W : List (ByteArray × Int)) (J : List (ByteArray × List Jb)) (De : List (ByteArray × Int)) (l : List ByteArray) (t : ByteArray) {j : Jb} (hg : getE J t = some [j]) (hdf : j.co ≤ (getE De t).getD 0) (hd : (getE De t).getD 0 ≤ 1000000000000000) (hc : 1 ≤ j.co) (hnl : t ∉ l) (hl : (t :: l).length ≤ 1000000) :
    MCalls Try.prog 41 [.bx 0 0] (qM q tu W J De (t :: l)) (.tu [j.V, boo true]) (qM q false W (delE J t) (delE De t) l) := by
  refine msxg serveM Try.func41 (by kernel_rfl) (by kernel_rfl) ?_
  have hlv := x_leave q tu W (putE J t []) (putE De t ((getE De t).getD 0 - j.co)) [] l t (getE_put _ _ _) (by simp) hnl hl
  rw [delE_put, delE_put] at hlv
  conv => whnf
  refine ⟨by omega, by simp, ?_⟩
  conv => whnf
  refine ⟨_, rfl, ?_⟩
  conv => whnf
  refine at_tr (open_j (n := 66) (d := 17) rfl rfl rfl rfl rfl hg) ?_
  conv => whnf
  refine ⟨by omega, by simp, ?_⟩
  conv => whnf
  refine ⟨_, rfl, ?_⟩
  conv => whnf
  refine ⟨none, by kernel_rfl, ?_⟩
  conv => whnf
  refine at_rd (look_int rfl rfl rfl rfl) ?_
  conv => whnf
  refine known false (by simp; omega) ?_
  conv => whnf
  refine ⟨none, by kernel_rfl, ?_⟩
  conv => whnf
  refine at_rd (look_int rfl rfl rfl rfl) ?_
  conv => whnf
  refine at_tr (upd_int (v := (getE De t).getD 0 - j.co) rfl rfl rfl (fin_int (wrap_in (by omega))) rfl) ?_
  conv => whnf
  refine ⟨some planS6, by kernel_rfl, ?_⟩
  conv => whnf
  refine at_rd (again_j (n := 66) (d := 17) (kd := 0) hg rfl rfl rfl rfl) ?_
  conv => whnf
  refine ⟨by omega, by simp, by omega, ?_⟩
  conv => whnf
  refine ⟨.bx 64 2, fun m2 K2 hK => hK, ?_⟩
  conv => whnf
  refine And.intro ?_ ?_
  · conv => whnf
    refine mcall (T := TT) (φ := [51]) (x_clonej' j [] (by simp)) ?_ (ln := true)
    conv => whnf
    refine at_tr (upd_job1 (n := 66) (d := 51) (js := []) rfl rfl rfl rfl rfl rfl rfl) ?_
    conv => whnf
    refine at_tr (open_j (n := 66) (d := 57) rfl rfl rfl rfl rfl (getE_put _ _ _)) ?_
    conv => whnf
    refine known true rfl ?_
    conv => whnf
    refine at_gh (kill_j (n := 66) (getE_put _ _ _) rfl) (mcall (T := TT) (φ := []) hlv ?_ (ln := true))
    conv => whnf
    refine ⟨_, Gh.refl _, ?_⟩
    exact ⟨rfl, rfl, rfl⟩
  · conv => whnf
    refine ⟨?_, by exact trivial⟩
    conv => whnf
    refine mcall (T := TT) (φ := [51]) (x_clonej' j [] (by simp)) ?_ (ln := true)
    conv => whnf
    refine at_tr (upd_job1 (n := 66) (d := 51) (js := []) rfl rfl rfl rfl rfl rfl rfl) ?_
    conv => whnf
    refine at_tr (open_j (n := 66) (d := 57) rfl rfl rfl rfl rfl (getE_put _ _ _)) ?_
    conv => whnf
    refine known true rfl ?_
    conv => whnf
    refine at_gh (kill_j (n := 66) (getE_put _ _ _) rfl) (mcall (T := TT) (φ := []) hlv ?_ (ln := true))
    conv => whnf
    refine ⟨_, Gh.refl _, ?_⟩
    exact ⟨rfl, rfl, rfl⟩
end Go.Proofs.Ytmlednjhemnncaa
