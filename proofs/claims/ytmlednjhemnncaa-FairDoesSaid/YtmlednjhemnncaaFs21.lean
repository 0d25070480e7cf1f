/- Texts joined by pack.py: XFa9 XFb0 -/
import Derived.Test.YtmlednjhemnncaaFs20
import Derived.WalkKit
namespace Go.Proofs.Ytmlednjhemnncaa
open Go.RowKit
theorem info_job : (Try.prog.info? 34).map (fun i => (i.zero, i.size, i.bytes)) = some (some (.agg #[.string ⟨#[]⟩, .string ⟨#[]⟩, .int .i64 0]), 3, 40) := by kernel_rfl
set_option maxHeartbeats 1000000 in
theorem clone0_j (A : Option Addr) (c : Nat) (w : World) :
    Calls Try.prog 56 #[.slice A 0 c] w fun e w' => ∃ v, e = .returned v ∧ w'.ownsRow w.heap.size 34 3 v 0 [] ∧ Below w.heap.size w w' := by
  obtain ⟨i0, hi0, hz0, hz1, hz2⟩ := info_parts info_job
  have hnil := fun w => Lib.run_eql_slice_nil (P := Try.prog) w 40 34 A 0 c 0 0 Try.underlying40
  have hown := World.ownsRow_lit (base := w.heap.size) (e := 34) (size := 3) w #[] 0 (Nat.le_refl _) (by simp [maxLen]) (by simp)
  have Hown := Lib.hid hown; clear hown
  cases A with
  | none =>
    go_enter Try.func56, Try.ntmps56
    go_wp2_with fail
    go_ret
    exact ⟨_, rfl, World.ownsRow_nil _ _ _ _, Below.refl _ _⟩
  | some ad =>
    go_enter Try.func56, Try.ntmps56
    go_wp2_with fail
    go_ret
    exact ⟨_, rfl, Hown.out, (Below.refl _ _).alloc (Nat.le_refl _) _⟩
theorem info_str : (Try.prog.info? 9).map (fun i => (i.zero, i.size, i.bytes)) = some (some (.string ⟨#[]⟩), 1, 16) := by kernel_rfl
set_option maxHeartbeats 1000000 in
theorem clone0_s (A : Option Addr) (c : Nat) (w : World) :
    Calls Try.prog 43 #[.slice A 0 c] w fun e w' => ∃ v, e = .returned v ∧ w'.ownsRow w.heap.size 9 1 v 0 [] ∧ Below w.heap.size w w' := by
  obtain ⟨i0, hi0, hz0, hz1, hz2⟩ := info_parts info_str
  have hnil := fun w => Lib.run_eql_slice_nil (P := Try.prog) w 49 9 A 0 c 0 0 Try.underlying49
  have hown := World.ownsRow_lit (base := w.heap.size) (e := 9) (size := 1) w #[] 0 (Nat.le_refl _) (by simp [maxLen]) (by simp)
  have Hown := Lib.hid hown; clear hown
  cases A with
  | none =>
    go_enter Try.func43, Try.ntmps43
    go_wp2_with fail
    go_ret
    exact ⟨_, rfl, World.ownsRow_nil _ _ _ _, Below.refl _ _⟩
  | some ad =>
    go_enter Try.func43, Try.ntmps43
    go_wp2_with fail
    go_ret
    exact ⟨_, rfl, Hown.out, (Below.refl _ _).alloc (Nat.le_refl _) _⟩
theorem mcalls_row0 {P : Program} {f : FuncId} {E sz : Nat} (hf : ∃ fn, P.funcs[f]? = some fn ∧ (fn.name == "runtime.NumGoroutine") = false ∧ fn.body.isNone = false) (hsz : 0 < sz)
    (hcall : ∀ (A : Option Addr) (c : Nat) (w : World), Calls P f #[.slice A 0 c] w fun e w' => ∃ v, e = .returned v ∧ w'.ownsRow w.heap.size E sz v 0 [] ∧ Below w.heap.size w w') : MCalls P f [.sl false sz []] [] (.ow 0 0) [.row 0 E sz true []] := by
  refine ⟨hf, fun w vs ns So hmem hvs => ?_⟩
  obtain rfl : ns = [] := List.eq_nil_of_length_eq_zero hmem.len
  obtain ⟨u, rfl⟩ : ∃ u, vs = [u] := by
    have := hvs.1
    match vs, this with
    | [u], _ => exact ⟨u, rfl⟩
  have hrel : RelV (NamesOf []) (oldS So) w (.sl false sz []) u := by simpa using hvs.2 0 _ rfl
  obtain ⟨A, c, rfl⟩ : ∃ A c, u = .slice A 0 c := by
    cases hrel with
    | sl _ _ _ _ h => cases h <;> exact ⟨_, _, rfl⟩
  refine (hcall A c w).mono ?_
  rintro e w' ⟨v, rfl, hown, hb⟩
  obtain ⟨A', c', hv⟩ := own_parts hown
  have hat : ∀ g, At v g → w.heap.size ≤ g ∧ g < w'.heap.size := fun g hg => by
    rcases hown.2 with ⟨rfl, _⟩ | ⟨g', cap, cur, rfl, h1, h2, _⟩
    · simp [At, at1] at hg
    · simp [At, at1] at hg; subst hg
      exact ⟨h1, (Array.getElem?_eq_some_iff.1 h2).1⟩
  have hb1 : ∀ g, blks [v] g → w.heap.size ≤ g ∧ g < w'.heap.size := fun g ⟨x, hx, hg⟩ => by
    simp at hx; subst hx; exact hat g hg
  refine ⟨v, [v], rfl, ⟨rfl, fun k b hk => ?_, fun j k u v' g hj hk hu hv' => ?_, fun f g hg => ⟨hg.1, hg.2.1⟩, fun g hg => (hb1 g hg).2, ?_, fun g hg hbk => ?_⟩, ?_, (Low.of_below hb).mono fun g hg => hg.1, by simp, fun k a hk => (by simp at hk), fun g hg => .inr (hb1 g hg).1, fun h => (by cases h), fun k x x' hk => (by simp at hk)⟩
  · match k with
    | 0 =>
      simp at hk; subst hk
      exact ⟨v, [], rfl, own_mono hown (Nat.zero_le _), by simp, hsz, fun i j d hd => by simp at hd, fun _ g hg => (hat g hg).1⟩
    | k + 1 => simp at hk
  · match j, k with
    | 0, 0 => rfl
    | j + 1, _ => simp at hj
    | _, k + 1 => simp at hk
  · exact ginv_low (keep := fun g => g < w.heap.size) hmem.inv.1 (fun g hg => ginv_lt hmem.inv.1 hg) (Low.of_below hb).block
  · have := ginv_lt hmem.inv.1 hg
    have := (hb1 g hbk).1
    omega
  · exact .ow 0 0 _ (by rw [hv]; rfl) ⟨0, v, rfl, Nat.le_refl _, fun _ => by rw [hv]; rfl⟩
theorem job_flat (l : List Jb) : Flat (l.map jobD) := by
  intro x hx d hd
  obtain ⟨j, _, rfl⟩ := List.mem_map.1 hx
  simp [jobD] at hd
  rcases hd with rfl | rfl | rfl <;> exact ⟨_, rfl⟩
theorem str_flat (l : List ByteArray) : Flat (l.map strD) := by
  intro x hx d hd
  obtain ⟨j, _, rfl⟩ := List.mem_map.1 hx
  simp [strD] at hd
  exact ⟨_, hd⟩
set_option maxRecDepth 100000 in
theorem clone_j (l : List Jb) (hl : l.length ≤ 1000000) : MCalls Try.prog 56 [.sl false 3 (l.map jobD)] [] (.ow 0 0) [.row 0 34 3 true (l.map jobD)] := by
  cases l with
  | nil => exact mcalls_row0 ⟨_, Try.func56, by kernel_rfl, by kernel_rfl⟩ (by decide) clone0_j
  | cons j l =>
    refine msxr Try.func56 (by kernel_rfl) (by kernel_rfl) ?_
    conv => whnf
    refine ⟨by simp, ?_⟩
    conv => whnf
    refine known false rfl ?_
    conv => whnf
    refine ⟨job_flat (j :: l), by simp at hl ⊢; omega, ?_⟩
    exact ⟨rfl, rfl, rfl⟩
set_option maxRecDepth 100000 in
theorem clone_s (l : List ByteArray) (hl : l.length ≤ 1000000) : MCalls Try.prog 43 [.sl false 1 (l.map strD)] [] (.ow 0 0) [.row 0 9 1 true (l.map strD)] := by
  cases l with
  | nil => exact mcalls_row0 ⟨_, Try.func43, by kernel_rfl, by kernel_rfl⟩ (by decide) clone0_s
  | cons j l =>
    refine msxr Try.func43 (by kernel_rfl) (by kernel_rfl) ?_
    conv => whnf
    refine ⟨by simp, ?_⟩
    conv => whnf
    refine known false rfl ?_
    conv => whnf
    refine ⟨str_flat (j :: l), by simp at hl ⊢; omega, ?_⟩
    exact ⟨rfl, rfl, rfl⟩
theorem x_clonej (j : Jb) (l : List Jb) (hl : l.length ≤ 1000000) : MCallsG true Try.prog 56 [.vw 0 0 3 1 (l.length + 1)] [.row 0 34 3 false ((j :: l).map jobD)] (.ow 1 0) [.row 0 34 3 false ((j :: l).map jobD), .row 0 34 3 true (l.map jobD)] := by
  refine mcalls_data (st := false) (f2 := true) (lo := 1) (hi := l.length + 1) (xs := (j :: l).map jobD) ?_ (job_flat l)
  have : (((j :: l).map jobD).take (l.length + 1)).drop 1 = l.map jobD := by
    rw [List.take_of_length_le (by simp)]; rfl
  rw [this]
  exact clone_j l hl
theorem x_clones (a : ByteArray) (l : List ByteArray) (hl : l.length ≤ 1000000) : MCallsG true Try.prog 43 [.vw 0 0 1 1 (l.length + 1)] [.row 0 9 1 false ((a :: l).map strD)] (.ow 1 0) [.row 0 9 1 false ((a :: l).map strD), .row 0 9 1 true (l.map strD)] := by
  refine mcalls_data (st := false) (f2 := true) (lo := 1) (hi := l.length + 1) (xs := (a :: l).map strD) ?_ (str_flat l)
  have : (((a :: l).map strD).take (l.length + 1)).drop 1 = l.map strD := by
    rw [List.take_of_length_le (by simp)]; rfl
  rw [this]
  exact clone_s l hl
end Go.Proofs.Ytmlednjhemnncaa
namespace Go.Proofs.Ytmlednjhemnncaa
open Go.RowKit
abbrev serveM : List (Nat × Bool) := [(40, false), (56, false), (6000027, false), (6000035, false), (6000049, false)]
abbrev planS6 : Plan := .one 0 (.one 1 (.one 4 (.one 5 (.one 6 (.one 7 (.one 8 (.one 9 (.one 10 (.one 11 (.pull 2 (.alt 3 (.one 12 (.one 13 (.done))) (.alt 12 (.one 3 (.one 13 (.done))) (.stop)))))))))))))
set_option maxRecDepth 100000 in
set_option maxHeartbeats 4000000 in
theorem x_serve0 (q : Int) (tu : Bool) (W : List (ByteArray × Int)) (J : List (ByteArray × List Jb)) (De : List (ByteArray × Int)) (l : List ByteArray) (t : ByteArray) {j : Jb} {js : List Jb} (hg : getE J t = some (j :: js)) (hdf : (getE De t).getD 0 < j.co) :
    MCalls Try.prog 41 [.bx 0 0] (qM q tu W J De (t :: l)) (.tu [Jb.zero.V, boo false]) (qM q tu W J De (t :: l)) := by
  refine msxg serveM Try.func41 (by kernel_rfl) (by kernel_rfl) ?_
  conv => whnf
  refine ⟨by omega, by simp, ?_⟩
  conv => whnf
  refine ⟨_, rfl, ?_⟩
  conv => whnf
  refine at_tr (open_j (n := 66) (d := 17) rfl rfl rfl rfl rfl hg) ?_
  conv => whnf
  refine ⟨by omega, by simp, ?_⟩
  conv => whnf
  refine ⟨_, rfl, ?_⟩
  conv => whnf
  refine ⟨none, by kernel_rfl, ?_⟩
  conv => whnf
  refine at_rd (look_int rfl rfl rfl rfl) ?_
  conv => whnf
  refine known true (by simp; omega) ?_
  conv => whnf
  refine ⟨_, GhM.gh (close_j (n := 66) (d := 17) hg rfl rfl), ?_⟩
  exact ⟨rfl, rfl, rfl⟩
theorem kill_j {m : List (Option Bk)} {n k : Nat} {x : V} {J : List (ByteArray × List Jb)} {t : ByteArray} {js : List Jb} (hg : getE J t = some js) (hm : m[n]? = some (some (.asr k (mapC (putE (jobM J) t (.o 0))) [x]))) :
    GhM m (m.set n (some (.asr k (mapC (putE (jobM J) t .z)) []))) := by
  have hg' : getE (jobM J) t = some (jobsC js) := by rw [getE_map, hg]; rfl
  have h1 := gh_killE hg' hm
  have hl := lt_of_get hm
  have hz : ∀ c ∈ (putE (jobM J) t Cl.z).map (·.2), c.isO = false := by
    intro c hc
    obtain ⟨e, he, rfl⟩ := List.mem_map.1 hc
    obtain ⟨l1, l2, rfl, h2⟩ := getE_some hg
    have : jobM (l1 ++ (t, js) :: l2) = jobM l1 ++ (t, jobsC js) :: jobM l2 := by simp [jobM]
    have h3 : t ∉ (jobM l1).map (·.1) := by simpa [jobM] using h2
    rw [this, putE_old h3] at he
    simp at he
    rcases he with ⟨a, b, _, rfl⟩ | rfl | ⟨a, b, _, rfl⟩ <;> rfl
  have h2 := gh_dropE (m := m.set n (some (.asr k (mapC (putE (jobM J) t .z)) [x]))) (n := n) (k := k) (es := putE (jobM J) t .z) (outs := []) (x := x) (by rw [List.getElem?_set_self hl]; rfl) (useO_none hz)
  have h3 := h1.trans h2
  rwa [List.set_set] at h3
theorem delE_put {α : Type} : ∀ (l : List (ByteArray × α)) (t : ByteArray) (c : α), delE (putE l t c) t = delE l t
  | [], t, c => by simp [putE, delE]
  | (k, x) :: l, t, c => by
    simp only [putE, delE]
    split
    · rename_i e; simp [delE]
    · rename_i e
      simp only [delE, if_neg e, delE_put l t c]
theorem getE_put {α : Type} : ∀ (l : List (ByteArray × α)) (t : ByteArray) (c : α), getE (putE l t c) t = some c
  | [], t, c => by simp [putE, getE]
  | (k, x) :: l, t, c => by
    simp only [putE]
    split
    · rename_i e; simp [getE]
    · rename_i e
      simp only [getE, if_neg e, getE_put l t c]
theorem x_clonej' (j : Jb) (l : List Jb) (hl : l.length ≤ 1000000) : MCallsG true Try.prog 56 [.vw 0 0 3 1 ((j :: l).map jobD).length] [.row 0 34 3 false ((j :: l).map jobD)] (.ow 1 0) [.row 0 34 3 false ((j :: l).map jobD), .row 0 34 3 true (l.map jobD)] := by
  rw [show ((j :: l).map jobD).length = l.length + 1 by simp]
  exact x_clonej j l hl
theorem x_clones' (a : ByteArray) (l : List ByteArray) (hl : l.length ≤ 1000000) : MCallsG true Try.prog 43 [.vw 0 0 1 1 ((a :: l).map strD).length] [.row 0 9 1 false ((a :: l).map strD)] (.ow 1 0) [.row 0 9 1 false ((a :: l).map strD), .row 0 9 1 true (l.map strD)] := by
  rw [show ((a :: l).map strD).length = l.length + 1 by simp]
  exact x_clones a l hl
set_option maxRecDepth 100000 in
set_option maxHeartbeats 4000000 in
theorem x_serve1 (q : Int) (tu : Bool) (W : List (ByteArray × Int)) (J : List (ByteArray × List Jb)) (De : List (ByteArray × Int)) (l : List ByteArray) (t : ByteArray) {j j' : Jb} {js : List Jb} (hg : getE J t = some (j :: j' :: js)) (hdf : j.co ≤ (getE De t).getD 0) (hd : (getE De t).getD 0 ≤ 1000000000000000) (hc : 1 ≤ j.co) (hl : js.length < 1000000) :
    MCalls Try.prog 41 [.bx 0 0] (qM q tu W J De (t :: l)) (.tu [j.V, boo true]) (qM q tu W (putE J t (j' :: js)) (putE De t ((getE De t).getD 0 - j.co)) (t :: l)) := by
  refine msxg serveM Try.func41 (by kernel_rfl) (by kernel_rfl) ?_
  conv => whnf
  refine ⟨by omega, by simp, ?_⟩
  conv => whnf
  refine ⟨_, rfl, ?_⟩
  conv => whnf
  refine at_tr (open_j (n := 66) (d := 17) rfl rfl rfl rfl rfl hg) ?_
  conv => whnf
  refine ⟨by omega, by simp, ?_⟩
  conv => whnf
  refine ⟨_, rfl, ?_⟩
  conv => whnf
  refine ⟨none, by kernel_rfl, ?_⟩
  conv => whnf
  refine at_rd (look_int rfl rfl rfl rfl) ?_
  conv => whnf
  refine known false (by simp; omega) ?_
  conv => whnf
  refine ⟨none, by kernel_rfl, ?_⟩
  conv => whnf
  refine at_rd (look_int rfl rfl rfl rfl) ?_
  conv => whnf
  refine at_tr (upd_int (v := (getE De t).getD 0 - j.co) rfl rfl rfl (fin_int (wrap_in (by omega))) rfl) ?_
  conv => whnf
  refine ⟨some planS6, by kernel_rfl, ?_⟩
  conv => whnf
  refine at_rd (again_j (n := 66) (d := 17) (kd := 0) hg rfl rfl rfl rfl) ?_
  conv => whnf
  refine ⟨by omega, by simp; omega, by omega, ?_⟩
  conv => whnf
  refine ⟨.bx 64 2, fun m2 K2 hK => hK, ?_⟩
  conv => whnf
  refine And.intro ?_ ?_
  · conv => whnf
    refine mcall (T := TT) (φ := [51]) (x_clonej' j (j' :: js) (by simp; omega)) ?_ (ln := true)
    conv => whnf
    refine at_tr (upd_job1 (n := 66) (d := 51) (js := j' :: js) rfl rfl rfl rfl rfl rfl rfl) ?_
    conv => whnf
    refine at_tr (open_j (n := 66) (d := 57) rfl rfl rfl rfl rfl (getE_put _ _ _)) ?_
    conv => whnf
    refine known false (by simp; omega) ?_
    conv => whnf
    refine ⟨_, GhM.gh (close_j (n := 66) (d := 57) (getE_put _ _ _) rfl rfl), ?_⟩
    exact ⟨rfl, rfl, rfl⟩
  · conv => whnf
    refine ⟨?_, by exact trivial⟩
    conv => whnf
    refine mcall (T := TT) (φ := [51]) (x_clonej' j (j' :: js) (by simp; omega)) ?_ (ln := true)
    conv => whnf
    refine at_tr (upd_job1 (n := 66) (d := 51) (js := j' :: js) rfl rfl rfl rfl rfl rfl rfl) ?_
    conv => whnf
    refine at_tr (open_j (n := 66) (d := 57) rfl rfl rfl rfl rfl (getE_put _ _ _)) ?_
    conv => whnf
    refine known false (by simp; omega) ?_
    conv => whnf
    refine ⟨_, GhM.gh (close_j (n := 66) (d := 57) (getE_put _ _ _) rfl rfl), ?_⟩
    exact ⟨rfl, rfl, rfl⟩
set_option maxRecDepth 100000 in
set_option maxHeartbeats 4000000 in
theorem x_serve2 (q : Int) (tu : Bool) (W : List (ByteArray × Int)) (J : List (ByteArray × List Jb)) (De : List (ByteArray × Int)) (l : List ByteArray) (t : ByteArray) {j : Jb} (hg : getE J t = some [j]) (hdf : j.co ≤ (getE De t).getD 0) (hd : (getE De t).getD 0 ≤ 1000000000000000) (hc : 1 ≤ j.co) (hnl : t ∉ l) (hl : (t :: l).length ≤ 1000000) :
    MCalls Try.prog 41 [.bx 0 0] (qM q tu W J De (t :: l)) (.tu [j.V, boo true]) (qM q false W (delE J t) (delE De t) l) := by
  refine msxg serveM Try.func41 (by kernel_rfl) (by kernel_rfl) ?_
  have hlv := x_leave q tu W (putE J t []) (putE De t ((getE De t).getD 0 - j.co)) [] l t (getE_put _ _ _) (by simp) hnl hl
  rw [delE_put, delE_put] at hlv
  conv => whnf
  refine ⟨by omega, by simp, ?_⟩
  conv => whnf
  refine ⟨_, rfl, ?_⟩
  conv => whnf
  refine at_tr (open_j (n := 66) (d := 17) rfl rfl rfl rfl rfl hg) ?_
  conv => whnf
  refine ⟨by omega, by simp, ?_⟩
  conv => whnf
  refine ⟨_, rfl, ?_⟩
  conv => whnf
  refine ⟨none, by kernel_rfl, ?_⟩
  conv => whnf
  refine at_rd (look_int rfl rfl rfl rfl) ?_
  conv => whnf
  refine known false (by simp; omega) ?_
  conv => whnf
  refine ⟨none, by kernel_rfl, ?_⟩
  conv => whnf
  refine at_rd (look_int rfl rfl rfl rfl) ?_
  conv => whnf
  refine at_tr (upd_int (v := (getE De t).getD 0 - j.co) rfl rfl rfl (fin_int (wrap_in (by omega))) rfl) ?_
  conv => whnf
  refine ⟨some planS6, by kernel_rfl, ?_⟩
  conv => whnf
  refine at_rd (again_j (n := 66) (d := 17) (kd := 0) hg rfl rfl rfl rfl) ?_
  conv => whnf
  refine ⟨by omega, by simp, by omega, ?_⟩
  conv => whnf
  refine ⟨.bx 64 2, fun m2 K2 hK => hK, ?_⟩
  conv => whnf
  refine And.intro ?_ ?_
  · conv => whnf
    refine mcall (T := TT) (φ := [51]) (x_clonej' j [] (by simp)) ?_ (ln := true)
    conv => whnf
    refine at_tr (upd_job1 (n := 66) (d := 51) (js := []) rfl rfl rfl rfl rfl rfl rfl) ?_
    conv => whnf
    refine at_tr (open_j (n := 66) (d := 57) rfl rfl rfl rfl rfl (getE_put _ _ _)) ?_
    conv => whnf
    refine known true rfl ?_
    conv => whnf
    refine at_gh (kill_j (n := 66) (getE_put _ _ _) rfl) (mcall (T := TT) (φ := []) hlv ?_ (ln := true))
    conv => whnf
    refine ⟨_, Gh.refl _, ?_⟩
    exact ⟨rfl, rfl, rfl⟩
  · conv => whnf
    refine ⟨?_, by exact trivial⟩
    conv => whnf
    refine mcall (T := TT) (φ := [51]) (x_clonej' j [] (by simp)) ?_ (ln := true)
    conv => whnf
    refine at_tr (upd_job1 (n := 66) (d := 51) (js := []) rfl rfl rfl rfl rfl rfl rfl) ?_
    conv => whnf
    refine at_tr (open_j (n := 66) (d := 57) rfl rfl rfl rfl rfl (getE_put _ _ _)) ?_
    conv => whnf
    refine known true rfl ?_
    conv => whnf
    refine at_gh (kill_j (n := 66) (getE_put _ _ _) rfl) (mcall (T := TT) (φ := []) hlv ?_ (ln := true))
    conv => whnf
    refine ⟨_, Gh.refl _, ?_⟩
    exact ⟨rfl, rfl, rfl⟩
end Go.Proofs.Ytmlednjhemnncaa
