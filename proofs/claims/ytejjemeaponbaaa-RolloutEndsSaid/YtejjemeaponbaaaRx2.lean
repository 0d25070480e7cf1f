/-
  Contracts of the packages rollout and faasref20, part two: copies, validity, the errors of a step.
-/
import Derived.Test.YtejjemeaponbaaaRx1
namespace Go.Proofs.Ytejjemeaponbaaa
open Go.RowKit

theorem x_clone (l : List Stg) (h1 : 1 ≤ l.length) (h8 : l.length ≤ 8) : DCalls Try.prog 43 [stgs l] (stgs l) := by
  refine ⟨⟨_, Try.func43, by kernel_rfl, by kernel_rfl⟩, fun w vs hvs => ?_⟩
  obtain ⟨u, rfl⟩ : ∃ u, vs = [u] := by
    have := hvs.1
    match vs, this with
    | [u], _ => exact ⟨u, rfl⟩
  have hr := hvs.2 0 _ rfl
  change RelV _ _ w (stgs l) u at hr
  cases hr with
  | sl _ _ _ _ hr =>
    obtain ⟨A, c, rfl, hrd⟩ := rd_of_sl (by omega) hr (fun x hx d hd => (stD_flat l x hx d hd).imp fun _ h => h.1)
    rw [stD_plain, List.length_map] at hrd
    refine (clone_any A (l.map stD).length c l w (by rw [List.length_map]; exact hrd) (by simpa using h1) (by simpa using h8)).mono fun e w' ⟨v, he, hown, hb⟩ => ⟨v, he, .sl _ _ _ _ (sl_of_own (by rw [stD_plain]; exact hown) (stD_len l) rfl (stD_flat l)), hb⟩

theorem x_own (r : RO) (h1 : 1 ≤ r.l.length) (h8 : r.l.length ≤ 8) : DCalls Try.prog 26 [r.V] r.V := by
  refine sx Try.func26 (by kernel_rfl) ?_
  refine ⟨_, x_clone r.l h1 h8, ?_⟩
  rfl

theorem x_rown (r : RO) (h8 : r.l.length ≤ 1099511627776) : DCalls Try.prog 35 [r.V] r.V := by
  refine sx Try.func35 (by kernel_rfl) ?_
  refine ⟨.inr fun x hx d hd => (stD_flat r.l x hx d hd).imp fun _ h => h.1, by simp; omega, ?_⟩
  rfl

theorem x_acheck (nm : ByteArray) (s c v : Int) (hn : nm.size ≤ maxLen) : DCalls Try.prog 38 [alV nm s c v] (int (chk nm s c v)) :=
  dcalls_val Try.func38 (by kernel_rfl) (by kernel_rfl) rfl rfl fun w => check_any nm s c v w hn
theorem x_racheck (nm : ByteArray) (s c v : Int) (hn : nm.size ≤ maxLen) : DCalls Try.prog 39 [alV nm s c v] (int (chk nm s c v)) :=
  dcalls_val Try.func39 (by kernel_rfl) (by kernel_rfl) rfl rfl fun w => rcheck_any nm s c v w hn
abbrev alR (x : ByteArray × Int × Int × Int × Int) : V := .tu [alV x.1 x.2.1 x.2.2.1 x.2.2.2.1, int x.2.2.2.2]
theorem x_begin (nm : ByteArray) (s c v k : Int) (hn : nm.size ≤ maxLen) : DCalls Try.prog 25 [alV nm s c v, int k] (alR (chF nm s c v (beginE s c k) nm s k 0)) :=
  dcalls_val Try.func25 (by kernel_rfl) (by kernel_rfl) rfl rfl fun w => begin_any nm s c v k w hn
theorem x_rbegin (nm : ByteArray) (s c v k : Int) (hn : nm.size ≤ maxLen) : DCalls Try.prog 28 [alV nm s c v, int k] (alR (chF nm s c v (beginE s c k) nm s k 0)) :=
  dcalls_val Try.func28 (by kernel_rfl) (by kernel_rfl) rfl rfl fun w => rbegin_any nm s c v k w hn
theorem x_abort (nm : ByteArray) (s c v : Int) (hn : nm.size ≤ maxLen) : DCalls Try.prog 44 [alV nm s c v] (alR (chF nm s c v (canE c) nm s 0 0)) :=
  dcalls_val Try.func44 (by kernel_rfl) (by kernel_rfl) rfl rfl fun w => abort_any nm s c v w hn
theorem x_rabort (nm : ByteArray) (s c v : Int) (hn : nm.size ≤ maxLen) : DCalls Try.prog 36 [alV nm s c v] (alR (chF nm s c v (canE c) nm s 0 0)) :=
  dcalls_val Try.func36 (by kernel_rfl) (by kernel_rfl) rfl rfl fun w => rabort_any nm s c v w hn
theorem x_promote (nm : ByteArray) (s c v : Int) (hn : nm.size ≤ maxLen) : DCalls Try.prog 45 [alV nm s c v] (alR (chF nm s c v (canE c) nm c 0 0)) :=
  dcalls_val Try.func45 (by kernel_rfl) (by kernel_rfl) rfl rfl fun w => promote_any nm s c v w hn
theorem x_rpromote (nm : ByteArray) (s c v : Int) (hn : nm.size ≤ maxLen) : DCalls Try.prog 37 [alV nm s c v] (alR (chF nm s c v (canE c) nm c 0 0)) :=
  dcalls_val Try.func37 (by kernel_rfl) (by kernel_rfl) rfl rfl fun w => rpromote_any nm s c v w hn

/-- The fields are well formed. -/
def fineB (r : RO) : Bool := decide (checkS r.l = 0) && (decide (chk r.nm r.s r.c r.v = 0) && (decide (0 ≤ r.a) && (decide (r.a < r.l.length) && instB r.si)))
def wAt (l : List Stg) (a : Int) : Int := ((l[a.toNat]?).map (·.1)).getD 0
def bAt (l : List Stg) (a : Int) : Int := ((l[a.toNat]?).map (·.2)).getD 0
/-- The state fits the alias. -/
def fitB (r : RO) : Bool :=
  if r.st = 1 then (r.c != 0) && (r.v == wAt r.l r.a) else if r.st = 2 then (r.a == r.l.length - 1) && (r.c == 0) else (r.st == 3) && (r.c == 0)
def okB (r : RO) : Bool := fineB r && fitB r

theorem checkS_len {l : List Stg} (h : checkS l = 0) : 1 ≤ l.length ∧ l.length ≤ 8 := by
  unfold checkS at h
  by_cases h5 : l.length < 1 ∨ 8 < l.length
  · rw [if_pos h5] at h; cases h
  · omega

theorem wAt_of {l : List Stg} {a : Int} (h0 : 0 ≤ a) (h1 : a < l.length) : (l.map stD)[a.toNat]? = some [.cv (.int .i64 (wAt l a)), .cv (.int .i64 (bAt l a))] := by
  have h2 : a.toNat < l.length := by omega
  simp [wAt, bAt, stD, h2]

set_option maxRecDepth 100000 in
theorem x_valid (r : RO) (hn : r.nm.size ≤ maxLen) : DCalls Try.prog 16 [r.V] (boo (okB r)) := by
  refine sx Try.func16 (by kernel_rfl) ?_
  refine ⟨_, x_check r.l, ?_⟩
  rintro (_ | _) h1
  rotate_left
  · exact fin_boo (by simp at h1; simp [okB, fineB, h1])
  refine ⟨_, x_acheck r.nm r.s r.c r.v hn, ?_⟩
  rintro (_ | _) h2
  rotate_left
  · exact fin_boo (by simp at h2; simp [okB, fineB, h2])
  rintro (_ | _) h3
  rotate_left
  · exact fin_boo (by simp at h3; simp [okB, fineB]; omega)
  rintro (_ | _) h4
  rotate_left
  · exact fin_boo (by simp at h4; simp [okB, fineB]; omega)
  refine ⟨_, x_instant r.si, ?_⟩
  rintro (_ | _) h5
  rotate_left
  · exact fin_boo (by simp at h5; simp [okB, fineB, h5])
  simp at h1 h2 h3 h4 h5
  have hf : okB r = fitB r := by simp [okB, fineB, h1, h2, h3, h4, h5]
  obtain ⟨l1, l8⟩ := checkS_len h1
  rw [hf]
  rintro (_ | _) h6
  rotate_left
  · simp at h6
    refine ⟨none, by kernel_rfl, ?_⟩
    rintro (_ | _) h7
    · exact fin_boo (by simp at h7; simp [fitB, h6, h7])
    simp at h7
    refine ⟨h3, _, wAt_of h3 h4, ?_⟩
    exact fin_boo (by simp [fitB, h6, h7])
  rintro (_ | _) h7
  rotate_left
  · simp at h6 h7
    rintro (_ | _) h8
    · exact fin_boo (by simp at h8; rw [wrap_in (by omega)] at h8; simp [fitB, h7, h8])
    · exact fin_boo (by simp at h8; rw [wrap_in (by omega)] at h8; simp [fitB, h7, h8])
  rintro (_ | _) h8
  · exact fin_boo (by simp at h6 h7 h8; simp [fitB, h6, h7, h8])
  · exact fin_boo (by simp at h6 h7 h8; simp [fitB, h8])

end Go.Proofs.Ytejjemeaponbaaa
