/-
  The laws RolloutEnds and RolloutStaysValid of seat Ytejjemeaponbaaa, as contracts.
-/
import Derived.Test.YtejjemeaponbaaaRx9
namespace Go.Proofs.Ytejjemeaponbaaa
open Go.RowKit

theorem chk_zero' {n : ByteArray} {s c v : Int} (h : chk n s c v = 0) : nameB n = true ∧ inB s 1 32 = true ∧ inB c 0 32 = true ∧ inB v 0 1000 = true ∧ c ≠ s ∧ (c = 0 → v = 0) := by
  unfold chk at h
  split at h
  · cases h
  split at h
  · cases h
  split at h
  · cases h
  rename_i h1 h2 h3
  simp at h1 h2
  refine ⟨h1, h2.1, h2.2.1, h2.2.2, fun e => h3 (.inr e), fun e => ?_⟩
  rcases Classical.em (v = 0) with h | h
  · exact h
  · exact absurd (.inl ⟨e, h⟩) h3

theorem chk_of {n : ByteArray} {s c v : Int} (h1 : nameB n = true) (h2 : inB s 1 32 = true) (h3 : inB c 0 32 = true) (h4 : inB v 0 1000 = true) (h5 : c ≠ s) (h6 : c = 0 → v = 0) : chk n s c v = 0 := by
  unfold chk
  rw [if_neg (by simp [h1]), if_neg (by simp [h2, h3, h4]), if_neg]
  rintro (⟨a, b⟩ | a)
  · exact b (h6 a)
  · exact h5 a

/-- The stages' weights. -/
theorem chk_st {l : List Stg} : ∀ {last : Int}, chkFrom last l = 0 → ∀ k, (hk : k < l.length) → (1 ≤ l[k].1 ∧ l[k].1 ≤ 1000 ∧ 0 ≤ l[k].2 ∧ l[k].2 ≤ 1073741824) ∧ last < l[k].1 ∧ ∀ h : k + 1 < l.length, l[k].1 < l[k + 1].1 := by
  induction l with
  | nil => intro _ _ k hk; cases hk
  | cons x l ih =>
    intro last h k hk
    simp only [chkFrom] at h
    split at h
    · cases h
    rename_i h1
    split at h
    · cases h
    rename_i h2
    simp [stOk, instB] at h1
    cases k with
    | zero =>
      refine ⟨by simp; omega, by simp; omega, fun h' => ?_⟩
      exact (ih h 0 (by simpa using h')).2.1
    | succ k =>
      obtain ⟨a, b, c⟩ := ih h k (by simpa using hk)
      exact ⟨a, by simp only [List.getElem_cons_succ]; omega, fun h' => c (by simpa using h')⟩

theorem checkS_st {l : List Stg} (h : checkS l = 0) (k : Nat) (hk : k < l.length) : (1 ≤ l[k].1 ∧ l[k].1 ≤ 1000 ∧ 0 ≤ l[k].2 ∧ l[k].2 ≤ 1073741824) ∧ ∀ h : k + 1 < l.length, l[k].1 < l[k + 1].1 := by
  unfold checkS at h
  split at h
  · cases h
  · exact ⟨(chk_st h k hk).1, (chk_st h k hk).2.2⟩

theorem okB_of {r : RO} (h1 : checkS r.l = 0) (h2 : chk r.nm r.s r.c r.v = 0) (h3 : 0 ≤ r.a) (h4 : r.a < r.l.length) (h5 : instB r.si = true) (h6 : fitB r = true) : okB r = true := by
  simp [okB, fineB, h1, h2, h3, h4, h5, h6]

theorem okB_to {r : RO} (h : okB r = true) : checkS r.l = 0 ∧ chk r.nm r.s r.c r.v = 0 ∧ 0 ≤ r.a ∧ r.a < r.l.length ∧ instB r.si = true ∧ fitB r = true := by
  simp [okB, fineB] at h
  exact ⟨h.1.1, h.1.2.1, h.1.2.2.1, h.1.2.2.2.1, h.1.2.2.2.2, h.2⟩

theorem inst_of {n : Int} (h0 : 0 ≤ n) (h1 : n ≤ 1073741824) : instB n = true := by simp [instB, h0, h1]
theorem inb_to {n lo hi : Int} (h : inB n lo hi = true) : lo ≤ n ∧ n ≤ hi := by simpa [inB] using h
theorem inb_of {n lo hi : Int} (h0 : lo ≤ n) (h1 : n ≤ hi) : inB n lo hi = true := by simp [inB, h0, h1]

theorem clock_of {si now : Int} (h0 : 0 ≤ now) (h1 : now ≤ 1073741824) (h2 : si ≤ now) : clockE si now = 0 := by
  unfold clockE; rw [if_neg (by simp [inst_of h0 h1]), if_neg (by omega)]

/-- A step of a running rollout. -/
theorem next_ok {r : RO} (ho : okB r = true) (hst : r.st = 1) (h : Bool) {now : Int} (h0 : 0 ≤ now) (h1 : now ≤ 1073741824) (h2 : r.si ≤ now) :
    (nextR r h now).2 = 0 ∧ okB (nextR r h now).1 = true ∧ (nextR r h now).1.si ≤ now ∧ (nextR r h now).1.l = r.l ∧ (nextR r h now).1.nm = r.nm ∧
    ((nextR r h now).1.st = 3 ↔ h = false) ∧ ((nextR r h now).1.st = 1 → r.v ≤ (nextR r h now).1.v ∧ r.a ≤ (nextR r h now).1.a ∧ (nextR r h now).1.a ≤ r.a + 1) := by
  have hr : runE r = 0 := by simp [runE, ho, hst]
  obtain ⟨k1, k2, k3, k4, k5, k6⟩ := okB_to ho
  obtain ⟨c1, c2, c3, c4, c5, c6⟩ := chk_zero' k2
  have hc : r.c ≠ 0 ∧ r.v = wAt r.l r.a := by simpa [fitB, hst] using k6
  have hn := inst_of h0 h1
  unfold nextR
  rw [if_neg (by simp [hr]), if_neg (by simp [clock_of h0 h1 h2])]
  cases h with
  | false =>
    rw [if_pos rfl]
    exact ⟨rfl, okB_of k1 (chk_of c1 c2 rfl rfl (by have := inb_to c2; dsimp only; omega) fun _ => rfl) k3 k4 hn (by simp [fitB]), Int.le_refl _, rfl, rfl, ⟨fun _ => rfl, fun _ => rfl⟩, fun e => absurd e (by simp)⟩
  | true =>
    rw [if_neg (by simp)]
    split
    · exact ⟨rfl, ho, h2, rfl, rfl, ⟨fun e => absurd (hst.symm.trans e) (by simp), fun e => by cases e⟩, fun _ => ⟨Int.le_refl _, Int.le_refl _, by dsimp only; omega⟩⟩
    split
    · rename_i ha
      refine ⟨rfl, okB_of k1 (chk_of c1 (inb_of (by have := inb_to c3; dsimp only; omega) (inb_to c3).2) rfl rfl (fun e => hc.1 e.symm) fun _ => rfl) k3 k4 hn (by simp [fitB, ha]), Int.le_refl _, rfl, rfl, ⟨fun e => absurd e (by simp), fun e => by cases e⟩, fun e => absurd e (by simp)⟩
    · rename_i ha
      have e1 : r.a = (r.a.toNat : Int) := by omega
      have e2 : r.a + 1 = ((r.a.toNat + 1 : Nat) : Int) := by omega
      have w1 : wAt r.l r.a = r.l[r.a.toNat].1 := (congrArg (wAt r.l) e1).trans (wAt_nat (l := r.l) (k := r.a.toNat) (by omega))
      have w2 : wAt r.l (r.a + 1) = r.l[r.a.toNat + 1].1 := (congrArg (wAt r.l) e2).trans (wAt_nat (l := r.l) (k := r.a.toNat + 1) (by omega))
      have s1 := checkS_st k1 r.a.toNat (by omega)
      have s2 := checkS_st k1 (r.a.toNat + 1) (by omega)
      have s3 := s1.2 (by omega)
      refine ⟨rfl, okB_of k1 (chk_of c1 c2 c3 (inb_of (by dsimp only; rw [w2]; omega) (by dsimp only; rw [w2]; omega)) c5 fun e => absurd e hc.1) (by dsimp only; omega) (by dsimp only; omega) hn (by simp [fitB, hst, hc.1]), Int.le_refl _, rfl, rfl, ⟨fun e => absurd (hst.symm.trans e) (by simp), fun e => by cases e⟩, fun _ => ⟨by dsimp only; rw [hc.2, w1, w2]; omega, by dsimp only; omega, Int.le_refl _⟩⟩

/-- What Start returns. -/
theorem start_ok {nm : ByteArray} {s c v k : Int} {l : List Stg} (h : (startR nm s c v k l 0).2 = 0) :
    startR nm s c v k l 0 = (⟨1, nm, s, k, wAt l 0, l, 0, 0⟩, 0) ∧ okB ⟨1, nm, s, k, wAt l 0, l, 0, 0⟩ = true := by
  unfold startR at h ⊢
  by_cases h1 : checkS l = 0
  · rw [if_neg (by simp [h1]), if_neg (by decide)] at h ⊢
    by_cases h2 : chk nm s c v = 0
    · by_cases h3 : beginE s c k = 0
      · have e : beginX nm s c v k = (nm, s, k, 0, 0) := chF_ok (by simp [h2]) (by simp [h3])
        rw [e]
        refine ⟨rfl, ?_⟩
        obtain ⟨c1, c2, c3, c4, c5, c6⟩ := chk_zero' h2
        have hk : inB k 1 32 = true ∧ k ≠ s := by
          unfold beginE at h3
          split at h3
          · cases h3
          split at h3
          · cases h3
          split at h3
          · cases h3
          simp_all
        obtain ⟨l1, l8⟩ := checkS_len h1
        have s1 := checkS_st h1 0 (by omega)
        have w1 : wAt l 0 = l[0].1 := wAt_nat (k := 0) (by omega)
        have k1 := inb_to hk.1
        exact okB_of h1 (chk_of c1 c2 (inb_of (by dsimp only; omega) k1.2) (inb_of (by dsimp only; omega) (by dsimp only; omega)) hk.2 fun e => by dsimp only at e; omega) (Int.le_refl _) (by dsimp only; omega) rfl (by simp [fitB]; omega)
      · have e : (beginX nm s c v k).2.2.2.2 ≠ 0 := by unfold beginX chF; rw [if_neg (by simp [h2]), if_pos h3]; exact h3
        rw [if_pos e] at h; exact absurd h e
    · have e : (beginX nm s c v k).2.2.2.2 ≠ 0 := by unfold beginX chF; rw [if_pos h2]; exact h2
      rw [if_pos e] at h; exact absurd h e
  · rw [if_pos h1] at h; exact absurd h h1

def stepD (n : Int) : List D := [.cv (.int .u16 n)]

/-- Start, where it succeeds. -/
theorem x_started {nm : ByteArray} {s c v k : Int} {l : List Stg} (hn : nm.size ≤ maxLen) (h : (startR nm s c v k l 0).2 = 0) :
    DCalls Try.prog 10 [alV nm s c v, int k, stgs l, int 0] (.tu [.ag [int 1, str nm, int s, int k, int (wAt l 0), stgs l, int 0, int 0], int 0]) := by
  have c := x_start nm s c v k l 0 hn
  rw [(start_ok h).1] at c
  exact c

set_option maxRecDepth 100000 in
set_option maxHeartbeats 4000000 in
theorem x_stays (nm : ByteArray) (s c v k : Int) (l : List Stg) (us : List Int) (hn : nm.size ≤ maxLen) (hl : l.length ≤ 8796093022207) (hu : ∀ u ∈ us, 0 ≤ u ∧ u ≤ 65535) :
    DCalls Try.prog 7 [alV nm s c v, int k, stgs l, .sl true 1 (us.map stepD)] (boo true) := by
  refine sx Try.func7 (by kernel_rfl) ?_
  by_cases h1 : (startR nm s c v k l 0).2 = 0
  rotate_left
  · refine ⟨_, x_start nm s c v k l 0 hn, ?_⟩
    refine known true (by simpa using h1) ?_
    refine ⟨_, x_awake, ?_⟩
    rfl
  obtain ⟨e, ho⟩ := start_ok h1
  refine ⟨_, x_started hn h1, ?_⟩
  refine known false rfl ?_
  rintro (_ | _) h2
  rotate_left
  · refine ⟨_, x_awake, ?_⟩
    rfl
  simp at h2
  refine ⟨[], Nat × Int × RO, fun ⟨i, now, _⟩ => [(12, int i), (11, int now)], fun ⟨_, _, r⟩ => [(9, some (.box [int r.st, str r.nm, int r.s, int r.c, int r.v, stgs r.l, int r.a, int r.si]))], fun ⟨i, now, r⟩ => i ≤ us.length ∧ 0 ≤ now ∧ now ≤ i * 32767 ∧ r.si ≤ now ∧ okB r = true ∧ r.nm = nm, fun x => us.length - x.1, (0, 0, ⟨1, nm, s, k, wAt l 0, l, 0, 0⟩), ⟨Nat.zero_le _, Int.le_refl _, by simp, Int.le_refl _, ho, rfl⟩, ?_, ?_⟩
  · refine ⟨rfl, ?_, ?_⟩ <;> repeat' (first | exact trivial | exact rfl | refine and_rfl ?_ | refine and_two ?_ ?_)
  rintro ⟨i, now, r⟩ ⟨hi, hn0, hn1, hsi, ho, hnm⟩
  have hnr : r.nm.size ≤ maxLen := by rw [hnm]; exact hn
  rintro (_ | _) h3
  · refine ⟨_, x_valid r hnr, ?_⟩
    refine known true ho ?_
    refine ⟨_, x_awake, ?_⟩
    rfl
  simp at h3
  have hui := hu _ (List.getElem_mem h3)
  have hlen : us.length ≤ 50 := by omega
  refine ⟨by omega, _, get_map stepD h3, ?_⟩
  have e0 : IntKind.i64.wrap us[i] = us[i] := wrap_in (by omega)
  have e1 : IntKind.i64.wrap (us[i].tdiv 2) = us[i] / 2 := by rw [Int.tdiv_eq_ediv_of_nonneg hui.1, wrap_in (by omega)]
  have e2 : IntKind.i64.wrap (now + us[i] / 2) = now + us[i] / 2 := wrap_in (by omega)
  refine ⟨by decide, ?_⟩
  rw [e0, e1]
  have hem : us[i].tmod 2 = us[i] % 2 := Int.tmod_eq_emod_of_nonneg hui.1
  refine ⟨none, by kernel_rfl, ?_⟩
  rw [e2]
  generalize hnow : now + us[i] / 2 = now'
  refine ⟨by omega, _, get_map stepD h3, ?_⟩
  refine ⟨by decide, ?_⟩
  refine ⟨_, x_next r _ now' hnr, ?_⟩
  rw [hem]
  rintro (_ | _) h4
  rotate_left
  · simp at h4
    have hr : runE r ≠ 0 := by simp [runE, h4]
    refine known false (by unfold nextR; rw [if_pos hr]; rfl) ?_
    refine ⟨_, x_awake, ?_⟩
    rfl
  simp at h4
  generalize hh : (us[i] % 2 == 0) = hb
  obtain ⟨n1, n2, n3, n4, n5, n6, n7⟩ := next_ok ho h4 hb (now := now') (by omega) (by omega) (by omega)
  generalize nextR r hb now' = p at n1 n2 n3 n4 n5 n6 n7
  refine known false (by simp [n1]) ?_
  refine ⟨_, x_valid p.1 (by rw [n5]; exact hnr), ?_⟩
  refine known false (by simp [n2]) ?_
  have fin : ∀ K : Bool → Prop, K false → ∀ b', (!((p.1.st == 3) == (us[i] % 2 != 0))) = b' → K b' := fun K hK b' hb' => by
    subst hb'
    have : (!((p.1.st == 3) == (us[i] % 2 != 0))) = false := by
      subst hh
      by_cases h : us[i] % 2 = 0
      · have : p.1.st ≠ 3 := fun e => by have := n6.1 e; simp [h] at this
        simp [h, this]
      · have : p.1.st = 3 := n6.2 (by simp [h])
        simp [h, this]
    rw [this]; exact hK
  have hend : i + 1 ≤ us.length ∧ 0 ≤ now' ∧ now' ≤ ((i + 1 : Nat) : Int) * 32767 ∧ p.1.si ≤ now' ∧ okB p.1 = true ∧ p.1.nm = nm := ⟨h3, by omega, by omega, n3, n2, by rw [n5]; exact hnm⟩
  rintro (_ | _) h5
  · refine ⟨none, by kernel_rfl, ?_⟩
    refine ⟨by omega, _, get_map stepD h3, ?_⟩
    refine ⟨by decide, ?_⟩
    rw [hem]
    refine fin _ ?_
    refine ⟨(i + 1, now', p.1), hend, by dsimp only; omega, ?_⟩
    refine ⟨rfl, ?_, ?_⟩ <;> repeat' (first | exact trivial | exact rfl | refine and_rfl ?_ | refine and_val (wrap_succ (by omega)) ?_ | refine and_two ?_ ?_)
  · simp at h5
    obtain ⟨m1, m2, m3⟩ := n7 h5
    obtain ⟨q1, q2, q3, q4, q5, q6⟩ := okB_to n2
    obtain ⟨r1, r2, r3, r4, r5, r6⟩ := okB_to ho
    obtain ⟨l1, l8⟩ := checkS_len r1
    refine known false (by simp; omega) ?_
    refine known false (by simp; omega) ?_
    refine known false (by rw [wrap_in (by omega)]; simp; omega) ?_
    refine ⟨none, by kernel_rfl, ?_⟩
    refine ⟨by omega, _, get_map stepD h3, ?_⟩
    refine ⟨by decide, ?_⟩
    rw [hem]
    refine fin _ ?_
    refine ⟨(i + 1, now', p.1), hend, by dsimp only; omega, ?_⟩
    refine ⟨rfl, ?_, ?_⟩ <;> repeat' (first | exact trivial | exact rfl | refine and_rfl ?_ | refine and_val (wrap_succ (by omega)) ?_ | refine and_two ?_ ?_)

end Go.Proofs.Ytejjemeaponbaaa
