/-
  The law RolloutEnds of seat Ytejjemeaponbaaa, as a contract.
-/
import Derived.Test.YtejjemeaponbaaaRx10
namespace Go.Proofs.Ytejjemeaponbaaa
open Go.RowKit

/-- The rollout at the head of stage i. -/
def endR (nm : ByteArray) (s k : Int) (l : List Stg) (i : Nat) (now : Int) : RO := ⟨1, nm, s, k, wAt l i, l, i, now⟩

theorem endR_ok {nm : ByteArray} {s k : Int} {l : List Stg} {i : Nat} {now : Int} (h : okB (endR nm s k l 0 0) = true) (hi : i < l.length) (h0 : 0 ≤ now) (h1 : now ≤ 1073741824) : okB (endR nm s k l i now) = true := by
  obtain ⟨q1, q2, q3, q4, q5, q6⟩ := okB_to h
  obtain ⟨c1, c2, c3, c4, c5, c6⟩ := chk_zero' q2
  have hc : k ≠ 0 := by simpa [fitB, endR] using q6
  have s1 := checkS_st q1 i hi
  have e1 : wAt l (i : Int) = l[i].1 := wAt_nat hi
  exact okB_of q1 (chk_of c1 c2 c3 (inb_of (by dsimp only [endR] at s1 ⊢; rw [e1]; omega) (by dsimp only [endR] at s1 ⊢; rw [e1]; omega)) c5 fun e => absurd e hc) (by dsimp only [endR]; omega) (by dsimp only [endR]; omega) (inst_of h0 h1) (by simp [fitB, endR, hc])

theorem endR_run {nm : ByteArray} {s k : Int} {l : List Stg} {i : Nat} {now : Int} (h : okB (endR nm s k l i now) = true) : runE (endR nm s k l i now) = 0 := by
  unfold runE; rw [h]; rfl

theorem end_back' {nm : ByteArray} {s k : Int} {l : List Stg} {i : Nat} {now : Int} (h : okB (endR nm s k l i now) = true) (h0 : 0 ≤ now) (h1 : now ≤ 1073741824) :
    nextR (endR nm s k l i now) false now = (⟨3, nm, s, 0, 0, l, i, now⟩, 0) := by
  unfold nextR
  rw [if_neg (by simp [endR_run h]), if_neg (by simp [endR, clock_of h0 h1 (Int.le_refl _)]), if_pos rfl]; rfl

theorem end_same {nm : ByteArray} {s k : Int} {l : List Stg} {i : Nat} {now t : Int} (h : okB (endR nm s k l i now) = true) (h0 : 0 ≤ t) (h1 : t ≤ 1073741824) (h2 : now ≤ t) (h3 : t - now < bAt l i) :
    nextR (endR nm s k l i now) true t = (endR nm s k l i now, 0) := by
  unfold nextR
  rw [if_neg (by simp [endR_run h]), if_neg (by simp [endR, clock_of h0 h1 h2]), if_neg (by simp), if_pos (by exact h3)]

theorem end_next {nm : ByteArray} {s k : Int} {l : List Stg} {i : Nat} {now t : Int} (h : okB (endR nm s k l i now) = true) (h0 : 0 ≤ t) (h1 : t ≤ 1073741824) (h2 : now ≤ t) (h3 : t - now = bAt l i) (h4 : i + 1 < l.length) :
    nextR (endR nm s k l i now) true t = (endR nm s k l (i + 1) t, 0) := by
  unfold nextR
  rw [if_neg (by simp [endR_run h]), if_neg (by simp [endR, clock_of h0 h1 h2]), if_neg (by simp), if_neg (by simp only [endR]; omega), if_neg (by simp only [endR]; omega)]
  rfl

theorem end_last {nm : ByteArray} {s k : Int} {l : List Stg} {i : Nat} {now t : Int} (h : okB (endR nm s k l i now) = true) (h0 : 0 ≤ t) (h1 : t ≤ 1073741824) (h2 : now ≤ t) (h3 : t - now = bAt l i) (h4 : i + 1 = l.length) :
    nextR (endR nm s k l i now) true t = (⟨2, nm, k, 0, 0, l, i, t⟩, 0) := by
  unfold nextR
  rw [if_neg (by simp [endR_run h]), if_neg (by simp [endR, clock_of h0 h1 h2]), if_neg (by simp), if_neg (by simp only [endR]; omega), if_pos (by simp only [endR]; omega)]
  rfl

theorem end_left {nm : ByteArray} {s k : Int} {l : List Stg} {i : Nat} {now : Int} (h : okB (endR nm s k l i now) = true) (hi : i < l.length) (h0 : 0 ≤ now) (h1 : now ≤ 1073741824) :
    leftR (endR nm s k l i now) now = (sumB (l.drop i), 0) := by
  unfold leftR
  rw [if_neg (by simp [endR_run h]), if_neg (by simp [endR, clock_of h0 h1 (Int.le_refl _)])]
  have hb := checkS_st (okB_to h).1 i hi
  have e1 : bAt l (i : Int) = l[i].2 := bAt_nat hi
  have e2 : l.drop i = l[i] :: l.drop (i + 1) := List.drop_eq_getElem_cons hi
  simp only [endR] at hb ⊢
  rw [e1, e2]
  simp only [sumB, Int.toNat_natCast]
  rw [show max 0 (now + l[i].2 - now) = l[i].2 by omega]

/-- The contracts of Next and Left at the head of stage i, with all parts written out. -/
theorem x_next_of {r : RO} {h : Bool} {now : Int} {r' : RO} (hn : r.nm.size ≤ maxLen) (e : nextR r h now = (r', 0)) : DCalls Try.prog 14 [r.V, boo h, int now] (.tu [r'.V, int 0]) := by
  have c := x_next r h now hn
  rw [e] at c; exact c

theorem x_left_of {r : RO} {now n : Int} (hn : r.nm.size ≤ maxLen) (e : leftR r now = (n, 0)) : DCalls Try.prog 22 [r.V, int now] (.tu [int n, int 0]) := by
  have c := x_left r now hn
  rw [e] at c; exact c

set_option maxRecDepth 100000 in
set_option maxHeartbeats 4000000 in
theorem x_ends (nm : ByteArray) (s c v k : Int) (l : List Stg) (at' : Int) (hn : nm.size ≤ maxLen) (hl : l.length ≤ 8796093022207) :
    DCalls Try.prog 6 [alV nm s c v, int k, stgs l, int at'] (boo true) := by
  refine sx Try.func6 (by kernel_rfl) ?_
  by_cases h1 : (startR nm s c v k l 0).2 = 0
  rotate_left
  · refine ⟨_, x_start nm s c v k l 0 hn, ?_⟩
    refine known true (by simpa using h1) ?_
    refine ⟨_, x_awake, ?_⟩
    rfl
  obtain ⟨e, ho⟩ := start_ok h1
  have ho' : okB (endR nm s k l 0 0) = true := ho
  obtain ⟨o1, o2, o3, o4, o5, o6⟩ := okB_to ho
  obtain ⟨l1, l8⟩ := checkS_len o1
  dsimp only at l1 l8
  refine ⟨_, x_started hn h1, ?_⟩
  refine known false rfl ?_
  refine ⟨[], Nat × Int × RO, fun ⟨i, now, _⟩ => [(12, int i), (11, int now)], fun ⟨_, _, r⟩ => [(9, some (.box [int r.st, str r.nm, int r.s, int r.c, int r.v, stgs r.l, int r.a, int r.si]))],
    fun ⟨i, now, r⟩ => i ≤ l.length ∧ 0 ≤ now ∧ now ≤ 1073741824 ∧ (i < l.length → r = endR nm s k l i now) ∧ (i = l.length → r.st = 2 ∧ r.s = k ∧ r.c = 0 ∧ r.nm = nm), fun x => l.length - x.1, (0, 0, endR nm s k l 0 0), ⟨Nat.zero_le _, Int.le_refl _, by decide, fun _ => rfl, fun h => by omega⟩, ?_, ?_⟩
  · refine ⟨rfl, ?_, ?_⟩ <;> repeat' (first | exact trivial | exact rfl | refine and_rfl ?_ | refine and_two ?_ ?_)
  rintro ⟨i, now, r⟩ ⟨hi, hn0, hn1, hr, hr'⟩
  rintro (_ | _) h3
  · simp at h3
    obtain ⟨a1, a2, a3, a4⟩ := hr' (by omega)
    refine known true (by simp [a1]) ?_
    refine known true (by simp [a2]) ?_
    refine known true (by simp [a3]) ?_
    refine known true (by simp [a4]) ?_
    refine ⟨_, x_awake, ?_⟩
    rfl
  simp at h3
  obtain rfl := hr h3
  clear hr hr'
  have hb := checkS_st o1 i h3
  dsimp only at hb
  have eb : bAt l (i : Int) = l[i].2 := bAt_nat h3
  have hok := endR_ok (now := now) ho' h3 hn0 hn1
  have hne : (endR nm s k l i now).nm.size ≤ maxLen := hn
  refine ⟨by omega, _, get_map stD h3, ?_⟩
  rintro (_ | _) h4
  rotate_left
  · refine ⟨_, x_awake, ?_⟩
    rfl
  have ew : IntKind.i64.wrap (now + l[i].2) = now + l[i].2 := wrap_in (by omega)
  rw [ew] at h4
  simp at h4
  have ew2 : IntKind.i64.wrap (now + l[i].2 - 1) = now + l[i].2 - 1 := wrap_in (by omega)
  have cb := x_next_of (h := false) hne (end_back' hok hn0 hn1)
  have cl := x_left_of hne (end_left hok h3 hn0 hn1)
  rintro (_ | _) h5
  rotate_left
  refine ⟨_, cb, ?_⟩
  refine known false rfl ?_
  refine known false rfl ?_
  refine known false (by simp) ?_
  refine known false rfl ?_
  refine known false rfl ?_
  all_goals
    refine ⟨by omega, _, get_map stD h3, ?_⟩
    rintro (_ | _) h6
    rotate_left
    simp at h6
    refine ⟨none, by kernel_rfl, ?_⟩
    refine ⟨by omega, _, get_map stD h3, ?_⟩
    refine ⟨_, x_next_of (r' := endR nm s k l i now) hne (by rw [ew, ew2]; exact end_same hok (by omega) (by omega) (by omega) (by omega)), ?_⟩
    refine known false rfl ?_
    refine ⟨_, x_same (endR nm s k l i now) (by dsimp only [endR]; omega), ?_⟩
    refine known false rfl ?_
  all_goals
    refine ⟨_, cl, ?_⟩
    refine ⟨by omega, _, get_map stD h3, ?_⟩
    by_cases h7 : i + 1 < l.length
    · have hok' := endR_ok (now := now + l[i].2) ho' h7 (by omega) (by omega)
      have s2 := checkS_st o1 (i + 1) h7
      refine ⟨_, x_next_of (r' := endR nm s k l (i + 1) (now + l[i].2)) hne (by rw [ew]; exact end_next hok (by omega) (by omega) (by omega) (by rw [eb]; omega) h7), ?_⟩
      refine known false rfl ?_
      refine known false rfl ?_
      refine known true (by rw [wrap_in (by simp; omega)]; simp; omega) ?_
      refine ⟨_, x_left_of (r := endR nm s k l (i + 1) (now + l[i].2)) (now := IntKind.i64.wrap (now + l[i].2)) hn (by rw [ew]; exact end_left hok' h7 (by omega) (by omega)), ?_⟩
      have hbk : ∀ x ∈ l, 0 ≤ x.2 ∧ x.2 ≤ 1073741824 := ok_bakes hok
      have hsb := sumB_bd (l := l.drop (i + 1)) fun x hx => hbk x (List.mem_of_mem_drop hx)
      have hsl : (l.drop (i + 1)).length = l.length - (i + 1) := List.length_drop
      have hsd : sumB (l.drop i) = l[i].2 + sumB (l.drop (i + 1)) := by rw [List.drop_eq_getElem_cons h3]; rfl
      have w1 : wAt l (i : Int) = l[i].1 := wAt_nat h3
      have w2 : wAt l ((i + 1 : Nat) : Int) = l[i + 1].1 := wAt_nat h7
      have w3 := hb.2 h7
      refine known false rfl ?_
      refine ⟨by omega, _, get_map stD h3, ?_⟩
      refine known false (by rw [hsd, wrap_in (by omega)]; simp) ?_
      refine known false (decide_eq_false (by show ¬ (wAt l ((i + 1 : Nat) : Int) ≤ wAt l (i : Int)); omega)) ?_
      refine known false rfl ?_
      refine ⟨(i + 1, now + l[i].2, endR nm s k l (i + 1) (now + l[i].2)), ⟨h3, by omega, h4, fun _ => rfl, fun h => by omega⟩, by dsimp only; omega, ?_⟩
      refine ⟨rfl, ?_, ?_⟩ <;> repeat' (first | exact trivial | exact rfl | refine and_rfl ?_ | refine and_val (wrap_succ (by omega)) ?_ | refine and_val ew ?_ | refine and_two ?_ ?_)
    · refine ⟨_, x_next_of (r' := ⟨2, nm, k, 0, 0, l, i, now + l[i].2⟩) hne (by rw [ew]; exact end_last hok (by omega) (by omega) (by omega) (by rw [eb]; omega) (by omega)), ?_⟩
      refine known false rfl ?_
      refine known false rfl ?_
      refine known false (by rw [wrap_in (by simp; omega)]; simp; omega) ?_
      refine ⟨(i + 1, now + l[i].2, ⟨2, nm, k, 0, 0, l, i, now + l[i].2⟩), ⟨h3, by omega, h4, fun h => by omega, fun _ => ⟨rfl, rfl, rfl, rfl⟩⟩, by dsimp only; omega, ?_⟩
      refine ⟨rfl, ?_, ?_⟩ <;> repeat' (first | exact trivial | exact rfl | refine and_rfl ?_ | refine and_val (wrap_succ (by omega)) ?_ | refine and_val ew ?_ | refine and_two ?_ ?_)

end Go.Proofs.Ytejjemeaponbaaa
