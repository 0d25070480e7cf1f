/-
  The laws RolloutStarts, RolloutNext and RolloutAlarms of seat Ytejjemeaponbaaa, as contracts.
-/
import Derived.Test.YtejjemeaponbaaaRx7
namespace Go.Proofs.Ytejjemeaponbaaa
open Go.RowKit

theorem startR_len (nm : ByteArray) (s c v k : Int) (l : List Stg) (now : Int) : (startR nm s c v k l now).1.l.length ≤ l.length := by
  unfold startR
  split <;> try exact Nat.zero_le _
  split <;> try exact Nat.zero_le _
  split <;> first | exact Nat.zero_le _ | exact Nat.le_refl _

theorem nextR_len (r : RO) (h : Bool) (now : Int) : (nextR r h now).1.l.length ≤ r.l.length := by
  unfold nextR
  repeat' split
  all_goals first | exact Nat.zero_le _ | exact Nat.le_refl _

theorem alarmedR_len (r : RO) (s now : Int) : (alarmedR r s now).1.l.length ≤ r.l.length := by
  unfold alarmedR
  repeat' split
  all_goals first | exact Nat.zero_le _ | exact Nat.le_refl _ | exact nextR_len _ _ _

theorem set_len {ys : List (List D)} (h : ∀ y ∈ ys, y.length = 2) (i : Nat) (z : List D) (hz : z.length = 2) : ∀ y ∈ ys.set i z, y.length = 2 := by
  intro y hy
  rcases List.mem_or_eq_of_mem_set hy with hy | rfl
  · exact h y hy
  · exact hz

set_option maxRecDepth 100000 in
theorem x_starts (nm : ByteArray) (s c v k : Int) (l : List Stg) (now : Int) (hn : nm.size ≤ maxLen) (hl : l.length ≤ 8796093022207) :
    DCalls Try.prog 3 [alV nm s c v, int k, stgs l, int now] (boo true) := by
  have hlen := startR_len nm s c v k l now
  refine sx Try.func3 (by kernel_rfl) ?_
  refine ⟨.inr fun x hx d hd => (stD_flat l x hx d hd).imp fun _ h => h.1, by simp; omega, ?_⟩
  refine ⟨_, x_check l, ?_⟩
  refine ⟨_, x_rcheck l, ?_⟩
  rintro (_ | _) h1
  rotate_left
  · simp at h1
  refine ⟨_, x_start nm s c v k l now hn, ?_⟩
  refine ⟨_, x_rstart nm s c v k l now hn, ?_⟩
  generalize startR nm s c v k l now = p at hlen
  rintro (_ | _) h2
  rotate_left
  · simp at h2
  refine ⟨_, x_same p.1 (by omega), ?_⟩
  refine known false rfl ?_
  refine ⟨[], Nat × List (List D), fun x => [(14, int x.1), (15, .un)], fun x => [(15, some (.row 1 34 2 x.2))], fun x => x.1 ≤ l.length ∧ x.2.length = l.length ∧ ∀ y ∈ x.2, y.length = 2, fun x => l.length - x.1, (0, l.map stD), ⟨Nat.zero_le _, by simp, fun y hy => stD_len l y hy⟩, ?_, ?_⟩
  · refine ⟨rfl, ?_, ?_⟩ <;> repeat' (first | exact trivial | exact rfl | refine and_rfl ?_ | refine and_two ?_ ?_)
  rintro ⟨i, ys⟩ ⟨hi, hy, hy2⟩
  replace hi : i ≤ l.length := hi
  replace hy : ys.length = l.length := hy
  replace hy2 : ∀ y ∈ ys, y.length = 2 := hy2
  rintro (_ | _) h3
  · refine ⟨_, x_same p.1 (by omega), ?_⟩
    refine known true rfl ?_
    refine ⟨_, x_awake, ?_⟩
    rfl
  have h3' : i < ys.length := by simpa using h3
  have e : ys[i].length = 2 := hy2 _ (List.getElem_mem _)
  refine ⟨by omega, by simpa using h3', ?_⟩
  refine ⟨ys[i], by simp [h3'], by simp [e], ?_⟩
  refine ⟨(i + 1, ys.set i (.cv (.int .i64 (-1)) :: ys[i].drop 1)), ⟨by dsimp only; omega, ?_, ?_⟩, by dsimp only; omega, ?_⟩
  rotate_left 2
  · refine ⟨rfl, ?_, ?_⟩ <;> repeat' (first | exact trivial | exact rfl | refine and_rfl ?_ | refine and_val (wrap_succ (by omega)) ?_ | refine and_two ?_ ?_)
  · simp [hy]
  · exact set_len hy2 _ _ (by simp [e])

set_option maxRecDepth 100000 in
theorem x_nextlaw (r : RO) (h : Bool) (now : Int) (hn : r.nm.size ≤ maxLen) (hl : r.l.length ≤ 8796093022207) : DCalls Try.prog 4 [r.V, boo h, int now] (boo true) := by
  have hlen := nextR_len r h now
  refine sx Try.func4 (by kernel_rfl) ?_
  refine ⟨_, x_next r h now hn, ?_⟩
  refine ⟨_, x_rnext r h now hn, ?_⟩
  generalize nextR r h now = p at hlen
  refine ⟨none, by kernel_rfl, ?_⟩
  refine known true (by simp) ?_
  refine ⟨_, x_same p.1 (by omega), ?_⟩
  refine known true rfl ?_
  refine ⟨_, x_valid r hn, ?_⟩
  refine ⟨_, x_rvalid r hn, ?_⟩
  refine known true (beq_self_eq_true _) ?_
  refine ⟨_, x_awake, ?_⟩
  rfl

set_option maxRecDepth 100000 in
theorem x_alarms (r : RO) (s now : Int) (hn : r.nm.size ≤ maxLen) (hl : r.l.length ≤ 8796093022207) : DCalls Try.prog 5 [r.V, int s, int now] (boo true) := by
  have hlen := nextR_len r false now
  have hlen2 := alarmedR_len r s now
  refine sx Try.func5 (by kernel_rfl) ?_
  refine ⟨_, x_alarmed r s now hn, ?_⟩
  refine ⟨_, x_ralarmed r s now hn, ?_⟩
  generalize alarmedR r s now = p at hlen2
  refine known false (by simp) ?_
  refine ⟨_, x_same p.1 (by omega), ?_⟩
  refine known false rfl ?_
  refine ⟨_, x_abortR r now hn, ?_⟩
  refine ⟨_, x_rabortR r now hn, ?_⟩
  generalize nextR r false now = q at hlen
  refine known false (by simp) ?_
  refine ⟨_, x_same q.1 (by omega), ?_⟩
  refine known false rfl ?_
  refine ⟨_, x_left r now hn, ?_⟩
  refine ⟨_, x_rleft r now hn, ?_⟩
  refine known true (by simp) ?_
  refine known true (by simp) ?_
  refine ⟨_, x_awake, ?_⟩
  rfl

end Go.Proofs.Ytejjemeaponbaaa
