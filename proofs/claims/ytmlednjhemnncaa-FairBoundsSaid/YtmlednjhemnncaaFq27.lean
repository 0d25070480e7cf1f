/- Texts joined by pack.py: XFc9 XSxE2 -/
import Derived.Test.YtmlednjhemnncaaFq26
import Derived.Test.YtmlednjhemnncaaFq14
import Derived.Laws.StructEq
namespace Go.Proofs.Ytmlednjhemnncaa
open Go.RowKit
structure Ct (s : Qs) (T : ByteArray) (w mo : Int) (se : Bool) : Prop where
  wt : wtOf s.W T = w
  w1 : 1 ≤ w ∧ w ≤ 1000
  co : ∀ j ∈ jobsOf s T, j.co ≤ mo
  m0 : 0 ≤ mo ∧ mo ≤ 1000000000
  hd : se = false → hdOk s T w mo
theorem Ct.new (q : Int) (T : ByteArray) : Ct (Qs.new q) T 1 0 false := ⟨rfl, by omega, fun j hj => (by cases hj), by omega, fun _ a l h => by cases h⟩
theorem Ct.push {s : Qs} (hf : s.fine) {T : ByteArray} {w mo mo' : Int} {se : Bool} (h : Ct s T w mo se) {j : Jb} (h1 : mo ≤ mo') (h2 : mo' ≤ 1000000000) (h3 : pushE s j = 0 → j.tn = T → j.co ≤ mo') : Ct (s.push j) T w mo' se := by
  have h0 := h.m0
  refine ⟨by rw [(push_keeps s j).2.1]; exact h.wt, h.w1, fun x hx => ?_, by omega, fun e => hd_push hf j (h.hd e) h1⟩
  by_cases he : pushE s j = 0
  · rw [jobs_push he] at hx
    split at hx
    · rename_i ht
      rcases List.mem_append.1 hx with hx | hx
      · have := h.co x hx; omega
      · simp at hx; subst hx; exact h3 he ht
    · have := h.co x hx; omega
  · rw [push_no he] at hx
    have := h.co x hx; omega
theorem weigh_jobs (s : Qs) (u : ByteArray) (n : Int) (t : ByteArray) : jobsOf (s.weigh u n) t = jobsOf s t ∧ tns (s.weigh u n) = tns s := by
  unfold jobsOf tns; rw [(weigh_R s u n).1]; exact ⟨rfl, rfl⟩
theorem Ct.weigh {s : Qs} {T : ByteArray} {w mo : Int} {se : Bool} (h : Ct s T w mo se) {u : ByteArray} {n : Int} (hu : weighE s u n = 0 → u ≠ T) : Ct (s.weigh u n) T w mo se := by
  refine ⟨?_, h.w1, fun x hx => h.co x (by rw [(weigh_jobs s u n T).1] at hx; exact hx), h.m0, fun e => hd_weigh u n (h.hd e)⟩
  rw [(weigh_W s u n).1]
  split
  · rename_i he
    have := hu he
    rw [← h.wt]
    unfold wtOf
    rw [getE_put_ne _ _ (Ne.symm this)]
  · exact h.wt
theorem weigh_range {s : Qs} {u : ByteArray} {n : Int} (h : weighE s u n = 0) : 1 ≤ n ∧ n ≤ 1000 := by
  unfold weighE at h
  split at h
  · cases h
  split at h
  · cases h
  · omega
theorem Ct.weighed {s : Qs} {T : ByteArray} {w mo : Int} {se : Bool} (h : Ct s T w mo se) {n : Int} (hu : weighE s T n = 0) : Ct (s.weigh T n) T n mo true := by
  refine ⟨?_, weigh_range hu, fun x hx => h.co x (by rw [(weigh_jobs s T n T).1] at hx; exact hx), h.m0, fun e => by cases e⟩
  rw [(weigh_W s T n).1, if_pos hu]
  unfold wtOf
  rw [getE_put]
theorem drop_jobs {s : Qs} (hf : s.fine) (u t : ByteArray) : jobsOf (s.drop u) t = if t = u then [] else jobsOf s t := by
  unfold jobsOf
  rw [drop_R]
  split
  · rename_i e; subst e; rw [find_drop_eq _ hf.Rk]; rfl
  · rename_i e; rw [find_drop_ne e]
theorem drop_tns {s : Qs} (hf : s.fine) {u t : ByteArray} (h : t ∈ tns (s.drop u)) : t ∈ tns s ∧ t ≠ u := by
  have h1 := (tns_jobs (hf.drop u)).1 h
  rw [drop_jobs hf] at h1
  split at h1
  · exact absurd rfl h1
  · exact ⟨(tns_jobs hf).2 h1, by assumption⟩
theorem Ct.drop {s : Qs} (hf : s.fine) {T : ByteArray} {w mo : Int} {se : Bool} (h : Ct s T w mo se) (u : ByteArray) : Ct (s.drop u) T w mo se :=
  ⟨by rw [(drop_keeps s u).2]; exact h.wt, h.w1, fun x hx => h.co x (by
    rw [drop_jobs hf] at hx
    split at hx
    · cases hx
    · exact hx), h.m0, fun e => hd_drop u (h.hd e)⟩
theorem Ct.pop {s : Qs} (hf : s.fine) {T : ByteArray} {w mo : Int} {se : Bool} (h : Ct s T w mo se) : Ct s.pop.2 T w mo se := by
  refine ⟨by rw [show s.pop.2.W = s.W from (pop_keeps _ s).2]; exact h.wt, h.w1, fun x hx => h.co x ?_, h.m0, fun e => hd_pop _ hf (h.hd e) h.wt h.co⟩
  rcases pop_jobs (s.mu + 1) hf with ⟨_, h2, _⟩ | ⟨j, _, h2, h3, _⟩
  · exact (h2 T) ▸ hx
  · by_cases e : T = j.tn
    · subst e
      rw [h2]
      exact List.mem_cons_of_mem _ hx
    · exact (h3 T e) ▸ hx
theorem Ct.clear {s : Qs} {T : ByteArray} {w mo : Int} {se : Bool} (h : Ct s T w mo se) (ht : T ∉ tns s) : Ct s T w mo false :=
  ⟨h.wt, h.w1, h.co, h.m0, fun _ a l h1 _ h3 => absurd (tns_iff.2 ⟨a, by rw [h1]; simp, h3⟩) ht⟩
def Mid (s : Qs) (A B : ByteArray) (wa ma : Int) (xa : Bool) (wb mb : Int) (xb : Bool) (sa sb lo hi : Int) : Prop :=
  xa = false → xb = false → A ∈ tns s → B ∈ tns s → ∃ c, sa * wb - sb * wa = pot s wa wb A B - c ∧ - (wb * ma) ≤ lo + c ∧ hi + c ≤ s.q * wa * wb + wa * mb
structure MidS (n : Nat) (s : Qs) (A B : ByteArray) (wa sa ma : Int) (xa : Bool) (wb sb mb : Int) (xb : Bool) (lo hi : Int) : Prop where
  a : Ct s A wa ma xa
  b : Ct s B wb mb xb
  s1 : 0 ≤ sa ∧ sa ≤ 1000000000 * n
  s2 : 0 ≤ sb ∧ sb ≤ 1000000000 * n
  l1 : -300000000000000 ≤ lo ∧ lo ≤ 0
  l2 : 0 ≤ hi ∧ hi ≤ 300000000000000
  mid : Mid s A B wa ma xa wb mb xb sa sb lo hi
structure Bn (n : Nat) (s : Qs) (A B : ByteArray) (wa sa ma : Int) (xa : Bool) (wb sb mb : Int) (xb : Bool) (lo hi : Int) : Prop extends MidS n s A B wa sa ma xa wb sb mb xb lo hi where
  off : (A ∈ tns s ∧ B ∈ tns s) ∨ (sa = 0 ∧ sb = 0 ∧ lo = 0 ∧ hi = 0)
section
variable {n : Nat} {s : Qs} {A B : ByteArray} {wa sa ma : Int} {xa : Bool} {wb sb mb : Int} {xb : Bool} {lo hi : Int}
theorem Bn.new (q : Int) : Bn 0 (Qs.new q) A B 1 0 0 false 1 0 0 false 0 0 :=
  ⟨⟨Ct.new q A, Ct.new q B, by omega, by omega, by omega, by omega, fun _ _ h => by cases h⟩, .inr ⟨rfl, rfl, rfl, rfl⟩⟩
theorem Bn.push (h : Bn n s A B wa sa ma xa wb sb mb xb lo hi) (hf : s.fine) (hAB : A ≠ B) {j : Jb} {ma' mb' : Int} (a1 : ma ≤ ma') (a2 : ma' ≤ 1000000000) (a3 : pushE s j = 0 → j.tn = A → j.co ≤ ma') (b1 : mb ≤ mb') (b2 : mb' ≤ 1000000000) (b3 : pushE s j = 0 → j.tn = B → j.co ≤ mb') :
    MidS (n + 1) (s.push j) A B wa sa ma' xa wb sb mb' xb lo hi := by
  have ca := h.a.push hf a1 a2 a3
  have cb := h.b.push hf b1 b2 b3
  have h1 := h.s1
  have h2 := h.s2
  refine ⟨ca, cb, by omega, by omega, h.l1, h.l2, fun x1 x2 hA hB => ?_⟩
  have wa1 := ca.w1
  have wb1 := cb.w1
  have hq : (s.push j).q = s.q := (push_keeps s j).1
  by_cases hin : A ∈ tns s ∧ B ∈ tns s
  · obtain ⟨c, g1, g2, g3⟩ := h.mid x1 x2 hin.1 hin.2
    have e1 : wb * ma ≤ wb * ma' := Int.mul_le_mul_of_nonneg_left a1 (by omega)
    have e2 : wa * mb ≤ wa * mb' := Int.mul_le_mul_of_nonneg_left b1 (by omega)
    exact ⟨c, by rw [pot_push hf j hin.1 hin.2]; exact g1, by omega, by rw [hq]; omega⟩
  · obtain ⟨rfl, rfl, rfl, rfl⟩ := h.off.resolve_left hin
    have hr := pot_range (hf.push j) hAB hA hB (ca.hd x1) (cb.hd x2) wa1.1 wb1.1 ca.co cb.co
    exact ⟨pot (s.push j) wa wb A B, by simp, by omega, by omega⟩
theorem Bn.weigh (h : Bn n s A B wa sa ma xa wb sb mb xb lo hi) {u : ByteArray} {k : Int} (h1 : weighE s u k = 0 → u ≠ A) (h2 : weighE s u k = 0 → u ≠ B) : MidS (n + 1) (s.weigh u k) A B wa sa ma xa wb sb mb xb lo hi := by
  have g1 := h.s1
  have g2 := h.s2
  refine ⟨h.a.weigh h1, h.b.weigh h2, by omega, by omega, h.l1, h.l2, fun x1 x2 hA hB => ?_⟩
  rw [(weigh_jobs s u k A).2] at hA hB
  obtain ⟨c, g1, g2, g3⟩ := h.mid x1 x2 hA hB
  exact ⟨c, by rw [pot_weigh]; exact g1, g2, by rw [(weigh_W s u k).2]; exact g3⟩
theorem Bn.weighA (h : Bn n s A B wa sa ma xa wb sb mb xb lo hi) (hAB : A ≠ B) {k : Int} (h1 : weighE s A k = 0) : MidS (n + 1) (s.weigh A k) A B k sa ma true wb sb mb xb lo hi := by
  have g1 := h.s1
  have g2 := h.s2
  exact ⟨h.a.weighed h1, h.b.weigh (fun _ => hAB), by omega, by omega, h.l1, h.l2, fun x1 => by cases x1⟩
theorem Bn.weighB (h : Bn n s A B wa sa ma xa wb sb mb xb lo hi) (hAB : A ≠ B) {k : Int} (h1 : weighE s B k = 0) : MidS (n + 1) (s.weigh B k) A B wa sa ma xa k sb mb true lo hi := by
  have g1 := h.s1
  have g2 := h.s2
  exact ⟨h.a.weigh (fun _ => Ne.symm hAB), h.b.weighed h1, by omega, by omega, h.l1, h.l2, fun _ x2 => by cases x2⟩
theorem Bn.drop (h : Bn n s A B wa sa ma xa wb sb mb xb lo hi) (hf : s.fine) (u : ByteArray) : MidS (n + 1) (s.drop u) A B wa sa ma xa wb sb mb xb lo hi := by
  have g1 := h.s1
  have g2 := h.s2
  refine ⟨h.a.drop hf u, h.b.drop hf u, by omega, by omega, h.l1, h.l2, fun x1 x2 hA hB => ?_⟩
  obtain ⟨a1, a2⟩ := drop_tns hf hA
  obtain ⟨b1, b2⟩ := drop_tns hf hB
  obtain ⟨c, g1, g2, g3⟩ := h.mid x1 x2 a1 b1
  exact ⟨c, by rw [pot_drop hf a2 b2]; exact g1, g2, by rw [(drop_keeps s u).1]; exact g3⟩
theorem pop_cost {s : Qs} (hf : s.fine) (t : ByteArray) : 0 ≤ costOf t s.pop.1 ∧ costOf t s.pop.1 ≤ 1000000000 := by
  rcases pop_jobs (s.mu + 1) hf with ⟨h1, _, _⟩ | ⟨j, h1, h2, _, _⟩
  · rw [show s.pop.1 = none from h1]; simp [costOf]
  · rw [show s.pop.1 = some j from h1]
    have hj : j ∈ jobsOf s j.tn := by rw [h2]; simp
    have h3 : 1 ≤ j.co ∧ j.co ≤ 1000 * s.q := by
      unfold jobsOf at hj
      cases hfa : findA s.R j.tn with
      | none => rw [hfa] at hj; cases hj
      | some a => rw [hfa] at hj; exact (hf.own a (findA_some hfa).1 j (by simpa using hj)).2
    have := hf.q2
    unfold costOf
    dsimp only
    split <;> omega
theorem Bn.pop (h : Bn n s A B wa sa ma xa wb sb mb xb lo hi) (hf : s.fine) (hAB : A ≠ B) : MidS (n + 1) s.pop.2 A B wa (sa + costOf A s.pop.1) ma xa wb (sb + costOf B s.pop.1) mb xb lo hi := by
  have g1 := h.s1
  have g2 := h.s2
  have k1 := pop_cost hf A
  have k2 := pop_cost hf B
  refine ⟨h.a.pop hf, h.b.pop hf, by omega, by omega, h.l1, h.l2, fun x1 x2 hA hB => ?_⟩
  obtain ⟨c, g1, g2, g3⟩ := h.mid x1 x2 (pop_tns _ _ _ hA) (pop_tns _ _ _ hB)
  have hp : pot s.pop.2 wa wb A B = _ := pop_pot hAB (s.mu + 1) hf hA hB h.a.wt h.b.wt
  refine ⟨c, ?_, g2, by rw [show s.pop.2.q = s.q from (pop_keeps _ s).1]; exact g3⟩
  rw [hp, Int.add_mul, Int.add_mul, Int.mul_comm (costOf A s.pop.1) wb, Int.mul_comm (costOf B s.pop.1) wa]
  show _ = pot s wa wb A B + wb * costOf A (popF (s.mu + 1) s).1 - wa * costOf B (popF (s.mu + 1) s).1 - c
  have e : s.pop = popF (s.mu + 1) s := rfl
  rw [e]
  omega
theorem MidS.offA (h : MidS n s A B wa sa ma xa wb sb mb xb lo hi) (hA : A ∉ tns s) : MidS n s A B wa sa ma false wb sb mb xb lo hi :=
  ⟨h.a.clear hA, h.b, h.s1, h.s2, h.l1, h.l2, fun _ _ h' => absurd h' hA⟩
theorem MidS.offB (h : MidS n s A B wa sa ma xa wb sb mb xb lo hi) (hB : B ∉ tns s) : MidS n s A B wa sa ma xa wb sb mb false lo hi :=
  ⟨h.a, h.b.clear hB, h.s1, h.s2, h.l1, h.l2, fun _ _ _ h' => absurd h' hB⟩
theorem MidS.reset (h : MidS n s A B wa sa ma xa wb sb mb xb lo hi) (hr : xa = true ∨ xb = true ∨ A ∉ tns s ∨ B ∉ tns s) : Bn n s A B wa 0 ma xa wb 0 mb xb 0 0 := by
  refine ⟨⟨h.a, h.b, by omega, by omega, by omega, by omega, fun x1 x2 hA hB => ?_⟩, .inr ⟨rfl, rfl, rfl, rfl⟩⟩
  rcases hr with e | e | e | e
  · rw [x1] at e; cases e
  · rw [x2] at e; cases e
  · exact absurd hA e
  · exact absurd hB e
theorem mul_le {x w X : Int} (h : 0 ≤ x ∧ x ≤ X) (hw : 1 ≤ w ∧ w ≤ 1000) : 0 ≤ x * w ∧ x * w ≤ X * 1000 := by
  refine ⟨Int.mul_nonneg h.1 (by omega), ?_⟩
  have h1 : x * w ≤ x * 1000 := Int.mul_le_mul_of_nonneg_left hw.2 h.1
  have h2 : x * 1000 ≤ X * 1000 := Int.mul_le_mul_of_nonneg_right h.2 (by omega)
  omega
theorem MidS.nums (h : MidS n s A B wa sa ma xa wb sb mb xb lo hi) (hf : s.fine) (hn : n ≤ 300) :
    (0 ≤ sa * wb ∧ sa * wb ≤ 300000000000000) ∧ (0 ≤ sb * wa ∧ sb * wa ≤ 300000000000000) ∧ (0 ≤ 3 * s.q ∧ 3 * s.q ≤ 3000000) ∧ (0 ≤ 3 * s.q * wa ∧ 3 * s.q * wa ≤ 3000000000) ∧ (0 ≤ 3 * s.q * wa * wb ∧ 3 * s.q * wa * wb ≤ 3000000000000) ∧
    (0 ≤ ma * wb ∧ ma * wb ≤ 1000000000000) ∧ (0 ≤ mb * wa ∧ mb * wa ≤ 1000000000000) := by
  have w1 := h.a.w1
  have w2 := h.b.w1
  have q1 := hf.q1
  have q2 := hf.q2
  have h1 := h.s1
  have h2 := h.s2
  have m1 := h.a.m0
  have m2 := h.b.m0
  have k1 := mul_le (X := 300000000000) (x := sa) (by omega) w2
  have k2 := mul_le (X := 300000000000) (x := sb) (by omega) w1
  have k3 := mul_le (X := 3000000) (x := 3 * s.q) (by omega) w1
  have k4 := mul_le (X := 3000000000) (x := 3 * s.q * wa) (by omega) w2
  have k5 := mul_le (X := 1000000000) m1 w2
  have k6 := mul_le (X := 1000000000) m2 w1
  refine ⟨by omega, by omega, by omega, by omega, by omega, by omega, by omega⟩
def minI (a b : Int) : Int := if b < a then b else a
def maxI (a b : Int) : Int := if b > a then b else a
theorem MidS.check (h : MidS n s A B wa sa ma false wb sb mb false lo hi) (hf : s.fine) (hn : n ≤ 300) (hAB : A ≠ B) (hA : A ∈ tns s) (hB : B ∈ tns s) :
    maxI hi (sa * wb - sb * wa) - minI lo (sa * wb - sb * wa) ≤ 3 * s.q * wa * wb + ma * wb + mb * wa ∧ Bn n s A B wa sa ma false wb sb mb false (minI lo (sa * wb - sb * wa)) (maxI hi (sa * wb - sb * wa)) := by
  obtain ⟨c, g1, g2, g3⟩ := h.mid rfl rfl hA hB
  obtain ⟨k1, k2, _, _, k5, _, _⟩ := h.nums hf hn
  have hr := pot_range hf hAB hA hB (h.a.hd rfl) (h.b.hd rfl) h.a.w1.1 h.b.w1.1 h.a.co h.b.co
  have l1 := h.l1
  have l2 := h.l2
  have hqq : 3 * s.q * wa * wb = 3 * (s.q * wa * wb) := by rw [Int.mul_assoc 3, Int.mul_assoc 3]
  have e1 : wb * ma = ma * wb := Int.mul_comm _ _
  have e2 : wa * mb = mb * wa := Int.mul_comm _ _
  rw [hqq] at k5 ⊢
  rw [e1] at g2 hr
  rw [e2] at g3 hr
  unfold minI maxI
  refine ⟨by split <;> split <;> omega, ⟨⟨h.a, h.b, h.s1, h.s2, by split <;> omega, by split <;> omega, fun _ _ _ _ => ⟨c, g1, ?_, ?_⟩⟩, .inl ⟨hA, hB⟩⟩⟩
  · rw [e1]; split <;> omega
  · rw [e2]; split <;> omega
end
end Go.Proofs.Ytmlednjhemnncaa
namespace Go.Proofs.Ytmlednjhemnncaa
open Go.RowKit
end Go.Proofs.Ytmlednjhemnncaa
