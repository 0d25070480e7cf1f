/-
  The law AliasEnds: the cases joined.
-/
import Derived.Test.YtffecbepmlaekaaLaw17Ends
namespace Go.Proofs.Ytffecbepmlaekaa
open Go.RowKit

theorem beginE_zero {s c k : Int} (h : beginE s c k = 0) : inB k 1 32 = true ∧ c = 0 ∧ k ≠ s := by
  unfold beginE at h
  cases h1 : inB k 1 32
  · simp [h1] at h
  · by_cases h2 : c = 0
    · by_cases h3 : k = s
      · simp [h2, h3] at h
        rw [h3] at h1
        simp [h1] at h
      · exact ⟨rfl, h2, h3⟩
    · simp [h1, h2] at h

theorem ends_any (n : ByteArray) (s c v k : Int) (A : Option Addr) (m cap : Nat) (zs : List Int) (w : World) (hn : n.size ≤ maxLen) (hm : m ≤ maxLen) (hr : Rd w w.heap.size 1 A m (zs.map (Value.int .i64))) :
    Calls Try.prog 7 #[.agg #[.string n, .int .i64 s, .int .i64 c, .int .i64 v], .int .i64 k, .slice A m cap] w fun e w' => e = .returned (.bool true) ∧ Below w.heap.size w w' := by
  by_cases e1 : (chF n s c v (beginE s c k) n s k 0).2.2.2.2 = 0
  · by_cases e2 : 100 < m
    · exact ends_no n s c v k A m cap w hn hm _ rfl (.inr ⟨by simpa using e1, e2⟩)
    obtain ⟨k1, E1, R1⟩ := chF_ok_of e1
    obtain ⟨z1, z2, z3, z4, z5, z6⟩ := chk_zero k1
    obtain ⟨i1, i2, i3⟩ := beginE_zero E1
    have hk0 : k ≠ 0 := by rw [inB_iff] at i1; omega
    have i1' : inB k 0 32 = true := by rw [inB_iff] at i1 ⊢; omega
    refine ends_yes n s c v k A m cap zs w hn (by omega) hr R1 hk0 (fun u hu => chk_mk z1 z2 i1' hu i3 (fun e => absurd e hk0)) ?_ ?_
    · show _ = _
      have h2 : pointE s = 0 := by simp [pointE, z2]
      rw [chF_ok (by simp [k1]) (by rw [h2]; decide)]
    · show _ = _
      have h2 : pointE k = 0 := by simp [pointE, i1]
      rw [chF_ok (by simp [k1]) (by rw [h2]; decide)]
  · exact ends_no n s c v k A m cap w hn hm _ rfl (.inl (by simpa using e1))

end Go.Proofs.Ytffecbepmlaekaa
