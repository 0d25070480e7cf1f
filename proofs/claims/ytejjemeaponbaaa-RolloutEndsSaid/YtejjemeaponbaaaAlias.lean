/-
  Contracts of alias.Check, faasref17.Check and of the changes of an alias.
-/
import Derived.Test.YtejjemeaponbaaaIdent3
namespace Go.Proofs.Ytejjemeaponbaaa
open Go.RowKit

theorem bcell {W w1 : World} (hb : Below W.heap.size W w1) : (∀ b o, b < W.heap.size → w1.cell? ⟨b, o, none⟩ = W.cell? ⟨b, o, none⟩) ∧ (∀ b o, b < W.heap.size → w1.frozen? ⟨b, o, none⟩ = W.frozen? ⟨b, o, none⟩) :=
  ⟨fun b o h => hb.cell (p := ⟨b, o, none⟩) h, fun b o h => hb.frozen (p := ⟨b, o, none⟩) h⟩

/-- Is n from a to b? -/
def inB (n a b : Int) : Bool := decide (a ≤ n) && decide (n ≤ b)
theorem inB_iff (n a b : Int) : inB n a b = true ↔ a ≤ n ∧ n ≤ b := by simp [inB]

set_option maxHeartbeats 400000 in
theorem in_any (n a b : Int) (w : World) :
    Calls Try.prog 42 #[.int .i64 n, .int .i64 a, .int .i64 b] w fun e w' => e = .returned (.bool (inB n a b)) ∧ w = w' := by
  go_enter Try.func42, Try.ntmps42
  go_wp2
  all_goals
    go_ret
    exact ⟨retb (by simp [inB]; try omega), rfl⟩

/-- What Check returns. -/
def chk (n : ByteArray) (s c v : Int) : Int :=
  if nameB n = false then 4 else if (inB s 1 32 && inB c 0 32 && inB v 0 1000) = false then 2 else if c = 0 ∧ v ≠ 0 ∨ c = s then 10 else 0

set_option maxHeartbeats 1000000 in
theorem check_any (n : ByteArray) (s c v : Int) (w : World) (hn : n.size ≤ maxLen) :
    Calls Try.prog 38 #[.agg #[.string n, .int .i64 s, .int .i64 c, .int .i64 v]] w fun e w' => e = .returned (.int .i64 (chk n s c v)) ∧ Below w.heap.size w w' := by
  go_enter Try.func38, Try.ntmps38
  go_wp2_with fail
  refine (name_any n _ hn).mono ?_
  rintro e w1 ⟨rfl, hb⟩
  obtain ⟨hc, hf⟩ := bcell hb
  go_wp2_with (go_at_call 42; refine (in_any _ _ _ _).mono ?_; rintro e w' ⟨rfl, rfl⟩)
  all_goals
    go_ret
    exact ⟨reti (by simp_all [chk]), ((Below.refl _ _).alloc (Nat.le_refl _) _).trans (hb.mono (by simp))⟩

set_option maxHeartbeats 1000000 in
theorem rcheck_any (n : ByteArray) (s c v : Int) (w : World) (hn : n.size ≤ maxLen) :
    Calls Try.prog 39 #[.agg #[.string n, .int .i64 s, .int .i64 c, .int .i64 v]] w fun e w' => e = .returned (.int .i64 (chk n s c v)) ∧ Below w.heap.size w w' := by
  go_enter Try.func39, Try.ntmps39
  go_wp2_with fail
  refine (rname_any n _ hn).mono ?_
  rintro e w1 ⟨rfl, hb⟩
  obtain ⟨hc, hf⟩ := bcell hb
  go_wp2
  all_goals
    go_ret
    exact ⟨reti (by simp_all [chk, inB]; try omega), ((Below.refl _ _).alloc (Nat.le_refl _) _).trans (hb.mono (by simp))⟩

/-- What Point returns: name, stable version, canary, weight, error. -/
def pointF (n : ByteArray) (s c v k : Int) : ByteArray × Int × Int × Int × Int :=
  if chk n s c v ≠ 0 then (ByteArray.empty, 0, 0, 0, chk n s c v) else if inB k 1 32 = false then (ByteArray.empty, 0, 0, 0, 2) else (n, k, 0, 0, 0)

end Go.Proofs.Ytejjemeaponbaaa
