/-
  The walk of the law AliasPicks: it returns true, and what was there before is as it was.
-/
import Derived.Test.YtffecbepmlaekaaAwake17
namespace Go.Proofs.Ytffecbepmlaekaa
open Go.RowKit

set_option maxHeartbeats 4000000 in
theorem picks_any (n : ByteArray) (s c v : Int) (id : ByteArray) (w : World) (hn : n.size ≤ maxLen) (hid : id.size ≤ maxLen) :
    Calls Try.prog 4 #[.agg #[.string n, .int .i64 s, .int .i64 c, .int .i64 v], .string id] w fun e w' => e = .returned (.bool true) ∧ Below w.heap.size w w' := by
  obtain ⟨p, q, hR⟩ : ∃ p q, pickF n s c v id = (p, q) := ⟨_, _, rfl⟩
  have HR := Lib.hid hR; clear hR
  go_enter Try.func4, Try.ntmps4
  go_wp2_with fail
  refine (pick_any n s c v id _ hn hid).mono ?_
  rw [HR.out]
  rintro e w1 ⟨rfl, hb⟩
  have hbw : Below w.heap.size w w1 := ((Below.refl _ _).alloc (Nat.le_refl _) _).trans (hb.mono (by simp))
  have hbox : Blk w1 w.heap.size 23 #[.string n, .int .i64 s, .int .i64 c, .int .i64 v] := (Blk.new w _ _).below hb (by simp)
  obtain ⟨b0, b1, b2, b3, -, -, -⟩ := al_cells hbox
  clear hb hbox
  go_wp2_with fail
  refine (rpick_any n s c v id _ hn hid).mono ?_
  rw [HR.out]
  rintro e w2 ⟨rfl, hb2⟩
  have hbw2 : Below w.heap.size w w2 := hbw.trans (hb2.mono hbw.size)
  clear hb2 b0 b1 b2 b3 hbw
  go_wp2_with fail
  refine (awake_any _).mono ?_
  rintro e w3 ⟨rfl, hb3⟩
  have hbw3 : Below w.heap.size w w3 := hbw2.trans (hb3.mono hbw2.size)
  clear hb3 hbw2
  go_wp2
  go_ret
  exact ⟨rfl, hbw3⟩

end Go.Proofs.Ytffecbepmlaekaa
