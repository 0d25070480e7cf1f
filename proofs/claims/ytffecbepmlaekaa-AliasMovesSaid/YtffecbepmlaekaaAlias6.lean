/-
  Contracts of Moved (alias and faasref17) and of faasref05.Same.
-/
import Derived.Test.YtffecbepmlaekaaAlias5
import Derived.Test.YtffecbepmlaekaaWords
import Derived.StillTailTactics
namespace Go.Proofs.Ytffecbepmlaekaa
open Go.RowKit

abbrev Al := ByteArray × Int × Int × Int
def pickA (a : Al) (id : ByteArray) : Int × Int := pickF a.1 a.2.1 a.2.2.1 a.2.2.2 id
/-- Do both aliases send the event to different versions? -/
def mvB (a b : Al) (id : ByteArray) : Bool := ((pickA a id).2 == 0 && (pickA b id).2 == 0) && ((pickA a id).1 != (pickA b id).1)
def movedL (a b : Al) (ids : List ByteArray) : List ByteArray := ids.filter (mvB a b)

theorem movedL_snoc (a b : Al) (ids : List ByteArray) (k : Nat) (s : ByteArray) (h : ids[k]? = some s) :
    movedL a b (ids.take (k + 1)) = movedL a b (ids.take k) ++ if mvB a b s then [s] else [] := by
  have hk : k < ids.length := by
    rcases Nat.lt_or_ge k ids.length with h' | h'
    · exact h'
    · rw [List.getElem?_eq_none h'] at h; cases h
  rw [List.getElem?_eq_getElem hk] at h
  injection h with h
  rw [List.take_succ_eq_append_getElem hk, movedL, movedL, List.filter_append, h]
  congr 1
  simp [List.filter_cons]

theorem movedL_le (a b : Al) (ids : List ByteArray) (k : Nat) : (movedL a b (ids.take k)).length ≤ k := by
  have := List.length_filter_le (mvB a b) (ids.take k)
  have h2 : (ids.take k).length ≤ k := List.length_take_le _ _
  unfold movedL; omega

set_option maxHeartbeats 4000000 in
theorem moved_any (n1 n2 : ByteArray) (s1 c1 v1 s2 c2 v2 : Int) (A : Option Addr) (n cap : Nat) (ids : List ByteArray) (w : World) (hn1 : n1.size ≤ maxLen) (hn2 : n2.size ≤ maxLen)
    (hids : ∀ s ∈ ids, s.size ≤ maxLen) (hr : Rd w w.heap.size 1 A n (ids.map Value.string)) (hn : n ≤ 500) :
    Calls Try.prog 24 #[.agg #[.string n1, .int .i64 s1, .int .i64 c1, .int .i64 v1], .agg #[.string n2, .int .i64 s2, .int .i64 c2, .int .i64 v2], .slice A n cap] w fun e w' =>
      ∃ v, e = .returned v ∧ w'.ownsRow w.heap.size 9 1 v (movedL (n1, s1, c1, v1) (n2, s2, c2, v2) ids).length ((movedL (n1, s1, c1, v1) (n2, s2, c2, v2) ids).map Value.string) ∧ Below w.heap.size w w' := by
  obtain ⟨i0, hi0, hz0, hz1, hz2⟩ := info_parts info_string
  have hlen : ids.length = n := by have := hr.len; simpa using this
  have Hlen := Lib.hid hlen; clear hlen
  have Hr := Lib.hid hr; clear hr
  have Hids := Lib.hid hids; clear hids
  go_enter Try.func24, Try.ntmps24
  go_wp2
  go_loopw [7, 16] (fun v i wr => ∃ k : Nat, k ≤ n ∧ i = .int .i64 k ∧
      wr.ownsRow (w.heap.size + 2) 9 1 v (movedL (n1, s1, c1, v1) (n2, s2, c2, v2) (ids.take k)).length ((movedL (n1, s1, c1, v1) (n2, s2, c2, v2) (ids.take k)).map Value.string) ∧
      Blk wr w.heap.size 23 #[.string n1, .int .i64 s1, .int .i64 c1, .int .i64 v1] ∧ Blk wr (w.heap.size + 1) 23 #[.string n2, .int .i64 s2, .int .i64 c2, .int .i64 v2] ∧ Below w.heap.size w wr)
    (fun _ i _ => n - (intOf i).toNat)
  case atStart => exact ⟨0, Nat.zero_le _, rfl, by simpa [movedL] using World.ownsRow_nil _ _ _ _, (Blk.new w _ _).alloc _, by simpa using Blk.new (w.alloc _) _ _, ((Below.refl _ _).alloc (Nat.le_refl _) _).alloc (by simp) _⟩
  case round =>
    obtain ⟨k, hk, rfl, hown, hb1, hb2, hbw⟩ := hrel
    by_cases hlt : k < n
    · obtain ⟨b, o, u, rfl, hbB, hu, hcell⟩ := (Hr.out.below hbw).one hlt
      obtain ⟨id, hid, rfl⟩ : ∃ id, ids[k]? = some id ∧ u = .string id := by
        rw [List.getElem?_map] at hu
        obtain ⟨id, h1, h2⟩ := Option.map_eq_some_iff.1 hu
        exact ⟨id, h1, h2.symm⟩
      have hidl : id.size ≤ maxLen := Hids.out id (List.mem_of_getElem? hid)
      have hsn := movedL_snoc (n1, s1, c1, v1) (n2, s2, c2, v2) ids k id hid
      have hle := movedL_le (n1, s1, c1, v1) (n2, s2, c2, v2) ids k
      have Hsn := Lib.hid hsn; clear hsn hu
      have Hid := Lib.hid hid; clear hid
      generalize hM : movedL (n1, s1, c1, v1) (n2, s2, c2, v2) (ids.take k) = M at hown Hsn hle
      clear hM
      obtain ⟨a0, a1, a2, a3, -, -, -⟩ := al_cells hb1
      obtain ⟨e0, e1, e2, e3, -, -, -⟩ := al_cells hb2
      have Hown := Lib.hid hown; clear hown
      have Hb1 := Lib.hid hb1; clear hb1
      have Hb2 := Lib.hid hb2; clear hb2
      go_wp2_with fail
      refine (pick_any n1 s1 c1 v1 id _ hn1 hidl).mono ?_
      rintro e w1 ⟨rfl, hbw1⟩
      have g1 : w.heap.size + 1 < wr.heap.size := Hb2.out.lt
      obtain ⟨e0, e1, e2, e3, -, -, -⟩ := al_cells (Hb2.out.below hbw1 g1)
      go_wp2_with fail
      refine (pick_any n2 s2 c2 v2 id _ hn2 hidl).mono ?_
      rintro e w2 ⟨rfl, hbw2⟩
      have hb12 : Below wr.heap.size wr w2 := hbw1.trans (hbw2.mono hbw1.size)
      have hown2 := own_below Hown.out hb12
      have hz := hb12.size
      have Hb12 := Lib.hid hb12; clear hb12
      have HB1 := Lib.hid (Hb1.out.below Hb12.out (by omega))
      have HB2 := Lib.hid (Hb2.out.below Hb12.out g1)
      have HBW := Lib.hid (hbw.trans (Hb12.out.mono hbw.size))
      clear hbw1 hbw2 hbw Hb1 Hb2 Hown Hb12
      clear a0 a1 a2 a3 e0 e1 e2 e3
      generalize hP : pickF n1 s1 c1 v1 id = p1
      generalize hP2 : pickF n2 s2 c2 v2 id = p2
      obtain ⟨x1, y1⟩ := p1
      obtain ⟨x2, y2⟩ := p2
      have hmv : mvB (n1, s1, c1, v1) (n2, s2, c2, v2) id = ((y1 == 0 && y2 == 0) && (x1 != x2)) := by simp only [mvB, pickA, hP, hP2]
      have Hmv := Lib.hid hmv; clear hmv hP hP2
      have skip : ((y1 == 0 && y2 == 0) && (x1 != x2)) = false → mvB (n1, s1, c1, v1) (n2, s2, c2, v2) id = false := fun h => Hmv.out.trans h
      have Skip := Lib.hid skip; clear skip
      cases q1 : (y1 == 0)
      · have hm := Lib.hid (Skip.out (by rw [q1]; rfl))
        go_wp2
        go_roundw
        case rel => exact ⟨k + 1, by omega, by go_num, by rw [Hsn.out, hm.out]; simpa using hown2, HB1.out, HB2.out, HBW.out⟩
        case measure => simp [intOf]; omega
      cases q2 : (y2 == 0)
      · have hm := Lib.hid (Skip.out (by rw [q1, q2]; rfl))
        go_wp2
        go_roundw
        case rel => exact ⟨k + 1, by omega, by go_num, by rw [Hsn.out, hm.out]; simpa using hown2, HB1.out, HB2.out, HBW.out⟩
        case measure => simp [intOf]; omega
      cases q3 : (x1 != x2)
      · have hm := Lib.hid (Skip.out (by rw [q1, q2, q3]; rfl))
        go_wp2
        go_roundw
        case rel => exact ⟨k + 1, by omega, by go_num, by rw [Hsn.out, hm.out]; simpa using hown2, HB1.out, HB2.out, HBW.out⟩
        case measure => simp [intOf]; omega
      have hm := Lib.hid (Hmv.out.trans (show ((y1 == 0 && y2 == 0) && (x1 != x2)) = true by rw [q1, q2, q3]; rfl))
      go_wp2_with (first
        | (at_builtin; refine wpList_append_own _ rfl (.tmp 43) (.tmp 45) 34 rfl (w.heap.size + 2) 9 i0 _ 1 16 Try.underlying34 hi0 hz0 hz1 hz2 rfl (by decide) _ _ _ rfl (hown2.alloc _) ⟨w2.heap.size, 0, none⟩ 1 1 [.string id] rfl rfl (cell_one_new _ _ _) (by intro u hu; simp at hu; subst hu; rfl) (by simp only [maxLen]; omega) (by omega) (by simp; omega) ?_; intro v' w3 hown3 hgrow3 hnil3))
      have hg3 : Below (w.heap.size + 2) w2 w3 := ((Below.refl _ _).alloc (by omega) _).trans (own_grown (hown2.alloc _) hgrow3 (by simp; omega))
      go_roundw
      case rel => exact ⟨k + 1, by omega, by go_num, by rw [Hsn.out, hm.out]; simpa using hown3, HB1.out.below hg3 (by omega), HB2.out.below hg3 (by omega), HBW.out.trans (hg3.mono (by omega))⟩
      case measure => simp [intOf]; omega
    · obtain rfl : k = n := by omega
      have htk : ids.take k = ids := List.take_of_length_le (by rw [Hlen.out]; exact Nat.le_refl _)
      rw [htk] at hown
      clear htk
      have Hown := Lib.hid hown; clear hown
      go_wp2
      go_ret
      have h2 : w.heap.size ≤ w.heap.size + 2 := by omega
      exact ⟨_, rfl, own_mono Hown.out h2, hbw⟩

end Go.Proofs.Ytffecbepmlaekaa
