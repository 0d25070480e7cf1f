/-
  Contracts of (ending).end at both endings.
-/
import Derived.Test.YtejjemeaponbaaaRoll2
import Derived.Test.YtejjemeaponbaaaAlias3
import Derived.Laws.EntriesVeiled
namespace Go.Proofs.Ytejjemeaponbaaa
open Go.RowKit

theorem Blk.drewB {w : World} {g : Nat} {t : TypeId} {cs : Array Value} (h : Blk w g t cs) : Blk w.drew g t cs := h

set_option maxHeartbeats 4000000 in
theorem end_back (st s c v a si : Int) (nm : ByteArray) (A : Option Addr) (n k : Nat) (l : List Stg) (now : Int) (w : World) (hn : nm.size ≤ maxLen) (hr : Rd w w.heap.size 2 A n (cellsS l)) (h1 : 1 ≤ n) (h8 : n ≤ 8)
    (H : Hid (chF nm s c v (canE c) nm s 0 0 = (nm, s, 0, 0, 0))) :
    Calls Try.prog 32 #[.agg #[.int .i64 3, (.func (.func 44) #[] #[])], .agg #[.int .i64 st, .string nm, .int .i64 s, .int .i64 c, .int .i64 v, .slice A n k, .int .i64 a, .int .i64 si], .int .i64 now] w fun e w' =>
      ∃ u, e = .returned (.tuple #[.agg #[.int .i64 3, .string nm, .int .i64 s, .int .i64 0, .int .i64 0, u, .int .i64 a, .int .i64 now], .int .i64 0]) ∧ w'.ownsRow w.heap.size 34 2 u n (cellsS l) ∧ Below w.heap.size w w' := by
  have Hr := Lib.hid hr; clear hr
  go_enter Try.func32, Try.ntmps32
  go_wp2_with fail
  refine (abort_any nm s c v _ hn).mono ?_
  rw [H.out]; unfold alT
  rintro e w1 ⟨rfl, hb⟩
  have bE : Blk w1 w.heap.size 57 #[.int .i64 3, (.func (.func 44) #[] #[])] := (((Blk.new w _ _).alloc _).alloc _).below hb (by simp; try omega)
  have bR : Blk w1 (w.heap.size + 1) 29 #[.int .i64 st, .string nm, .int .i64 s, .int .i64 c, .int .i64 v, .slice A n k, .int .i64 a, .int .i64 si] := by
    have h : Blk ((w.alloc (.cells #[.int .i64 3, (.func (.func 44) #[] #[])] 57)).alloc (.cells #[.int .i64 st, .string nm, .int .i64 s, .int .i64 c, .int .i64 v, .slice A n k, .int .i64 a, .int .i64 si] 29)) (w.heap.size + 1) 29 #[.int .i64 st, .string nm, .int .i64 s, .int .i64 c, .int .i64 v, .slice A n k, .int .i64 a, .int .i64 si] := by simpa using Blk.new (w.alloc (.cells #[.int .i64 3, (.func (.func 44) #[] #[])] 57)) 29 #[.int .i64 st, .string nm, .int .i64 s, .int .i64 c, .int .i64 v, .slice A n k, .int .i64 a, .int .i64 si]
    exact (h.alloc _).below hb (by simp; try omega)
  have bZ : Blk w1 (w.heap.size + 2) 29 #[.int .i64 0, .string ⟨#[]⟩, .int .i64 0, .int .i64 0, .int .i64 0, .slice none 0 0, .int .i64 0, .int .i64 0] := by
    have h : Blk (((w.alloc (.cells #[.int .i64 3, (.func (.func 44) #[] #[])] 57)).alloc (.cells #[.int .i64 st, .string nm, .int .i64 s, .int .i64 c, .int .i64 v, .slice A n k, .int .i64 a, .int .i64 si] 29)).alloc (.cells #[.int .i64 0, .string ⟨#[]⟩, .int .i64 0, .int .i64 0, .int .i64 0, .slice none 0 0, .int .i64 0, .int .i64 0] 29)) (w.heap.size + 2) 29 #[.int .i64 0, .string ⟨#[]⟩, .int .i64 0, .int .i64 0, .int .i64 0, .slice none 0 0, .int .i64 0, .int .i64 0] := by simpa using Blk.new ((w.alloc (.cells #[.int .i64 3, (.func (.func 44) #[] #[])] 57)).alloc (.cells #[.int .i64 st, .string nm, .int .i64 s, .int .i64 c, .int .i64 v, .slice A n k, .int .i64 a, .int .i64 si] 29)) 29 #[.int .i64 0, .string ⟨#[]⟩, .int .i64 0, .int .i64 0, .int .i64 0, .slice none 0 0, .int .i64 0, .int .i64 0]
    exact h.below hb (by simp; try omega)
  have hbw : Below w.heap.size w w1 := ((((Below.refl w.heap.size w).alloc (Nat.le_refl _) _).alloc (by simp) _).alloc (by simp; try omega) _).trans (hb.mono (by simp; omega))
  have hz := hb.size
  simp at hz
  clear hb
  go_wp2_with fail
  have bE2 := bE.alloc (.cells #[.string nm, .int .i64 s, .int .i64 0, .int .i64 0] 23)
  have bR2 := bR.alloc (.cells #[.string nm, .int .i64 s, .int .i64 0, .int .i64 0] 23)
  have bZ2 := bZ.alloc (.cells #[.string nm, .int .i64 s, .int .i64 0, .int .i64 0] 23)
  have bA2 : Blk (w1.alloc (.cells #[.string nm, .int .i64 s, .int .i64 0, .int .i64 0] 23)) w1.heap.size 23 #[.string nm, .int .i64 s, .int .i64 0, .int .i64 0] := Blk.new w1 _ _
  have hbw2 := hbw.alloc hbw.size (.cells #[.string nm, .int .i64 s, .int .i64 0, .int .i64 0] 23)
  have hz2 : w.heap.size + 2 < w1.heap.size := by omega
  have hz3 : w1.heap.size < (w1.alloc (.cells #[.string nm, .int .i64 s, .int .i64 0, .int .i64 0] 23)).heap.size := by simp
  clear bE bR bZ hbw hz
  generalize hW : w1.alloc (.cells #[.string nm, .int .i64 s, .int .i64 0, .int .i64 0] 23) = W at *
  clear hW
  generalize w1.heap.size = g at *
  have e0 : W.cell? ⟨w.heap.size, 0, none⟩ = some (.int .i64 3) := bE2.cell 0
  have e1 : W.cell? ⟨w.heap.size, 1, none⟩ = some (.func (.func 44) #[] #[]) := bE2.cell 1
  obtain ⟨a0, a1, a2, a3, -, -, -⟩ := al_cells bA2
  obtain ⟨c0, c1, c2, c3, c4, c5, c6, c7⟩ := ro_cells bR2
  obtain ⟨f0, f1, f2, f3, f4, f5, f6, f7⟩ := ro_frozen bR2
  have HE := Lib.hid bE2; clear bE2
  have HR := Lib.hid bR2; clear bR2
  have HZ := Lib.hid bZ2; clear bZ2
  have HA := Lib.hid bA2; clear bA2
  go_region
  go_wp2_with fail
  have hbw3 : Below w.heap.size w ((((((W.setCell ⟨w.heap.size + 1, 0, none⟩ (.int .i64 3)).setCell ⟨w.heap.size + 1, 1, none⟩ (.string nm)).setCell ⟨w.heap.size + 1, 2, none⟩ (.int .i64 s)).setCell ⟨w.heap.size + 1, 3, none⟩ (.int .i64 0)).setCell ⟨w.heap.size + 1, 4, none⟩ (.int .i64 0)).setCell ⟨w.heap.size + 1, 7, none⟩ (.int .i64 now)).drew := Below.drew ((((((hbw2.setCell (Nat.le_add_right _ 1) _).setCell (Nat.le_add_right _ 1) _).setCell (Nat.le_add_right _ 1) _).setCell (Nat.le_add_right _ 1) _).setCell (Nat.le_add_right _ 1) _).setCell (Nat.le_add_right _ 1) _)
  have bZ3 : Blk ((((((W.setCell ⟨w.heap.size + 1, 0, none⟩ (.int .i64 3)).setCell ⟨w.heap.size + 1, 1, none⟩ (.string nm)).setCell ⟨w.heap.size + 1, 2, none⟩ (.int .i64 s)).setCell ⟨w.heap.size + 1, 3, none⟩ (.int .i64 0)).setCell ⟨w.heap.size + 1, 4, none⟩ (.int .i64 0)).setCell ⟨w.heap.size + 1, 7, none⟩ (.int .i64 now)).drew (w.heap.size + 2) 29 #[.int .i64 0, .string ⟨#[]⟩, .int .i64 0, .int .i64 0, .int .i64 0, .slice none 0 0, .int .i64 0, .int .i64 0] := Blk.drewB ((((((HZ.out.far (by simp) _).far (by simp) _).far (by simp) _).far (by simp) _).far (by simp) _).far (by simp) _)
  have hs3 : W.heap.size = ((((((W.setCell ⟨w.heap.size + 1, 0, none⟩ (.int .i64 3)).setCell ⟨w.heap.size + 1, 1, none⟩ (.string nm)).setCell ⟨w.heap.size + 1, 2, none⟩ (.int .i64 s)).setCell ⟨w.heap.size + 1, 3, none⟩ (.int .i64 0)).setCell ⟨w.heap.size + 1, 4, none⟩ (.int .i64 0)).setCell ⟨w.heap.size + 1, 7, none⟩ (.int .i64 now)).drew.heap.size := by simp only [World.size_drew, World.size_setCell]
  have hle : w.heap.size + 2 < W.heap.size := by omega
  clear c0 c1 c2 c3 c4 c5 c6 c7 f0 f1 f2 f3 f4 f5 f6 f7 e0 e1 a0 a1 a2 a3 HR HE HA HZ hbw2 hz2 hz3
  generalize ((((((W.setCell ⟨w.heap.size + 1, 0, none⟩ (.int .i64 3)).setCell ⟨w.heap.size + 1, 1, none⟩ (.string nm)).setCell ⟨w.heap.size + 1, 2, none⟩ (.int .i64 s)).setCell ⟨w.heap.size + 1, 3, none⟩ (.int .i64 0)).setCell ⟨w.heap.size + 1, 4, none⟩ (.int .i64 0)).setCell ⟨w.heap.size + 1, 7, none⟩ (.int .i64 now)).drew = W3 at hbw3 bZ3 hs3 ⊢
  rw [hs3] at hle
  clear hs3
  refine (own_any 3 s 0 0 a now nm A n k l W3 ((Hr.out.below hbw3).more hbw3.size) h1 h8).mono ?_
  rintro e w4 ⟨u, rfl, hown, hb4⟩
  obtain ⟨A', k', rfl⟩ := own_parts hown
  have bZ4 := bZ3.below hb4 hle
  have hbw4 := hbw3.trans (hb4.mono hbw3.size)
  obtain ⟨d0, d1, d2, d3, d4, d5, d6, d7⟩ := ro_cells bZ4
  obtain ⟨g0, g1, g2, g3, g4, g5, g6, g7⟩ := ro_frozen bZ4
  have Hown := Lib.hid hown; clear hown
  clear bZ4 hb4 bZ3 hbw3
  go_wp2
  refine bodyPost_ret (v := .tuple #[.agg #[.int .i64 3, .string nm, .int .i64 s, .int .i64 0, .int .i64 0, .slice A' n k', .int .i64 a, .int .i64 now], .int .i64 0]) (by simp [results, Try.results32, go_sem, d0, d1, d2, d3, d4, d5, d6, d7]) rfl ⟨_, rfl, ?_, ?_⟩
  · exact own_mono (base := W3.heap.size) (ownsRow_setCell_below (ownsRow_setCell_below (ownsRow_setCell_below (ownsRow_setCell_below (ownsRow_setCell_below (ownsRow_setCell_below (ownsRow_setCell_below (ownsRow_setCell_below Hown.out hle _) hle _) hle _) hle _) hle _) hle _) hle _) hle _) (by omega)
  · exact ((((((((hbw4.setCell (Nat.le_add_right _ 2) _).setCell (Nat.le_add_right _ 2) _).setCell (Nat.le_add_right _ 2) _).setCell (Nat.le_add_right _ 2) _).setCell (Nat.le_add_right _ 2) _).setCell (Nat.le_add_right _ 2) _).setCell (Nat.le_add_right _ 2) _).setCell (Nat.le_add_right _ 2) _)

set_option maxHeartbeats 4000000 in
theorem end_done (st s c v a si : Int) (nm : ByteArray) (A : Option Addr) (n k : Nat) (l : List Stg) (now : Int) (w : World) (hn : nm.size ≤ maxLen) (hr : Rd w w.heap.size 2 A n (cellsS l)) (h1 : 1 ≤ n) (h8 : n ≤ 8)
    (H : Hid (chF nm s c v (canE c) nm c 0 0 = (nm, c, 0, 0, 0))) :
    Calls Try.prog 32 #[.agg #[.int .i64 2, (.func (.func 45) #[] #[])], .agg #[.int .i64 st, .string nm, .int .i64 s, .int .i64 c, .int .i64 v, .slice A n k, .int .i64 a, .int .i64 si], .int .i64 now] w fun e w' =>
      ∃ u, e = .returned (.tuple #[.agg #[.int .i64 2, .string nm, .int .i64 c, .int .i64 0, .int .i64 0, u, .int .i64 a, .int .i64 now], .int .i64 0]) ∧ w'.ownsRow w.heap.size 34 2 u n (cellsS l) ∧ Below w.heap.size w w' := by
  have Hr := Lib.hid hr; clear hr
  go_enter Try.func32, Try.ntmps32
  go_wp2_with fail
  refine (promote_any nm s c v _ hn).mono ?_
  rw [H.out]; unfold alT
  rintro e w1 ⟨rfl, hb⟩
  have bE : Blk w1 w.heap.size 57 #[.int .i64 2, (.func (.func 45) #[] #[])] := (((Blk.new w _ _).alloc _).alloc _).below hb (by simp; try omega)
  have bR : Blk w1 (w.heap.size + 1) 29 #[.int .i64 st, .string nm, .int .i64 s, .int .i64 c, .int .i64 v, .slice A n k, .int .i64 a, .int .i64 si] := by
    have h : Blk ((w.alloc (.cells #[.int .i64 2, (.func (.func 45) #[] #[])] 57)).alloc (.cells #[.int .i64 st, .string nm, .int .i64 s, .int .i64 c, .int .i64 v, .slice A n k, .int .i64 a, .int .i64 si] 29)) (w.heap.size + 1) 29 #[.int .i64 st, .string nm, .int .i64 s, .int .i64 c, .int .i64 v, .slice A n k, .int .i64 a, .int .i64 si] := by simpa using Blk.new (w.alloc (.cells #[.int .i64 2, (.func (.func 45) #[] #[])] 57)) 29 #[.int .i64 st, .string nm, .int .i64 s, .int .i64 c, .int .i64 v, .slice A n k, .int .i64 a, .int .i64 si]
    exact (h.alloc _).below hb (by simp; try omega)
  have bZ : Blk w1 (w.heap.size + 2) 29 #[.int .i64 0, .string ⟨#[]⟩, .int .i64 0, .int .i64 0, .int .i64 0, .slice none 0 0, .int .i64 0, .int .i64 0] := by
    have h : Blk (((w.alloc (.cells #[.int .i64 2, (.func (.func 45) #[] #[])] 57)).alloc (.cells #[.int .i64 st, .string nm, .int .i64 s, .int .i64 c, .int .i64 v, .slice A n k, .int .i64 a, .int .i64 si] 29)).alloc (.cells #[.int .i64 0, .string ⟨#[]⟩, .int .i64 0, .int .i64 0, .int .i64 0, .slice none 0 0, .int .i64 0, .int .i64 0] 29)) (w.heap.size + 2) 29 #[.int .i64 0, .string ⟨#[]⟩, .int .i64 0, .int .i64 0, .int .i64 0, .slice none 0 0, .int .i64 0, .int .i64 0] := by simpa using Blk.new ((w.alloc (.cells #[.int .i64 2, (.func (.func 45) #[] #[])] 57)).alloc (.cells #[.int .i64 st, .string nm, .int .i64 s, .int .i64 c, .int .i64 v, .slice A n k, .int .i64 a, .int .i64 si] 29)) 29 #[.int .i64 0, .string ⟨#[]⟩, .int .i64 0, .int .i64 0, .int .i64 0, .slice none 0 0, .int .i64 0, .int .i64 0]
    exact h.below hb (by simp; try omega)
  have hbw : Below w.heap.size w w1 := ((((Below.refl w.heap.size w).alloc (Nat.le_refl _) _).alloc (by simp) _).alloc (by simp; try omega) _).trans (hb.mono (by simp; omega))
  have hz := hb.size
  simp at hz
  clear hb
  go_wp2_with fail
  have bE2 := bE.alloc (.cells #[.string nm, .int .i64 c, .int .i64 0, .int .i64 0] 23)
  have bR2 := bR.alloc (.cells #[.string nm, .int .i64 c, .int .i64 0, .int .i64 0] 23)
  have bZ2 := bZ.alloc (.cells #[.string nm, .int .i64 c, .int .i64 0, .int .i64 0] 23)
  have bA2 : Blk (w1.alloc (.cells #[.string nm, .int .i64 c, .int .i64 0, .int .i64 0] 23)) w1.heap.size 23 #[.string nm, .int .i64 c, .int .i64 0, .int .i64 0] := Blk.new w1 _ _
  have hbw2 := hbw.alloc hbw.size (.cells #[.string nm, .int .i64 c, .int .i64 0, .int .i64 0] 23)
  have hz2 : w.heap.size + 2 < w1.heap.size := by omega
  have hz3 : w1.heap.size < (w1.alloc (.cells #[.string nm, .int .i64 c, .int .i64 0, .int .i64 0] 23)).heap.size := by simp
  clear bE bR bZ hbw hz
  generalize hW : w1.alloc (.cells #[.string nm, .int .i64 c, .int .i64 0, .int .i64 0] 23) = W at *
  clear hW
  generalize w1.heap.size = g at *
  have e0 : W.cell? ⟨w.heap.size, 0, none⟩ = some (.int .i64 2) := bE2.cell 0
  have e1 : W.cell? ⟨w.heap.size, 1, none⟩ = some (.func (.func 45) #[] #[]) := bE2.cell 1
  obtain ⟨a0, a1, a2, a3, -, -, -⟩ := al_cells bA2
  obtain ⟨c0, c1, c2, c3, c4, c5, c6, c7⟩ := ro_cells bR2
  obtain ⟨f0, f1, f2, f3, f4, f5, f6, f7⟩ := ro_frozen bR2
  have HE := Lib.hid bE2; clear bE2
  have HR := Lib.hid bR2; clear bR2
  have HZ := Lib.hid bZ2; clear bZ2
  have HA := Lib.hid bA2; clear bA2
  go_region
  go_wp2_with fail
  have hbw3 : Below w.heap.size w ((((((W.setCell ⟨w.heap.size + 1, 0, none⟩ (.int .i64 2)).setCell ⟨w.heap.size + 1, 1, none⟩ (.string nm)).setCell ⟨w.heap.size + 1, 2, none⟩ (.int .i64 c)).setCell ⟨w.heap.size + 1, 3, none⟩ (.int .i64 0)).setCell ⟨w.heap.size + 1, 4, none⟩ (.int .i64 0)).setCell ⟨w.heap.size + 1, 7, none⟩ (.int .i64 now)).drew := Below.drew ((((((hbw2.setCell (Nat.le_add_right _ 1) _).setCell (Nat.le_add_right _ 1) _).setCell (Nat.le_add_right _ 1) _).setCell (Nat.le_add_right _ 1) _).setCell (Nat.le_add_right _ 1) _).setCell (Nat.le_add_right _ 1) _)
  have bZ3 : Blk ((((((W.setCell ⟨w.heap.size + 1, 0, none⟩ (.int .i64 2)).setCell ⟨w.heap.size + 1, 1, none⟩ (.string nm)).setCell ⟨w.heap.size + 1, 2, none⟩ (.int .i64 c)).setCell ⟨w.heap.size + 1, 3, none⟩ (.int .i64 0)).setCell ⟨w.heap.size + 1, 4, none⟩ (.int .i64 0)).setCell ⟨w.heap.size + 1, 7, none⟩ (.int .i64 now)).drew (w.heap.size + 2) 29 #[.int .i64 0, .string ⟨#[]⟩, .int .i64 0, .int .i64 0, .int .i64 0, .slice none 0 0, .int .i64 0, .int .i64 0] := Blk.drewB ((((((HZ.out.far (by simp) _).far (by simp) _).far (by simp) _).far (by simp) _).far (by simp) _).far (by simp) _)
  have hs3 : W.heap.size = ((((((W.setCell ⟨w.heap.size + 1, 0, none⟩ (.int .i64 2)).setCell ⟨w.heap.size + 1, 1, none⟩ (.string nm)).setCell ⟨w.heap.size + 1, 2, none⟩ (.int .i64 c)).setCell ⟨w.heap.size + 1, 3, none⟩ (.int .i64 0)).setCell ⟨w.heap.size + 1, 4, none⟩ (.int .i64 0)).setCell ⟨w.heap.size + 1, 7, none⟩ (.int .i64 now)).drew.heap.size := by simp only [World.size_drew, World.size_setCell]
  have hle : w.heap.size + 2 < W.heap.size := by omega
  clear c0 c1 c2 c3 c4 c5 c6 c7 f0 f1 f2 f3 f4 f5 f6 f7 e0 e1 a0 a1 a2 a3 HR HE HA HZ hbw2 hz2 hz3
  generalize ((((((W.setCell ⟨w.heap.size + 1, 0, none⟩ (.int .i64 2)).setCell ⟨w.heap.size + 1, 1, none⟩ (.string nm)).setCell ⟨w.heap.size + 1, 2, none⟩ (.int .i64 c)).setCell ⟨w.heap.size + 1, 3, none⟩ (.int .i64 0)).setCell ⟨w.heap.size + 1, 4, none⟩ (.int .i64 0)).setCell ⟨w.heap.size + 1, 7, none⟩ (.int .i64 now)).drew = W3 at hbw3 bZ3 hs3 ⊢
  rw [hs3] at hle
  clear hs3
  refine (own_any 2 c 0 0 a now nm A n k l W3 ((Hr.out.below hbw3).more hbw3.size) h1 h8).mono ?_
  rintro e w4 ⟨u, rfl, hown, hb4⟩
  obtain ⟨A', k', rfl⟩ := own_parts hown
  have bZ4 := bZ3.below hb4 hle
  have hbw4 := hbw3.trans (hb4.mono hbw3.size)
  obtain ⟨d0, d1, d2, d3, d4, d5, d6, d7⟩ := ro_cells bZ4
  obtain ⟨g0, g1, g2, g3, g4, g5, g6, g7⟩ := ro_frozen bZ4
  have Hown := Lib.hid hown; clear hown
  clear bZ4 hb4 bZ3 hbw3
  go_wp2
  refine bodyPost_ret (v := .tuple #[.agg #[.int .i64 2, .string nm, .int .i64 c, .int .i64 0, .int .i64 0, .slice A' n k', .int .i64 a, .int .i64 now], .int .i64 0]) (by simp [results, Try.results32, go_sem, d0, d1, d2, d3, d4, d5, d6, d7]) rfl ⟨_, rfl, ?_, ?_⟩
  · exact own_mono (base := W3.heap.size) (ownsRow_setCell_below (ownsRow_setCell_below (ownsRow_setCell_below (ownsRow_setCell_below (ownsRow_setCell_below (ownsRow_setCell_below (ownsRow_setCell_below (ownsRow_setCell_below Hown.out hle _) hle _) hle _) hle _) hle _) hle _) hle _) hle _) (by omega)
  · exact ((((((((hbw4.setCell (Nat.le_add_right _ 2) _).setCell (Nat.le_add_right _ 2) _).setCell (Nat.le_add_right _ 2) _).setCell (Nat.le_add_right _ 2) _).setCell (Nat.le_add_right _ 2) _).setCell (Nat.le_add_right _ 2) _).setCell (Nat.le_add_right _ 2) _).setCell (Nat.le_add_right _ 2) _)

end Go.Proofs.Ytejjemeaponbaaa
