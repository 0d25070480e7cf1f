/-
  Contracts of slices.Clone at stages, of both functions own, and of both functions Valid.
-/
import Derived.Test.YtejjemeaponbaaaRoll
namespace Go.Proofs.Ytejjemeaponbaaa
open Go.RowKit

theorem addr_add (b o j : Nat) : (⟨b, o, none⟩ : Addr).add j = ⟨b, o + j, none⟩ := by
  unfold Addr.add; split
  · rename_i h; subst h; rfl
  · rfl

theorem info_stage : (Try.prog.info? 34).map (fun i => (i.zero, i.size, i.bytes)) = some (some (.agg #[.int .i64 0, .int .i64 0]), 2, 16) := by kernel_rfl

theorem oneS (l : List Stg) : ∀ u ∈ cellsS l, u.oneCell' = true := by
  intro u hu
  simp only [cellsS, List.mem_flatMap] at hu
  obtain ⟨s, _, hs⟩ := hu
  simp at hs
  rcases hs with rfl | rfl <;> rfl

set_option maxHeartbeats 1000000 in
theorem clone_any (A : Option Addr) (n c : Nat) (l : List Stg) (w : World) (hr : Rd w w.heap.size 2 A n (cellsS l)) (h1 : 1 ≤ n) (h8 : n ≤ 8) :
    Calls Try.prog 43 #[.slice A n c] w fun e w' => ∃ v, e = .returned v ∧ w'.ownsRow w.heap.size 34 2 v n (cellsS l) ∧ Below w.heap.size w w' := by
  obtain ⟨i0, hi0, hz0, hz1, hz2⟩ := info_parts info_stage
  obtain ⟨b, o, rfl, hb, hcell⟩ := hr.here (by omega)
  have hlen := hr.len
  clear hr
  have Hcell := Lib.hid hcell; clear hcell
  have Hlen := Lib.hid hlen; clear hlen
  have hnil := fun w => Lib.run_eql_slice_nil (P := Try.prog) w 24 34 (some ⟨b, o, none⟩) n c 0 0 Try.underlying24
  have hown := World.ownsRow_lit (base := w.heap.size) (e := 34) (size := 2) w #[] 0 (Nat.le_refl _) (by simp [maxLen]) (by simp)
  have Hown := Lib.hid hown; clear hown
  go_enter Try.func43, Try.ntmps43
  go_wp2_with (first
    | (at_builtin; refine wpList_append_own _ rfl (.tmp 5) (.tmp 6) 24 rfl w.heap.size 34 i0 _ 2 16 Try.underlying24 hi0 hz0 hz1 hz2 rfl (by decide) _ 0 [] rfl Hown.out ⟨b, o, none⟩ n c (cellsS l) rfl Hlen.out (fun j u hu => by rw [addr_add]; exact (World.cell?_alloc_lt _ _ _ hb).trans (Hcell.out j u hu)) (oneS l) (by simp only [maxLen]; omega) (by omega) (by simp) ?_; intro v' w3 hown3 hgrow3 hnil3))
  go_ret
  rw [Nat.zero_add, List.nil_append] at hown3
  exact ⟨v', rfl, hown3, ((Below.refl _ _).alloc (Nat.le_refl _) _).trans (own_grown Hown.out hgrow3 (by simp))⟩

theorem ro_cells {w : World} {b : Nat} {t : TypeId} {x0 x1 x2 x3 x4 x5 x6 x7 : Value} (h : Blk w b t #[x0, x1, x2, x3, x4, x5, x6, x7]) :
    w.cell? ⟨b, 0, none⟩ = some x0 ∧ w.cell? ⟨b, 1, none⟩ = some x1 ∧ w.cell? ⟨b, 2, none⟩ = some x2 ∧ w.cell? ⟨b, 3, none⟩ = some x3 ∧
    w.cell? ⟨b, 4, none⟩ = some x4 ∧ w.cell? ⟨b, 5, none⟩ = some x5 ∧ w.cell? ⟨b, 6, none⟩ = some x6 ∧ w.cell? ⟨b, 7, none⟩ = some x7 :=
  ⟨h.cell 0, h.cell 1, h.cell 2, h.cell 3, h.cell 4, h.cell 5, h.cell 6, h.cell 7⟩

theorem ro_frozen {w : World} {b : Nat} {t : TypeId} {cs : Array Value} (h : Blk w b t cs) :
    w.frozen? ⟨b, 0, none⟩ = false ∧ w.frozen? ⟨b, 1, none⟩ = false ∧ w.frozen? ⟨b, 2, none⟩ = false ∧ w.frozen? ⟨b, 3, none⟩ = false ∧
    w.frozen? ⟨b, 4, none⟩ = false ∧ w.frozen? ⟨b, 5, none⟩ = false ∧ w.frozen? ⟨b, 6, none⟩ = false ∧ w.frozen? ⟨b, 7, none⟩ = false :=
  ⟨h.frozen 0, h.frozen 1, h.frozen 2, h.frozen 3, h.frozen 4, h.frozen 5, h.frozen 6, h.frozen 7⟩

set_option maxHeartbeats 2000000 in
theorem own_any (st s c v a si : Int) (nm : ByteArray) (A : Option Addr) (n k : Nat) (l : List Stg) (w : World) (hr : Rd w w.heap.size 2 A n (cellsS l)) (h1 : 1 ≤ n) (h8 : n ≤ 8) :
    Calls Try.prog 26 #[.agg #[.int .i64 st, .string nm, .int .i64 s, .int .i64 c, .int .i64 v, .slice A n k, .int .i64 a, .int .i64 si]] w fun e w' =>
      ∃ u, e = .returned (.agg #[.int .i64 st, .string nm, .int .i64 s, .int .i64 c, .int .i64 v, u, .int .i64 a, .int .i64 si]) ∧ w'.ownsRow w.heap.size 34 2 u n (cellsS l) ∧ Below w.heap.size w w' := by
  have Hr := Lib.hid hr; clear hr
  go_enter Try.func26, Try.ntmps26
  go_wp2_with fail
  refine (clone_any A n k l _ ?_ h1 h8).mono ?_
  · exact (Hr.out.below ((Below.refl _ _).alloc (Nat.le_refl _) _ |>.alloc (by simp) _)).more (by simp; omega)
  rintro e w1 ⟨u, rfl, hown, hb⟩
  obtain ⟨A', k', rfl⟩ := own_parts hown
  have hz := hb.size
  have n1 : Blk w1 w.heap.size 29 #[.int .i64 st, .string nm, .int .i64 s, .int .i64 c, .int .i64 v, .slice A n k, .int .i64 a, .int .i64 si] := ((Blk.new w _ _).alloc _).below hb (by simp; try omega)
  have n2 : Blk w1 (w.heap.size + 1) 29 #[.int .i64 0, .string ⟨#[]⟩, .int .i64 0, .int .i64 0, .int .i64 0, .slice none 0 0, .int .i64 0, .int .i64 0] := by
    have := (Blk.new (w.alloc (.cells #[.int .i64 st, .string nm, .int .i64 s, .int .i64 c, .int .i64 v, .slice A n k, .int .i64 a, .int .i64 si] 29)) 29 #[.int .i64 0, .string ⟨#[]⟩, .int .i64 0, .int .i64 0, .int .i64 0, .slice none 0 0, .int .i64 0, .int .i64 0]).below hb (by simp)
    simpa using this
  have hbw : Below w.heap.size w w1 := (((Below.refl _ _).alloc (Nat.le_refl _) _).alloc (by simp) _).trans (hb.mono (by simp; omega))
  obtain ⟨c0, c1, c2, c3, c4, c5, c6, c7⟩ := ro_cells n1
  obtain ⟨f0, f1, f2, f3, f4, f5, f6, f7⟩ := ro_frozen n1
  obtain ⟨d0, d1, d2, d3, d4, d5, d6, d7⟩ := ro_cells n2
  obtain ⟨g0, g1, g2, g3, g4, g5, g6, g7⟩ := ro_frozen n2
  have Hown := Lib.hid hown; clear hown
  simp at hz
  clear n1 n2 hb
  go_wp2
  refine bodyPost_ret (v := .agg #[.int .i64 st, .string nm, .int .i64 s, .int .i64 c, .int .i64 v, .slice A' n k', .int .i64 a, .int .i64 si]) (by simp [results, Try.results26, go_sem, d0, d1, d2, d3, d4, d5, d6, d7]) rfl ⟨_, rfl, ?_, ?_⟩
  · simp only [World.size_alloc] at Hown
    have h2 := Hown.out
    exact own_mono (ownsRow_setCell_below (ownsRow_setCell_below (ownsRow_setCell_below (ownsRow_setCell_below (ownsRow_setCell_below (ownsRow_setCell_below (ownsRow_setCell_below (ownsRow_setCell_below (ownsRow_setCell_below h2 (by simp; try omega) _) (by simp) _) (by simp) _) (by simp) _) (by simp) _) (by simp) _) (by simp) _) (by simp) _) (by simp) _) (by omega)
  · exact ((((((((((hbw.setCell (by simp) _).setCell (by simp; try omega) _).setCell (by simp; try omega) _).setCell (by simp; try omega) _).setCell (by simp; try omega) _).setCell (by simp; try omega) _).setCell (by simp; try omega) _).setCell (by simp; try omega) _).setCell (by simp; try omega) _))

end Go.Proofs.Ytejjemeaponbaaa
