/- Texts joined by pack.py: XCdL -/
import Derived.Test.YtkpmlgpkmlhbjaaGreatDoorCp0
import Derived.Test.YtkpmlgpkmlhbjaaGreatDoorRows
import Derived.LaidLaws
import Derived.OpenShut
import Derived.Stop.LaidErr
import Derived.Lib.LaidTab
namespace Go.Proofs.YtkpmlgpkmlhbjaaGreatDoor
open Go.RowKit Go.ChangeShapes
abbrev laidVars : List (String × DataW Unit) := [("math/bits.deBruijn32tab", Rows.laid_math_bits_deBruijn32tab), ("math/bits.deBruijn64tab", Rows.laid_math_bits_deBruijn64tab), ("internal/strconv.uint64pow10", Rows.laid_internal_strconv_uint64pow10), ("strconv.ErrRange", Rows.laid_strconv_ErrRange), ("strconv.ErrSyntax", Rows.laid_strconv_ErrSyntax), ("faas/code.shapes", Rows.laid_faas_code_shapes)]
theorem star_err : "*" ++ "errors.errorString" = "*errors.errorString" := by decide
theorem row_err (u : TypeId) (h : Tryz.prog.typeName? 3 u = some "*errors.errorString") : u = 251 :=
  typeName_ptr_named (nm := "errors.errorString") (by rw [star_err]; kernel_rfl) (by kernel_rfl) (by decide) u (by rw [star_err]; exact h)
theorem g2_named : Program.globalNamed Tryz.prog "strconv.ErrRange" = some 4 := by kernel_rfl
theorem g0_named : Program.globalNamed Tryz.prog "faas/code.shapes" = some 0 := by kernel_rfl
theorem pow10Tab_data : (Rows.laid_internal_strconv_uint64pow10 : DataW Unit) = Lib.tabData .u64 Lib.pow10Tab := by
  unfold Rows.laid_internal_strconv_uint64pow10 Lib.tabData Lib.pow10Tab
  simp [List.range, List.range.loop]
structure Sh where
  s : List UInt8
  a : Bool
  b : Bool
  c : Bool
  x : Int
  y : Int
def Sh.d (r : Sh) : DataW Unit := .agg [.lit (.string r.s), .lit (.bool r.a), .lit (.bool r.b), .lit (.bool r.c), .lit (.int .i64 r.x), .lit (.int .i64 r.y)]
def Sh.cells (r : Sh) : List Value := [.string ⟨⟨r.s⟩⟩, .bool r.a, .bool r.b, .bool r.c, .int .i64 r.x, .int .i64 r.y]
def shL : List Sh := [
  ⟨[], false, false, false, 0, 0⟩,
  ⟨[110, 117, 108, 108], false, false, false, 0, 1⟩,
  ⟨[98, 111, 111, 108], true, false, false, 0, 1⟩,
  ⟨[105, 110, 116], true, false, false, 0, 1⟩,
  ⟨[115, 116, 114], false, true, false, 0, 1⟩,
  ⟨[108, 111, 97, 100], true, false, false, 0, 1⟩,
  ⟨[115, 116, 111, 114, 101], true, false, false, 1, 0⟩,
  ⟨[112, 111, 112], false, false, false, 1, 0⟩,
  ⟨[117, 110, 97, 114, 121], false, true, false, 1, 1⟩,
  ⟨[98, 105, 110, 97, 114, 121], false, true, false, 2, 1⟩,
  ⟨[105, 110, 100, 101, 120], false, false, false, 2, 1⟩,
  ⟨[108, 105, 115, 116], true, false, false, (-1), 1⟩,
  ⟨[109, 97, 112], true, false, true, (-1), 1⟩,
  ⟨[106, 117, 109, 112], true, false, false, 0, 0⟩,
  ⟨[102, 97, 108, 115, 101], true, false, false, 1, 0⟩,
  ⟨[116, 101, 115, 116], false, false, false, 1, 1⟩,
  ⟨[100, 117, 112], false, false, false, 1, 2⟩,
  ⟨[99, 97, 108, 108], true, false, false, (-1), 1⟩,
  ⟨[98, 117, 105, 108, 116], true, true, false, (-1), 1⟩,
  ⟨[104, 111, 115, 116], true, true, false, (-1), 1⟩,
  ⟨[114, 101, 116, 117, 114, 110], false, false, false, 1, 0⟩]
set_option maxRecDepth 100000 in
theorem shapes_data : (Rows.laid_faas_code_shapes : DataW Unit) = .agg (shL.map Sh.d) := rfl
set_option maxRecDepth 100000 in
theorem shapes_cells : gcells 0 = some (shL.map Sh.cells).flatten := rfl
theorem cells_shape : Tryz.prog.cellsOf 100 = 6 := by kernel_rfl
theorem cells_s : Tryz.prog.cellsOf 9 = 1 := by kernel_rfl
theorem cells_b : Tryz.prog.cellsOf 4 = 1 := by kernel_rfl
theorem cells_i : Tryz.prog.cellsOf 3 = 1 := by kernel_rfl
section
variable {enc : TypeId × Value → Unit} {w : World} {base : Nat} {sp : Nat → Bool} {held : Bool} {fuel : Nat} {cs : List Value} {p : List MemPlace}
set_option maxRecDepth 100000 in
theorem shape_of {r : Sh} (h : DataW.trod enc Tryz.prog w base sp held fuel 100 cs = some (r.d, p)) : cs = r.cells := by
  obtain ⟨xs, n, _, hx, hl, hlen, hf⟩ := DataW.trod_struct Tryz.underlying100 h
  rw [cells_shape] at hl
  match cs, hl with
  | [c0, c1, c2, c3, c4, c5], _ =>
  match xs, hlen with
  | [y0, y1, y2, y3, y4, y5], _ =>
    have g0 : DataW.trod enc Tryz.prog w base sp held n 9 (([c0, c1, c2, c3, c4, c5].drop 0).take (Tryz.prog.cellsOf 9)) = some y0 := hf 0 _ rfl
    have g1 : DataW.trod enc Tryz.prog w base sp held n 4 (([c0, c1, c2, c3, c4, c5].drop 1).take (Tryz.prog.cellsOf 4)) = some y1 := hf 1 _ rfl
    have g2 : DataW.trod enc Tryz.prog w base sp held n 4 (([c0, c1, c2, c3, c4, c5].drop 2).take (Tryz.prog.cellsOf 4)) = some y2 := hf 2 _ rfl
    have g3 : DataW.trod enc Tryz.prog w base sp held n 4 (([c0, c1, c2, c3, c4, c5].drop 3).take (Tryz.prog.cellsOf 4)) = some y3 := hf 3 _ rfl
    have g4 : DataW.trod enc Tryz.prog w base sp held n 3 (([c0, c1, c2, c3, c4, c5].drop 4).take (Tryz.prog.cellsOf 3)) = some y4 := hf 4 _ rfl
    have g5 : DataW.trod enc Tryz.prog w base sp held n 3 (([c0, c1, c2, c3, c4, c5].drop 5).take (Tryz.prog.cellsOf 3)) = some y5 := hf 5 _ rfl
    clear hf h
    rw [cells_s] at g0
    rw [cells_b] at g1 g2 g3
    rw [cells_i] at g4 g5
    obtain ⟨s, e0, r0, _⟩ := DataW.trod_string Tryz.underlying9 g0
    obtain ⟨b1, e1, r1⟩ := DataW.trod_bool Tryz.underlying4 g1
    obtain ⟨b2, e2, r2⟩ := DataW.trod_bool Tryz.underlying4 g2
    obtain ⟨b3, e3, r3⟩ := DataW.trod_bool Tryz.underlying4 g3
    obtain ⟨i4, e4, r4, _⟩ := DataW.trod_int Tryz.underlying3 g4
    obtain ⟨i5, e5, r5, _⟩ := DataW.trod_int Tryz.underlying3 g5
    subst r0 r1 r2 r3 r4 r5
    have hx := congrArg Prod.fst hx
    obtain ⟨s', a', b', c', x', y'⟩ := r
    simp only [Sh.d, List.map_cons, List.map_nil, DataW.agg.injEq, List.cons.injEq, DataW.lit.injEq, Lit.string.injEq, Lit.bool.injEq, Lit.int.injEq, true_and, and_true] at hx
    obtain ⟨rfl, rfl, rfl, rfl, rfl, rfl⟩ := hx
    simp at e0 e1 e2 e3 e4 e5
    subst e0 e1 e2 e3 e4 e5
    rfl
theorem chunks : ∀ (L : List Sh) (cs : List Value), cs.length = 6 * L.length → (∀ i (h : i < L.length), (cs.drop (i * 6)).take 6 = L[i].cells) → cs = (L.map Sh.cells).flatten
  | [], cs, h, _ => List.eq_nil_of_length_eq_zero h
  | r :: L, cs, h, hi => by
    have h0 : cs.take 6 = r.cells := hi 0 (Nat.zero_lt_succ _)
    have h1 := chunks L (cs.drop 6) (by rw [List.length_drop, h, List.length_cons]; omega) fun i hl => by
      have := hi (i + 1) (by simpa using hl)
      rw [List.drop_drop]
      rw [show 6 + i * 6 = (i + 1) * 6 by omega]
      exact this
    rw [List.map_cons, List.flatten_cons, ← h0, ← h1, List.take_append_drop]
theorem shapes_of {d : Nat} (_hd : fuel = d) (h : DataW.trod enc Tryz.prog w base sp held fuel 101 cs = some (.agg (shL.map Sh.d), p)) : cs = (shL.map Sh.cells).flatten := by
  obtain ⟨xs, n, _, hx, hl, hlen, hf⟩ := DataW.trod_array Tryz.underlying101 h
  rw [show Tryz.prog.cellsOf 101 = 126 by kernel_rfl] at hl
  rw [cells_shape] at hf
  have hx : shL.map Sh.d = xs.map (·.1) := by
    have := congrArg Prod.fst hx
    simpa using this
  have h21 : shL.length = 21 := rfl
  refine chunks shL cs (by rw [hl, h21]) fun i hi => ?_
  have h1 := hf i (by rw [h21] at hi; exact hi)
  have h2 : xs[i]? = some xs[i] := List.getElem?_eq_getElem (by rw [hlen]; rw [h21] at hi; exact hi)
  rw [h2] at h1
  have h3 : xs[i].1 = shL[i].d := by
    have := congrArg (fun l => l[i]?) hx
    simp only [List.getElem?_map, h2, List.getElem?_eq_getElem hi, Option.map_some, Option.some.injEq] at this
    exact this.symm
  exact shape_of (r := shL[i]) (p := xs[i].2) (h1.trans (by rw [← h3]))
end
set_option maxRecDepth 100000 in
theorem ginv_of_laid {W : World} (h : laidMet Tryz.prog laidVars W) : ginv W := by
  have h3 := h.tail.tail
  have h4 := h3.tail
  obtain ⟨a, s, hv, hc, _⟩ := laid_sentinel h4 g2_named (ti := 141) (by kernel_rfl) Tryz.underlying141 row_err Tryz.underlying251 Tryz.underlying253 rfl rfl Tryz.underlying9 (by kernel_rfl) (by kernel_rfl)
  have h6 := h4.tail.tail
  refine ⟨⟨_, by simpa using World.var?_cell g2_named hv 0, .inr ⟨_, _, rfl⟩⟩, ?_, ?_⟩
  · rw [pow10Tab_data] at h3
    exact Lib.tabIs_of_head (t := 216) (e := 127) (n := 20) g3_named (by kernel_rfl) (by kernel_rfl) (by kernel_rfl) (by kernel_rfl) (by kernel_rfl) h3
  · obtain ⟨ps, ⟨g', t', cs, fuel, p, q, hg', ht', hvar, hd, _, _⟩, _⟩ := h6
    obtain rfl := Option.some.inj (g0_named.symm.trans hg')
    obtain rfl := Option.some.inj ((show (Tryz.prog.globals[0]?).map (·.type) = some 101 by kernel_rfl).symm.trans ht')
    rw [shapes_data] at hd
    have hcs := shapes_of rfl hd
    have hcell : ∀ i v, (shL.map Sh.cells).flatten[i]? = some v → W.cell? ⟨0, i, none⟩ = some v := fun i v hv => by
      rw [World.var?_cell g0_named hvar i, ← hv, ← hcs]
      simp
    intro g cs' hg
    have hg0 : g = 0 := by
      unfold gcells at hg
      split at hg
      · rfl
      · cases hg
    subst hg0
    rw [shapes_cells] at hg
    cases hg
    refine ⟨?_, hcell⟩
    have := hcell 0 (.string ⟨⟨[]⟩⟩) rfl
    unfold World.cell? at this
    rcases Nat.lt_or_ge 0 W.heap.size with hlt | hge
    · exact hlt
    · rw [Array.getElem?_eq_none hge] at this
      simp at this
abbrev rangeS : ByteArray := { data := #[118, 97, 108, 117, 101, 32, 111, 117, 116, 32, 111, 102, 32, 114, 97, 110, 103, 101] }
abbrev syntaxS : ByteArray := { data := #[105, 110, 118, 97, 108, 105, 100, 32, 115, 121, 110, 116, 97, 120] }
noncomputable def low0 : Nat := (World.holding Tryz.prog default ⟨#[], #[], []⟩).heap.size
def lay (cs : Array Value) : Obj → Obj
  | .cells _ t frozen => .cells cs t frozen
  | o => o
noncomputable def laidWorld (os : Os) : World :=
  let w0 := World.holding Tryz.prog os ⟨#[.cells #[.string rangeS] 253, .cells #[.string syntaxS] 253], #[], []⟩
  { w0 with heap := ((((((w0.heap.modify 3 (lay #[.iface 251 (.pointer (some ⟨low0 + 1, 0, none⟩))])).modify 4 (lay #[.iface 251 (.pointer (some ⟨low0, 0, none⟩))])).modify 1 (lay #[.int .u64 1, .int .u64 10, .int .u64 100, .int .u64 1000, .int .u64 10000, .int .u64 100000, .int .u64 1000000, .int .u64 10000000, .int .u64 100000000, .int .u64 1000000000, .int .u64 10000000000, .int .u64 100000000000, .int .u64 1000000000000, .int .u64 10000000000000, .int .u64 100000000000000, .int .u64 1000000000000000, .int .u64 10000000000000000, .int .u64 100000000000000000, .int .u64 1000000000000000000, .int .u64 10000000000000000000])).modify 5 (lay #[.int .u8 0, .int .u8 1, .int .u8 28, .int .u8 2, .int .u8 29, .int .u8 14, .int .u8 24, .int .u8 3, .int .u8 30, .int .u8 22, .int .u8 20, .int .u8 15, .int .u8 25, .int .u8 17, .int .u8 4, .int .u8 8, .int .u8 31, .int .u8 27, .int .u8 13, .int .u8 23, .int .u8 21, .int .u8 19, .int .u8 16, .int .u8 7, .int .u8 26, .int .u8 12, .int .u8 18, .int .u8 6, .int .u8 11, .int .u8 5, .int .u8 10, .int .u8 9])).modify 6 (lay #[.int .u8 0, .int .u8 1, .int .u8 56, .int .u8 2, .int .u8 57, .int .u8 49, .int .u8 28, .int .u8 3, .int .u8 61, .int .u8 58, .int .u8 42, .int .u8 50, .int .u8 38, .int .u8 29, .int .u8 17, .int .u8 4, .int .u8 62, .int .u8 47, .int .u8 59, .int .u8 36, .int .u8 45, .int .u8 43, .int .u8 51, .int .u8 22, .int .u8 53, .int .u8 39, .int .u8 33, .int .u8 30, .int .u8 24, .int .u8 18, .int .u8 12, .int .u8 5, .int .u8 63, .int .u8 55, .int .u8 48, .int .u8 27, .int .u8 60, .int .u8 41, .int .u8 37, .int .u8 16, .int .u8 46, .int .u8 35, .int .u8 44, .int .u8 21, .int .u8 52, .int .u8 32, .int .u8 23, .int .u8 11, .int .u8 54, .int .u8 26, .int .u8 40, .int .u8 15, .int .u8 34, .int .u8 20, .int .u8 31, .int .u8 10, .int .u8 25, .int .u8 14, .int .u8 19, .int .u8 9, .int .u8 13, .int .u8 8, .int .u8 7, .int .u8 6])).modify 0 (lay #[.string ⟨#[]⟩, .bool false, .bool false, .bool false, .int .i64 0, .int .i64 0, .string ⟨#[110, 117, 108, 108]⟩, .bool false, .bool false, .bool false, .int .i64 0, .int .i64 1, .string ⟨#[98, 111, 111, 108]⟩, .bool true, .bool false, .bool false, .int .i64 0, .int .i64 1, .string ⟨#[105, 110, 116]⟩, .bool true, .bool false, .bool false, .int .i64 0, .int .i64 1, .string ⟨#[115, 116, 114]⟩, .bool false, .bool true, .bool false, .int .i64 0, .int .i64 1, .string ⟨#[108, 111, 97, 100]⟩, .bool true, .bool false, .bool false, .int .i64 0, .int .i64 1, .string ⟨#[115, 116, 111, 114, 101]⟩, .bool true, .bool false, .bool false, .int .i64 1, .int .i64 0, .string ⟨#[112, 111, 112]⟩, .bool false, .bool false, .bool false, .int .i64 1, .int .i64 0, .string ⟨#[117, 110, 97, 114, 121]⟩, .bool false, .bool true, .bool false, .int .i64 1, .int .i64 1, .string ⟨#[98, 105, 110, 97, 114, 121]⟩, .bool false, .bool true, .bool false, .int .i64 2, .int .i64 1, .string ⟨#[105, 110, 100, 101, 120]⟩, .bool false, .bool false, .bool false, .int .i64 2, .int .i64 1, .string ⟨#[108, 105, 115, 116]⟩, .bool true, .bool false, .bool false, .int .i64 (-1), .int .i64 1, .string ⟨#[109, 97, 112]⟩, .bool true, .bool false, .bool true, .int .i64 (-1), .int .i64 1, .string ⟨#[106, 117, 109, 112]⟩, .bool true, .bool false, .bool false, .int .i64 0, .int .i64 0, .string ⟨#[102, 97, 108, 115, 101]⟩, .bool true, .bool false, .bool false, .int .i64 1, .int .i64 0, .string ⟨#[116, 101, 115, 116]⟩, .bool false, .bool false, .bool false, .int .i64 1, .int .i64 1, .string ⟨#[100, 117, 112]⟩, .bool false, .bool false, .bool false, .int .i64 1, .int .i64 2, .string ⟨#[99, 97, 108, 108]⟩, .bool true, .bool false, .bool false, .int .i64 (-1), .int .i64 1, .string ⟨#[98, 117, 105, 108, 116]⟩, .bool true, .bool true, .bool false, .int .i64 (-1), .int .i64 1, .string ⟨#[104, 111, 115, 116]⟩, .bool true, .bool true, .bool false, .int .i64 (-1), .int .i64 1, .string ⟨#[114, 101, 116, 117, 114, 110]⟩, .bool false, .bool false, .bool false, .int .i64 1, .int .i64 0])) }
set_option maxRecDepth 100000 in
theorem laidWorld_met (os : Os) (args : Array Value) : laidMet Tryz.prog laidVars ((laidWorld os).forCall (fun _ _ => 0) ⟨#[], args, []⟩).memory :=
  laidMet_of_run' 8 (by kernel_rfl) (by kernel_rfl)
end Go.Proofs.YtkpmlgpkmlhbjaaGreatDoor
