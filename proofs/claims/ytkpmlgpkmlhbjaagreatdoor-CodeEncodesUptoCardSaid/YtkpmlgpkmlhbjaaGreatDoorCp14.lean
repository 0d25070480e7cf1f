/- Texts joined by pack.py: XSxAs XCd7 XCd8 XCd9 XLx3 -/
import Derived.Test.YtkpmlgpkmlhbjaaGreatDoorCp13
import Derived.Test.YtkpmlgpkmlhbjaaGreatDoorCp10
import Derived.Lib.AppendStr
namespace Go.Proofs.YtkpmlgpkmlhbjaaGreatDoor
open Go.RowKit
section
variable {P : Program} {o : Oper} {E : Operand → V} {m : List (Option Bk)} {x y : Operand}
theorem ot_appendS {n k : Nat} {f : Bool} {l : List UInt8} {s : ByteArray} {c : Call} {ty tu e : TypeId} (ho : o.op = .call c) (hc : c.callee = .builtin .append) (hargs : c.args.toList = [x, y]) (htys : c.argTypes.toList = [ty, tu])
    (hx : E x = .ow n k) (hy : E y = .cv (.string s)) (hm : m[n]? = some (some (.row k e 1 f (l.map byteD))))
    (ht : P.underlying ty = some (.slice e)) (hu : P.underlying tu = some .string) (hi : (P.info? e).map (fun i => (i.size, i.bytes, i.zero)) = some (1, 1, some (.int .u8 0))) (hb : l.length + s.size ≤ 140737488355328) :
    OpTr P o E m (.ow n (k + 1)) (m.set n (some (.row (k + 1) e 1 f ((l ++ s.data.toList).map byteD)))) := by
  intro B w0 N S t a w hsat hr
  obtain ⟨i, hi, hie⟩ := Option.map_eq_some_iff.1 hi
  simp only [Prod.mk.injEq] at hie
  obtain ⟨hsz, hby, hz⟩ := hie
  have e1 := arr2 hargs
  have e2 := arr2 htys
  have hrx := hr x (by rw [ho]; simp [Op.operands, Call.operands, e1])
  have hry := hr y (by rw [ho]; simp [Op.operands, Call.operands, e1])
  rw [hx] at hrx
  rw [hy] at hry
  generalize hux : a.eval x = u at hrx
  generalize huy : a.eval y = uy at hry
  cases hry
  cases hrx
  rename_i hu1 hn
  obtain ⟨k0, v, hn, hk, he⟩ := hn
  obtain ⟨v2, us, b1, b2, b3, b4, b5, b6⟩ := hsat.blk n _ hm
  rw [hn] at b1; cases b1
  have := he rfl
  subst this
  rw [List.length_map] at b2
  obtain ⟨v', w', hrun, hown, hgr, _⟩ := Lib.run_append_own_string (P := P) w 0 ty tu o.type e i ht hu hi hz hsz hby u l.length us b2 s (by simp only [maxLen]; omega) hb (Nat.zero_le _)
  have hvs0 : ∃ A l c, u = .slice A l c := by obtain ⟨A, c, h⟩ := own_parts b2; exact ⟨_, _, _, h⟩
  have hvs : ∃ A l c, v' = .slice A l c := by obtain ⟨A, c, h⟩ := own_parts hown; exact ⟨_, _, _, h⟩
  have hv1 : v'.oneCell' = true := by obtain ⟨A, l, c, rfl⟩ := hvs; rfl
  have hat : ∀ g, atOf v' = some g → w.heap.size ≤ g ∨ atOf u = some g := by
    intro g hg
    rcases b2.2 with ⟨rfl, hl0⟩ | ⟨g0, cap0, cu, rfl, hbg, hg0, hnc, hcm, hcs, htake⟩
    · have hl : us = [] := List.eq_nil_of_length_eq_zero (by have := b2.1; omega)
      subst hl
      have hown2 : w.ownsRow w.heap.size e 1 (.slice none 0 0) l.length [] := by rw [hl0]; exact World.ownsRow_nil w _ e 1
      obtain ⟨v3, w3, hr3, hown3, _⟩ := Lib.run_append_own_string (P := P) w w.heap.size ty tu o.type e i ht hu hi hz hsz hby _ l.length [] hown2 s (by simp only [maxLen]; omega) hb (Nat.le_refl _)
      rw [hrun] at hr3; cases hr3
      rcases hown3.2 with ⟨rfl, _⟩ | ⟨g1, cap1, cu1, rfl, hb1, _⟩
      · simp [atOf] at hg
      · simp [atOf] at hg; subst hg; exact .inl hb1
    · by_cases hroom : l.length + s.size ≤ cap0
      · have hcs' : cu.size = cap0 := by simpa using hcs
        have hr2 := Lib.run_append_room_string (P := P) w ty tu o.type e i ht hu hi hsz g0 l.length cap0 cu hg0 s hroom (by omega)
        rw [hrun] at hr2; cases hr2
        exact .inr hg
      · have holds : ∀ j u, us[j]? = some u → w.cell? ((⟨g0, 0, none⟩ : Addr).add j) = some u := b2.cells (g := g0) rfl
        have hxl : us.length = l.length := by simpa using b2.1
        have hr2 := Lib.run_append_grow_string (P := P) w ty tu o.type e i (.int .u8 0) ht hu hi hz ⟨g0, 0, none⟩ l.length cap0 us (by rw [hsz]; simpa using hxl) holds s (by omega) (by omega) (by rw [hby]; exact growslice_fits (by omega) (by omega))
        rw [hrun] at hr2; cases hr2
        simp [atOf] at hg; subst hg; exact .inl (Nat.le_refl _)
  obtain ⟨N', g1, g2, g3⟩ := hsat.set (w' := w') (d := n) (k := k + 1) (v := v') (b := .row (k + 1) e 1 f ((l ++ s.data.toList).map byteD)) (lt_of_get hm)
    (fun k0 v0 h => by rw [hn] at h; cases h; exact .inr ⟨hvs0, by omega⟩)
    (hsat.low.grown hgr hsat.base (fun q hq => (hsat.own n _ _ q hn (by rw [← atOf_own hvs0]; exact hq)).1)) hgr.size (fun g hg hk => hgr.block g hg (by rw [atOf_own hvs0]; exact fun e => hk _ _ hn e.symm))
    (fun g hg => by
      have hlt := hown.lt g (by rw [atOf_own hvs]; exact hg)
      refine ⟨hlt.2, ?_⟩
      rcases hat g hg with h | h
      · exact .inl h
      · exact .inr ⟨_, _, hn, h⟩)
    (fun N' g1 g2 g3 => ⟨v', us ++ Lib.strCells s, g1, by rw [List.length_map, List.length_append]; exact hown, (fun x hx => by
        obtain ⟨c, _, rfl⟩ := List.mem_map.1 hx; rfl), by omega, (fun i' j' d' hd' => by
      have hul : us.length = l.length := by simpa using b2.1
      rw [List.getElem?_map] at hd'
      cases hq : (l ++ s.data.toList)[i']? with
      | none => rw [hq] at hd'; cases hd'
      | some c =>
        rw [hq] at hd'
        cases j' with
        | succ j' => simp [byteD] at hd'
        | zero =>
          obtain rfl : D.cv (.int .u8 (c.toNat : Nat)) = d' := by simpa [byteD] using hd'
          rw [List.getElem?_append] at hq
          split at hq
          · rename_i hlt
            obtain ⟨u', hu1', hu2'⟩ := b5 i' 0 (.cv (.int .u8 (c.toNat : Nat))) (by rw [List.getElem?_map, hq]; rfl)
            refine ⟨u', ?_, g3 _ _ _ hu2'⟩
            rw [List.getElem?_append_left (lt_of_get hu1')]; exact hu1'
          · rename_i hlt
            refine ⟨.int .u8 (c.toNat : Nat), ?_, .cv _ rfl⟩
            rw [List.getElem?_append_right (by omega), hul, show i' * 1 + 0 - l.length = i' - l.length by omega]
            simp [Lib.strCells, hq]), fun e g hg => by
      rcases hat g hg with h | h
      · exact Nat.le_trans hsat.size h
      · exact b6 e g h⟩)
  refine opOk_val (u := v') (w' := w') ?_ ⟨N', S, g3, .ow n (k + 1) _ hv1 ⟨k + 1, v', g1, Nat.le_refl _, fun _ => rfl⟩⟩
  unfold execOp
  simp only [ho]
  simp [resolve, hc, e1, e2, invoke, builtin, hux, huy, hrun]
theorem ot_build1 {T : Tab} (hT : TOk P T) {ty e d sz by_ : Nat} {ag : Bool} {z : List Value} {i : TI} {v' : V} {m1 : List (Option Bk)} {ds : List D} {g : Bool} {ps : Array (Nat × Operand)}
    (ho : o.op = .buildSlice ty 1 ps) (hps : ps.toList = [(0, x)]) (hti : T ty = some ⟨sz, by_, ag, z, .slice e⟩) (hie : T e = some i) (h0 : (i.size != 0 && decide (i.size ≤ 16777216)) = true)
    (hf : frz m [E x] = some ([v'], m1)) (hds : toDs v'.cells = some (ds, g)) (hdl : ds.length = i.size) (hd : o.dst = some d) (hm : m1[d]? = some none) :
    OpTr P o E m (.ow d 0) (m1.set d (some (.row 0 e i.size g [ds]))) := by
  intro B w0 N S t a w hsat hr
  simp only [Bool.and_eq_true, bne_iff_ne, ne_eq, decide_eq_true_eq] at h0
  have hps' : ps = #[(0, x)] := by cases ps; simp at hps; rw [hps]
  subst hps'
  have hrx := hr x (by rw [ho]; simp [Op.operands])
  obtain ⟨N1, S1, h3, h4, _⟩ := frz_sound hsat (us := [a.eval x]) ⟨rfl, fun i v hv => by
    cases i with
    | zero => simp at hv; subst hv; simpa using hrx
    | succ i => simp at hv⟩ hf
  have hv' : RelV N1 S1 w v' (a.eval x) := by simpa using h4.2 0 v' rfl
  have hok := ok_buildSliceE (E := fun _ => v') hT h3 ho (fun p hp => by simp at hp; subst hp; exact hv') (K := fun v m' => v = .ow d 0 ∧ m' = m1.set d (some (.row 0 e i.size g [ds]))) (by
    rw [hti]
    simp only [hie]
    rw [if_neg (by omega)]
    simp only [elemsD, hds, List.replicate, List.length_singleton, hdl]
    rw [if_pos ⟨by simp, trivial⟩]
    cases g <;> simp only [Bool.and_true, Bool.and_false, forceD_eq, setK_eq, List.set_cons_zero, newK, hd, hm, and_self])
  intro Q
  refine Oper.wp_mono' (hok Q) ?_
  rintro a' w' ⟨u, he, N', S', v, m', h5, h6, rfl, rfl⟩
  exact ⟨u, he, N', S', h5, h6⟩
theorem ot_slice3 {T : Tab} (hT : TOk P T) {ty e n k Er sz sz0 by_ : Nat} {ag : Bool} {z : List Value} {ie : TI} {xs : List (List D)} {hi mx : Operand}
    (ho : o.op = .slice ty x none (some hi) (some mx)) (hti : T ty = some ⟨sz0, by_, ag, z, .slice e⟩) (hie : T e = some ie) (hx : E x = .ow n k) (hh : E hi = .cv (.int .i64 (xs.length : Nat))) (hmx : E mx = .cv (.int .i64 (xs.length : Nat)))
    (hm : m[n]? = some (some (.row k Er sz true xs))) : OpTr P o E m (.sl true sz xs) (m.set n (some (.row (k + 1) Er sz true []))) := by
  intro B w0 N S t a w hsat hr
  have hrx := hr x (by rw [ho]; simp [Op.operands])
  have hrh := hr hi (by rw [ho]; simp [Op.operands])
  have hrm := hr mx (by rw [ho]; simp [Op.operands])
  rw [hx] at hrx; rw [hh] at hrh; rw [hmx] at hrm
  obtain ⟨N1, S1, h3, h4, h5⟩ := frz_sound hsat (us := [a.eval x]) (l := [.ow n k]) ⟨rfl, fun i v hv => by
    cases i with
    | zero => simp at hv; subst hv; simpa using hrx
    | succ i => simp at hv⟩ (show frz m [.ow n k] = some ([.sl true sz xs], m.set n (some (.row (k + 1) Er sz true []))) by simp [frz, frz1, hm])
  have hv' : RelV N1 S1 w (.sl true sz xs) (a.eval x) := by simpa using h4.2 0 _ rfl
  have hsl := hT.kd_slice hti rfl
  generalize hux : a.eval x = u at hv'
  generalize huh : a.eval hi = uh at hrh
  generalize hum : a.eval mx = um at hrm
  cases hrh; cases hrm
  cases hv'
  rename_i hd
  have hbound : ∀ {c : BoundsCode} {y : Nat}, xs.length ≤ y → (Instr.sliceBound (.int .i64 (xs.length : Nat)) y c).run P w = .ok xs.length w := by
    intro c y hy
    have a1 : (0 : Int) ≤ (xs.length : Nat) := by omega
    have a2 : ((xs.length : Nat) : Int) ≤ (y : Int) := by omega
    simp [Instr.sliceBound, asIntOf, a1, a2]
  have fin : ∀ {A : Option Addr} {cap : Nat}, u = .slice A xs.length cap → xs.length ≤ cap → RelD (S1 true) w (.sl sz xs) (.slice A xs.length xs.length) → OpOk P o a w fun u w' => ∃ N' S', Sat B w0 N' S' t (m.set n (some (.row (k + 1) Er sz true []))) a w' ∧ RelV N' S' w' (.sl true sz xs) u := by
    intro A cap hu hcap hrel
    refine opOk_val (u := .slice A xs.length xs.length) (w' := w) ?_ ⟨N1, S1, h3, .sl _ _ _ _ hrel⟩
    unfold execOp
    simp only [ho]
    refine run_v ?_
    rw [hux, hu]
    have hA : A.map (fun b => b.add 0) = A := by cases A with
      | none => rfl
      | some b => obtain ⟨b, o, q⟩ := b; simp [Addr.add]
    simp [Instr.sliceAt, run_underlying hsl, Instr.slice, Instr.sliceBounds, huh, hum, hbound hcap, hbound (Nat.le_refl _), hT.size hie, hA]
  cases hd with
  | nil => exact fin rfl (Nat.zero_le _) (.nil _ _ _)
  | sl _ _ b o' cap q hS hx' hcap hc hdd => exact fin rfl hcap (.sl _ _ b o' _ q hS hx' (Nat.le_refl _) hc hdd)
end
end Go.Proofs.YtkpmlgpkmlhbjaaGreatDoor
namespace Go.Proofs.YtkpmlgpkmlhbjaaGreatDoor
open Go.RowKit
def four (n : Nat) : Bs := [UInt8.ofNat (n / 16777216), UInt8.ofNat (n / 65536), UInt8.ofNat (n / 256), UInt8.ofNat n]
def num4 (l : Bs) : Nat := 16777216 * (l.getD 0 0).toNat + 65536 * (l.getD 1 0).toNat + 256 * (l.getD 2 0).toNat + (l.getD 3 0).toNat
def sealP (b : Bs) : Bs × Int := if b.length > 262136 then ([], 3) else (four b.length ++ (four (crc b) ++ b), 0)
theorem crc_lt (l : Bs) : crc l < 4294967296 := xor_lt (by omega) (crcF_lt l (by omega))
theorem num4_lt (l : Bs) : num4 l < 4294967296 := by
  unfold num4
  have := (l.getD 0 0).toNat_lt
  have := (l.getD 1 0).toNat_lt
  have := (l.getD 2 0).toNat_lt
  have := (l.getD 3 0).toNat_lt
  omega
theorem num4_four {n : Nat} (h : n < 4294967296) (r : Bs) : num4 (four n ++ r) = n := by
  unfold num4 four
  simp only [List.cons_append, List.getD_cons_zero, List.getD_cons_succ, UInt8.toNat_ofNat']
  omega
theorem four_num4 {a b c d : UInt8} {r : Bs} : four (num4 (a :: b :: c :: d :: r)) = [a, b, c, d] := by
  have ha := a.toNat_lt; have hb := b.toNat_lt; have hc := c.toNat_lt; have hd := d.toNat_lt
  unfold four num4
  simp only [List.getD_cons_zero, List.getD_cons_succ, List.cons.injEq, and_true]
  refine ⟨?_, ?_, ?_, ?_⟩ <;> (apply UInt8.toNat_inj.1; rw [UInt8.toNat_ofNat']; omega)
theorem b24W {n : Nat} : IntKind.u8.wrap ((n : Int).fdiv (2 ^ (min (Int.toNat 24) IntKind.u32.bits))) = (((UInt8.ofNat (n / 16777216)).toNat : Nat) : Int) := by
  rw [show (n : Int).fdiv (2 ^ (min (Int.toNat 24) IntKind.u32.bits)) = ((n / 16777216 : Nat) : Int) from shr_nat n 24, IntKind.wrap_u8, UInt8.toNat_ofNat']; omega
theorem b16W {n : Nat} : IntKind.u8.wrap ((n : Int).fdiv (2 ^ (min (Int.toNat 16) IntKind.u32.bits))) = (((UInt8.ofNat (n / 65536)).toNat : Nat) : Int) := by
  rw [show (n : Int).fdiv (2 ^ (min (Int.toNat 16) IntKind.u32.bits)) = ((n / 65536 : Nat) : Int) from shr_nat n 16, IntKind.wrap_u8, UInt8.toNat_ofNat']; omega
theorem b8W {n : Nat} : IntKind.u8.wrap ((n : Int).fdiv (2 ^ (min (Int.toNat 8) IntKind.u32.bits))) = (((UInt8.ofNat (n / 256)).toNat : Nat) : Int) := by
  rw [show (n : Int).fdiv (2 ^ (min (Int.toNat 8) IntKind.u32.bits)) = ((n / 256 : Nat) : Int) from shr_nat n 8, IntKind.wrap_u8, UInt8.toNat_ofNat']; omega
theorem b0W {n : Nat} : IntKind.u8.wrap (n : Int) = (((UInt8.ofNat n).toNat : Nat) : Int) := by
  rw [IntKind.wrap_u8, UInt8.toNat_ofNat']; omega
set_option maxRecDepth 100000 in
theorem x_bytes (n : Nat) : DCalls Tryz.prog 102 [u32 n] (bstr (four n)) := by
  refine sxm [(1000009, false)] Tryz.func102 (by kernel_rfl) ?_
  conv => whnf
  refine ⟨by omega, ?_⟩
  conv => whnf
  refine ⟨by omega, ?_⟩
  conv => whnf
  refine ⟨by omega, ?_⟩
  conv => whnf
  rw [b24W, b16W, b8W, b0W]
  refine ⟨_, _, ot_string (l := four n) (e := 5) rfl rfl rfl (by kernel_rfl) (by kernel_rfl) (by kernel_rfl), ?_⟩
  (conv => whnf) <;> rfl
set_option maxRecDepth 100000 in
theorem x_four (n : Nat) : DCalls Tryz.prog 104 [u32 n] (bytesV true (four n)) := by
  refine sx Tryz.func104 (by kernel_rfl) ?_
  conv => whnf
  refine ⟨by omega, ?_⟩
  conv => whnf
  refine ⟨by omega, ?_⟩
  conv => whnf
  refine ⟨by omega, ?_⟩
  conv => whnf
  rw [b24W, b16W, b8W, b0W]
  rfl
theorem orW32 {a b : Nat} (h1 : a < 4294967296) (h2 : b < 4294967296) : IntKind.u32.wrap ((BitVec.ofInt IntKind.u32.bits (a : Int) ||| BitVec.ofInt IntKind.u32.bits (b : Int)).toNat : Nat) = ((a ||| b : Nat) : Int) := by
  have hb : IntKind.u32.bits = 32 := rfl
  have hx : a ||| b < 4294967296 := Nat.or_lt_two_pow (n := 32) h1 h2
  rw [BitVec.toNat_or, hb, BitVec.toNat_ofInt, BitVec.toNat_ofInt]
  have e1 : ((a : Int) % ((2 ^ 32 : Nat) : Int)).toNat = a := by omega
  have e2 : ((b : Int) % ((2 ^ 32 : Nat) : Int)).toNat = b := by omega
  rw [e1, e2, IntWalk.u32_in _ (by omega)]
theorem shl24W (c : UInt8) : IntKind.u32.wrap (((c.toNat : Nat) : Int) * 2 ^ (min (Int.toNat 24) IntKind.u32.bits)) = ((16777216 * c.toNat : Nat) : Int) := by
  have := c.toNat_lt
  rw [show (2 : Int) ^ (min (Int.toNat 24) IntKind.u32.bits) = 16777216 from rfl, IntWalk.u32_in _ (by omega)]; omega
theorem shl16W (c : UInt8) : IntKind.u32.wrap (((c.toNat : Nat) : Int) * 2 ^ (min (Int.toNat 16) IntKind.u32.bits)) = ((65536 * c.toNat : Nat) : Int) := by
  have := c.toNat_lt
  rw [show (2 : Int) ^ (min (Int.toNat 16) IntKind.u32.bits) = 65536 from rfl, IntWalk.u32_in _ (by omega)]; omega
theorem shl8W (c : UInt8) : IntKind.u32.wrap (((c.toNat : Nat) : Int) * 2 ^ (min (Int.toNat 8) IntKind.u32.bits)) = ((256 * c.toNat : Nat) : Int) := by
  have := c.toNat_lt
  rw [show (2 : Int) ^ (min (Int.toNat 8) IntKind.u32.bits) = 256 from rfl, IntWalk.u32_in _ (by omega)]; omega
theorem or_sum (a b c d : UInt8) : ((16777216 * a.toNat ||| 65536 * b.toNat) ||| 256 * c.toNat) ||| d.toNat = 16777216 * a.toNat + 65536 * b.toNat + 256 * c.toNat + d.toNat := by
  have := a.toNat_lt; have := b.toNat_lt; have := c.toNat_lt; have := d.toNat_lt
  have e1 := Nat.two_pow_add_eq_or_of_lt (i := 24) (b := 65536 * b.toNat) (by omega) a.toNat
  have e2 := Nat.two_pow_add_eq_or_of_lt (i := 16) (b := 256 * c.toNat) (by omega) (256 * a.toNat + b.toNat)
  have e3 := Nat.two_pow_add_eq_or_of_lt (i := 8) (b := d.toNat) (by omega) (65536 * a.toNat + 256 * b.toNat + c.toNat)
  rw [show (2 : Nat) ^ 24 = 16777216 from rfl] at e1
  rw [show (2 : Nat) ^ 16 = 65536 from rfl] at e2
  rw [show (2 : Nat) ^ 8 = 256 from rfl] at e3
  rw [← e1, show 16777216 * a.toNat + 65536 * b.toNat = 65536 * (256 * a.toNat + b.toNat) by omega, ← e2,
    show 65536 * (256 * a.toNat + b.toNat) + 256 * c.toNat = 256 * (65536 * a.toNat + 256 * b.toNat + c.toNat) by omega, ← e3]
set_option maxRecDepth 100000 in
theorem x_number4 (l : Bs) (h : 4 ≤ l.length) : DCalls Tryz.prog 106 [bstr l] (u32 (num4 l)) := by
  match l, h with
  | a :: b :: c :: d :: r, h =>
    have ha := a.toNat_lt; have hb := b.toNat_lt; have hc := c.toNat_lt; have hd := d.toNat_lt
    refine sx Tryz.func106 (by kernel_rfl) ?_
    conv => whnf
    refine ⟨none, by kernel_rfl, ?_⟩
    conv => whnf
    refine ⟨by omega, _, mk_at (n := 0) (by simp), ?_⟩
    conv => whnf
    refine ⟨by omega, ?_⟩
    conv => whnf
    refine ⟨by omega, _, mk_at (n := 1) (by simp), ?_⟩
    conv => whnf
    refine ⟨by omega, ?_⟩
    conv => whnf
    refine ⟨by omega, _, mk_at (n := 2) (by simp), ?_⟩
    conv => whnf
    refine ⟨by omega, ?_⟩
    conv => whnf
    refine ⟨by omega, _, mk_at (n := 3) (by simp), ?_⟩
    conv => whnf
    refine fin_u32 ?_
    simp only [List.getElem_cons_zero, List.getElem_cons_succ]
    have h1 : 16777216 * a.toNat ||| 65536 * b.toNat < 4294967296 := Nat.or_lt_two_pow (n := 32) (by omega) (by omega)
    have h2 : (16777216 * a.toNat ||| 65536 * b.toNat) ||| 256 * c.toNat < 4294967296 := Nat.or_lt_two_pow (n := 32) h1 (by omega)
    rw [u8u32, u8u32, u8u32, u8u32, shl24W, shl16W, shl8W, orW32 (by omega) (by omega), orW32 h1 (by omega), orW32 h2 (by omega), or_sum]
    rfl
end Go.Proofs.YtkpmlgpkmlhbjaaGreatDoor
namespace Go.Proofs.YtkpmlgpkmlhbjaaGreatDoor
open Go.RowKit
abbrev seV (p : Bs × Int) : V := .tu [bstr p.1, int p.2]
theorem mkF (l : Bs) (k : Nat) : (mk l).extract ((k : Nat) : Int).toNat (((mk l).size : Nat) : Int).toNat = mk (l.drop k) := by
  rw [Int.toNat_natCast, Int.toNat_natCast, mk_size, mk_from]
theorem mkM (l : Bs) (n k : Nat) : (mk l).extract ((n : Nat) : Int).toNat ((n + k : Nat) : Int).toNat = mk ((l.drop n).take k) := by
  rw [Int.toNat_natCast, Int.toNat_natCast, mk_ext, List.take_drop]
theorem lenW32 {b : Bs} (h : b.length ≤ 262136) : IntKind.u32.wrap (((mk b).size : Nat) : Int) = ((b.length : Nat) : Int) := by rw [mk_size, IntWalk.u32_in _ (by omega)]
theorem four_len (n : Nat) : (four n).length = 4 := rfl
set_option maxRecDepth 100000 in
theorem x_seal (b : Bs) (hl : b.length ≤ 140737488355328) : DCalls Tryz.prog 62 [bstr b] (seV (sealP b)) := by
  refine sx Tryz.func62 (by kernel_rfl) ?_
  conv => whnf
  rintro (_ | _) h0
  rotate_left
  · rw [show sealP b = ([], 3) by unfold sealP; rw [if_pos (by simp [mk_size] at h0; omega)]]
    (conv => whnf) <;> rfl
  have h0 : b.length ≤ 262136 := by simp [mk_size] at h0; omega
  rw [show sealP b = (four b.length ++ (four (crc b) ++ b), 0) by unfold sealP; rw [if_neg (by omega)]]
  conv => whnf
  rw [lenW32 h0]
  refine ⟨_, x_bytes b.length, ?_⟩
  conv => whnf
  refine ⟨_, x_crc b (by omega), ?_⟩
  conv => whnf
  refine ⟨_, x_bytes (crc b), ?_⟩
  conv => whnf
  refine ⟨by rw [mk_size, mk_size, four_len, four_len]; omega, ?_⟩
  conv => whnf
  rw [mk_app]
  refine ⟨by rw [mk_size, mk_size, List.length_append, four_len, four_len]; omega, ?_⟩
  conv => whnf
  rw [mk_app, List.append_assoc]
set_option maxRecDepth 100000 in
theorem x_rseal (b : Bs) (hl : b.length ≤ 140737488355328) : DCalls Tryz.prog 63 [bstr b] (seV (sealP b)) := by
  have f1 := x_four b.length
  have f2 := x_four (crc b)
  have l1 := four_len b.length
  have l2 := four_len (crc b)
  refine sx Tryz.func63 (by kernel_rfl) ?_
  conv => whnf
  rintro (_ | _) h0
  rotate_left
  · rw [show sealP b = ([], 3) by unfold sealP; rw [if_pos (by simp [mk_size] at h0; omega)]]
    (conv => whnf) <;> rfl
  have h0 : b.length ≤ 262136 := by simp [mk_size] at h0; omega
  rw [show sealP b = (four b.length ++ (four (crc b) ++ b), 0) by unfold sealP; rw [if_neg (by omega)]]
  generalize four b.length = F at *
  generalize four (crc b) = G at *
  conv => whnf
  refine ⟨none, by kernel_rfl, ?_⟩
  conv => whnf
  rw [lenW32 h0]
  refine ⟨_, f1, ?_⟩
  conv => whnf
  rw [bytesOf_map]
  conv => whnf
  refine ⟨_, x_rcrc b (by omega), ?_⟩
  conv => whnf
  refine ⟨_, f2, ?_⟩
  conv => whnf
  rw [bytesOf_map]
  conv => whnf
  rw [show (⟨F.toArray⟩ : ByteArray) = mk F from rfl, show (⟨G.toArray⟩ : ByteArray) = mk G from rfl]
  refine ⟨by rw [mk_size, mk_size]; omega, ?_⟩
  conv => whnf
  rw [mk_app]
  refine ⟨by rw [mk_size, mk_size, List.length_append]; omega, ?_⟩
  conv => whnf
  rw [mk_app, List.append_assoc]
end Go.Proofs.YtkpmlgpkmlhbjaaGreatDoor
namespace Go.Proofs.YtkpmlgpkmlhbjaaGreatDoor
open Go.RowKit
def bodyP (s : Bs) : Bs := (s.drop 8).take (num4 s)
def openP (s : Bs) : Bs × Nat × Int :=
  if s.length < 8 then ([], 0, 14) else if num4 s > 262136 then ([], 0, 13) else if num4 s > s.length - 8 then ([], 0, 14)
  else if crc (bodyP s) = num4 (s.drop 4) then (bodyP s, 8 + num4 s, 0) else ([], 0, 13)
abbrev opV (p : Bs × Nat × Int) : V := .tu [bstr p.1, int p.2.1, int p.2.2]
theorem fin_op {p q : Bs × Nat × Int} (h : p = q) : opV p = opV q := by rw [h]
theorem four_iff {n : Nat} (h : n < 4294967296) {s : Bs} (hs : 8 ≤ s.length) : (four n == (s.drop 4).take 4) = decide (n = num4 (s.drop 4)) := by
  match s, hs with
  | _ :: _ :: _ :: _ :: a :: b :: c :: d :: r, _ =>
    show (four n == [a, b, c, d]) = decide (n = num4 (a :: b :: c :: d :: r))
    rw [Bool.eq_iff_iff, beq_iff_eq, decide_eq_true_eq]
    constructor
    · intro e
      have := num4_four h r
      rw [e] at this
      exact this.symm
    · intro e
      rw [e, four_num4]
set_option maxHeartbeats 1000000 in
set_option maxRecDepth 100000 in
theorem x_open (l : Bs) (hl : l.length ≤ 140737488355328) : DCalls Tryz.prog 64 [bstr l] (opV (openP l)) := by
  refine sx Tryz.func64 (by kernel_rfl) ?_
  conv => whnf
  rintro (_ | _) h0
  rotate_left
  · conv => whnf
    exact fin_op (p := ([], 0, 14)) (by unfold openP; rw [if_pos (by simp [mk_size] at h0; omega)])
  have h0 : 8 ≤ l.length := by simp [mk_size] at h0; omega
  have hn := num4_lt l
  have hb : bodyP l = (l.drop 8).take (num4 l) := rfl
  have hO : openP l = if num4 l > 262136 then ([], 0, 13) else if num4 l > l.length - 8 then ([], 0, 14)
    else if crc (bodyP l) = num4 (l.drop 4) then (bodyP l, 8 + num4 l, 0) else ([], 0, 13) := by unfold openP; rw [if_neg (by omega)]
  conv => whnf
  refine ⟨_, x_number4 l (by omega), ?_⟩
  conv => whnf
  rw [IntWalk.i64_in (num4 l : Int) (by omega)]
  generalize num4 l = n at *
  rintro (_ | _) h1
  rotate_left
  · have h1 : n > 262136 := by simp at h1; omega
    conv => whnf
    exact fin_op (p := ([], 0, 13)) (by rw [hO, if_pos h1])
  have h1 : n ≤ 262136 := by simp at h1; omega
  rw [if_neg (by omega)] at hO
  have hw : IntKind.i64.wrap ((((mk l).size : Nat) : Int) - 8) = ((l.length - 8 : Nat) : Int) := by rw [mk_size, IntWalk.i64_in _ (by omega)]; omega
  have hw2 : IntKind.i64.wrap (8 + (n : Int)) = ((8 + n : Nat) : Int) := by rw [IntWalk.i64_in _ (by omega)]; omega
  conv => whnf
  rw [hw]
  rintro (_ | _) h2
  rotate_left
  · have h2 : n > l.length - 8 := by simp at h2; omega
    conv => whnf
    exact fin_op (p := ([], 0, 14)) (by rw [hO, if_pos h2])
  have h2 : n ≤ l.length - 8 := by simp at h2; omega
  rw [if_neg (by omega)] at hO
  conv => whnf
  rw [hw2]
  refine ⟨by omega, by omega, by rw [mk_size]; omega, ?_⟩
  rw [show (mk l).extract (Int.toNat 8) (((8 + n : Nat) : Int)).toNat = mk ((l.drop 8).take n) from mkM l 8 n, ← hb]
  have hbl : (bodyP l).length ≤ 262136 := by rw [hb, List.length_take]; omega
  generalize bodyP l = b at *
  conv => whnf
  refine ⟨none, by kernel_rfl, ?_⟩
  conv => whnf
  refine ⟨_, x_crc b (by omega), ?_⟩
  conv => whnf
  refine ⟨by omega, by rw [mk_size]; omega, by omega, ?_⟩
  rw [show (mk l).extract (Int.toNat 4) (((mk l).size : Nat) : Int).toNat = mk (l.drop 4) from mkF l 4]
  conv => whnf
  refine ⟨_, x_number4 (l.drop 4) (by rw [List.length_drop]; omega), ?_⟩
  conv => whnf
  rintro (_ | _) h3
  · have h3 : crc b = num4 (l.drop 4) := by simp at h3; omega
    conv => whnf
    rw [hw2]
    exact fin_op (p := (b, 8 + n, 0)) (by rw [hO, if_pos h3])
  · have h3 : ¬ crc b = num4 (l.drop 4) := by simp at h3; omega
    conv => whnf
    exact fin_op (p := ([], 0, 13)) (by rw [hO, if_neg h3])
set_option maxHeartbeats 1000000 in
set_option maxRecDepth 100000 in
theorem x_ropen (l : Bs) (hl : l.length ≤ 140737488355328) : DCalls Tryz.prog 109 [bstr l] (opV (openP l)) := by
  refine sx Tryz.func109 (by kernel_rfl) ?_
  conv => whnf
  rintro (_ | _) h0
  rotate_left
  · conv => whnf
    exact fin_op (p := ([], 0, 14)) (by unfold openP; rw [if_pos (by simp [mk_size] at h0; omega)])
  have h0 : 8 ≤ l.length := by simp [mk_size] at h0; omega
  have hn := num4_lt l
  have hb : bodyP l = (l.drop 8).take (num4 l) := rfl
  have hO : openP l = if num4 l > 262136 then ([], 0, 13) else if num4 l > l.length - 8 then ([], 0, 14)
    else if crc (bodyP l) = num4 (l.drop 4) then (bodyP l, 8 + num4 l, 0) else ([], 0, 13) := by unfold openP; rw [if_neg (by omega)]
  have h8 : ∀ (c : UInt8), IntKind.i64.wrap ((c.toNat : Nat) : Int) = ((c.toNat : Nat) : Int) := fun c => by have := c.toNat_lt; rw [IntWalk.i64_in _ (by omega)]
  have hN : IntKind.i64.wrap (IntKind.i64.wrap (IntKind.i64.wrap (IntKind.i64.wrap (IntKind.i64.wrap (IntKind.i64.wrap ((l[0].toNat : Nat) : Int) * 256) + IntKind.i64.wrap ((l[1].toNat : Nat) : Int)) * 256 |> IntKind.i64.wrap |> (· + IntKind.i64.wrap ((l[2].toNat : Nat) : Int))) * 256) + IntKind.i64.wrap ((l[3].toNat : Nat) : Int)) = (num4 l : Int) := by
    match l, h0 with
    | a :: b :: c :: d :: r, _ =>
      have := a.toNat_lt; have := b.toNat_lt; have := c.toNat_lt; have := d.toNat_lt
      simp only [List.getElem_cons_zero, List.getElem_cons_succ, h8]
      unfold num4
      simp only [List.getD_cons_zero, List.getD_cons_succ]
      rw [IntWalk.i64_in ((a.toNat : Int) * 256) (by omega), IntWalk.i64_in ((a.toNat : Int) * 256 + b.toNat) (by omega), IntWalk.i64_in (((a.toNat : Int) * 256 + b.toNat) * 256) (by omega), IntWalk.i64_in (((a.toNat : Int) * 256 + b.toNat) * 256 + c.toNat) (by omega), IntWalk.i64_in ((((a.toNat : Int) * 256 + b.toNat) * 256 + c.toNat) * 256) (by omega), IntWalk.i64_in _ (by omega)]
      omega
  conv => whnf
  refine ⟨none, by kernel_rfl, ?_⟩
  conv => whnf
  refine ⟨by omega, _, mk_at (n := 0) (by omega), ?_⟩
  conv => whnf
  refine ⟨by omega, _, mk_at (n := 1) (by omega), ?_⟩
  conv => whnf
  refine ⟨by omega, _, mk_at (n := 2) (by omega), ?_⟩
  conv => whnf
  refine ⟨by omega, _, mk_at (n := 3) (by omega), ?_⟩
  conv => whnf
  rw [hN]
  generalize num4 l = n at *
  rintro (_ | _) h1
  rotate_left
  · have h1 : n > 262136 := by simp at h1; omega
    conv => whnf
    exact fin_op (p := ([], 0, 13)) (by rw [hO, if_pos h1])
  have h1 : n ≤ 262136 := by simp at h1; omega
  rw [if_neg (by omega)] at hO
  have hw : IntKind.i64.wrap ((((mk l).size : Nat) : Int) - 8) = ((l.length - 8 : Nat) : Int) := by rw [mk_size, IntWalk.i64_in _ (by omega)]; omega
  have hw2 : IntKind.i64.wrap (8 + (n : Int)) = ((8 + n : Nat) : Int) := by rw [IntWalk.i64_in _ (by omega)]; omega
  conv => whnf
  rw [hw]
  rintro (_ | _) h2
  rotate_left
  · have h2 : n > l.length - 8 := by simp at h2; omega
    conv => whnf
    exact fin_op (p := ([], 0, 14)) (by rw [hO, if_pos h2])
  have h2 : n ≤ l.length - 8 := by simp at h2; omega
  rw [if_neg (by omega)] at hO
  have hbl : (bodyP l).length ≤ 262136 := by rw [hb, List.length_take]; omega
  have hF := x_four (crc (bodyP l))
  have hE := four_iff (crc_lt (bodyP l)) h0
  conv => whnf
  refine ⟨none, by kernel_rfl, ?_⟩
  conv => whnf
  rw [hw2]
  refine ⟨by omega, by omega, by rw [mk_size]; omega, ?_⟩
  rw [show (mk l).extract (Int.toNat 8) (((8 + n : Nat) : Int)).toNat = mk ((l.drop 8).take n) from mkM l 8 n, ← hb]
  generalize bodyP l = b at *
  generalize four (crc b) = F at *
  conv => whnf
  refine ⟨_, x_rcrc b (by omega), ?_⟩
  conv => whnf
  refine ⟨_, hF, ?_⟩
  conv => whnf
  rw [bytesOf_map]
  conv => whnf
  refine ⟨by omega, by omega, by rw [mk_size]; omega, ?_⟩
  rw [show (mk l).extract (Int.toNat 4) (Int.toNat 8) = mk ((l.drop 4).take 4) from mkM l 4 4]
  conv => whnf
  rintro (_ | _) h3
  · have h3 : (!sEq (mk F) (mk ((l.drop 4).take 4))) = false := h3
    rw [sEq_mk, hE] at h3
    have h3 : crc b = num4 (l.drop 4) := by simpa using h3
    conv => whnf
    rw [hw2]
    refine ⟨by omega, by omega, by rw [mk_size]; omega, ?_⟩
    rw [show (mk l).extract (Int.toNat 8) (((8 + n : Nat) : Int)).toNat = mk ((l.drop 8).take n) from mkM l 8 n, ← hb]
    conv => whnf
    rw [hw2]
    exact fin_op (p := (b, 8 + n, 0)) (by rw [hO, if_pos h3])
  · have h3 : (!sEq (mk F) (mk ((l.drop 4).take 4))) = true := h3
    rw [sEq_mk, hE] at h3
    have h3 : ¬ crc b = num4 (l.drop 4) := by simpa using h3
    conv => whnf
    exact fin_op (p := ([], 0, 13)) (by rw [hO, if_neg h3])
end Go.Proofs.YtkpmlgpkmlhbjaaGreatDoor
namespace Go.Proofs.YtkpmlgpkmlhbjaaGreatDoor
open Go.RowKit
theorem skp_bl {c : UInt8} {l : Bs} (h : isBl c = true) : skp false (c :: l) = skp false l + 1 := by simp [skp, h]
theorem skp_end {c : UInt8} {l : Bs} (h : isBl c = false) (h2 : (c == 47 && l.head? == some 47) = false) : skp false (c :: l) = 0 := by simp [skp, h, h2]
theorem skp_com {l : Bs} (h : l.head? = some 47) : skp false (47 :: l) = skp true l + 1 := by simp [skp, h, show isBl 47 = false from rfl]
theorem skp_nl {l : Bs} : skp true (10 :: l) = skp false (10 :: l) := by simp [skp, show isBl 10 = true from rfl]
theorem skp_in {c : UInt8} {l : Bs} (h : (c == 10) = false) : skp true (c :: l) = skp true l + 1 := by simp [skp, h]
end Go.Proofs.YtkpmlgpkmlhbjaaGreatDoor
