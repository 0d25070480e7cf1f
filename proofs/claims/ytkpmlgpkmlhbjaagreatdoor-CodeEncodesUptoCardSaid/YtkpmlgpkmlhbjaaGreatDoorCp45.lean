/- Texts joined by pack.py: XCd60 XCdN2 XCdN3 XCdU -/
import Derived.Test.YtkpmlgpkmlhbjaaGreatDoorCp42
import Derived.Test.YtkpmlgpkmlhbjaaGreatDoorCp43
import Derived.Test.YtkpmlgpkmlhbjaaGreatDoorCp44
import Derived.ProofKit
import Derived.JoinedCond
namespace Go.Proofs.YtkpmlgpkmlhbjaaGreatDoor
open Go.RowKit
structure WayAt (c : Cd) (f : Fn) (d : List Int) (m : Nat) (n : Int) (x : In) : Prop where
  o1 : 1 ≤ x.op
  o2 : x.op ≤ 20
  o3 : x.op = 17 → 0 ≤ x.a ∧ x.a < c.fs.length
  p0 : 0 ≤ popsN c.fs x
  p1 : popsN c.fs x ≤ n
  r : x.op = 20 → n = 1
  q0 : 0 ≤ pushN x
  q1 : pushN x ≤ 2
  le : n - popsN c.fs x + pushN x ≤ 64
  nx : ∀ k ∈ succs x m, Way c f d k (n - popsN c.fs x + pushN x)
theorem Way.all {c : Cd} {f : Fn} {at_ n : Int} (h : Way c f (verP c).1 at_ n) (hk : (chkP c).2 = 0) (hf : f ∈ c.fs) :
    ∃ m : Nat, at_ = m ∧ ∃ hm : m < c.is.length, ∃ hd : m < (verP c).1.length, (verP c).1[m] = n ∧ WayAt c f (verP c).1 m n c.is[m] := by
  obtain ⟨hS, _⟩ := sound_of hk
  obtain ⟨hw, hall⟩ := dep_facts hk
  obtain ⟨lo, ed, e1, e2, e3, e4, hg⟩ := hS.good f hf
  have h1 := h.ge
  have h2 := h.lt
  have g1 : f.en.toNat = lo := by omega
  have g2 : f.ed.toNat = ed := by omega
  obtain ⟨s1, s2⟩ := h.step (hall f hf).2 (by omega) (by rw [g1, g2]; exact hg) (by omega)
  obtain ⟨m, rfl⟩ : ∃ m : Nat, at_ = m := ⟨at_.toNat, by omega⟩
  rw [Int.toNat_natCast] at s1 s2
  have hm : m < c.is.length := by omega
  have hd : m < (verP c).1.length := by rw [hw.len]; exact hm
  have hx : c.is.getD m noIn = c.is[m] := by simp [hm]
  have hdm := h.d
  rw [Int.toNat_natCast] at hdm
  have hgi := hg m hm (by omega) (by omega)
  have hp := push_bound c.is[m]
  unfold badI at s1
  unfold afterI at s1 s2
  rw [hx, hdm] at s1 s2
  simp only [Bool.or_eq_false_iff, decide_eq_false_iff_not, Bool.and_eq_false_iff, beq_eq_false_iff_ne, bne_eq_false_iff_eq] at s1
  refine ⟨m, rfl, hm, hd, by rw [← dAt_get hd]; exact hdm, hgi.h1, hgi.h2, hgi.h3, hgi.h4, by omega, fun e => ?_, hp.1, hp.2, by omega, s2⟩
  rcases s1.1.2 with h | h
  · exact absurd e h
  · exact h
set_option maxHeartbeats 16000000 in
set_option maxRecDepth 100000 in
theorem x_lawVerifies (haw : Awake) (c : Cd) (f : Int) (ts : List Bool) (hc : CdIn c) (_hcb : CdBig c) : DCalls Tryz.prog 7 [c.V, int f, .sl true 1 (ts.map boolD)] (boo true) := by
  have hlf : (c.fs.map fnD).length = c.fs.length := List.length_map _
  have hli : (c.is.map inD).length = c.is.length := List.length_map _
  have hlt : (ts.map boolD).length = ts.length := List.length_map _
  have hld : ((verP c).1.map intD).length = (verP c).1.length := List.length_map _
  refine sx Tryz.func7 (by kernel_rfl) ?_
  conv => whnf
  refine ⟨_, x_depth c hc, ?_⟩
  conv => whnf
  refine ⟨_, x_check c hc, ?_⟩
  conv => whnf
  refine known false (bne_self_eq_false _) ?_
  conv => whnf
  rintro (_ | _) h1
  rotate_left
  · conv => whnf
    refine ⟨_, haw, ?_⟩
    (conv => whnf) <;> rfl
  have h1 : (chkP c).2 = 0 := by simpa using (show ((chkP c).2 != 0) = false from h1)
  conv => whnf
  rintro (_ | _) h2
  rotate_left
  · conv => whnf
    refine ⟨_, haw, ?_⟩
    (conv => whnf) <;> rfl
  have h2 : ¬ f < 0 := of_decide_eq_false h2
  conv => whnf
  rintro (_ | _) h3
  rotate_left
  · conv => whnf
    refine ⟨_, haw, ?_⟩
    (conv => whnf) <;> rfl
  have h3 : ¬ ((c.fs.map fnD).length : Int) ≤ f := of_decide_eq_false h3
  conv => whnf
  rintro (_ | _) h4
  rotate_left
  · conv => whnf
    refine ⟨_, haw, ?_⟩
    (conv => whnf) <;> rfl
  have h4 : ¬ (10000 : Int) < ((ts.map boolD).length : Int) := of_decide_eq_false h4
  have hdl : (verP c).1.length = c.is.length := (dep_facts h1).1.len
  have hi4 := (sound_of h1).1.i4k
  obtain ⟨j, rfl⟩ : ∃ j : Nat, f = j := ⟨f.toNat, by omega⟩
  have hj : j < c.fs.length := by omega
  have hgf := get_map fnD hj
  have hfm : c.fs[j] ∈ c.fs := List.getElem_mem hj
  have hent := ((dep_facts h1).2 c.fs[j] hfm).1
  obtain ⟨lo, ed, e1, e2, e3, e4, _⟩ := (sound_of h1).1.good c.fs[j] hfm
  generalize c.fs[j] = fn at *
  conv => whnf
  refine known false (by rw [hli]; show ((((verP c).1.map intD).length : Int) != (c.is.length : Int)) = false; rw [hld, hdl]; simp) ?_
  have hW0 : Way c fn (verP c).1 fn.en 0 := ⟨Int.le_refl _, by omega, hent, Int.le_refl _⟩
  generalize hfn : fn = fn' at hW0 hfm
  obtain ⟨nm, ps, ls, en, ed'⟩ := fn
  conv => whnf
  refine ⟨by omega, _, hgf, ?_⟩
  conv => whnf
  refine ⟨[], Nat × Int × Int, fun ⟨k, a, n⟩ => [(13, int k), (11, int a), (12, int n)], fun _ => [], fun ⟨k, a, n⟩ => k ≤ ts.length ∧ n ≤ 64 ∧ Way c fn' (verP c).1 a n, fun x => ts.length - x.1, (0, en, 0), ⟨Nat.zero_le _, by decide, by rw [show en = fn'.en by rw [← hfn]]; exact hW0⟩, ?_, ?_⟩
  · refine ⟨rfl, ?_, ?_⟩ <;> repeat' (first | exact trivial | exact rfl | refine and_rfl ?_ | refine and_two ?_ ?_)
  rintro ⟨k, a, n⟩ ⟨hk, hn64, hw⟩
  have hge := hw.ge
  have hltE := hw.lt
  have hn0 := hw.n
  rw [← hfn] at hge hltE
  dsimp only at hge hltE
  conv => whnf
  rintro (_ | _) g1
  · conv => whnf
    refine ⟨_, haw, ?_⟩
    (conv => whnf) <;> rfl
  have g1 : k < ts.length := by rw [hlt] at g1; simpa using g1
  have hwk : IntKind.i64.wrap (((k : Nat) : Int) + 1) = ((k + 1 : Nat) : Int) := wrap_succ (by omega)
  obtain ⟨m, rfl, hm, hd, hdm, hA⟩ := hw.all h1 hfm
  have hgd := get_map intD hd
  have hgi := get_map inD hm
  have hgt := get_map boolD g1
  rw [hdm] at hgd
  generalize c.is[m] = x at hgi hA
  conv => whnf
  refine ⟨by omega, _, hgf, ?_⟩
  conv => whnf
  refine known false (decide_eq_false (show ¬ (m : Int) < en by omega)) ?_
  conv => whnf
  refine ⟨by omega, _, hgf, ?_⟩
  conv => whnf
  refine known false (decide_eq_false (show ¬ ed' ≤ (m : Int) by omega)) ?_
  conv => whnf
  refine ⟨by omega, _, hgd, ?_⟩
  conv => whnf
  refine known false (bne_self_eq_false _) ?_
  have hwm : IntKind.i64.wrap (((m : Nat) : Int) + 1) = ((m + 1 : Nat) : Int) := wrap_succ (by omega)
  obtain ⟨o1, o2, o3, p0, p1, hr, q0, q1, hle, nx⟩ := hA
  have htk := x_takes c x o1 o2 o3
  have hnx : ∀ b : Int, b ∈ succs x m → Way c fn' (verP c).1 b (n - popsN c.fs x + pushN x) := nx
  unfold succs at hnx
  generalize popsN c.fs x = pp at *
  generalize pushN x = pq at *
  have hw1 : IntKind.i64.wrap (n - pp) = n - pp := IntWalk.i64_in _ (by omega)
  have hw2 : IntKind.i64.wrap (n - pp + pq) = n - pp + pq := IntWalk.i64_in _ (by omega)
  obtain ⟨op, xa, xs, ks⟩ := x
  dsimp only at hr hnx
  conv => whnf
  refine ⟨by omega, _, hgi, ?_⟩
  conv => whnf
  refine ⟨_, htk, ?_⟩
  conv => whnf
  refine known false (decide_eq_false (by omega)) ?_
  conv => whnf
  refine known false (decide_eq_false (by omega)) ?_
  have hw3 : IntKind.i64.wrap (IntKind.i64.wrap (n - pp) + pq) = n - pp + pq := by rw [hw1, hw2]
  by_cases h20 : op = 20
  · subst h20
    conv => whnf
    refine known true rfl ?_
    conv => whnf
    refine known false (by rw [hr rfl]; rfl) ?_
    conv => whnf
    refine known true rfl ?_
    conv => whnf
    refine ⟨_, haw, ?_⟩
    (conv => whnf) <;> rfl
  conv => whnf
  refine known false (beq_eq_false_iff_ne.2 h20) ?_
  conv => whnf
  refine known false (beq_eq_false_iff_ne.2 h20) ?_
  by_cases h13 : op = 13
  · subst h13
    have hn1 : Way c fn' (verP c).1 xa (n - pp + pq) := hnx xa (by simp)
    conv => whnf
    refine known true rfl ?_
    conv => whnf
    refine ⟨(k + 1, xa, n - pp + pq), ⟨g1, hle, hn1⟩, by dsimp only; omega, ?_⟩
    refine ⟨rfl, ?_, ?_⟩ <;> repeat' (first | exact trivial | exact rfl | refine and_rfl ?_ | refine and_val hwk ?_ | refine and_val hwm ?_ | refine and_val hw3 ?_ | refine and_two ?_ ?_)
  conv => whnf
  refine known false (beq_eq_false_iff_ne.2 h13) ?_
  by_cases h14 : op = 14
  · subst h14
    have hn1 : Way c fn' (verP c).1 xa (n - pp + pq) := hnx xa (by simp)
    have hn2 : Way c fn' (verP c).1 ((m + 1 : Nat) : Int) (n - pp + pq) := hnx _ (by simp)
    conv => whnf
    refine known true rfl ?_
    conv => whnf
    refine ⟨by omega, _, hgt, ?_⟩
    conv => whnf
    rintro (_ | _) gt
    · conv => whnf
      refine ⟨(k + 1, ((m + 1 : Nat) : Int), n - pp + pq), ⟨g1, hle, hn2⟩, by dsimp only; omega, ?_⟩
      refine ⟨rfl, ?_, ?_⟩ <;> repeat' (first | exact trivial | exact rfl | refine and_rfl ?_ | refine and_val hwk ?_ | refine and_val hwm ?_ | refine and_val hw3 ?_ | refine and_two ?_ ?_)
    conv => whnf
    refine ⟨(k + 1, xa, n - pp + pq), ⟨g1, hle, hn1⟩, by dsimp only; omega, ?_⟩
    refine ⟨rfl, ?_, ?_⟩ <;> repeat' (first | exact trivial | exact rfl | refine and_rfl ?_ | refine and_val hwk ?_ | refine and_val hwm ?_ | refine and_val hw3 ?_ | refine and_two ?_ ?_)
  have hn2 : Way c fn' (verP c).1 ((m + 1 : Nat) : Int) (n - pp + pq) := hnx _ (by simp [h20, h13, h14])
  conv => whnf
  refine known false (beq_eq_false_iff_ne.2 h14) ?_
  conv => whnf
  refine ⟨(k + 1, ((m + 1 : Nat) : Int), n - pp + pq), ⟨g1, hle, hn2⟩, by dsimp only; omega, ?_⟩
  refine ⟨rfl, ?_, ?_⟩ <;> repeat' (first | exact trivial | exact rfl | refine and_rfl ?_ | refine and_val hwk ?_ | refine and_val hwm ?_ | refine and_val hw3 ?_ | refine and_two ?_ ?_)
end Go.Proofs.YtkpmlgpkmlhbjaaGreatDoor
namespace Go.Proofs.YtkpmlgpkmlhbjaaGreatDoor
open Go.RowKit
theorem d_verifies (ds0 ds1 ds2 : List D) (h0 : DOk TT 6 25 ds0) (h1 : DOk TT 6 3 ds1) (h2 : DOk TT 6 48 ds2) : DCalls Tryz.prog 7 [vOf TT 25 ds0, vOf TT 3 ds1, vOf TT 48 ds2] (boo true) := by
  obtain ⟨c, h, hc, hb⟩ := read_cdC h0
  obtain ⟨k, rfl, _⟩ := h1
  obtain ⟨xs, rfl, h3, _, h4⟩ := h2
  obtain ⟨ts, rfl, _⟩ := map_ofC (f := boolD) (p := fun _ => True) fun x hx => by
    obtain ⟨b, rfl⟩ := h4 x hx
    exact ⟨b, rfl, trivial⟩
  rw [h]
  exact x_lawVerifies x_awakeC c k ts hc hb
end Go.Proofs.YtkpmlgpkmlhbjaaGreatDoor
namespace Go.Proofs.YtkpmlgpkmlhbjaaGreatDoor
open Go.RowKit
theorem d_encodes (ds0 ds1 : List D) (h0 : DOk TT 6 25 ds0) (h1 : DOk TT 6 9 ds1) (hb : ∀ l : Bs, vOf TT 9 ds1 = bstr l → l.length ≤ 1048576) : DCalls Tryz.prog 5 [vOf TT 25 ds0, vOf TT 9 ds1] (boo true) := by
  obtain ⟨c, h, hc, _⟩ := read_cdC h0
  obtain ⟨s, hs, _⟩ := read_bsC h1
  have := hb s hs
  rw [h, hs]
  exact x_lawEncodes x_awakeC c s hc (by omega)
theorem d_back (ds0 ds1 : List D) (h0 : DOk TT 6 25 ds0) (h1 : DOk TT 6 9 ds1) (hb : ∀ l : Bs, vOf TT 9 ds1 = bstr l → l.length ≤ 1048576) : DCalls Tryz.prog 8 [vOf TT 25 ds0, vOf TT 9 ds1] (boo true) := by
  obtain ⟨c, h, hc, _⟩ := read_cdC h0
  obtain ⟨s, hs, _⟩ := read_bsC h1
  have := hb s hs
  rw [h, hs]
  exact x_lawBack x_awakeC c s hc (by omega)
end Go.Proofs.YtkpmlgpkmlhbjaaGreatDoor
namespace Go.Proofs.YtkpmlgpkmlhbjaaGreatDoor
open Go.RowKit Go.ChangeShapes
section
variable {H : Type} {enc : TypeId × Value → H}
theorem handed_cond_and {a : Assume} {C : Checked} {os : Os} {f : FuncId} {fn : Func} {s : OpenSpec} {k : (H : Type) → List (DataW H) → Bool} (hk : s.cond = some k) {F : Stop.Interp} {conds : List PathCond} {apart fresh handsOn again : Bool} {X : World → Array Value → Prop}
    (hX : ∀ (w w' : World) (args : Array Value), w.heap = w'.heap → X w args → X w' args)
    (own : ownKnob C.prog.godebug = none) (started : os.Started) (noInit : C.prog.inits.idxOf? f = none) (hfn : C.prog.funcs[f]? = some fn)
    (witness : ∃ (w : World) (tape : Tape) (i : Input), w.os = os ∧ (w.forCall tape i).Shaped C.prog ∧ i.vars = [] ∧ Input.okWide C.prog (w.forCall tape i) .any w.heap.size f i ∧
      ((s.pre enc C.prog fn conds apart (w.forCall tape i).memory i.args ∧ X (w.forCall tape i).memory i.args) ∧ sizedMet enc C.prog fn s apart (w.forCall tape i).memory i.args) ∧ a.holds C.prog (lone (Frame.enter C.prog f i.args .normal) [] (w.forCall tape i)))
    (contract : ∀ (W : World) (base : Nat) (args : Array Value) (ds gs : List (DataW H)) (before : List MemPlace),
      (∀ (j : Nat) t v, fn.params[j]? = some t → args[j]? = some v → Value.okWide C.prog W .any base t v) →
      DataW.Whole enc C.prog fn.params.toList s.vars apart W args.toList ds gs before →
      conds.all (PathCond.test C.prog ⟨fn.params.toList, ds, s.bare.plain.varTypes C.prog, gs⟩) = true → k H (ds ++ gs) = true →
      (DataW.weightsEach C.prog (fn.params.toList ++ s.bare.plain.varTypes C.prog) (ds ++ gs)).all (· ≤ reachBytes) = true → X W args →
      a.holds C.prog (lone (Frame.enter C.prog f args .normal) [] W) →
      Calls C.prog f args W fun e W' => ∃ v, e = .returned v ∧ (s.at F).post enc C.prog fn apart fresh handsOn again W args v W') :
    ReturnsInHanded a C os f .any (fun w args => (s.pre enc C.prog fn conds apart w args ∧ X w args) ∧ sizedMet enc C.prog fn s apart w args) ((s.at F).post enc C.prog fn apart fresh handsOn again) := by
  refine returnsInHanded_of_calls own started noInit witness ?_
  intro w tape i _ _ _ hok hpre hholds
  obtain ⟨_, _, _, fn', hfn', _, _, _, _, hval⟩ := hok
  have e : fn' = fn := Option.some.inj (hfn'.symm.trans hfn)
  subst e
  obtain ⟨⟨hp, hx⟩, hz⟩ := hpre
  obtain ⟨ds, gs, before, hw, hc, hkk⟩ := (OpenSpec.pre_some hk conds apart _ _).1 hp
  have hw' := DataW.Whole.of_heap (w' := w.forCall tape i) (by rfl) hw
  refine (contract (w.forCall tape i) w.heap.size i.args ds gs before hval hw' hc hkk (hz.weights hw) (hX _ _ _ (by rfl) hx) hholds).mono fun e W' ⟨v, he, hp⟩ => ?_
  subst he
  exact ChangeSpec.post_blind hp
theorem witness_cond {C : Checked} {os : Os} {f : FuncId} {fn : Func} {s : OpenSpec} {k : (H : Type) → List (DataW H) → Bool} (hk : s.cond = some k) {conds : List PathCond} {apart : Bool} {X : World → Array Value → Prop} (modest : Bool) (w0 : World) (args : Array Value) (fuel : Nat) (hos : w0.os = os)
    (hv : (w0.forCall (fun _ _ => 0) ⟨#[], args, []⟩).variablesB C.prog = true)
    (hr : ((w0.forCall (fun _ _ => 0) ⟨#[], args, []⟩).heap.toList.drop C.prog.globals.size).take ((begin C.prog (fun _ _ => 0) default).world.heap.size - C.prog.globals.size) =
      (begin C.prog (fun _ _ => 0) default).world.heap.toList.drop C.prog.globals.size)
    (hok : Input.okWideB C.prog (w0.forCall (fun _ _ => 0) ⟨#[], args, []⟩) f ⟨#[], args, []⟩ = true)
    {x : List (DataW H) × List (DataW H) × List MemPlace} (hx : DataW.whole enc C.prog (w0.forCall (fun _ _ => 0) ⟨#[], args, []⟩).memory fn.params.toList s.vars apart args.toList fuel = some x)
    (hconds : conds.all (PathCond.test C.prog ⟨fn.params.toList, x.1, s.bare.plain.varTypes C.prog, x.2.1⟩) = true) (hkk : k H (x.1 ++ x.2.1) = true)
    (hsz : s.bare.sizedB enc C.prog fn apart (w0.forCall (fun _ _ => 0) ⟨#[], args, []⟩).memory args fuel = true)
    (hX : X (w0.forCall (fun _ _ => 0) ⟨#[], args, []⟩).memory args) :
    ∃ (w : World) (tape : Tape) (i : Input), w.os = os ∧ (w.forCall tape i).Shaped C.prog ∧ i.vars = [] ∧ Input.okWide C.prog (w.forCall tape i) .any w.heap.size f i ∧
      ((s.pre enc C.prog fn conds apart (w.forCall tape i).memory i.args ∧ X (w.forCall tape i).memory i.args) ∧ sizedMet enc C.prog fn s apart (w.forCall tape i).memory i.args) ∧ ({ modest := modest } : Assume).holds C.prog (lone (Frame.enter C.prog f i.args .normal) [] (w.forCall tape i)) :=
  ⟨w0, fun _ _ => 0, ⟨#[], args, []⟩, hos, World.shaped_of_B hv hr, (Input.okWide_of_okWideB (base := 0) hok).1, (Input.okWide_of_okWideB hok).2,
    ⟨⟨(OpenSpec.pre_some hk conds apart _ _).2 ⟨x.1, x.2.1, x.2.2, DataW.Whole_of_whole hx, hconds, hkk⟩, hX⟩, sizedMet_of_sizedB hsz⟩, by
    simp only [Assume.holds]
    exact ⟨by simp, by simp, fun _ => Modest.zero, by simp, by simp⟩⟩
end
end Go.Proofs.YtkpmlgpkmlhbjaaGreatDoor
