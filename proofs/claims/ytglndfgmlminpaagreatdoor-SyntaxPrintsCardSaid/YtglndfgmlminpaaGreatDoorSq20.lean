/- Texts joined by pack.py: XLx19 XLx20 XLx21 -/
import Derived.Test.YtglndfgmlminpaaGreatDoorSq19
import Derived.Tactics
import Derived.Tactics2
import Derived.Defers
import Derived.Laws.Pointers
import Derived.Laws.LoneSync
import Derived.RegionTactic
import Derived.RegionCalls
import Derived.ChangeAlike
set_option maxHeartbeats 1600000
set_option maxRecDepth 100000
namespace Go.Proofs.YtglndfgmlminpaaGreatDoor
section
open Go.RowKit
theorem r_disable (w : World) : (callFunc 228 #[]).run Tryz.prog w = .ok (.value (.tuple #[])) w := run_call_mark0 Tryz.func228 kR kR kR .disable kR w
theorem r_enable (w : World) : (callFunc 230 #[]).run Tryz.prog w = .ok (.value (.tuple #[])) w := run_call_mark0 Tryz.func230 kR kR kR .enable kR w
theorem r_acquire (a : Addr) (w : World) : (callFunc 231 #[.pointer (some a)]).run Tryz.prog w = .ok (.value (.tuple #[])) w := run_call_marked Tryz.func231 kR kR kR .acquire kR a w
theorem r_release (a : Addr) (w : World) : (callFunc 233 #[.pointer (some a)]).run Tryz.prog w = .ok (.value (.tuple #[])) w := run_call_marked Tryz.func233 kR kR kR .releaseMerge kR a w
theorem ml_ (a : Addr) (x : Value) (u : FrameMode) (w : World) (hc : w.cell? a = some x) (hz : w.frozen? a = false) :
  CallsD Tryz.prog 197 #[.pointer (some a), .bool true] u w fun e u' w' => u' = u ∧ (e = .returned (.tuple #[]) ∧ w' = w.drew.setCell a (.int .u32 1)) := by
 have hc' : w.drew.cell? a = some x := by go_simp
 have hz' : w.drew.frozen? a = false := by go_simp
 have hst := run_call_store (P := Tryz.prog) Tryz.func214 kR kR kR kR (k := .u32) (y := 1) hc' hz'
 go_enter_d Tryz.func197, Tryz.ntmps197
 go_wp2
 go_region_calls
 all_goals (go_end0; exact ⟨rfl, rfl⟩)
theorem kz_ (a : Addr) (u : FrameMode) (w : World) (hc : w.cell? a = some (.int .i32 1)) (hz : w.frozen? a = false) :
  CallsD Tryz.prog 196 #[.pointer (some a)] u w fun e u' w' => u' = u ∧ (e = .returned (.tuple #[]) ∧ w' = w.setCell a (.int .i32 0)) := by
 have hd := r_disable
 have he := r_enable
 have hr := r_release
 have hadd := run_call_add (P := Tryz.prog) Tryz.func234 kR kR kR .i32 kR (y := -1) (s := 0) hc hz (by simp [go_sem]; rfl)
 have hcv := run_convert_to_unsafe (P := Tryz.prog) (src := 249) (dst := 133) Tryz.underlying249 Tryz.underlying133 kR hc
 go_enter_d Tryz.func196, Tryz.ntmps196
 go_wp2
 go_end0
 go_wp2
 go_end0
 exact ⟨rfl, rfl⟩
theorem lock_free (a : Addr) (w : World) (hc : w.cell? a = some (.int .i32 0)) (hz : w.frozen? a = false) :
  Calls Tryz.prog 195 #[.pointer (some a)] w fun e w' => e = .returned (.tuple #[]) ∧ w' = w.setCell a (.int .i32 1) := by
 have hd := r_disable
 have he := r_enable
 have ha := r_acquire
 have hcas := run_call_cas_hit (P := Tryz.prog) Tryz.func229 kR kR kR .i32 kR (y := 1) hc hz
 have hc' : (w.setCell a (.int .i32 1)).cell? a = some (.int .i32 1) := World.cell?_setCell_same w a _ hc
 have hcv := run_convert_to_unsafe (P := Tryz.prog) (src := 249) (dst := 133) Tryz.underlying249 Tryz.underlying133 kR hc'
 go_enter Tryz.func195, Tryz.ntmps195
 go_wp2
 first | go_end0 | (simp only [Exit.inBlock, Exit.then]; refine bodyPost_ret (results_none rfl _ _ _) rfl ?_) | refine bodyPost_ret (results_none rfl _ _ _) rfl ?_
 go_wp2
 go_end0
 exact ⟨rfl, rfl⟩
theorem load_done (a : Addr) (x : Int) (w : World) (hc : w.cell? a = some (.int .u32 x)) :
  Calls Tryz.prog 169 #[.pointer (some a)] w fun e w' => e = .returned (.bool (x != 0)) ∧ w' = w := by
 have hl := run_call_load (P := Tryz.prog) Tryz.func194 kR kR kR .u32 kR (w := w) (a := a) (x := x) hc
 go_enter Tryz.func169, Tryz.ntmps169
 go_wp2
 go_ret
 exact ⟨rfl, rfl⟩
theorem slow_any (g : Nat) (w : World) (h0 : w.cell? ⟨g, 0, none⟩ = some (.int .u32 0)) (h1 : w.cell? ⟨g, 1, none⟩ = some (.int .i32 0))
  (_f0 : w.frozen? ⟨g, 0, none⟩ = false) (f1 : w.frozen? ⟨g, 1, none⟩ = false) {R : World → Prop}
  (hR : ∀ W, R W → W.cell? ⟨g, 0, none⟩ = some (.int .u32 0) ∧ W.cell? ⟨g, 1, none⟩ = some (.int .i32 1) ∧ W.frozen? ⟨g, 0, none⟩ = false ∧ W.frozen? ⟨g, 1, none⟩ = false)
  (hB : Calls Tryz.prog 135 #[.pointer (some ⟨g, 0, none⟩)] (w.setCell ⟨g, 1, none⟩ (.int .i32 1)) fun e W => e = .returned (.tuple #[]) ∧ R W) :
  Calls Tryz.prog 170 #[.pointer (some ⟨g, 0, none⟩), .func (.func 135) #[.pointer (some ⟨g, 0, none⟩)] #[]] w fun e w' => e = .returned (.tuple #[]) ∧
   ∃ W, R W ∧ w' = (W.drew.setCell ⟨g, 0, none⟩ (.int .u32 1)).setCell ⟨g, 1, none⟩ (.int .i32 0) := by
 have hc0 : (w.setCell ⟨g, 1, none⟩ (.int .i32 1)).cell? ⟨g, 0, none⟩ = some (.int .u32 0) := (World.cell?_setCell_other _ ⟨g, 1, none⟩ ⟨g, 0, none⟩ _ sI).trans h0
 have hnot : ∀ (x : Bool) (w : World), (Op.unary .not (.bool x)).run Tryz.prog w = .ok (.bool (!x)) w := fun _ _ => rfl
 go_enter_defers Tryz.func170, Tryz.ntmps170
 go_wp2_with (first
  | go_at_call 195; refine (lock_free ⟨g, 1, none⟩ _ (by go_simp) (by go_simp)).mono ?_; rintro e w' ⟨rfl, rfl⟩
  | go_at_call 169; refine (load_done ⟨g, 0, none⟩ 0 _ hc0).mono ?_; rintro e w' ⟨rfl, rfl⟩
  | go_at_call 135; refine hB.mono ?_; rintro e W ⟨rfl, hW⟩)
 obtain ⟨r0, r1, r2, r3⟩ := hR W hW
 refine leaves_cons (f := 197) (args := #[.pointer (some ⟨g, 0, none⟩), .bool true]) sI (by simp [go_sem]) ?_
 refine (ml_ ⟨g, 0, none⟩ (.int .u32 0) .returning _ r0 r2).mono ?_
 rintro e u' w'' ⟨rfl, rfl, rfl⟩
 refine leaves_cons (f := 196) (args := #[.pointer (some ⟨g, 1, none⟩)]) (by simp [settle]) (by simp [go_sem]) ?_
 refine (kz_ ⟨g, 1, none⟩ _ _ ?_ (by simp [r3])).mono ?_
 ·refine (World.cell?_setCell_other _ ⟨g, 0, none⟩ ⟨g, 1, none⟩ _ sI).trans ?_
  rw [World.cell?_drew]
  exact r1
 rintro e u' w'' ⟨rfl, rfl, rfl⟩
 simp [Leaves, settle, results, Tryz.results170]
 exact ⟨W, hW, rfl⟩
theorem do_any (g : Nat) (w : World) (h0 : w.cell? ⟨g, 0, none⟩ = some (.int .u32 0)) (h1 : w.cell? ⟨g, 1, none⟩ = some (.int .i32 0))
  (f0 : w.frozen? ⟨g, 0, none⟩ = false) (f1 : w.frozen? ⟨g, 1, none⟩ = false) {R : World → Prop}
  (hR : ∀ W, R W → W.cell? ⟨g, 0, none⟩ = some (.int .u32 0) ∧ W.cell? ⟨g, 1, none⟩ = some (.int .i32 1) ∧ W.frozen? ⟨g, 0, none⟩ = false ∧ W.frozen? ⟨g, 1, none⟩ = false)
  (hB : Calls Tryz.prog 135 #[.pointer (some ⟨g, 0, none⟩)] (w.setCell ⟨g, 1, none⟩ (.int .i32 1)) fun e W => e = .returned (.tuple #[]) ∧ R W) :
  Calls Tryz.prog 134 #[.pointer (some ⟨g, 0, none⟩), .func (.func 135) #[.pointer (some ⟨g, 0, none⟩)] #[]] w fun e w' => e = .returned (.tuple #[]) ∧
   ∃ W, R W ∧ w' = (W.drew.setCell ⟨g, 0, none⟩ (.int .u32 1)).setCell ⟨g, 1, none⟩ (.int .i32 0) := by
 go_enter Tryz.func134, Tryz.ntmps134
 go_wp2_with (first
  | go_at_call 169; refine (load_done ⟨g, 0, none⟩ 0 _ h0).mono ?_; rintro e w' ⟨rfl, rfl⟩
  | go_at_call 170; refine (slow_any g _ h0 h1 f0 f1 hR hB).mono ?_; rintro e w' ⟨rfl, W, hW, rfl⟩)
 go_end0
 exact ⟨rfl, W, hW, rfl⟩
def brD : List D := (((List.replicate 256 (D.cv (.slice none 0 0))).set 92 (.sl 1 ([92, 92].map a0_))).set 34 (.sl 1 ([92, 34].map a0_))) ++ [.sl 1 [[.cv (.string (mk [92]))], [.cv (.string (mk [34]))]]]
theorem brD_ok : RepOk brD := by
 refine ⟨rfl, rfl, rfl, fun c hc => ?_⟩
 have h1 : c.toNat ≠ 34 := by
  intro e
  have : c = 34 := UInt8.toNat_inj.1 e
  subst this; exact absurd hc dC
 have h2 : c.toNat ≠ 92 := by
  intro e
  have : c = 92 := UInt8.toNat_inj.1 e
  subst this; exact absurd hc dC
 have h3 := c.toNat_lt
 unfold brD
 rw [E_ (by rw [List.length_set, List.length_set, List.length_replicate]; omega), x_ oM, x_ oM, N_, if_pos oM]
theorem brC_len : brCells.length = 256 := by unfold brCells; rw [List.length_set, List.length_set, List.length_replicate]
theorem brD_len : brD.length = 257 := by unfold brD; rw [a_, List.length_set, List.length_set, List.length_replicate]; rfl
theorem brV : ∀ j d, j < 256 → brD[j]? = some d → brCells[j]? = some (D.v true d) ∧ ∀ v, d = .cv v → v.oneCell' = true := by
 intro j d hj hd
 unfold brD at hd
 rw [E_ (by rw [List.length_set, List.length_set, List.length_replicate]; omega)] at hd
 unfold brCells
 by_cases h1 : j = 34
 ·subst h1
  rw [F_ (by rw [List.length_set, List.length_replicate]; omega)] at hd ⊢
  cases hd
  exact ⟨rfl, fun v hv => by cases hv⟩
 rw [x_ (Ne.symm h1)] at hd ⊢
 by_cases h2 : j = 92
 ·subst h2
  rw [F_ (by rw [List.length_replicate]; omega)] at hd ⊢
  cases hd
  exact ⟨rfl, fun v hv => by cases hv⟩
 rw [x_ (Ne.symm h2)] at hd ⊢
 rw [N_, if_pos oM] at hd ⊢
 cases hd
 exact ⟨rfl, fun v hv => by cases hv; rfl⟩
theorem relD_of {N : ax_} {S : cs_} {w : World} {d : D} {u : Value} (h : RelV N S w (D.v true d) u) (h1 : ∀ v, d = .cv v → v.oneCell' = true) : RelD (S true) w d u := by
 cases d with
 | cv v => cases h; exact .cv _ (h1 _ rfl)
 | sl sz xs => cases h; assumption
def BR (w : World) (g B : Nat) : Prop := RelV (fun _ => none) (fun _ b => b < w.heap.size ∧ b ≠ g) w (.el true brD 0) (.pointer (some ⟨B, 0, none⟩))
structure RCells (w : World) (g : Nat) (us : Array Value) : Prop where
 at_ : ∃ ty, w.heap[g]? = some (.cells us ty (0, 0))
 size : us.size = 5
theorem build_any (g : Nat) (us : Array Value) (w : World) (hg : jj_ w) (hr : RCells w g us) (e0 : us[0]? = some (.int .u32 0)) (e1 : us[1]? = some (.int .i32 1)) (e2 : us[2]? = some (.int .u32 0)) (e3 : us[3]? = some .nilIface) (hng : ¬ glob g)
  {row : Value} (e4 : us[4]? = some row) {rus : List Value} (hrow : w.ownsRow 0 9 1 row 4 rus) (hrus : ∀ i j d, (olds[i]?.bind fun x => x[j]?) = some d → ∃ u, rus[i * 1 + j]? = some u ∧ RelD (fun _ => False) w d u)
  (hap : ∀ b, b3_ row = some b → b ≠ g ∧ ¬ glob b ∧ b < w.heap.size) :
  Calls Tryz.prog 171 #[.pointer (some ⟨g, 0, none⟩)] w fun e w' => ∃ B us', e = .returned (.iface 210 (.pointer (some ⟨B, 0, none⟩))) ∧ BR w' g B ∧ RCells w' g us' ∧
   us'[0]? = some (.int .u32 0) ∧ us'[1]? = some (.int .i32 1) ∧ (∀ b, b < w.heap.size → b ≠ g → b3_ row ≠ some b → w'.heap[b]? = w.heap[b]?) ∧ w'.os = w.os ∧ w'.tape = w.tape ∧ w'.output = w.output ∧ w.heap.size ≤ w'.heap.size := by
 obtain ⟨ty, hcell⟩ := hr.at_
 have hgl : g < w.heap.size := (Array.getElem?_eq_some_iff.1 hcell).1
 have hpos : ∀ b, gn_ [.pointer (some ⟨g, 0, none⟩), row] b → b = g ∨ b3_ row = some b := by
  rintro b ⟨v, hv, hb⟩
  simp only [List.mem_cons, List.not_mem_nil, or_false] at hv
  rcases hv with rfl | rfl
  ·left; simpa [b3_] using hb.symm
  ·exact .inr hb
 have hm : f7_ w.heap.size (jy_ fun _ => False) w [.pointer (some ⟨g, 0, none⟩), row] repl1 := by
  refine ⟨rfl, fun k b hb => ?_, fun j k u v q hj hk hu hv => ?_, fun f q h => h.2.elim, fun q hq => ?_, hg, fun q hq hb => ?_⟩
  ·rcases k with _ | _ | k
   ·cases hb
    refine ⟨g, ty, us, rfl, hcell, hr.size.symm, fun i v hv => ?_⟩
    have hi := U_ hv
    have get : ∀ {i : Nat} {u : Value}, us[i]? = some u → us.getD i undef = u := fun h => by rw [t_, h]; rfl
    rcases i with _ | _ | _ | _ | _ | i
    ·cases hv; rw [get e0]; exact .cv _
    ·cases hv; rw [get e1]; exact .cv _
    ·cases hv; rw [get e2]; exact .cv _
    ·cases hv; rw [get e3]; exact .cv _
    ·cases hv; rw [get e4]
     have h1 : row.oneCell' = true := by rcases hrow.2 with ⟨rfl, _⟩ | ⟨_, _, _, rfl, _⟩ <;> rfl
     exact .ow 1 0 _ h1 ⟨0, row, rfl, f_ _, fun _ => rfl⟩
    ·simp at hi; omega
   ·cases hb
    exact ⟨row, rus, rfl, hrow, by simp [olds], oM, fun i j d hd => by
     obtain ⟨u, h1, h2⟩ := hrus i j d hd
     exact ⟨u, h1, h2.mono (fun q hq => hq.elim) fun q hq => hq.elim⟩, fun e => by cases e⟩
   ·simp [repl1] at hb
  ·have key : ∀ (i : Nat) (x : Value), [Value.pointer (some ⟨g, 0, none⟩), row][i]? = some x → (i = 0 ∧ x = .pointer (some ⟨g, 0, none⟩)) ∨ (i = 1 ∧ x = row) := by
    intro i x hx
    rcases i with _ | _ | i
    ·cases hx; exact .inl ⟨rfl, rfl⟩
    ·cases hx; exact .inr ⟨rfl, rfl⟩
    ·simp at hx
   rcases key j u hj with ⟨rfl, rfl⟩ | ⟨rfl, rfl⟩ <;> rcases key k v hk with ⟨rfl, rfl⟩ | ⟨rfl, rfl⟩
   ·rfl
   ·have : q = g := by simpa [b3_] using hu.symm
    subst this; exact absurd rfl (hap q hv).1
   ·have : q = g := by simpa [b3_] using hv.symm
    subst this; exact absurd rfl (hap q hu).1
   ·rfl
  ·rcases hpos q hq with rfl | h
   ·exact hgl
   ·exact (hap q h).2.2
  ·rcases hpos q hb with rfl | h
   ·exact hng hq
   ·exact (hap q h).2.1 hq
 refine (x_build.2 w [.pointer (some ⟨g, 0, none⟩)] [.pointer (some ⟨g, 0, none⟩), row] (fun _ => False) hm ⟨rfl, fun i v hv => ?_⟩).mono ?_
 ·rcases i with _ | i
  ·cases hv; exact .bx 0 0 g rfl
  ·simp at hv
 rintro e w' ⟨v, ns', rfl, hm', hv, hlow, hlen, hptr, hnew, _⟩
 cases hv
 rename_i B hB
 have hBn : ns'[2]? = some (.pointer (some ⟨B, 0, none⟩)) := by
  simp only [ag_, o_] at hB
  obtain ⟨x, h1, h2⟩ := hB
  cases h2; exact h1
 have hg0 : ns'[0]? = some (.pointer (some ⟨g, 0, none⟩)) := hptr 0 _ rfl
 obtain ⟨g', ty', us', a1, a2, a3, a4⟩ := hm'.blk 0 _ rfl
 have : g' = g := by simp [ag_, hg0] at a1; exact a1.symm
 subst this
 obtain ⟨B', tyB, uB, b1, b2, b3, b4⟩ := hm'.blk 2 _ rfl
 have : B' = B := by simp [ag_, hBn] at b1; exact b1.symm
 subst this
 obtain ⟨rv, ru, c1, c2, c3, c4, c5, c6⟩ := hm'.blk 3 _ rfl
 have get : ∀ {i : Nat} {c : Value}, i < us'.size → RelV (ag_ ns') (md_ (fun _ => False) w w' ns') w' (.cv c) (us'.getD i undef) → us'[i]? = some c := by
  intro i c hi h
  rw [I_ hi]
  generalize hz : us'.getD i undef = z at h
  cases h
  rw [← hz, t_, I_ hi]; rfl
 have h5 : us'.size = 5 := by rw [← a3]; rfl
 have hgs : ∀ b, md_ (fun _ => False) w w' ns' true b → b < w'.heap.size ∧ b ≠ g' := fun b hb => ⟨hb.1, fun e => hb.2.1 ⟨_, m_ hg0, by rw [e]; rfl⟩⟩
 have hBg : B' < w'.heap.size ∧ B' ≠ g' := by
  refine ⟨hm'.lt B' ⟨_, m_ hBn, rfl⟩, fun e => ?_⟩
  have := hm'.apart 0 2 _ _ g' hg0 hBn rfl (by rw [e]; rfl)
  omega
 refine ⟨B', us', rfl, ?_, ⟨⟨ty', a2⟩, h5⟩, get oM (a4 0 _ rfl), get oM (a4 1 _ rfl), fun b hb h1 h2 => hlow.block b ⟨hb, fun hbl => ?_⟩, hlow.os, hlow.tape, hlow.output, hlow.size⟩
 ·refine .el true brD 0 B' 0 hBg (fun j => uB.getD j undef) fun j d hd => ?_
  have hj : j < 257 := by have := U_ hd; rw [brD_len] at this; exact this
  have hus : uB.size = 257 := by rw [← b3, a_, brC_len]; rfl
  refine ⟨?_, ?_⟩
  ·unfold World.cell?
   simp only [b2]
   rw [Nat.zero_add, t_, I_ oM]
   simp
  by_cases h256 : j = 256
  ·subst h256
   have hd' : d = .sl 1 [[.cv (.string (mk [92]))], [.cv (.string (mk [34]))]] := by
    have e := brD_ok.too
    rw [hd] at e; exact Option.some.inj e
   subst hd'
   have hv := b4 256 (.ow 3 0) (by rw [L_ (by rw [brC_len]; omega), brC_len]; rfl)
   generalize uB.getD 256 undef = z at hv
   cases hv
   rename_i hz hn
   obtain ⟨k', v, hn, hk, hv⟩ := hn
   rw [c1] at hn
   cases hn
   obtain rfl := hv rfl
   have hns : ns'[3]? = some z := by
    simp only [ag_, o_] at c1
    obtain ⟨x, h1, h2⟩ := c1
    cases h2; exact h1
   rcases c2.2 with ⟨_, h0⟩ | ⟨b, cap, cur, rfl, _, q1, q2, q3, q4, q5⟩
   ·simp at h0
   have hb : b < w'.heap.size ∧ b ≠ g' := by
    refine ⟨hm'.lt b ⟨_, m_ hns, rfl⟩, fun e => ?_⟩
    have := hm'.apart 0 3 _ _ g' hg0 hns rfl (by rw [e]; rfl)
    omega
   refine .sl 1 _ b 0 cap (fun i j => (ru[i * 1 + j]?).getD undef) hb sI q2 (fun i j d hd => ?_) (fun i j d hd => ?_)
   ·obtain ⟨u, h1, h2⟩ := c5 i j d hd
    rw [h1]
    unfold World.cell?
    simp only [q1]
    rw [← q5, D_] at h1
    split at h1
    ·rw [Nat.zero_add]; simpa using h1
    ·cases h1
   ·obtain ⟨u, h1, h2⟩ := c5 i j d hd
    rw [h1]
    exact h2.mono hgs fun _ _ => rfl
  ·obtain ⟨h1, h2⟩ := brV j d oM hd
   have hv := b4 j (D.v true d) (by rw [E_ (by have := U_ h1; omega)]; exact h1)
   exact (relD_of hv h2).mono hgs fun _ _ => rfl
 ·rcases hpos b hbl with h | h
  ·exact h1 h
  ·exact h2 h
end
section
open Go.RowKit
structure RS (w W : World) (g B : Nat) (row : Value) (us : Array Value) : Prop where
 at_ : ∃ ty, W.heap[g]? = some (.cells us ty (0, 0))
 size : us.size = 5
 br : BR W g B
 keep : ∀ b, b < w.heap.size → b ≠ g → b3_ row ≠ some b → W.heap[b]? = w.heap[b]?
 os : W.os = w.os
 tape : W.tape = w.tape
 output : W.output = w.output
 grow : w.heap.size ≤ W.heap.size
theorem RS.cell {w W : World} {g B : Nat} {row : Value} {us : Array Value} (h : RS w W g B row us) (k : Nat) : W.cell? ⟨g, k, none⟩ = us[k]? := by
 obtain ⟨ty, h1⟩ := h.at_
 unfold World.cell?
 simp only [h1]
 simp
theorem RS.frozen {w W : World} {g B : Nat} {row : Value} {us : Array Value} (h : RS w W g B row us) (k : Nat) : W.frozen? ⟨g, k, none⟩ = false := by
 obtain ⟨ty, h1⟩ := h.at_
 unfold World.frozen?
 simp [h1]
theorem BR.mono {w W : World} {g B : Nat} (h : BR w g B) (hs : w.heap.size ≤ W.heap.size) (hk : ∀ b, b < w.heap.size → b ≠ g → W.heap[b]? = w.heap[b]?) : BR W g B :=
 RelV.mono (w := w) (w' := W) (N := fun _ => none) (N' := fun _ => none) (S := fun _ b => b < w.heap.size ∧ b ≠ g) (NLe.refl _) (fun _ _ hb => ⟨Nat.lt_of_lt_of_le hb.1 hs, hb.2⟩) (fun _ b hb => hk b hb.1 hb.2) h
theorem RS.set {w W : World} {g B : Nat} {row : Value} {us : Array Value} (h : RS w W g B row us) (k : Nat) (v : Value) : RS w (W.setCell ⟨g, k, none⟩ v) g B row (us.setIfInBounds k v) := by
 obtain ⟨ty, h1⟩ := h.at_
 have e := setCell_eq_setRow W g k us ty (0, 0) v h1
 rw [e]
 refine ⟨⟨ty, setRow_heap W g us _ ty (0, 0) h1⟩, by simp [h.size], h.br.mono sI (fun b hb hne => setRow_other W g b _ hne), fun b hb h2 h3 => (setRow_other W g b _ h2).trans (h.keep b hb h2 h3), h.os, h.tape, h.output, by simp [h.grow]⟩
theorem RS.drew {w W : World} {g B : Nat} {row : Value} {us : Array Value} (h : RS w W g B row us) : RS w W.drew g B row us :=
 ⟨h.at_, h.size, h.br.mono (w := W) (W := W.drew) (f_ _) (fun _ _ _ => rfl), h.keep, h.os, h.tape, h.output, h.grow⟩
theorem once_any (g : Nat) (us : Array Value) (w : World) (hg : jj_ w) (hr : RCells w g us) (e0 : us[0]? = some (.int .u32 0)) (e1 : us[1]? = some (.int .i32 1)) (e2 : us[2]? = some (.int .u32 0)) (e3 : us[3]? = some .nilIface) (hng : ¬ glob g)
  {row : Value} (e4 : us[4]? = some row) {rus : List Value} (hrow : w.ownsRow 0 9 1 row 4 rus) (hrus : ∀ i j d, (olds[i]?.bind fun x => x[j]?) = some d → ∃ u, rus[i * 1 + j]? = some u ∧ RelD (fun _ => False) w d u)
  (hap : ∀ b, b3_ row = some b → b ≠ g ∧ ¬ glob b ∧ b < w.heap.size) :
  Calls Tryz.prog 135 #[.pointer (some ⟨g, 0, none⟩)] w fun e W => e = .returned (.tuple #[]) ∧ ∃ B us', RS w W g B row us' ∧ us'[0]? = some (.int .u32 0) ∧ us'[1]? = some (.int .i32 1) ∧ us'[3]? = some (.iface 210 (.pointer (some ⟨B, 0, none⟩))) := by
 have hb := build_any g us w hg hr e0 e1 e2 e3 hng e4 hrow hrus hap
 go_enter Tryz.func135, Tryz.ntmps135
 go_wp2_with (go_at_call 171; refine hb.mono ?_; (rintro e W ⟨B, us', rfl, hBR, hRC, u0, u1, hk, ho, ht, hou, hsz⟩; have hRS : RS w W g B row us' := ⟨hRC.at_, hRC.size, hBR, hk, ho, ht, hou, hsz⟩; have s1 := hRS.set 3 (.iface 210 (.pointer (some ⟨B, 0, none⟩))); have s2 := s1.set 4 (.slice none 0 0); have c3 : W.cell? ⟨g, 3, none⟩ = some (us'[3]'(by rw [hRC.size]; omega)) := (hRS.cell 3).trans (I_ _); have f3 := hRS.frozen 3; have c4 : (W.setCell ⟨g, 3, none⟩ (.iface 210 (.pointer (some ⟨B, 0, none⟩)))).cell? ⟨g, 4, none⟩ = some ((us'.setIfInBounds 3 (.iface 210 (.pointer (some ⟨B, 0, none⟩))))[4]'(by simp [hRC.size])) := (s1.cell 4).trans (I_ _); have f4 := s1.frozen 4))
 go_end0
 refine ⟨rfl, B, _, s2, ?_, ?_, ?_⟩
 ·simpa using u0
 ·simpa using u1
 ·simp [hRC.size]
theorem RS.inv {w W : World} {g B : Nat} {row : Value} {us : Array Value} (h : RS w W g B row us) (hi : jj_ w) (hng : ¬ glob g) (hap : ∀ b, b3_ row = some b → ¬ glob b) : jj_ W :=
 gz_ (keep := fun b => b < w.heap.size ∧ b ≠ g ∧ b3_ row ≠ some b) hi (fun b hb => ⟨ls_ hi hb, fun e => hng (e ▸ hb), fun e => hap b e hb⟩) fun b hb => h.keep b hb.1 hb.2.1 hb.2.2
theorem meth_replace (b : Nat) (n : Nat) (w : World) : (method (n + 1) 210 (.pointer (some ⟨b, 0, none⟩)) "Replace").run Tryz.prog w = .ok (303, .pointer (some ⟨b, 0, none⟩)) w := by
 have h : ((Tryz.prog.info? 210).bind fun i => (i.methods.find? (·.name == "Replace")).map fun m => (m.func, m.path)) = some (some (303, true), #[]) := kR
 have hu : Tryz.prog.underlying 210 = some (.pointer 209) := kR
 obtain ⟨i, hi, h⟩ := Option.bind_eq_some_iff.1 h
 obtain ⟨mm, hm, h⟩ := Option.map_eq_some_iff.1 h
 simp only [Prod.mk.injEq] at h
 obtain ⟨h1, h2⟩ := h
 unfold method
 simp [typeInfo, hi, hm, h1, h2, follow, receiverAt, run_underlying hu, Place.get]
theorem pl_ (args : Array Value) (w : World) : (callFunc 303 args).run Tryz.prog w = .ok (.enter 303 args) w :=
 enters_of Tryz.func303 kR rfl args w
def repl0F : List Bk := [.box [.cv (.int .u32 0), .cv (.int .i32 0), .cv (.int .u32 0), .cv .nilIface, .ow 1 0], .row 0 9 1 false olds]
def repl2 : List Bk := [.box [.un, .un, .un, .un, .un], .row 0 9 1 true []]
theorem ks_ (l : Bs) (hl : l.length ≤ 1000000) : bm_ Tryz.prog 93 [.bx 0 0, bc_ l] repl0F (bc_ (esc l)) repl2 := by
 refine ⟨⟨_, Tryz.func93, kR, kR⟩, fun w vs ns So hm hvs => ?_⟩
 obtain ⟨v0, v1, rfl⟩ : ∃ v0 v1, vs = [v0, v1] := by
  have := hvs.1
  match vs, this with
  | [a, b], _ => exact ⟨a, b, rfl⟩
 have r0 := hvs.2 0 _ rfl
 have r1 := hvs.2 1 _ rfl
 simp only [v_, List.getElem?_cons_zero, List.getElem?_cons_succ, Option.getD_some] at r0 r1
 cases r1
 cases r0
 rename_i g hn0
 have hns0 : ns[0]? = some (.pointer (some ⟨g, 0, none⟩)) := by
  simp only [ag_, o_] at hn0
  obtain ⟨x, h1, h2⟩ := hn0
  cases h2; exact h1
 obtain ⟨g', ty, us, a1, a2, a3, a4⟩ := hm.blk 0 _ rfl
 have : g' = g := by simp [ag_, hns0] at a1; exact a1.symm
 subst this
 obtain ⟨row, rus, c1, c2, c3, c4, c5, c6⟩ := hm.blk 1 _ rfl
 have hns1 : ns[1]? = some row := by
  simp only [ag_, o_] at c1
  obtain ⟨x, h1, h2⟩ := c1
  cases h2; exact h1
 have h5 : us.size = 5 := by rw [← a3]; rfl
 have get : ∀ {i : Nat} {c : Value}, i < us.size → RelV (ag_ ns) (jy_ So) w (.cv c) (us.getD i undef) → us[i]? = some c := by
  intro i c hi h
  rw [I_ hi]
  generalize hz : us.getD i undef = z at h
  cases h
  rw [← hz, t_, I_ hi]; rfl
 have e0 := get oM (a4 0 _ rfl)
 have e1 := get oM (a4 1 _ rfl)
 have e2 := get oM (a4 2 _ rfl)
 have e3 := get oM (a4 3 _ rfl)
 have e4 : us[4]? = some row := by
  have h := a4 4 _ rfl
  rw [I_ oM]
  generalize hz : us.getD 4 undef = z at h
  cases h
  rename_i _ hn
  obtain ⟨k', v, hn, _, hv⟩ := hn
  rw [c1] at hn; cases hn
  obtain rfl := hv rfl
  rw [← hz, t_, I_ oM]; rfl
 have hgl : g' < w.heap.size := (Array.getElem?_eq_some_iff.1 a2).1
 have hng : ¬ glob g' := fun h => hm.inv.2 g' h ⟨_, m_ hns0, rfl⟩
 have hap : ∀ b, b3_ row = some b → b ≠ g' ∧ ¬ glob b ∧ b < w.heap.size := by
  intro b hb
  have hbk : gn_ ns b := ⟨_, m_ hns1, hb⟩
  refine ⟨fun e => ?_, fun h => hm.inv.2 b h hbk, hm.lt b hbk⟩
  have := hm.apart 0 1 _ _ g' hns0 hns1 rfl (by rw [← e]; exact hb)
  omega
 have e1w := setCell_eq_setRow w g' 1 us ty (0, 0) (.int .i32 1) a2
 have hoth : ∀ b, b ≠ g' → (w.setCell ⟨g', 1, none⟩ (.int .i32 1)).heap[b]? = w.heap[b]? := fun b hb => by rw [e1w]; exact setRow_other w g' b _ hb
 have hsz1 : (w.setCell ⟨g', 1, none⟩ (.int .i32 1)).heap.size = w.heap.size := by rw [e1w]; simp
 have hg1 : jj_ (w.setCell ⟨g', 1, none⟩ (.int .i32 1)) := gz_ (keep := fun b => b ≠ g') hm.inv.1 (fun b hb e => hng (e ▸ hb)) hoth
 have hrow1 : (w.setCell ⟨g', 1, none⟩ (.int .i32 1)).ownsRow 0 9 1 row 4 rus := by
  refine ⟨c2.1, ?_⟩
  rcases c2.2 with h | ⟨b, cap, cur, q0, q1, q2, q3⟩
  ·exact .inl h
  ·exact .inr ⟨b, cap, cur, q0, q1, (hoth b (hap b (by rw [q0]; rfl)).1).trans q2, q3⟩
 have hrus1 : ∀ i j d, (olds[i]?.bind fun x => x[j]?) = some d → ∃ u, rus[i * 1 + j]? = some u ∧ RelD (fun _ => False) (w.setCell ⟨g', 1, none⟩ (.int .i32 1)) d u := by
  intro i j d hd
  obtain ⟨u, h1, h2⟩ := c5 i j d hd
  refine ⟨u, h1, ?_⟩
  obtain ⟨x, hx, hd'⟩ := Option.bind_eq_some_iff.1 hd
  have hx := m_ hx
  simp only [olds, List.mem_cons, List.not_mem_nil, or_false] at hx
  have : ∃ v : Value, d = .cv v ∧ v.oneCell' = true := by
   rcases hx with rfl | rfl | rfl | rfl <;> (have := m_ hd'; simp only [List.mem_cons, List.not_mem_nil, or_false] at this; subst this; exact ⟨_, rfl, rfl⟩)
  obtain ⟨v, rfl, hv⟩ := this
  cases h2; exact .cv _ hv
 have hB := once_any g' (us.setIfInBounds 1 (.int .i32 1)) (w.setCell ⟨g', 1, none⟩ (.int .i32 1)) hg1 ⟨⟨ty, by rw [e1w]; exact setRow_heap w g' us _ ty (0, 0) a2⟩, by simp [h5]⟩
  (by simpa using e0) (by simp [h5]) (by simpa using e2) (by simpa using e3) hng (by simpa using e4) hrow1 hrus1 (fun b hb => by rw [hsz1]; exact hap b hb)
 have cell0 : ∀ k : Nat, w.cell? ⟨g', k, none⟩ = us[k]? := fun k => by unfold World.cell?; simp [a2]
 have fro0 : ∀ k : Nat, w.frozen? ⟨g', k, none⟩ = false := fun k => by unfold World.frozen?; simp [a2]
 have hDo := do_any g' w ((cell0 0).trans e0) ((cell0 1).trans e1) (fro0 0) (fro0 1) (fun W hW => by
  obtain ⟨B, us', hRS, u0, u1, u3⟩ := hW
  exact ⟨(hRS.cell 0).trans u0, (hRS.cell 1).trans u1, hRS.frozen 0, hRS.frozen 1⟩) hB
 clear hB
 have hmeth := fun b w => meth_replace b 401 w
 have hent := pl_
 go_enter Tryz.func93, Tryz.ntmps93
 go_wp2_with (first
  | go_at_call 134; refine hDo.mono ?_; (rintro e W' ⟨rfl, W, ⟨B, us', hRS, u0, u1, u3⟩, rfl⟩; have s1 := ((hRS.set 0 (.int .u32 1)).set 1 (.int .i32 0)); have c3 : ((W.setCell ⟨g', 0, none⟩ (.int .u32 1)).setCell ⟨g', 1, none⟩ (.int .i32 0)).cell? ⟨g', 3, none⟩ = some (.iface 210 (.pointer (some ⟨B, 0, none⟩))) := (s1.cell 3).trans (by simpa using u3); have s2 := s1.drew; have hg2 := s2.inv hg1 hng (fun b hb => (hap b hb).2.1))
  | go_at_call 303; refine ((x_bsReplace brD brD_ok l hl).2 _ [.pointer (some ⟨B, 0, none⟩), .string (mk l)] hg2 ⟨rfl, fun i v hv => ?_⟩).mono ?_)
 ·rcases i with _ | _ | i
  ·cases hv
   exact RelV.mono (NLe.refl _) (fun _ b hb => hb.1) (fun _ _ _ => rfl) s2.br
  ·cases hv; exact .cv _
  ·simp at hv
 rintro e W4 ⟨v, rfl, hv, hb4⟩
 cases hv
 go_wp2
 go_ret
 obtain ⟨ty3, h3⟩ := s2.at_
 have hblk : ∀ b, gn_ ns b → b = g' ∨ b3_ row = some b := by
  rintro b ⟨v, hv, hb⟩
  obtain ⟨k, hk, rfl⟩ := List.getElem_of_mem hv
  have hlen : ns.length = 2 := hm.len
  rcases (by omega : k = 0 ∨ k = 1) with rfl | rfl
  ·left
   have : ns[0] = .pointer (some ⟨g', 0, none⟩) := by rw [h_ hk] at hns0; exact Option.some.inj hns0
   rw [this] at hb; simpa [b3_] using hb.symm
  ·right
   have : ns[1] = row := by rw [h_ hk] at hns1; exact Option.some.inj hns1
   rw [this] at hb; exact hb
 have hbk : ∀ b, gn_ [Value.pointer (some ⟨g', 0, none⟩), Value.slice none 0 0] b → b = g' := by
  rintro b ⟨v, hv, hb⟩
  simp only [List.mem_cons, List.not_mem_nil, or_false] at hv
  rcases hv with rfl | rfl
  ·simpa [b3_] using hb.symm
  ·simp [b3_] at hb
 have hg4 : jj_ W4 := ei_ hg2 hb4
 have hsz4 : w.heap.size ≤ W4.heap.size := w_ (by rw [← hsz1]; exact s2.grow) hb4.size
 have hgl3 := (Array.getElem?_eq_some_iff.1 h3).1
 refine ⟨_, [.pointer (some ⟨g', 0, none⟩), .slice none 0 0], rfl, ⟨rfl, fun k b hb => ?_, fun j k u v q hj hk hu hv => ?_, fun f q hq => ⟨hq.1, hq.2.1⟩, fun q hq => ?_, hg4, fun q hq hb => ?_⟩, .cv _, ⟨?_, ?_, ?_, hsz4, fun b hb => ?_⟩, ?_, fun k a hk => ?_, fun q hq => ?_, (fun h => by cases h), fun k v v' q hk hk' hq => by
  rcases k with _ | _ | k
  ·cases hk'; rw [hns0] at hk; cases hk; exact .inl hq
  ·cases hk'; simp [b3_] at hq
  ·simp at hk'⟩
 ·rcases k with _ | _ | k
  ·cases hb
   exact ⟨g', ty3, _, rfl, (hb4.block g' hgl3).trans h3, by rw [s2.size]; rfl, fun i v hv => by
    have hi := U_ hv
    rcases i with _ | _ | _ | _ | _ | i
    ·cases hv; exact .un _
    ·cases hv; exact .un _
    ·cases hv; exact .un _
    ·cases hv; exact .un _
    ·cases hv; exact .un _
    ·simp at hi; omega⟩
  ·cases hb
   exact ⟨.slice none 0 0, [], rfl, World.ownsRow_nil W4 0 _ 1, by simp, oM, by simp, fun _ q hq => by simp [b3_] at hq⟩
  ·simp [repl2] at hb
 ·have key : ∀ (i : Nat) (x : Value), [Value.pointer (some ⟨g', 0, none⟩), Value.slice none 0 0][i]? = some x → b3_ x = some q → i = 0 := by
   intro i x hx hq
   rcases i with _ | _ | i
   ·rfl
   ·cases hx; simp [b3_] at hq
   ·simp at hx
  rw [key j u hj hu, key k v hk hv]
 ·rw [hbk q hq]; exact Nat.lt_of_lt_of_le hgl hsz4
 ·rw [hbk q hb] at hq; exact hng hq
 ·exact hb4.os.trans (s2.os.trans (by rw [e1w]; rfl))
 ·exact hb4.tape.trans (s2.tape.trans (by rw [e1w]; rfl))
 ·exact hb4.output.trans (s2.output.trans (by rw [e1w]; rfl))
 ·have n1 : b ≠ g' := fun e => hb.2 ⟨_, m_ hns0, by rw [e]; rfl⟩
  have n2 : b3_ row ≠ some b := fun e => hb.2 ⟨_, m_ hns1, e⟩
  have hlt : b < (w.setCell ⟨g', 1, none⟩ (.int .i32 1)).heap.size := by rw [hsz1]; exact hb.1
  exact (hb4.block b (Nat.lt_of_lt_of_le hlt s2.grow)).trans ((s2.keep b hlt n1 n2).trans (hoth b n1))
 ·rw [hm.len]; exact f_ _
 ·rcases k with _ | _ | k
  ·rw [hns0] at hk; exact hk
  ·rw [hns1] at hk
   cases hk
   rcases c2.2 with ⟨h, _⟩ | ⟨_, _, _, h, _⟩ <;> cases h
  ·have := U_ hk
   rw [hm.len] at this
   simp [repl0F] at this; omega
 ·left; rw [hbk q hq]; exact ⟨_, m_ hns0, rfl⟩
end
section
open Go.RowKit
def badB (c : UInt8) : Bool := decide (c < 32) || decide (c > 126)
def idxB : Bs → Nat → Int
 | [], _ => -1
 | c :: l, k => if badB c then k else idxB l (k + 1)
theorem idxB_any : ∀ (l : Bs) (k : Nat), decide (0 ≤ idxB l k) = l.any badB
 | [], _ => rfl
 | c :: l, k => by
  rw [List.any_cons]
  by_cases h : badB c = true
  ·rw [show idxB (c :: l) k = (k : Int) from if_pos h, h]; simp
  ·have h' : badB c = false := by simpa using h
   rw [show idxB (c :: l) k = idxB l (k + 1) from if_neg h, h', Bool.false_or]; exact idxB_any l (k + 1)
theorem x_bad (c : UInt8) : DCalls Tryz.prog 133 [u8 c] (boo (badB c)) := by
 have hr : badB c = (decide ((c.toNat : Int) < 32) || decide ((c.toNat : Int) > 126)) := ff_ c
 refine sx Tryz.func133 kR ?_
 conv => whnf
 rw [kv_]
 rintro (_ | _) h1
 ·conv => whnf
  rw [kv_]
  exact S_ (by rw [hr, h1]; rfl)
 ·conv => whnf
  exact S_ (by rw [hr, h1]; rfl)
theorem x_idxB (l : Bs) (hl : l.length ≤ 1000000) : DCalls Tryz.prog 168 [bytesV true l, .cv (.func (.func 133) #[] #[])] (int (idxB l 0)) := by
 refine sx Tryz.func168 kR ?_
 conv => whnf
 refine ⟨[], Nat, fun k => [(8, int k)], fun _ => [], fun k => k ≤ l.length ∧ idxB (l.drop k) k = idxB l 0, fun k => l.length - k, 0, ⟨by simp, rfl⟩, ?_, ?_⟩
 ·exact eN
 rintro k ⟨hk, hf⟩
 conv => whnf
 rintro (_ | _) h1
 ·simp at h1
  rw [k_ oM] at hf
  conv => whnf
  exact bg_ hf
 have h1 : k < l.length := by simp at h1; omega
 rw [ao_ h1] at hf
 simp only [idxB] at hf
 conv => whnf
 refine ⟨oM, _, W_ a0_ h1, ?_⟩
 conv => whnf
 refine ⟨_, x_bad l[k], ?_⟩
 conv => whnf
 rintro (_ | _) h2
 ·rw [h2, if_neg sI] at hf
  conv => whnf
  refine ⟨k + 1, ⟨h1, hf⟩, by dsimp only; omega, ?_⟩
  exact eW
 ·rw [h2, if_pos rfl] at hf
  conv => whnf
  exact bg_ hf
theorem x_anyB (l : Bs) (hl : l.length ≤ 1000000) : DCalls Tryz.prog 132 [bytesV true l, .cv (.func (.func 133) #[] #[])] (boo (l.any badB)) := by
 refine sx Tryz.func132 kR ?_
 conv => whnf
 refine ⟨_, x_idxB l hl, ?_⟩
 conv => whnf
 exact S_ (idxB_any l 0)
theorem contB_any (l : Bs) : cl_ l = (decide (l.length ≤ 200) && !l.any badB) := by
 unfold cl_
 congr 1
 induction l with
 | nil => rfl
 | cons c l ih => rw [List.all_cons, List.any_cons, ih]; unfold badB; simp [Bool.not_or]
theorem it_ (l : Bs) : DCalls Tryz.prog 91 [bc_ l] (boo (cl_ l)) := by
 rw [contB_any]
 refine sxm [(1000066, false)] Tryz.func91 kR ?_
 conv => whnf
 rintro (_ | _) h1
 ·have h1 : ¬ l.length ≤ 200 := by simp only [P_] at h1; simp at h1; omega
  conv => whnf
  exact S_ (by simp [h1])
 have h1 : l.length ≤ 200 := by simp only [P_] at h1; simp at h1; omega
 conv => whnf
 refine ⟨_, _, oy_ (b := mk l) (e := 5) rfl rfl kR kR kR, ?_⟩
 conv => whnf
 refine ⟨_, x_anyB l oM, ?_⟩
 conv => whnf
 exact S_ (by simp [h1])
end
end Go.Proofs.YtglndfgmlminpaaGreatDoor
