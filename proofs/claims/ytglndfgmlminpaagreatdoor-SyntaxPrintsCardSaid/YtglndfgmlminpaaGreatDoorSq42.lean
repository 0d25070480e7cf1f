/- Texts joined by pack.py: XSyXK XSyXL XSyXM XSyYA XSyYB XSyPJ XLx24b XSyYC XSyYD -/
import Derived.Test.YtglndfgmlminpaaGreatDoorSq41
set_option maxHeartbeats 16000000
set_option maxRecDepth 100000
namespace Go.Proofs.YtglndfgmlminpaaGreatDoor
section
open Go.RowKit Go.Shelf
section
variable {P : Program} {ρ : Ren}
theorem string_nil (L : Lays.n169 P ρ) (X : Builder.Extra P ρ) (b : Nat) (w : World) (c1 : w.cell? ⟨b, 1, none⟩ = some (.slice none 0 0)) :
  Calls P (ρ.f 169) #[.pointer (some ⟨b, 0, none⟩)] w fun e w' => e = .returned (.string ⟨#[]⟩) ∧ w' = w.drew := by
 have hUS := Any.unsafeString_none L X
 replace c1 : w.drew.cell? ⟨b, 1, none⟩ = some (.slice none 0 0) := c1
 have hSD : (Builtin.unsafeSliceData_ #[(ρ.t 37)] (ρ.t 127) #[.slice none 0 0]).run P w.drew = .ok (.pointer none) w.drew := rfl
 have mixed := L.mixed
 have t72 := L.t72; have a72 := L.a72; have z72 := L.z72; have v72 := L.v72; have u72 := run_underlying L.t72
 have t70 := L.t70; have a70 := L.a70; have z70 := L.z70; have v70 := L.v70; have u70 := run_underlying L.t70
 have t37 := L.t37; have a37 := L.a37; have z37 := L.z37; have v37 := L.v37; have u37 := run_underlying L.t37
 have t127 := L.t127; have a127 := L.a127; have z127 := L.z127; have v127 := L.v127; have u127 := run_underlying L.t127
 have t3 := L.t3; have a3 := L.a3; have z3 := L.z3; have v3 := L.v3; have u3 := run_underlying L.t3
 have t9 := L.t9; have a9 := L.a9; have z9 := L.z9; have v9 := L.v9; have u9 := run_underlying L.t9
 have t5 := X.t5; have a5 := X.a5; have z5 := X.z5; have v5 := X.v5; have u5 := run_underlying X.t5
 go_enter L.f169, Body.n169_ntmps ρ
 go_wp2
 go_region_o
 all_goals (go_wp2; go_ret; exact ⟨rfl, rfl⟩)
variable {o : Oper} {E : Operand → V} {m : List (Option Bk)} {x : Operand}
theorem ne_ (L : Lays.n169 P ρ) (X : Builder.Extra P ρ) {n : Nat} {bt : Option Nat} {cs : List V} {c : Call} (ho : o.op = .call c) (hc : c.callee = .value (.func (ρ.f 169))) (hargs : c.args.toList = [x]) (hx : E x = .bx n 0)
  (hm : m[n]? = some (some (.box cs bt))) (h1 : cs[1]? = some (.cv (.slice none 0 0))) : ey_ P o E m (.cv (.string ⟨#[]⟩)) m := by
 intro B w0 N S tt a w hs hr
 have e1 : c.args = #[x] := by apply Array.ext'; simpa using hargs
 have h := hr x (by rw [ho]; simp [Op.operands, Call.operands, e1])
 rw [hx] at h
 generalize hv : a.eval x = u at h
 cases h
 rename_i b hn
 obtain ⟨g0, ty0, us0, q1, q2, q3, q4⟩ := hs.blk n _ hm
 rw [hn] at q1; cases q1
 have hr1 := q4 1 _ h1
 have hlt1 := U_ h1
 generalize hz : us0.getD 1 undef = z at hr1
 cases hr1
 have c1 : w.cell? ⟨b, 1, none⟩ = some (.slice none 0 0) := by
  rw [cell_of_row w b 1 us0 _ _ q2, ← hz, t_, I_ oM]
  rfl
 have hcall := string_nil L X b w c1
 have hs1 : Sat B w0 N S tt m a w.drew := ⟨hs.low.drew, hs.nodef, hs.tmps.mono (w := w) (w' := w.drew) (NLe.refl _) (fun _ _ h => h) (fun _ _ _ => rfl), fun k b hk => (hs.blk k b hk).mono (w := w) (w' := w.drew) rfl (NLe.refl _) (fun _ _ h => h) (fun _ _ _ => rfl) (fun _ _ _ _ _ => rfl), hs.non, hs.apart, hs.data, hs.fresh, hs.own, hs.base, hs.old, hs.lent, hs.more.mono (w := w) (w' := w.drew) (f_ _) (fun _ _ h => h.mono (w := w) (w' := w.drew) (NLe.refl _) (fun _ _ h => h) fun _ _ _ => rfl) hs.base fun _ _ h => .inl h, hs.stay⟩
 refine eh_ (f := ρ.f 169) (args := #[.pointer (some ⟨b, 0, none⟩)]) ?_ (hcall.mono ?_)
 ·have e169 : ∀ args w, (callFunc (ρ.f 169) args).run P w = .ok (.enter (ρ.f 169) args) w := enters_of L.f169 kR rfl
  have hcal : a.eval (.func (ρ.f 169)) = .func (.func (ρ.f 169)) #[] #[] := rfl
  unfold execOp
  simp only [ho]
  simp [resolve, hc, e1, hv, hcal, Deferred.ofValue, invoke, e169]
 ·rintro e w2 ⟨rfl, rfl⟩
  exact ⟨_, rfl, N, S, hs1, .cv _⟩
end
theorem fcs_get : ∀ (Fs : List FnT) (b j : Nat) (F : FnT), Fs[j]? = some F → ∃ r, (Tr.roots b (Fs.map (·.body)))[j]? = some r ∧ (fcs b Fs)[j]? = some ⟨F.name, F.params, r⟩
 | [], b, j, F, h => by simp at h
 | G :: Fs, b, j, F, h => by
  cases j with
  | zero => simp at h; subst h; exact ⟨_, rfl, rfl⟩
  | succ j =>
   obtain ⟨r, h1, h2⟩ := fcs_get Fs (b + G.body.size) j F (by simpa using h)
   exact ⟨r, by simpa [Tr.roots] using h1, by simpa [fcs] using h2⟩
theorem jm_ : ∀ (Fs : List FnT) (b : Nat), (fcs b Fs).length = Fs.length
 | [], b => rfl
 | G :: Fs, b => by simp [fcs, jm_ Fs]
theorem prog_seg {Fs : List FnT} (h : ∀ F ∈ Fs, f8_ F) {j : Nat} {F : FnT} (hj : Fs[j]? = some F) : ∃ b q : Nat, (a1_ Fs).funcs[j]? = some ⟨F.name, F.params, (q : Int)⟩ ∧ Seg (a1_ Fs).nodes F.body b q := by
 obtain ⟨r, h1, h2⟩ := fcs_get Fs 0 j F hj
 obtain ⟨b, q, h3, h4⟩ := or_ (l := (a1_ Fs).nodes) (ts := Fs.map (·.body)) (a := 0) (fun X hX => by
  obtain ⟨G, hG, rfl⟩ := List.mem_map.1 hX
  exact (h G hG).wf) (List.prefix_refl _) j F.body (by rw [e_, hj]; rfl)
 rw [h1] at h3
 obtain rfl := Option.some.inj h3
 exact ⟨b, q, h2, h4⟩
theorem kp_ (B : Nat) : ∀ ps : List Bs, (∀ x ∈ ps, x.length ≤ B) → (bf_ ps).length ≤ ps.length * (B + 2)
 | [], _ => by simp [bf_]
 | [a], h => by have := h a sI; simp [bf_]; omega
 | a :: b :: ps, h => by
  have h1 := h a sI
  have := kp_ B (b :: ps) fun x hx => h x (by simp at hx ⊢; exact .inr hx)
  simp only [bf_, a_, b_, Nat.add_mul] at this ⊢
  omega
theorem check_le {p : Pg} (h : bd_ p = 0) : p.nodes.length ≤ 600 ∧ p.funcs.length ≤ 16 ∧ ∀ f ∈ p.funcs, f.params.length ≤ 8 := by
 unfold bd_ at h
 split at h
 ·cases h
 rename_i h1
 split at h
 ·cases h
 split at h
 ·cases h
 rename_i h3
 refine ⟨oM, oM, fun f hf => ?_⟩
 rcases s_ 8 f.params.length with h4 | h4
 ·exact absurd (.inl (List.any_eq_true.2 ⟨f, hf, by simpa using h4⟩)) h3
 ·exact h4
theorem tokens_long {s : Bs} (h : 4000 < s.length) : (al_ s).2.2 ≠ 0 := by
 unfold al_
 rw [if_pos h]
 decide
theorem pp_ {l : List Nd} {T : Tr} {b q : Nat} (hl : l.length ≤ 600) (hs : Seg l T b q) : (txP (T.pc 0)).length ≤ 10000000 := by
 have h1 := pc_len _ T 0 (f_ _) hs.wf
 have h2 := hs.len_le.1
 have h3 := hs.len
 have h4 := Tr.ht_size _ T (f_ _)
 have h5 : T.size * (1000 + 2 * (0 + T.ht)) ≤ 600 * (1000 + 2 * (0 + 600)) := Nat.mul_le_mul oM oM
 have h6 : tl (T.pc 0) = (txP (T.pc 0)).length := rfl
 omega
end
section
open Go.RowKit Go.Shelf
def ppM : List (Nat × Bool) := prM ++ [(3000000 + 70, true)]
theorem pdx {f : FuncId} {fn : Func} (hf : Tryz.prog.funcs[f]? = some fn) (hn : (fn.name == "runtime.NumGoroutine") = false) {args : List V} {res : V} (h : Body Tryz.prog (TM ppM) fn args res) : DCalls Tryz.prog f args res :=
 lz_ (tokM ppM) mixed hf hn h
theorem l169 : Lays.n169 Tryz.prog Tryz.lays156_ren := { Tryz.lays156 with }
abbrev prV (x : Bs × Int) : V := .tu [bc_ x.1, int x.2]
theorem x_printN (p : Pg) (hp : mv_ p) (h : bd_ p ≠ 0) : DCalls Tryz.prog 15 [p.V] (prV ([], bd_ p)) := by
 refine pdx Tryz.func15 kR ?_
 conv => whnf
 refine ⟨_, ha_ p hp, ?_⟩
 conv => whnf
 refine Q_ true (by simpa using h) ?_
 (conv => whnf) <;> rfl
theorem x_print0 (hp : mv_ ⟨[], []⟩) : DCalls Tryz.prog 15 [Pg.V ⟨[], []⟩] (prV ([], 0)) := by
 have hc : bd_ ⟨[], []⟩ = 0 := by decide
 refine pdx Tryz.func15 kR ?_
 conv => whnf
 refine ⟨_, ha_ ⟨[], []⟩ hp, ?_⟩
 conv => whnf
 refine Q_ false (by rw [hc]; rfl) ?_
 conv => whnf
 refine ⟨[], Unit, fun _ => [(23, int 0)], fun _ => [], fun _ => True, fun _ => 0, (), trivial, ?_, ?_⟩
 ·exact eN
 rintro _ _
 conv => whnf
 refine kF ?_
 conv => whnf
 refine ⟨_, _, ne_ l169 Tryz.Builder_Extra_156 rfl rfl rfl rfl rfl rfl, ?_⟩
 conv => whnf
 refine ⟨_, hv_ [] dC, ?_⟩
 conv => whnf
 refine Q_ false (by rfl) ?_
 conv => whnf
 refine ⟨_, _, ne_ l169 Tryz.Builder_Extra_156 rfl rfl rfl rfl rfl rfl, ?_⟩
 (conv => whnf) <;> rfl
end
section
open Go.RowKit Go.Shelf
abbrev W (Fs : List FnT) (k : Nat) : Bs := txP (cn_ (Fs.take k))
theorem x_printS (Fs : List FnT) (hF : ∀ F ∈ Fs, f8_ F) (hc : bd_ (a1_ Fs) = 0) (hp : mv_ (a1_ Fs)) (h0 : Fs ≠ []) : DCalls Tryz.prog 15 [(a1_ Fs).V] (prV (eo_ Fs)) := by
 have hseg : ∀ (j : Nat) (F : FnT), Fs[j]? = some F → ∃ b q : Nat, (a1_ Fs).funcs[j]? = some ⟨F.name, F.params, (q : Int)⟩ ∧ Seg (a1_ Fs).nodes F.body b q := fun j F hj => prog_seg hF hj
 obtain ⟨hl6, hl16, hps⟩ := check_le hc
 have hlf : (a1_ Fs).funcs.length = Fs.length := jm_ Fs 0
 have hlong : ∀ j, 4000 < (W Fs j).length → eo_ Fs = ([], 3) := fun j h => by
  have h1 := m2_ Fs j
  have h2 := tokens_long (s := txP (cn_ Fs)) (by have h' : 4000 < (txP (cn_ (Fs.take j))).length := h; omega)
  unfold eo_
  rw [if_pos h2]
 have hfin : ∀ s, s = txP (cn_ Fs) → (al_ s).2.2 ≠ 0 → eo_ Fs = ([], 3) := fun s e h => by
  subst e; unfold eo_; rw [if_pos h]
 have hfin0 : ∀ s, s = txP (cn_ Fs) → (al_ s).2.2 = 0 → eo_ Fs = (s, 0) := fun s e h => by
  subst e; unfold eo_; rw [if_neg (by simp [h])]
 have hx := ha_ (a1_ Fs) hp
 rw [hc] at hx
 generalize a1_ Fs = p at *
 have hll : (p.funcs.map fcD).length = Fs.length := by rw [d_]; exact hlf
 have hlen16 : Fs.length ≤ 16 := by omega
 refine pdx Tryz.func15 kR ?_
 conv => whnf
 refine ⟨_, hx, ?_⟩
 conv => whnf
 refine kF ?_
 conv => whnf
 rw [hll]
 refine ⟨[(1000000 + 1000 * 19 + 1, 60, 5, 1)], Nat, fun k => [(23, int k)], fun k => [(19, some (.box [(match k with | 0 => nilP | _ + 1 => .bx 19 0), .ow 60 0, .sl false 5 (p.nodes.map ndD)] (some 70))), (60, some (wRow (W Fs k)))], fun k => k ≤ Fs.length ∧ (W Fs k).length ≤ 4000, fun k => Fs.length - k, 0, ⟨l_ _, by simp [W, cn_, txP]⟩, ?_, ?_⟩
 ·exact eN
 rintro (_ | k) ⟨hk, hWl⟩
 ·conv => whnf
  rintro (_ | _) h1
  ·exact absurd (by simpa using h1) h0
  have h1 : 0 < Fs.length := by simp at h1; omega
  have hw : IntKind.i64.wrap (((0 : Nat) : Int) + 1) = ((0 + 1 : Nat) : Int) := R_ oM
  obtain ⟨b, q, hf, hsg⟩ := hseg 0 Fs[0] (h_ h1)
  have hok := hF Fs[0] (q_ h1)
  have hpl := hps _ (m_ hf)
  have e0 : W Fs (0 + 1) = W Fs (0) ++ txP Fs[0].pc := ez_ h1
  rw [oo_ hok] at e0
  have hnm := d3_ hok.name
  have hpn := kp_ 24 Fs[0].params fun x hx => d3_ (hok.params x hx)
  have hbl := pp_ hl6 hsg
  have hBk := p_block oM hsg hok.kind
  have hg : (p.funcs.map fcD)[((0 : Nat) : Int).toNat]? = some [.cv (.string (mk Fs[0].name)), .sl 1 (Fs[0].params.map bl_), .cv (.int .i64 (q : Int))] := by
   rw [i_, e_, hf]; rfl
  dsimp only at hpl
  generalize hW1 : W Fs (0 + 1) = W1 at e0
  generalize Fs[0].name = nm at *
  generalize Fs[0].params = ps at *
  generalize txP (Tr.pc 0 Fs[0].body) = B at *
  generalize W Fs (0) = A at *
  have hcl : (bf_ ps).length ≤ 8 * 26 := w_ hpn (H_ _ hpl)
  conv => whnf
  refine ⟨g_ _, _, hg, ?_⟩
  conv => whnf
  refine ⟨none, kR, ?_⟩
  conv => whnf
  refine ⟨by rw [P_, cu_]; show 5 + _ ≤ _; omega, ?_⟩
  conv => whnf
  rw [catL]
  refine ⟨by rw [P_, cu_, a_]; show 5 + _ + 1 ≤ _; omega, ?_⟩
  conv => whnf
  rw [e3_]
  refine ⟨_, x_sjoin2 ps oM oM, ?_⟩
  conv => whnf
  refine ⟨by rw [P_, P_, a_, a_]; show 5 + _ + 1 + _ ≤ _; omega, ?_⟩
  conv => whnf
  rw [a3_]
  refine ⟨by rw [P_, cu_, a_, a_, a_]; show 5 + _ + 1 + _ + 2 ≤ _; omega, ?_⟩
  conv => whnf
  rw [e3_]
  refine T_ (T := TM ppM) (φ := []) (gf := false) (x_wsF (l := p.nodes) (bs := A) ([102, 117, 110, 99, 32] ++ nm ++ [40] ++ bf_ ps ++ [41, 32]) oL) ?_
  conv => whnf
  refine T_ (T := TM ppM) (φ := []) (gf := false) (hBk (A ++ ([102, 117, 110, 99, 32] ++ nm ++ [40] ++ bf_ ps ++ [41, 32])) oL) ?_
  conv => whnf
  refine T_ (T := TM ppM) (φ := []) (gf := false) (e4_ (l := p.nodes) (bs := A ++ ([102, 117, 110, 99, 32] ++ nm ++ [40] ++ bf_ ps ++ [41, 32]) ++ B) 10 oL) ?_
  have e1 : A ++ ([102, 117, 110, 99, 32] ++ nm ++ [40] ++ bf_ ps ++ [41, 32]) ++ B ++ [10] = W1 := by rw [e0]; simp
  have hlw : W1.length ≤ 100000000 := by
   rw [← e1]; simp only [a_, b_, c_]; omega
  rw [e1]
  conv => whnf
  refine T_ (T := TM ppM) (φ := []) (gf := false) (x_wlen (l := p.nodes) (bs := W1) oM) ?_
  conv => whnf
  rintro (_ | _) h5
  ·have h5 : W1.length ≤ 4000 := by simp at h5; omega
   conv => whnf
   refine ⟨0 + 1, ⟨h1, by rw [hW1]; exact h5⟩, by (try dsimp only); omega, ?_⟩
   refine ⟨rfl, ?_, ?_⟩ <;> repeat' (first | exact trivial | exact rfl | (rw [hW1]; done) | (rw [hW1]; exact rfl) | refine am_ ?_ | refine aw_ hw ?_ | refine ah_ ?_ ?_)
  ·have h5 : 4000 < W1.length := by simp at h5; omega
   rw [hlong (0 + 1) (by rw [hW1]; exact h5)]
   (conv => whnf) <;> rfl
 ·conv => whnf
  rintro (_ | _) h1
  ·have h1 : Fs.length ≤ k + 1 := by simp at h1; omega
   have e : W Fs (k + 1) = txP (cn_ Fs) := by
    show txP (cn_ (Fs.take (k + 1))) = _
    rw [M_ h1]
   have hne : W Fs (k + 1) ≠ [] := by
    have h2 : k < Fs.length := by omega
    have e2 : W Fs (k + 1) = W Fs k ++ txP Fs[k].pc := ez_ h2
    rw [oo_ (hF _ (q_ h2))] at e2
    rw [e2]; simp
   generalize W Fs (k + 1) = s at *
   conv => whnf
   refine ⟨_, _, ot_string1 (l := s) l169 Tryz.Builder_Extra_156 rfl rfl rfl rfl rfl rfl hne rfl, ?_⟩
   conv => whnf
   refine ⟨_, hv_ s oM, ?_⟩
   conv => whnf
   rintro (_ | _) h6
   ·have h6 : (al_ s).2.2 = 0 := by simpa using h6
    conv => whnf
    refine ⟨_, _, ot_string2 (l := s) l169 Tryz.Builder_Extra_156 rfl rfl rfl rfl rfl rfl hne rfl, ?_⟩
    rw [hfin0 s e h6]
    (conv => whnf) <;> rfl
   ·have h6 : (al_ s).2.2 ≠ 0 := by simpa using h6
    rw [hfin s e h6]
    (conv => whnf) <;> rfl
  have h1 : (k + 1) < Fs.length := by simp at h1; omega
  have hw : IntKind.i64.wrap ((((k + 1) : Nat) : Int) + 1) = (((k + 1) + 1 : Nat) : Int) := R_ oM
  obtain ⟨b, q, hf, hsg⟩ := hseg (k + 1) Fs[(k + 1)] (h_ h1)
  have hok := hF Fs[(k + 1)] (q_ h1)
  have hpl := hps _ (m_ hf)
  have e0 : W Fs ((k + 1) + 1) = W Fs ((k + 1)) ++ txP Fs[(k + 1)].pc := ez_ h1
  rw [oo_ hok] at e0
  have hnm := d3_ hok.name
  have hpn := kp_ 24 Fs[(k + 1)].params fun x hx => d3_ (hok.params x hx)
  have hbl := pp_ hl6 hsg
  have hBk := p_block oM hsg hok.kind
  have hg : (p.funcs.map fcD)[(((k + 1) : Nat) : Int).toNat]? = some [.cv (.string (mk Fs[(k + 1)].name)), .sl 1 (Fs[(k + 1)].params.map bl_), .cv (.int .i64 (q : Int))] := by
   rw [i_, e_, hf]; rfl
  dsimp only at hpl
  generalize hW1 : W Fs ((k + 1) + 1) = W1 at e0
  generalize Fs[(k + 1)].name = nm at *
  generalize Fs[(k + 1)].params = ps at *
  generalize txP (Tr.pc 0 Fs[(k + 1)].body) = B at *
  generalize W Fs ((k + 1)) = A at *
  have hcl : (bf_ ps).length ≤ 8 * 26 := w_ hpn (H_ _ hpl)
  conv => whnf
  refine ⟨g_ _, _, hg, ?_⟩
  conv => whnf
  refine ⟨none, kR, ?_⟩
  conv => whnf
  refine ⟨by rw [P_, cu_]; show 5 + _ ≤ _; omega, ?_⟩
  conv => whnf
  rw [catL]
  refine ⟨by rw [P_, cu_, a_]; show 5 + _ + 1 ≤ _; omega, ?_⟩
  conv => whnf
  rw [e3_]
  refine ⟨_, x_sjoin2 ps oM oM, ?_⟩
  conv => whnf
  refine ⟨by rw [P_, P_, a_, a_]; show 5 + _ + 1 + _ ≤ _; omega, ?_⟩
  conv => whnf
  rw [a3_]
  refine ⟨by rw [P_, cu_, a_, a_, a_]; show 5 + _ + 1 + _ + 2 ≤ _; omega, ?_⟩
  conv => whnf
  rw [e3_]
  refine T_ (T := TM ppM) (φ := []) (gf := false) (el_ (l := p.nodes) (bs := A) ([102, 117, 110, 99, 32] ++ nm ++ [40] ++ bf_ ps ++ [41, 32]) oL) ?_
  conv => whnf
  refine T_ (T := TM ppM) (φ := []) (gf := false) (hBk (A ++ ([102, 117, 110, 99, 32] ++ nm ++ [40] ++ bf_ ps ++ [41, 32])) oL) ?_
  conv => whnf
  refine T_ (T := TM ppM) (φ := []) (gf := false) (e4_ (l := p.nodes) (bs := A ++ ([102, 117, 110, 99, 32] ++ nm ++ [40] ++ bf_ ps ++ [41, 32]) ++ B) 10 oL) ?_
  have e1 : A ++ ([102, 117, 110, 99, 32] ++ nm ++ [40] ++ bf_ ps ++ [41, 32]) ++ B ++ [10] = W1 := by rw [e0]; simp
  have hlw : W1.length ≤ 100000000 := by
   rw [← e1]; simp only [a_, b_, c_]; omega
  rw [e1]
  conv => whnf
  refine T_ (T := TM ppM) (φ := []) (gf := false) (x_wlen (l := p.nodes) (bs := W1) oM) ?_
  conv => whnf
  rintro (_ | _) h5
  ·have h5 : W1.length ≤ 4000 := by simp at h5; omega
   conv => whnf
   refine ⟨(k + 1) + 1, ⟨h1, by rw [hW1]; exact h5⟩, by (try dsimp only); omega, ?_⟩
   refine ⟨rfl, ?_, ?_⟩ <;> repeat' (first | exact trivial | exact rfl | (rw [hW1]; done) | (rw [hW1]; exact rfl) | refine am_ ?_ | refine aw_ hw ?_ | refine ah_ ?_ ?_)
  ·have h5 : 4000 < W1.length := by simp at h5; omega
   rw [hlong ((k + 1) + 1) (by rw [hW1]; exact h5)]
   (conv => whnf) <;> rfl
theorem ku_ (Fs : List FnT) (hF : ∀ F ∈ Fs, f8_ F) (hc : bd_ (a1_ Fs) = 0) (hp : mv_ (a1_ Fs)) : DCalls Tryz.prog 15 [(a1_ Fs).V] (prV (eo_ Fs)) := by
 by_cases h0 : Fs = []
 ·subst h0
  exact x_print0 hp
 ·exact x_printS Fs hF hc hp h0
end
section
open Go.RowKit
end
section
open Go.RowKit
def fdM : List (Nat × Bool) := [(49, false), (48, false)]
def jk_ (x : Bs) : List Fc → Nat → Int
 | [], _ => -1
 | s :: l, i => if s.name == x then i else jk_ x l (i + 1)
theorem nr_ (x : Bs) (s : Fc) (l : List Fc) (i : Nat) : jk_ x (s :: l) i = if s.name == x then (i : Int) else jk_ x l (i + 1) := rfl
theorem x_fnd1 (f : Fc) (x : Bs) : bm_ Tryz.prog 49 [.ag [bc_ f.name, .sl false 1 (f.params.map bl_), int f.body], .bx 0 0] [.box [bc_ x]] (boo (sEq (mk f.name) (mk x))) [.box [bc_ x]] := by
 refine msx Tryz.func49 kR kR ?_
 exact ⟨rfl, rfl, rfl⟩
theorem x_indexFc (l : List Fc) (x : Bs) (hl : l.length ≤ 8796093022207) :
  bm_ Tryz.prog 48 [.sl false 3 (l.map fcD), .fn 49 0 [.bx 0 0]] [.box [bc_ x]] (int (jk_ x l 0)) [.box [bc_ x]] := by
 refine msxm fdM Tryz.func48 kR kR ?_
 conv => whnf
 refine ⟨[], Nat, fun k => [(8, int k)], fun _ => [], fun k => k ≤ l.length ∧ jk_ x (l.drop k) k = jk_ x l 0, fun k => l.length - k, 0, ⟨by simp, rfl⟩, ?_, ?_⟩
 ·exact eN
 rintro k ⟨hk, hf⟩
 conv => whnf
 rintro (_ | _) h1
 ·have h1 : l.length ≤ k := by simp at h1; omega
  rw [k_ h1] at hf
  exact ⟨rfl, rfl, by rw [← hf]; rfl⟩
 have h1 : k < l.length := by simp at h1; omega
 rw [r_ h1, nr_] at hf
 conv => whnf
 refine ⟨oM, _, W_ fcD h1, ?_⟩
 conv => whnf
 refine T_ (T := TM fdM) (φ := []) (x_fnd1 l[k] x) ?_
 conv => whnf
 rintro (_ | _) h2
 ·rw [a2_] at h2
  rw [h2, if_neg sI] at hf
  conv => whnf
  refine ⟨k + 1, ⟨h1, hf⟩, by dsimp only; omega, ?_⟩
  exact eW
 ·rw [a2_] at h2
  rw [h2, if_pos rfl] at hf
  exact ⟨rfl, rfl, by rw [← hf]; rfl⟩
theorem x_sfind (p : Pg) (x : Bs) (hl : p.funcs.length ≤ 8796093022207) : DCalls Tryz.prog 20 [p.V, bc_ x] (int (jk_ x p.funcs 0)) := by
 refine sxm fdM Tryz.func20 kR ?_
 conv => whnf
 refine T_ (T := TM fdM) (φ := []) (x_indexFc p.funcs x hl) ?_
 rfl
theorem x_rfind (p : Pg) (x : Bs) (hl : p.funcs.length ≤ 8796093022207) : DCalls Tryz.prog 21 [p.V, bc_ x] (int (jk_ x p.funcs 0)) := by
 refine sx Tryz.func21 kR ?_
 conv => whnf
 refine ⟨[], Nat, fun k => [(5, int k)], fun _ => [], fun k => k ≤ p.funcs.length ∧ jk_ x (p.funcs.drop k) k = jk_ x p.funcs 0, fun k => p.funcs.length - k, 0, ⟨by simp, rfl⟩, ?_, ?_⟩
 ·exact eN
 rintro k ⟨hk, hf⟩
 conv => whnf
 rintro (_ | _) h1
 ·have h1 : p.funcs.length ≤ k := by simp at h1; omega
  rw [k_ h1] at hf
  rw [← hf]
  (conv => whnf) <;> rfl
 have h1 : k < p.funcs.length := by simp at h1; omega
 rw [r_ h1, nr_] at hf
 conv => whnf
 refine ⟨oM, _, W_ fcD h1, ?_⟩
 conv => whnf
 rintro (_ | _) h2
 ·have h2 : (p.funcs[k].name == x) = false := by rw [← a2_]; exact h2
  rw [h2, if_neg sI] at hf
  conv => whnf
  refine ⟨k + 1, ⟨h1, hf⟩, by dsimp only; omega, ?_⟩
  exact eW
 ·have h2 : (p.funcs[k].name == x) = true := by rw [← a2_]; exact h2
  rw [h2, if_pos rfl] at hf
  rw [← hf]
  (conv => whnf) <;> rfl
end
section
def exS1 : Bs := [102, 117, 110, 99, 32, 109, 97, 105, 110, 40, 101, 41, 32, 123, 32, 114, 101, 116, 117, 114, 110, 32, 101, 43, 49, 42, 50, 59, 32, 125]
def exS2 : Bs := [102, 117, 110, 99, 32, 109, 97, 105, 110, 40, 101, 41, 32, 123, 32, 114, 101, 116, 117, 114, 110, 32, 49, 32, 60, 32, 50, 32, 60, 32, 51, 59, 32, 125]
def exS3 : Bs := [102, 117, 110, 99, 32, 109, 97, 105, 110, 40, 101, 41, 32, 123, 32, 114, 101, 116, 117, 114, 110, 32, 40, 101, 43, 49, 41, 42, 50, 59, 32, 125]
def exS4 : Bs := [102, 117, 110, 99, 32, 109, 97, 105, 110, 40, 101, 41, 32, 123, 32, 114, 101, 116, 117, 114, 110, 32, 123, 34, 98, 34, 58, 32, 49, 44, 32, 34, 97, 34, 58, 32, 50, 125, 59, 32, 125]
def exT1 : Bs := [102, 117, 110, 99, 32, 109, 97, 105, 110, 40, 101, 41, 32, 123, 10, 9, 114, 101, 116, 117, 114, 110, 32, 101, 32, 43, 32, 49, 32, 42, 32, 50, 59, 10, 125, 10]
def exT3 : Bs := [102, 117, 110, 99, 32, 109, 97, 105, 110, 40, 101, 41, 32, 123, 10, 9, 114, 101, 116, 117, 114, 110, 32, 40, 101, 32, 43, 32, 49, 41, 32, 42, 32, 50, 59, 10, 125, 10]
def exE : Tr := .node ⟨5, [101], 0, []⟩ []
def exI (n : Int) : Tr := .node ⟨3, [], n, []⟩ []
def exB (op : Bs) (x y : Tr) : Tr := .node ⟨9, op, 0, []⟩ [x, y]
def exF (x : Tr) : FnT := ⟨[109, 97, 105, 110], [[101]], .node ⟨19, [], 0, []⟩ [.node ⟨17, [], 0, []⟩ [x]]⟩
def exF1 : FnT := exF (exB [43] exE (exB [42] (exI 1) (exI 2)))
def exF3 : FnT := exF (exB [42] (exB [43] exE (exI 1)) (exI 2))
theorem ex_parse1 : di_ exS1 = (a1_ [exF1], 0, 0) := kR
theorem ex_parse2 : di_ exS2 = (⟨[], []⟩, 28, 1) := kR
theorem ex_parse3 : di_ exS3 = (a1_ [exF3], 0, 0) := kR
theorem ex_parse4 : di_ exS4 = (⟨[], []⟩, 31, 1) := kR
theorem ex_ok1 : f8_ exF1 := ⟨kR, fun s hs => by obtain rfl := List.mem_singleton.1 hs; kernel_rfl, rfl, kR⟩
theorem ex_ok3 : f8_ exF3 := ⟨kR, fun s hs => by obtain rfl := List.mem_singleton.1 hs; kernel_rfl, rfl, kR⟩
theorem ex_check1 : bd_ (a1_ [exF1]) = 0 := kR
theorem ex_check3 : bd_ (a1_ [exF3]) = 0 := kR
theorem ex_deep1 : jo_ (a1_ [exF1]) = 5 := kR
theorem itoa_d (n : Nat) (h : n < 10) : Lib.itoa (n : Int) = [UInt8.ofNat (48 + n)] := by
 rw [Lib.itoa_nonneg, dg_ h]
theorem ex_i1 : aa_ ⟨3, [], 1, 0⟩ = ([49], 0) := by
 unfold aa_
 rw [if_pos ⟨rfl, rfl, dC, dC⟩, show (1 : Int) = ((1 : Nat) : Int) from rfl, itoa_d 1 oM]; rfl
theorem ex_i2 : aa_ ⟨3, [], 2, 0⟩ = ([50], 0) := by
 unfold aa_
 rw [if_pos ⟨rfl, rfl, dC, dC⟩, show (2 : Int) = ((2 : Nat) : Int) from rfl, itoa_d 2 oM]; rfl
theorem txP_t (k : Tok) (l : List Pc) : txP (.t k :: l) = (aa_ k).1 ++ txP l := rfl
theorem txP_b (s : Bs) (l : List Pc) : txP (.b s :: l) = s ++ txP l := rfl
theorem ex_pc1 : cn_ [exF1] = [.t (wd kw_), sp1, .t (tk 1 [109, 97, 105, 110]), .t (sy sLP), .t (tk 1 [101]), .t (sy sRP), sp1, .t (sy sLC), nl 1, .t (wd b0_), sp1, .t (tk 1 [101]), sp1, .t (sy [43]), sp1, .t ⟨3, [], 1, 0⟩, sp1, .t (sy [42]), sp1, .t ⟨3, [], 2, 0⟩, .t (sy sSc), nl 0, .t (sy sRC), nl 0] := kR
theorem ex_pc3 : cn_ [exF3] = [.t (wd kw_), sp1, .t (tk 1 [109, 97, 105, 110]), .t (sy sLP), .t (tk 1 [101]), .t (sy sRP), sp1, .t (sy sLC), nl 1, .t (wd b0_), sp1, .t (sy sLP), .t (tk 1 [101]), sp1, .t (sy [43]), sp1, .t ⟨3, [], 1, 0⟩, .t (sy sRP), sp1, .t (sy [42]), sp1, .t ⟨3, [], 2, 0⟩, .t (sy sSc), nl 0, .t (sy sRC), nl 0] := kR
theorem ex_text1 : txP (cn_ [exF1]) = exT1 := by
 rw [ex_pc1]
 simp only [txP_t, txP_b, ex_i1, ex_i2]
 kernel_rfl
theorem ex_text3 : txP (cn_ [exF3]) = exT3 := by
 rw [ex_pc3]
 simp only [txP_t, txP_b, ex_i1, ex_i2]
 kernel_rfl
theorem ex_print1 : eo_ [exF1] = (exT1, 0) := by
 unfold eo_
 rw [ex_text1, if_neg (by rw [show (al_ exT1).2.2 = 0 by kernel_rfl]; simp)]
theorem ex_print3 : eo_ [exF3] = (exT3, 0) := by
 unfold eo_
 rw [ex_text3, if_neg (by rw [show (al_ exT3).2.2 = 0 by kernel_rfl]; simp)]
end
section
open Go.RowKit
end
section
open Go.RowKit
theorem pnlit {a : Bs} {d : Array UInt8} {b : Bool} (h : (a == d.toList) = b) : (!((mk a).toList == (⟨d⟩ : ByteArray).toList)) = !b := by rw [bq_, h]
theorem pg_nil : mv_ ⟨[], []⟩ := ⟨⟨by simp, by simp⟩, by simp, by simp⟩
theorem nc_ (s : Bs) : mv_ (di_ s).1 := by
 unfold di_
 split
 ·exact pg_nil
 split
 ·exact pg_nil
 ·rename_i p hp
  split
  ·exact pg_nil
  ·exact prog_ok hp
def exP1 : Pg := ⟨[⟨5, [101], 0, [], []⟩, ⟨3, [], 1, [], []⟩, ⟨3, [], 2, [], []⟩, ⟨9, [42], 0, [], [1, 2]⟩, ⟨9, [43], 0, [], [0, 3]⟩, ⟨17, [], 0, [], [4]⟩, ⟨19, [], 0, [], [5]⟩], [⟨[109, 97, 105, 110], [[101]], 6⟩]⟩
def exP3 : Pg := ⟨[⟨5, [101], 0, [], []⟩, ⟨3, [], 1, [], []⟩, ⟨9, [43], 0, [], [0, 1]⟩, ⟨3, [], 2, [], []⟩, ⟨9, [42], 0, [], [2, 3]⟩, ⟨17, [], 0, [], [4]⟩, ⟨19, [], 0, [], [5]⟩], [⟨[109, 97, 105, 110], [[101]], 6⟩]⟩
theorem ex_p1 : a1_ [exF1] = exP1 := kR
theorem ex_p3 : a1_ [exF3] = exP3 := kR
theorem ex_same13 : e5_ exP1 exP3 = false := kR
theorem ex_same11 : e5_ exP1 exP1 = true := kR
theorem ex_ok : mv_ exP1 := by
 have := nc_ exS1
 rw [ex_parse1, ex_p1] at this
 exact this
theorem ex_ok3' : mv_ exP3 := by
 have := nc_ exS3
 rw [ex_parse3, ex_p3] at this
 exact this
theorem ex_big : PgBig exP1 := ⟨dC, dC, dC, dC, dC⟩
abbrev AwakeS : Prop := DCalls Tryz.prog 12 [] (boo true)
theorem x_awakeS : AwakeS := by
 have h1 := hw_ exS1 dC
 rw [ex_parse1, ex_p1] at h1
 have h2 := hw_ exS2 dC
 rw [ex_parse2] at h2
 have h3 := hw_ exS3 dC
 rw [ex_parse3, ex_p3] at h3
 have h4 := hw_ exS4 dC
 rw [ex_parse4] at h4
 have p1 := ku_ [exF1] (fun F hF => by obtain rfl := List.mem_singleton.1 hF; exact ex_ok1) ex_check1 (by rw [ex_p1]; exact ex_ok)
 rw [ex_print1, ex_p1] at p1
 have p3 := ku_ [exF3] (fun F hF => by obtain rfl := List.mem_singleton.1 hF; exact ex_ok3) ex_check3 (by rw [ex_p3]; exact ex_ok3')
 rw [ex_print3, ex_p3] at p3
 have hc0 : bd_ exP1 = 0 := by rw [← ex_p1]; exact ex_check1
 have hck := ha_ exP1 ex_ok
 rw [hc0] at hck
 have hdp := x_sdepth exP1 ex_ok
 rw [if_pos hc0, ← ex_p1, ex_deep1, ex_p1] at hdp
 have f1 := x_sfind exP1 [109, 97, 105, 110] dC
 rw [show jk_ [109, 97, 105, 110] exP1.funcs 0 = 0 by kernel_rfl] at f1
 have f2 := x_sfind exP1 [120] dC
 rw [show jk_ [120] exP1.funcs 0 = -1 by kernel_rfl] at f2
 have s1 := x_samePg exP1 exP3 ex_big
 rw [ex_same13] at s1
 have s2 := x_samePg exP1 exP1 ex_big
 rw [ex_same11] at s2
 refine sx Tryz.func12 kR ?_
 repeat ((conv => whnf); first | refine Q_ false (pnlit (b := true) rfl) ?_ | refine Q_ true (lit0 (b := true) rfl) ?_ | refine kF ?_ | refine kT ?_ | refine ⟨_, h1, ?_⟩ | refine ⟨_, h2, ?_⟩ | refine ⟨_, h3, ?_⟩ | refine ⟨_, h4, ?_⟩ | refine ⟨_, p1, ?_⟩ | refine ⟨_, p3, ?_⟩ | refine ⟨_, hck, ?_⟩ | refine ⟨_, hdp, ?_⟩ | refine ⟨_, f1, ?_⟩ | refine ⟨_, f2, ?_⟩ | refine ⟨_, s1, ?_⟩ | refine ⟨_, s2, ?_⟩ | refine ⟨dC, _, rfl, ?_⟩ | refine ⟨none, kR, ?_⟩)
 exact S_ (lit0 (a := exT3) (b := true) rfl)
end
section
open Go.RowKit
theorem seq_refl (a : Bs) : ((mk a).toList == (mk a).toList) = true := by simp
end
end Go.Proofs.YtglndfgmlminpaaGreatDoor
