/-
  A reader of code over states that name their own memory: code within a round of a range over a function.
-/
import Derived.Test.YtppkkonhfkegoaaSxY
import Derived.OrdersIn
import Derived.OwnWalkIn
import Derived.RangeFuncCalls
import Derived.RangeFuncNested
namespace Go.Proofs.Ytppkkonhfkegoaa
open Go.RowKit

/-- No defer statement. -/
def opNoDefer (o : Oper) : Bool := match o.op with
  | .defer _ => false
  | _ => true
def noDefer : Code → Bool
  | .region _ ops _ => ops.toList.all opNoDefer
  | .seq a b => noDefer a && noDefer b
  | .cond _ a b => noDefer a && noDefer b
  | .block _ a => noDefer a
  | .loop a => noDefer a
  | _ => true

section
variable {P : Program} {T : Tab} {B : Fr} {w0 : World} {N : Names} {S : Sets} {t t' : List V} {m : List (Option Bk)} {a : Act} {w : World} {ops : Array Oper} {r : Option Nat} {n : Nat}

/-- The wide fence, outside or inside of a round. -/
abbrev fen (r : Option Nat) : Fence := { Fence.wide with round := r }

theorem calls_fen {f : FuncId} {args : Array Value} {R : Ending → World → Prop} (r : Option Nat) (h : Calls P f args w R) : CallsIn (fen r) n P f args w R := by
  have h1 := (callsIn_wide (n := n)).2 h
  cases r with
  | none => exact h1
  | some l => exact CallsIn.inRound l h1

theorem Sat.drew (hs : Sat B w0 N S t m a w) : Sat B w0 N S t m a w.drew :=
  ⟨hs.low.drew, hs.nodef, hs.tmps.mono (w := w) (w' := w.drew) (NLe.refl _) (fun _ _ h => h) (fun _ _ _ => rfl), fun k b hk => (hs.blk k b hk).mono (w := w) (w' := w.drew) rfl (NLe.refl _) (fun _ _ h => h) (fun _ _ _ => rfl) (fun _ _ _ _ _ => rfl), hs.non, hs.apart, hs.data, hs.fresh, hs.own, hs.base, hs.old, hs.lent, hs.more.mono (w := w) (w' := w.drew) (Nat.le_refl _) (fun _ _ h => h.mono (w := w) (w' := w.drew) (NLe.refl _) (fun _ _ h => h) fun _ _ _ => rfl) hs.base fun _ _ h => .inl h⟩

theorem wp_rnd {o : Oper} (hd : opNoDefer o = true) {next next' : Act → World → Prop} {Q Q' : Exit → Act → World → Prop} (h : o.wp P a w next Q) (hn : ∀ a w, next a w → next' a w) (hq : ∀ e a w, Q e a w → Q' e a w) : o.wpIn (fen r) n P a w next' Q' := by
  refine ⟨fun _ _ => trivial, ?_⟩
  rw [Oper.semAt_plain (fen r) a.eval o (by intro c hc; simp [opNoDefer, hc] at hd)]
  unfold Oper.wp at h
  generalize (execOp a.eval o).run P w = rr at h ⊢
  have hdep : ∀ {p : Prop}, (fen r).depth.isSome = true → p := fun h => by simp [fen, Fence.wide] at h
  cases rr with
  | ok x w' =>
    cases x <;> simp only [Oper.upon, Oper.uponIn] at h ⊢ <;> first | exact hn _ _ h | exact h.elim | skip
    · refine ⟨fun h => hdep h, ?_⟩
      refine calls_fen r (Calls.mono h fun e w'' he => ?_)
      cases e with
      | returned u => exact hn _ _ he
      | panicked c => exact hq _ _ _ he
      | outgrown => obtain ⟨a, w, h⟩ := he; exact ⟨a, w, hq _ _ _ h⟩
    · refine ⟨fun h => hdep h, fun c cs _ => ?_⟩
      obtain ⟨v, w2, hr, st⟩ := h c cs
      exact ⟨v, w2, hn _ _ hr, stepsIn_wide.2 st⟩
  | halt x w' => cases x <;> simp only [Oper.upon, Oper.uponIn] at h ⊢ <;> first | exact hq _ _ _ h | exact h.elim

/-- An operation met in a region of a round. -/
theorem step_rnd (hT : TOk P T) (hs : Sat B w0 N S t m a w) {o : Oper} (hd : opNoDefer o = true) {v : V} {m' : List (Option Bk)} (h : YieldsA P T ops o t m v m') {K : St → Prop} (hK : K ⟨putL t o.dst v, m'⟩)
    {K' : Act → World → Prop} {Q : Exit → Act → World → Prop} (hKK : ∀ a w, OkSt B w0 K a w → K' a w) :
    if Region.wanted o (yielded ops a.tmps) then o.wpIn (fen r) n P a w K' Q else (∀ f, o.about P w a.eval = some f → (fen r).fn f) ∧ K' (a.put o.dst undef) w := by
  rcases yields_wanted hs h with ⟨hw, hTr⟩ | ⟨hw, rfl, rfl⟩
  · rw [if_pos hw]
    have := aCore_sound hT hs (hTr (fun v m' => K ⟨putL t o.dst v, m'⟩) hK) Q
    refine wp_rnd hd this ?_ fun _ _ _ h => h
    rintro a' w' ⟨u, rfl, N', S', v', m'', h1, h2, h3⟩
    exact hKK _ _ ⟨N', S', _, _, h1.put h2 o.dst, h3⟩
  · rw [if_neg (by rw [hw]; simp)]
    exact ⟨fun _ _ => trivial, hKK _ _ ⟨N, S, _, _, hs.put (.cv _) o.dst, hK⟩⟩

theorem ops_rnd (hT : TOk P T) {K : St → Prop} {Q : Exit → Act → World → Prop} (rest : List Oper) (hKQ : ∀ a w, OkSt B w0 K a w → wpListIn (fen r) n P ops Q rest a w) (os : List Oper) (hd : os.all opNoDefer = true) :
    ∀ (a : Act) (w : World), OkSt B w0 (fun st => awpOps P T ops os st K) a w → wpListIn (fen r) n P ops Q (os ++ rest) a w := by
  induction os with
  | nil => intro a w h; exact hKQ a w h
  | cons o os ih =>
    simp only [List.all_cons, Bool.and_eq_true] at hd
    rintro a w ⟨N, S, t, m, hs, h⟩
    simp only [awpOps] at h
    obtain ⟨v, m', t', h1, h2, h3⟩ := aOp_spec h rfl
    rw [List.cons_append]
    unfold wpListIn
    exact step_rnd hT hs hd.1 h1 (K := fun st => ∃ t', nfEq st.t t' ∧ awpOps P T ops os ⟨t', st.m⟩ K) ⟨t', h2, h3⟩ fun a w ⟨N, S, t, m, hs, t', he, h⟩ => ih hd.2 a w ⟨N, S, t', m, hs.nf he, h⟩

theorem any_rnd (hT : TOk P T) (hd : ops.toList.all opNoDefer = true) {K : St → Prop} {Q : Exit → Act → World → Prop} (hKQ : ∀ a w, OkSt B w0 K a w → Q .normal a w) : ∀ (fuel : Nat) (listed : Array Bool) (a : Act) (w : World),
    OkSt B w0 (awpAny P T ops K fuel listed) a w → wpAnyIn (fen r) n P .any ops Q fuel listed a w
  | 0, listed, a, w, ⟨N, S, t, m, hs, h⟩ => ⟨h.1, hKQ _ _ ⟨N, S, t, m, hs, h.2⟩⟩
  | fuel + 1, listed, a, w, ⟨N, S, t, m, hs, h⟩ => by
    refine ⟨fun h0 => hKQ _ _ ⟨N, S, t, m, hs, h.1 h0⟩, fun i hi => ?_⟩
    have := h.2 i hi
    unfold wpOpIn
    cases ho : ops[i]? with
    | none => rw [ho] at this; exact any_rnd hT hd hKQ fuel _ a w ⟨N, S, t, m, hs, this⟩
    | some o =>
      rw [ho] at this
      obtain ⟨v, m', h1, h2⟩ := this
      exact step_rnd hT hs (List.all_eq_true.1 hd o (by have := Array.mem_of_getElem? ho; simpa using this)) h1 h2 fun a w h => any_rnd hT hd hKQ fuel _ a w h

/-- A region that draws its order. -/
theorem draw_rnd (hT : TOk P T) (hm : P.follows .mixedOrders = true) (hd : ops.toList.all opNoDefer = true) {K : St → Prop} {Q : Exit → Act → World → Prop} (hKQ : ∀ a w, OkSt B w0 K a w → Q .normal a w) {id : Nat}
    (h : OkSt B w0 (fun st => DrawA P T ops st K) a w) : (Code.region id ops true).wpIn (fen r) n P Q a w := by
  refine wpIn_region_any hm (any_rnd (B := B) (w0 := w0) hT hd (K := fun st => ∃ t', nfEq st.t t' ∧ K ⟨t', st.m⟩) (fun a w ⟨N, S, t, m, hs, t', he, h⟩ => hKQ a w ⟨N, S, t', m, hs.nf he, h⟩) _ _ _ _ ?_)
  obtain ⟨N, S, t, m, hs, h⟩ := h
  have hcl : Closed ops (Array.replicate ops.size false) := by
    intro j o _ hj
    rcases Nat.lt_or_ge j ops.size with h' | h'
    · simp [h'] at hj
    · simp [Array.getElem?_eq_none, h'] at hj
  have : awpAny P T ops (fun st => ∃ t', nfEq st.t t' ∧ K ⟨t', st.m⟩) ops.size (Array.replicate ops.size false) ⟨t, m⟩ := by
    obtain ⟨pl, h⟩ := h
    cases pl with
    | none =>
      obtain ⟨hd, h⟩ := h
      simp only [drawOk, Bool.and_eq_true] at hd
      have := any_lex (P := P) (T := T) hd.1 (Q := K) ops.toList 0 (Array.replicate ops.size false) t t m rfl hcl (by simp) (by simpa using hd.2) h
      simpa using this
    | some p =>
      obtain ⟨hd, h⟩ := h
      simp only [Bool.and_eq_true] at hd
      exact (plan_sound hd.1 p _ _ t t m rfl hcl hd.2.2 h).1 hd.2.1
  exact ⟨N, S, t, m, hs.drew, this⟩

/-- Code without loops, defer statements, ranges over functions. -/
def plainC : Code → Bool
  | .region _ ops _ => ops.toList.all opNoDefer
  | .seq a b => plainC a && plainC b
  | .cond _ a b => plainC a && plainC b
  | .block _ a => plainC a
  | .loop _ => false
  | .scope _ => false
  | _ => true

theorem awp_in (hT : TOk P T) (hm : P.follows .mixedOrders = true) : ∀ (c : Code) (K : Ex → St → Prop) (a : Act) (w : World), plainC c = true → OkSt B w0 (fun st => awp P T c st K) a w → c.wpIn (fen r) n P (QK B w0 K) a w := by
  intro c
  induction c with
  | skip => rintro K a w - ⟨N, S, t, m, hs, h⟩; exact wpIn_skip ⟨N, S, t, m, hs, h⟩
  | region id ops draw =>
    rintro K a w hp ⟨N, S, t, m, hs, h⟩
    simp only [awp] at h
    cases draw with
    | true =>
      simp only [if_true] at h
      exact draw_rnd hT hm hp (K := K .normal) (fun a w h => h) ⟨N, S, t, m, hs, h⟩
    | false =>
      simp only [Bool.false_eq_true, if_false] at h
      have := ops_rnd (r := r) (n := n) (Q := QK B w0 K) hT (K := K .normal) [] (fun a w h => h) ops.toList hp a w ⟨N, S, t, m, hs, h⟩
      rw [List.append_nil] at this
      exact wpIn_region_list this
  | seq x y ihx ihy =>
    rintro K a w hp ⟨N, S, t, m, hs, h⟩
    simp only [plainC, Bool.and_eq_true] at hp
    simp only [awp] at h
    refine wpIn_seq (Go.wpIn_mono (ihx _ a w hp.1 ⟨N, S, t, m, hs, h⟩) ?_)
    intro e a w h
    cases e <;> simp only [QK, Exit.then] at h ⊢
    · exact ihy K a w hp.2 h
    · exact h
    · exact h
  | cond c x y ihx ihy =>
    rintro K a w hp ⟨N, S, t, m, hs, h⟩
    simp only [plainC, Bool.and_eq_true] at hp
    simp only [awp] at h
    have hr := hs.ev c
    generalize hu : a.eval c = u at hr
    split at h
    · rename_i hev
      rw [hev] at hr
      cases hr
      exact wpIn_cond hu (ihx K a w hp.1 ⟨N, S, t, m, hs, h⟩)
    · rename_i hev
      rw [hev] at hr
      cases hr
      exact wpIn_cond hu (ihy K a w hp.2 ⟨N, S, t, m, hs, h⟩)
    · rename_i b d hev
      rw [hev] at hr
      cases hr
      have h := h b rfl
      rw [setK_eq] at h
      have hb : t[d]? = some (.cv (.bool b)) := by
        simp only [ev, List.getD_eq_getElem?_getD] at hev
        cases hd : t[d]? with
        | none => rw [hd] at hev; cases hev
        | some v => rw [hd] at hev; simp at hev; rw [hev]
      have hs' := hs.nf (nfEq.mark (rfl : nfEq t t) hb)
      refine wpIn_cond hu ?_
      cases b
      · exact ihy K a w hp.2 ⟨N, S, _, m, hs', h⟩
      · exact ihx K a w hp.1 ⟨N, S, _, m, hs', h⟩
    · exact h.elim
  | block id x ih =>
    rintro K a w hp ⟨N, S, t, m, hs, h⟩
    simp only [plainC] at hp
    simp only [awp] at h
    refine wpIn_block (Go.wpIn_mono (ih _ a w hp ⟨N, S, t, m, hs, h⟩) ?_)
    intro e a w h
    cases e <;> simp only [QK, Exit.inBlock] at h ⊢
    · exact h
    · rename_i id'
      by_cases he : id' = id
      · simp only [he, if_true] at h ⊢; exact h
      · simp only [he, if_false] at h ⊢; exact h
    · exact h
  | loop c ih => rintro K a w hp; cases hp
  | exit id => rintro K a w - ⟨N, S, t, m, hs, h⟩; exact wpIn_exit ⟨N, S, t, m, hs, h⟩
  | ret => rintro K a w - ⟨N, S, t, m, hs, h⟩; exact wpIn_ret ⟨N, S, t, m, hs, h⟩
  | scope x ih => rintro K a w hp; cases hp
  | rangeFunc f ps x y ih1 ih2 => rintro K a w - ⟨N, S, t, m, hs, h⟩; exact h.elim
  | label l => rintro K a w - ⟨N, S, t, m, hs, h⟩; exact wpIn_label ⟨N, S, t, m, hs, h⟩
  | goto l => rintro K a w - ⟨N, S, t, m, hs, h⟩; exact h.elim
  | refuse why => rintro K a w - ⟨N, S, t, m, hs, h⟩; exact h.elim

end
end Go.Proofs.Ytppkkonhfkegoaa
