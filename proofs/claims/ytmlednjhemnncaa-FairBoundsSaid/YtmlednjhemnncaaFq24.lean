/- Texts joined by pack.py: XFb8 XFb9 XFc0 XFc1 XFc2 XFc3 XSxYv -/
import Derived.Test.YtmlednjhemnncaaFq22
import Derived.Test.YtmlednjhemnncaaFq23
import Derived.Test.YtmlednjhemnncaaFq13
namespace Go.Proofs.Ytmlednjhemnncaa
open Go.RowKit
theorem mcalls_weak {P : Program} {f : FuncId} {a : List V} {m : List Bk} {r : V} {m' : List Bk} (h : MCallsG true P f a m r m') : MCalls P f a m r m' :=
  ⟨h.1, fun w vs ns So hm hv => (h.2 w vs ns So hm hv).mono fun _ _ ⟨v, ns', h1, h2, h3, h4, h5, h6, h7, _, h9⟩ => ⟨v, ns', h1, h2, h3, h4, h5, h6, h7, fun h => (by cases h), h9⟩⟩
section
variable {s : Qs} {M : Qm}
theorem Fit.rlen (h : Fit s M) (hf : s.fine) : M.R.length ≤ 256 := by rw [h.r, tns, List.length_map]; exact hf.size
abbrev mem (s : Qs) (M : Qm) : List Bk := qM s.q M.tu s.W M.J M.De M.R
theorem push_keeps (s : Qs) (j : Jb) : (s.push j).q = s.q ∧ (s.push j).W = s.W ∧ (s.push j).tu = s.tu := by unfold Qs.push; split <;> exact ⟨rfl, rfl, rfl⟩
theorem c_push (h : Fit s M) (hf : s.fine) (j : Jb) (h1 : j.id.size ≤ maxLen) (h2 : j.tn.size ≤ maxLen) : ∃ M', Fit (s.push j) M' ∧ MCalls Try.prog 10 [.bx 0 0, j.V] (mem s M) (int (pushE s j)) (mem (s.push j) M') := by
  have hR := h.rlen hf
  have hW := hf.wl
  have hq : 0 < s.q ∧ s.q ≤ 1000000 := ⟨by have := hf.q1; omega, hf.q2⟩
  have hk := push_keeps s j
  unfold mem
  rw [hk.1, hk.2.1, ← h.pushE hf j]
  by_cases he : pushE s j = 0
  · have he' : pushP s.q s.W M.J M.R j = 0 := by rw [h.pushE hf j]; exact he
    rw [he']
    cases hg : getE M.J j.tn with
    | none => exact ⟨_, h.push_new he hg, x_push1 s.q hq M.tu s.W M.J M.De M.R j h1 h2 (by omega) (by omega) (h.inJ hf) he' hg⟩
    | some js =>
      have hjs : js ≠ [] ∧ js.length ≤ 256 := by
        have ht : j.tn ∈ tns s := by
          rcases Classical.em (j.tn ∈ tns s) with h3 | h3
          · exact h3
          · rw [h.jn _ h3] at hg; cases hg
        obtain ⟨a, ha, e⟩ := List.mem_map.1 ht
        have := h.jb a ha
        rw [e, hg] at this; cases this
        exact ⟨hf.js a ha, hf.jsize ha⟩
      exact ⟨_, h.push_old hf he hg, x_push2 s.q hq M.tu s.W M.J M.De M.R j h1 h2 (by omega) (by omega) (h.inJ hf) he' hg hjs.1 (by omega)⟩
  · have he' : pushP s.q s.W M.J M.R j ≠ 0 := by rw [h.pushE hf j]; exact he
    have hs : s.push j = s := by unfold Qs.push; rw [if_neg he]
    rw [hs]
    exact ⟨M, h, mcalls_weak (x_push0 s.q hq M.tu s.W M.J M.De M.R j h1 h2 (by omega) (by omega) (h.inJ hf) he')⟩
theorem weigh_W (s : Qs) (t : ByteArray) (n : Int) : (s.weigh t n).W = (if weighE s t n = 0 then putE s.W t n else s.W) ∧ (s.weigh t n).q = s.q := by unfold Qs.weigh; split <;> exact ⟨rfl, rfl⟩
theorem c_weigh (h : Fit s M) (hf : s.fine) (t : ByteArray) (n : Int) (ht : t.size ≤ maxLen) : MCalls Try.prog 12 [.bx 0 0, str t, int n] (mem s M) (int (weighE s t n)) (mem (s.weigh t n) M) := by
  have hR := h.rlen hf
  have hW := hf.wl
  have hc := mcalls_weak (x_weigh s.q (by have := hf.q1; omega) M.tu s.W M.J M.De M.R t n ht (by omega) (by omega))
  rw [h.weighE hf t n] at hc
  unfold mem
  rw [(weigh_W s t n).1, (weigh_W s t n).2]
  exact hc
theorem pop_keeps : ∀ (n : Nat) (s : Qs), (popF n s).2.q = s.q ∧ (popF n s).2.W = s.W
  | 0, _ => ⟨rfl, rfl⟩
  | n + 1, s => by
    unfold popF
    cases hR : s.R with
    | nil => exact ⟨rfl, rfl⟩
    | cons a l =>
      have hk := serve_keeps s
      dsimp only
      split
      · rename_i j s' e; rw [e] at hk; exact hk
      · rename_i s' e
        rw [e] at hk
        have := pop_keeps n s'
        exact ⟨this.1.trans hk.1, this.2.trans hk.2⟩
theorem c_pop (h : Fit s M) (hf : s.fine) : ∃ M', Fit s.pop.2 M' ∧ MCalls Try.prog 17 [.bx 0 0] (mem s M) (.tu [(s.pop.1.getD Jb.zero).V, boo s.pop.1.isSome]) (mem s.pop.2 M') := by
  obtain ⟨h1, h2⟩ := h.pop (s.mu + 1) hf
  have hk := pop_keeps (s.mu + 1) s
  refine ⟨_, h2, ?_⟩
  unfold Qs.pop mem
  rw [hk.1, hk.2, ← h1]
  obtain ⟨J, De, tu, R⟩ := M
  exact x_popM h hf rfl rfl rfl
end
end Go.Proofs.Ytmlednjhemnncaa
namespace Go.Proofs.Ytmlednjhemnncaa
open Go.RowKit
section
variable {s : Qs} {M : Qm}
theorem jobs_none (h : Fit s M) {t : ByteArray} (hg : getE M.J t = none) : jobsOf s t = [] := by rw [← h.jOf t]; simp [jOf, hg]
theorem jobs_some (h : Fit s M) {t : ByteArray} {js : List Jb} (hg : getE M.J t = some js) : jobsOf s t = js := by rw [← h.jOf t]; simp [jOf, hg]
theorem drop_keeps (s : Qs) (t : ByteArray) : (s.drop t).q = s.q ∧ (s.drop t).W = s.W := by unfold Qs.drop; split <;> exact ⟨rfl, rfl⟩
theorem c_drop0 (h : Fit s M) (hf : s.fine) {t : ByteArray} (hg : getE M.J t = none) : s.drop t = s ∧ jobsOf s t = [] ∧ MCallsG true Try.prog 15 [.bx 0 0, str t] (mem s M) (.sl true 3 []) (mem s M) :=
  ⟨h.drop0 hg, jobs_none h hg, x_drop0 s.q (by have := hf.q1; omega) M.tu s.W M.J M.De M.R t hg⟩
theorem c_drop1 (h : Fit s M) (hf : s.fine) {t : ByteArray} {js : List Jb} (hg : getE M.J t = some js) : jobsOf s t = js ∧ ∃ M', Fit (s.drop t) M' ∧ MCalls Try.prog 15 [.bx 0 0, str t] (mem s M) (.ow 5 0) (mem (s.drop t) M' ++ [.row 0 34 3 false (js.map jobD)]) := by
  refine ⟨jobs_some h hg, ?_⟩
  obtain ⟨l1, l2, hR, h1, h2, h0, hfit⟩ := h.drop1 hf hg
  have hl := h.rlen hf
  have hk := drop_keeps s t
  refine ⟨_, hfit, ?_⟩
  unfold mem
  rw [hk.1, hk.2]
  obtain ⟨J, De, tu, R⟩ := M
  dsimp only at hR hl
  subst hR
  have hq := hf.q1
  cases l1 with
  | nil => exact x_drop1 s.q (by omega) tu s.W J De [] l2 t hg h0 h1 h2 (by omega)
  | cons b l1 => exact x_drop1 s.q (by omega) tu s.W J De (b :: l1) l2 t hg h0 h1 h2 (by omega)
theorem c_len (h : Fit s M) (hf : s.fine) : MCallsG true Try.prog 19 [.bx 0 0] (mem s M) (int (lenR s.R)) (mem s M) := by
  have hR := h.rlen hf
  have hc := x_len s.q (by have := hf.q1; omega) M.tu s.W M.J M.De M.R (by omega) (h.inJ hf)
  rw [h.sum'] at hc
  exact hc
theorem c_backlog (h : Fit s M) (hf : s.fine) (t : ByteArray) : MCallsG true Try.prog 21 [.bx 0 0, str t] (mem s M) (int (costs (jobsOf s t))) (mem s M) := by
  have hjo : (jobsOf s t).length ≤ 1000000 ∧ ∀ j ∈ jobsOf s t, 0 ≤ j.co ∧ j.co ≤ 1000000000 := by
    unfold jobsOf
    cases hfa : findA s.R t with
    | none => simp
    | some a =>
      obtain ⟨ha, _⟩ := findA_some hfa
      have h1 := hf.jsize ha
      have h2 := hf.q2
      refine ⟨by simp; omega, fun j hj => ?_⟩
      have h3 := hf.own a ha j (by simpa using hj)
      omega
  have hc := x_backlog s.q (by have := hf.q1; omega) M.tu s.W M.J M.De M.R t (by rw [h.jOf t]; exact hjo.1) (by rw [h.jOf t]; exact hjo.2)
  rw [h.jOf t] at hc
  exact hc
theorem c_deficit (h : Fit s M) (hf : s.fine) (t : ByteArray) : MCallsG true Try.prog 23 [.bx 0 0, str t] (mem s M) (int (dfOf s t)) (mem s M) := by
  have hc := x_deficit s.q (by have := hf.q1; omega) M.tu s.W M.J M.De M.R t
  rw [h.dfOf t] at hc
  exact hc
end
theorem fit_new (q : Int) : Fit (Qs.new q) ⟨[], [], false, []⟩ := ⟨rfl, rfl, fun a h => (by cases h), fun a h => (by cases h), fun _ _ => rfl, fun _ _ => rfl, List.nodup_nil, List.nodup_nil⟩
theorem fine_new {q : Int} (h : 1 ≤ q ∧ q ≤ 1000000) : (Qs.new q).fine := ⟨⟨h.1, h.2, List.nodup_nil, List.nodup_nil, fun x h => (by cases h), fun a h => (by cases h), fun a h => (by cases h), fun a h => (by cases h), fun h => (by cases h)⟩, fun a h => (by cases h), fun a h => (by cases h), (by simp [Qs.new, lenR]), (by simp [Qs.new])⟩
end Go.Proofs.Ytmlednjhemnncaa
namespace Go.Proofs.Ytmlednjhemnncaa
open Go.RowKit
abbrev nilP : V := .cv (.pointer none)
set_option maxRecDepth 100000 in
theorem n_made : DCalls Try.prog 28 [nilP] (boo false) := by
  refine sxm [] Try.func28 (by kernel_rfl) ?_
  conv => whnf
  refine known false rfl ?_
  (conv => whnf) <;> rfl
end Go.Proofs.Ytmlednjhemnncaa
namespace Go.Proofs.Ytmlednjhemnncaa
open Go.RowKit
set_option maxRecDepth 100000 in
theorem x_job (i t : ByteArray) : DCalls Try.prog 27 [str i, str t] ((⟨i, t, 5⟩ : Jb).V) := by
  refine sxm [] Try.func27 (by kernel_rfl) ?_
  (conv => whnf) <;> rfl
def firstF (t : ByteArray) : List Jb → Int → Int
  | [], _ => -1
  | j :: l, i => if sEq j.tn t then i else firstF t l (i + 1)
end Go.Proofs.Ytmlednjhemnncaa
namespace Go.Proofs.Ytmlednjhemnncaa
open Go.RowKit
end Go.Proofs.Ytmlednjhemnncaa
namespace Go.Proofs.Ytmlednjhemnncaa
open Go.RowKit
abbrev sa : ByteArray := ⟨#[97]⟩
abbrev sb : ByteArray := ⟨#[98]⟩
def aw1 : Qs := (Qs.new 5).weigh sb 2
def aw2 : Qs := aw1.push ⟨⟨#[97, 49]⟩, sa, 5⟩
def aw3 : Qs := aw2.push ⟨⟨#[97, 50]⟩, sa, 5⟩
def aw4 : Qs := aw3.push ⟨⟨#[98, 49]⟩, sb, 5⟩
def aw5 : Qs := aw4.push ⟨⟨#[98, 50]⟩, sb, 5⟩
def aw6 : Qs := aw5.push ⟨⟨#[98, 51]⟩, sb, 5⟩
theorem ea1 : weighE (Qs.new 5) sb 2 = 0 := by kernel_rfl
theorem ea2 : pushE aw1 ⟨⟨#[97, 49]⟩, sa, 5⟩ = 0 := by kernel_rfl
theorem ea3 : pushE aw2 ⟨⟨#[97, 50]⟩, sa, 5⟩ = 0 := by kernel_rfl
theorem ea7 : pushE aw6 ⟨⟨#[98, 51]⟩, sa, 5⟩ = 6 := by kernel_rfl
theorem ea4 : pushE aw3 ⟨⟨#[98, 49]⟩, sb, 5⟩ = 0 := by kernel_rfl
theorem ea5 : pushE aw4 ⟨⟨#[98, 50]⟩, sb, 5⟩ = 0 := by kernel_rfl
theorem ea6 : pushE aw5 ⟨⟨#[98, 51]⟩, sb, 5⟩ = 0 := by kernel_rfl
theorem aw7 : aw6.push ⟨⟨#[98, 51]⟩, sa, 5⟩ = aw6 := by kernel_rfl
theorem ea8 : lenR aw6.R = 5 ∧ costs (jobsOf aw6 sb) = 15 ∧ dfOf aw6 sa = 0 := ⟨by kernel_rfl, by kernel_rfl, by kernel_rfl⟩
def pp1 : Qs := aw6.pop.2
def pp2 : Qs := pp1.pop.2
def pp3 : Qs := pp2.pop.2
def pp4 : Qs := pp3.pop.2
def pp5 : Qs := pp4.pop.2
theorem ep1 : aw6.pop.1 = some ⟨⟨#[97, 49]⟩, sa, 5⟩ := by kernel_rfl
theorem ep2 : pp1.pop.1 = some ⟨⟨#[98, 49]⟩, sb, 5⟩ := by kernel_rfl
theorem ep2d : dfOf pp2 sb = 5 := by kernel_rfl
theorem ep3 : pp2.pop.1 = some ⟨⟨#[98, 50]⟩, sb, 5⟩ := by kernel_rfl
theorem ep4 : pp3.pop.1 = some ⟨⟨#[97, 50]⟩, sa, 5⟩ := by kernel_rfl
theorem ep5 : pp4.pop.1 = some ⟨⟨#[98, 51]⟩, sb, 5⟩ := by kernel_rfl
theorem ep6 : pp5.pop.1 = none := by kernel_rfl
def pp6 : Qs := pp5.pop.2
theorem eq1 : pushE pp6 ⟨⟨#[99]⟩, ⟨#[67]⟩, 5⟩ = 4 := by kernel_rfl
theorem eq2 : pushE pp6 ⟨⟨#[99]⟩, ⟨#[99]⟩, 5001⟩ = 2 := by kernel_rfl
theorem eq3 : pushE pp6 ⟨⟨#[99]⟩, ⟨#[99]⟩, 5⟩ = 0 := by kernel_rfl
def aw8 : Qs := pp6.push ⟨⟨#[99]⟩, ⟨#[99]⟩, 5⟩
theorem eq4 : jobsOf aw8 ⟨#[99]⟩ = [⟨⟨#[99]⟩, ⟨#[99]⟩, 5⟩] := by kernel_rfl
def aw9 : Qs := aw8.drop ⟨#[99]⟩
theorem eq5 : lenR aw9.R = 0 := by kernel_rfl
end Go.Proofs.Ytmlednjhemnncaa
namespace Go.Proofs.Ytmlednjhemnncaa
open Go.RowKit
def kN (n : Nat) (K : Nat → Prop) : Prop :=
  match n with
  | 0 => K 0
  | 1 => K 1
  | 2 => K 2
  | 3 => K 3
  | 4 => K 4
  | 5 => K 5
  | 6 => K 6
  | 7 => K 7
  | 8 => K 8
  | 9 => K 9
  | 10 => K 10
  | 11 => K 11
  | 12 => K 12
  | 13 => K 13
  | 14 => K 14
  | 15 => K 15
  | 16 => K 16
  | 17 => K 17
  | 18 => K 18
  | 19 => K 19
  | n => K n
theorem kN_eq (n : Nat) (K : Nat → Prop) : kN n K = K n := by unfold kN; split <;> rfl
def V.kv (v : V) (K : V → Prop) : Prop :=
  match v with
  | .ow n k => kN k fun k => K (.ow n k)
  | .oq n k s i o => kN k fun k => K (.oq n k s i o)
  | .vw n k s lo hi => kN k fun k => K (.vw n k s lo hi)
  | v => K v
theorem V.kv_eq (v : V) (K : V → Prop) : v.kv K = K v := by unfold V.kv; split <;> first | rfl | rw [kN_eq]
def forceLv : List V → (List V → Prop) → Prop
  | [], K => K []
  | v :: l, K => v.kv fun v => forceLv l fun l => K (v :: l)
theorem forceLv_eq : ∀ (l : List V) (K : List V → Prop), forceLv l K = K l
  | [], _ => rfl
  | v :: l, K => by unfold forceLv; rw [V.kv_eq, forceLv_eq l]
def V.kw (v : V) (K : V → Prop) : Prop :=
  match v with
  | .ag cs => forceLv cs fun cs => K (.ag cs)
  | .tu cs => forceLv cs fun cs => K (.tu cs)
  | v => v.kv K
theorem V.kw_eq (v : V) (K : V → Prop) : v.kw K = K v := by
  unfold V.kw
  split
  · rw [forceLv_eq]
  · rw [forceLv_eq]
  · rw [V.kv_eq]
def forceMv : List (Option Bk) → (List (Option Bk) → Prop) → Prop
  | [], K => K []
  | none :: l, K => forceMv l fun l => K (none :: l)
  | some (.box cs bt) :: l, K => forceLv cs fun cs => forceMv l fun l => K (some (.box cs bt) :: l)
  | some (.row k e s f xs) :: l, K => kN k fun k => forceMv l fun l => K (some (.row k e s f xs) :: l)
  | some (.fz k e bs) :: l, K => kN k fun k => forceMv l fun l => K (some (.fz k e bs) :: l)
  | some (.asr k A outs) :: l, K => kN k fun k => forceLv outs fun outs => forceMv l fun l => K (some (.asr k A outs) :: l)
theorem forceMv_eq : ∀ (l : List (Option Bk)) (K : List (Option Bk) → Prop), forceMv l K = K l
  | [], _ => rfl
  | none :: l, K => by unfold forceMv; rw [forceMv_eq l]
  | some (.box cs bt) :: l, K => by unfold forceMv; rw [forceLv_eq, forceMv_eq l]
  | some (.row k e s f xs) :: l, K => by unfold forceMv; rw [kN_eq, forceMv_eq l]
  | some (.fz k e bs) :: l, K => by unfold forceMv; rw [kN_eq, forceMv_eq l]
  | some (.asr k A outs) :: l, K => by unfold forceMv; rw [kN_eq, forceLv_eq, forceMv_eq l]
section
variable {P : Program} {T : Tab} {st : Bool}
theorem mcallV {o : Oper} {E : Operand → V} {c : Call} {f : FuncId} {pre post av : List V} {m m1 : List (Option Bk)} {ρ φ : List Nat} {gf : Bool} {m0 m2 : List Bk} {args0 : List V} {res : V} {K : V → List (Option Bk) → Prop} (hM : MCallsG st P f args0 m0 res m2)
    (hK : (res.co3 st (ρ ++ φ) m1 gf).k fun v => v.kw fun v => forceM (putM (fun n b => b.co st (ρ ++ φ) m1 gf n) (ρ ++ φ) m2 m1) fun m' => forceMv m' fun m' => K v m')
    (ln : Bool := false) (ho : o.op = .call c := by exact rfl) (hc : calleeV E c = some (f, pre, post) := by exact rfl) (hz : frzB ln m (pre ++ zA T E c.args.toList c.argTypes.toList ++ post) = some (av, m1) := by exact rfl)
    (_hr : (reach m1 64 (av.flatMap V.nm3) []).reverse = ρ := by exact rfl) (hg : (av.all V.fl && flM m1 ρ) = gf := by exact rfl) (hab : abM ρ m1 ρ = some m0 := by exact rfl) (ha0 : av.map (V.ab ρ m1) = args0 := by exact rfl)
    (hchk : (distinctB (ρ ++ φ) && (freeB m1 φ && (kindB m1 ρ m2 && Nat.beq (ρ.length + φ.length) m2.length))) = true := by exact rfl) :
    ∃ v m', OpTr P o E m v m' ∧ v.k fun v => forceM m' fun m' => K v m' := by
  refine mcall (T := T) hM ?_ ln ho hc hz _hr hg hab ha0 hchk
  rw [k_eq] at hK ⊢
  rw [V.kw_eq, forceM_eq, forceMv_eq] at hK
  rw [forceM_eq]
  exact hK
end
section
variable {P : Program} {T : Tab} {m m2 : List (Option Bk)} {ρ : List Nat}
theorem idx_nin : ∀ {l : List Nat} {n k : Nat}, n ∉ l → idx l n k = none
  | [], _, _, _ => rfl
  | a :: l, n, k, h => by
    simp only [List.mem_cons, not_or] at h
    unfold idx
    split
    · rename_i e; exact absurd (Nat.eq_of_beq_eq_true e).symm h.1
    · exact idx_nin h.2
theorem ab1_up (hup : Up m m2) (hρ : ∀ n ∈ ρ, ∃ b, m[n]? = some (some b)) (v : V) : v.ab1 ρ m2 = v.ab1 ρ m := by
  cases v <;> simp only [V.ab1]
  · rename_i n k
    by_cases hn : n ∈ ρ
    · obtain ⟨b, hb⟩ := hρ n hn
      rw [hup _ _ hb, hb]
    · rw [idx_nin hn]
      have h : ∀ x : Option (Option Bk), (match x with
        | some (some (.row k' _ _ _ _)) => match decide (k = k'), (none : Option Nat) with
          | true, some i => V.ow i 0
          | _, _ => .un
        | some (some (.asr k' _ _)) => match decide (k = k'), (none : Option Nat) with
          | true, some i => V.ow i 0
          | _, _ => .un
        | _ => .un) = .un := by
        intro x
        split <;> first | rfl | (rename_i k' _ _ _ _; cases decide (k = k') <;> rfl) | (rename_i k' _ _; cases decide (k = k') <;> rfl)
      exact (h _).trans (h _).symm
  · rename_i n k s lo hi
    by_cases hn : n ∈ ρ
    · obtain ⟨b, hb⟩ := hρ n hn
      rw [hup _ _ hb, hb]
    · rw [idx_nin hn]
      have h : ∀ x : Option (Option Bk), (match x with
        | some (some (.row k' _ sz _ _)) => match decide (k = k' ∧ s = sz), (none : Option Nat) with
          | true, some i => V.vw i 0 s lo hi
          | _, _ => .un
        | _ => .un) = .un := by
        intro x
        split <;> first | rfl | (rename_i k' _ sz _ _; cases decide (k = k' ∧ s = sz) <;> rfl)
      exact (h _).trans (h _).symm
theorem ab_up (hup : Up m m2) (hρ : ∀ n ∈ ρ, ∃ b, m[n]? = some (some b)) : V.ab ρ m2 = V.ab ρ m := by
  have h1 : V.ab1 ρ m2 = V.ab1 ρ m := funext fun v => ab1_up hup hρ v
  funext v
  cases v <;> simp only [V.ab, h1]
theorem abM_up (hup : Up m m2) (hρ : ∀ n ∈ ρ, ∃ b, m[n]? = some (some b)) : ∀ {l : List Nat}, (∀ n ∈ l, ∃ b, m[n]? = some (some b)) → abM ρ m2 l = abM ρ m l
  | [], _ => rfl
  | n :: l, hl => by
    obtain ⟨b, hb⟩ := hl n (by simp)
    have ih := abM_up hup hρ (l := l) fun x hx => hl x (by simp [hx])
    simp only [abM, ih, hup _ _ hb, hb]
    have e : b.ab ρ m2 = b.ab ρ m := by cases b <;> simp only [Bk.ab, ab_up hup hρ]
    cases abM ρ m l with
    | none => rfl
    | some bs => exact congrArg (fun x => some (x :: bs)) e
theorem flM_up (hup : Up m m2) : ∀ {l : List Nat}, (∀ n ∈ l, ∃ b, m[n]? = some (some b)) → flM m2 l = flM m l
  | [], _ => rfl
  | n :: l, hl => by
    obtain ⟨b, hb⟩ := hl n (by simp)
    have ih := flM_up hup (l := l) fun x hx => hl x (by simp [hx])
    unfold flM at ih ⊢
    simp only [List.all_cons, ih, hup _ _ hb, hb]
theorem kindB_up (hup : Up m m2) : ∀ {l : List Nat} {bs : List Bk}, (∀ n ∈ l, ∃ b, m[n]? = some (some b)) → kindB m2 l bs = kindB m l bs
  | [], bs, _ => by cases bs <;> rfl
  | n :: l, [], hl => rfl
  | n :: l, b :: bs, hl => by
    obtain ⟨b', hb⟩ := hl n (by simp)
    have ih := kindB_up hup (l := l) (bs := bs) fun x hx => hl x (by simp [hx])
    unfold kindB
    rw [hup _ _ hb, hb, ih]
theorem verOf_up (hup : Up m m2) {st : Bool} {n : Nat} (h : ∃ b, m[n]? = some (some b)) : verOf st m2 n = verOf st m n := by
  obtain ⟨b, hb⟩ := h
  unfold verOf
  rw [hup _ _ hb, hb]
theorem co1_up (hup : Up m m2) (hρ : ∀ n ∈ ρ, ∃ b, m[n]? = some (some b)) {st g : Bool} : V.co1 st ρ m2 g = V.co1 st ρ m g := by
  funext v
  cases v <;> simp only [V.co1]
  all_goals
    split <;> first | rfl | (rename_i n _ hn; rw [verOf_up hup (hρ n (List.mem_of_getElem? hn))]) | (rename_i n hn; rw [verOf_up hup (hρ n (List.mem_of_getElem? hn))])
theorem co2_up (hup : Up m m2) (hρ : ∀ n ∈ ρ, ∃ b, m[n]? = some (some b)) {st g : Bool} : V.co2 st ρ m2 g = V.co2 st ρ m g := by
  funext v
  cases v <;> simp only [V.co2, co1_up hup hρ]
theorem co3_up (hup : Up m m2) (hρ : ∀ n ∈ ρ, ∃ b, m[n]? = some (some b)) {st g : Bool} : V.co3 st ρ m2 g = V.co3 st ρ m g := by
  funext v
  cases v <;> simp only [V.co3, co2_up hup hρ]
theorem bco_up (hup : Up m m2) (hρ : ∀ n ∈ ρ, ∃ b, m[n]? = some (some b)) {st g : Bool} {n : Nat} (hn : n ∈ ρ) (b : Bk) : b.co st ρ m2 g n = b.co st ρ m g n := by
  cases b <;> simp only [Bk.co, co2_up hup hρ, verOf_up hup (hρ n hn)]
def sameAt (F : Nat → Bk → Bk) : List Nat → List Bk → List (Option Bk) → Prop
  | n :: l, b :: bs, m => m[n]? = some (some (F n b)) ∧ sameAt F l bs m
  | [], [], _ => True
  | _, _, _ => False
theorem putM_same {F F' : Nat → Bk → Bk} (hup : Up m m2) : ∀ {l : List Nat} {bs : List Bk}, (∀ n ∈ l, ∀ b, F' n b = F n b) → sameAt F l bs m → putM F' l bs m2 = m2
  | [], [], _, _ => rfl
  | [], _ :: _, _, h => h.elim
  | _ :: _, [], _, h => h.elim
  | n :: l, b :: bs, hF, h => by
    have h1 := hup _ _ h.1
    have h2 : m2.set n (some (F' n b)) = m2 := by
      rw [hF n (by simp) b]
      refine List.ext_getElem? fun j => ?_
      rw [List.getElem?_set]
      split
      · rename_i e
        subst e
        rw [h1]
        split
        · rfl
        · rename_i hl
          rw [List.getElem?_eq_none (by omega)] at h1; cases h1
      · rfl
    unfold putM
    rw [h2]
    exact putM_same hup (fun x hx => hF x (by simp [hx])) h.2
theorem op_mcallC {o : Oper} {E : Operand → V} {c : Call} {f : FuncId} {pre post : List V} {ρ : List Nat} {gf : Bool} {m0 : List Bk} {args0 : List V} {res : V} (ho : o.op = .call c) (hc : calleeV E c = some (f, pre, post))
    (hg : ((pre ++ zA T E c.args.toList c.argTypes.toList ++ post).all V.fl && flM m ρ) = gf) (hab : abM ρ m ρ = some m0) (ha0 : (pre ++ zA T E c.args.toList c.argTypes.toList ++ post).map (V.ab ρ m) = args0) (hM : MCallsG true P f args0 m0 res m0)
    (hchk : (distinctB ρ && (kindB m ρ m0 && Nat.beq ρ.length m0.length)) = true) (hs : sameAt (fun n b => b.co true ρ m gf n) ρ m0 m) :
    OpRc P o E m (res.co3 true ρ m gf) := by
  intro m2 hup
  have hρ := abM_mem hab
  simp only [Bool.and_eq_true] at hchk
  obtain ⟨h1, h2, h3⟩ := hchk
  have key := op_mcall (T := T) (m := m2) (m1 := m2) (ρ := ρ) (φ := []) (ln := true) (st := true) ho hc rfl (gf := gf) (by rw [flM_up hup hρ]; exact hg) (by rw [abM_up hup hρ hρ]; exact hab) (by rw [ab_up hup hρ]; exact ha0) hM (by
    rw [List.append_nil, kindB_up hup hρ]
    simp only [Bool.and_eq_true]
    exact ⟨h1, rfl, h2, h3⟩)
  rw [List.append_nil, co3_up hup hρ, putM_same hup (fun n hn b => bco_up hup hρ hn b) hs] at key
  exact key
theorem mcallC {o : Oper} {E : Operand → V} {c : Call} {f : FuncId} {pre post : List V} {ρ : List Nat} {gf : Bool} {m0 : List Bk} {args0 : List V} {res : V} {K : V → List (Option Bk) → Prop} (hM : MCallsG true P f args0 m0 res m0)
    (hK : (res.co3 true ρ m gf).k fun v => K v m) (ho : o.op = .call c := by exact rfl) (hc : calleeV E c = some (f, pre, post) := by exact rfl)
    (hg : ((pre ++ zA T E c.args.toList c.argTypes.toList ++ post).all V.fl && flM m ρ) = gf := by exact rfl) (hab : abM ρ m ρ = some m0 := by exact rfl) (ha0 : (pre ++ zA T E c.args.toList c.argTypes.toList ++ post).map (V.ab ρ m) = args0 := by exact rfl)
    (hchk : (distinctB ρ && (kindB m ρ m0 && Nat.beq ρ.length m0.length)) = true := by exact rfl) (hs : sameAt (fun n b => b.co true ρ m gf n) ρ m0 m := by repeat' (first | exact trivial | refine And.intro rfl ?_)) :
    rdK P o E m K :=
  ⟨_, op_mcallC (T := T) ho hc hg hab ha0 hM hchk hs, hK⟩
end
end Go.Proofs.Ytmlednjhemnncaa
