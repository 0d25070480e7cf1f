/- Texts joined by pack.py: XSxYv XFe3 XFe4 XFe5 XFe6 XFe7 -/
import Derived.Test.YtmlednjhemnncaaFs13
import Derived.Test.YtmlednjhemnncaaFs26
namespace Go.Proofs.Ytmlednjhemnncaa
open Go.RowKit
def kN (n : Nat) (K : Nat → Prop) : Prop :=
  match n with
  | 0 => K 0
  | 1 => K 1
  | 2 => K 2
  | 3 => K 3
  | 4 => K 4
  | 5 => K 5
  | 6 => K 6
  | 7 => K 7
  | 8 => K 8
  | 9 => K 9
  | 10 => K 10
  | 11 => K 11
  | 12 => K 12
  | 13 => K 13
  | 14 => K 14
  | 15 => K 15
  | 16 => K 16
  | 17 => K 17
  | 18 => K 18
  | 19 => K 19
  | n => K n
theorem kN_eq (n : Nat) (K : Nat → Prop) : kN n K = K n := by unfold kN; split <;> rfl
def V.kv (v : V) (K : V → Prop) : Prop :=
  match v with
  | .ow n k => kN k fun k => K (.ow n k)
  | .oq n k s i o => kN k fun k => K (.oq n k s i o)
  | .vw n k s lo hi => kN k fun k => K (.vw n k s lo hi)
  | v => K v
theorem V.kv_eq (v : V) (K : V → Prop) : v.kv K = K v := by unfold V.kv; split <;> first | rfl | rw [kN_eq]
def forceLv : List V → (List V → Prop) → Prop
  | [], K => K []
  | v :: l, K => v.kv fun v => forceLv l fun l => K (v :: l)
theorem forceLv_eq : ∀ (l : List V) (K : List V → Prop), forceLv l K = K l
  | [], _ => rfl
  | v :: l, K => by unfold forceLv; rw [V.kv_eq, forceLv_eq l]
def V.kw (v : V) (K : V → Prop) : Prop :=
  match v with
  | .ag cs => forceLv cs fun cs => K (.ag cs)
  | .tu cs => forceLv cs fun cs => K (.tu cs)
  | v => v.kv K
theorem V.kw_eq (v : V) (K : V → Prop) : v.kw K = K v := by
  unfold V.kw
  split
  · rw [forceLv_eq]
  · rw [forceLv_eq]
  · rw [V.kv_eq]
def forceMv : List (Option Bk) → (List (Option Bk) → Prop) → Prop
  | [], K => K []
  | none :: l, K => forceMv l fun l => K (none :: l)
  | some (.box cs bt) :: l, K => forceLv cs fun cs => forceMv l fun l => K (some (.box cs bt) :: l)
  | some (.row k e s f xs) :: l, K => kN k fun k => forceMv l fun l => K (some (.row k e s f xs) :: l)
  | some (.fz k e bs) :: l, K => kN k fun k => forceMv l fun l => K (some (.fz k e bs) :: l)
  | some (.asr k A outs) :: l, K => kN k fun k => forceLv outs fun outs => forceMv l fun l => K (some (.asr k A outs) :: l)
theorem forceMv_eq : ∀ (l : List (Option Bk)) (K : List (Option Bk) → Prop), forceMv l K = K l
  | [], _ => rfl
  | none :: l, K => by unfold forceMv; rw [forceMv_eq l]
  | some (.box cs bt) :: l, K => by unfold forceMv; rw [forceLv_eq, forceMv_eq l]
  | some (.row k e s f xs) :: l, K => by unfold forceMv; rw [kN_eq, forceMv_eq l]
  | some (.fz k e bs) :: l, K => by unfold forceMv; rw [kN_eq, forceMv_eq l]
  | some (.asr k A outs) :: l, K => by unfold forceMv; rw [kN_eq, forceLv_eq, forceMv_eq l]
section
variable {P : Program} {T : Tab} {st : Bool}
theorem mcallV {o : Oper} {E : Operand → V} {c : Call} {f : FuncId} {pre post av : List V} {m m1 : List (Option Bk)} {ρ φ : List Nat} {gf : Bool} {m0 m2 : List Bk} {args0 : List V} {res : V} {K : V → List (Option Bk) → Prop} (hM : MCallsG st P f args0 m0 res m2)
    (hK : (res.co3 st (ρ ++ φ) m1 gf).k fun v => v.kw fun v => forceM (putM (fun n b => b.co st (ρ ++ φ) m1 gf n) (ρ ++ φ) m2 m1) fun m' => forceMv m' fun m' => K v m')
    (ln : Bool := false) (ho : o.op = .call c := by exact rfl) (hc : calleeV E c = some (f, pre, post) := by exact rfl) (hz : frzB ln m (pre ++ zA T E c.args.toList c.argTypes.toList ++ post) = some (av, m1) := by exact rfl)
    (_hr : (reach m1 64 (av.flatMap V.nm3) []).reverse = ρ := by exact rfl) (hg : (av.all V.fl && flM m1 ρ) = gf := by exact rfl) (hab : abM ρ m1 ρ = some m0 := by exact rfl) (ha0 : av.map (V.ab ρ m1) = args0 := by exact rfl)
    (hchk : (distinctB (ρ ++ φ) && (freeB m1 φ && (kindB m1 ρ m2 && Nat.beq (ρ.length + φ.length) m2.length))) = true := by exact rfl) :
    ∃ v m', OpTr P o E m v m' ∧ v.k fun v => forceM m' fun m' => K v m' := by
  refine mcall (T := T) hM ?_ ln ho hc hz _hr hg hab ha0 hchk
  rw [k_eq] at hK ⊢
  rw [V.kw_eq, forceM_eq, forceMv_eq] at hK
  rw [forceM_eq]
  exact hK
end
section
variable {P : Program} {T : Tab} {m m2 : List (Option Bk)} {ρ : List Nat}
theorem idx_nin : ∀ {l : List Nat} {n k : Nat}, n ∉ l → idx l n k = none
  | [], _, _, _ => rfl
  | a :: l, n, k, h => by
    simp only [List.mem_cons, not_or] at h
    unfold idx
    split
    · rename_i e; exact absurd (Nat.eq_of_beq_eq_true e).symm h.1
    · exact idx_nin h.2
theorem ab1_up (hup : Up m m2) (hρ : ∀ n ∈ ρ, ∃ b, m[n]? = some (some b)) (v : V) : v.ab1 ρ m2 = v.ab1 ρ m := by
  cases v <;> simp only [V.ab1]
  · rename_i n k
    by_cases hn : n ∈ ρ
    · obtain ⟨b, hb⟩ := hρ n hn
      rw [hup _ _ hb, hb]
    · rw [idx_nin hn]
      have h : ∀ x : Option (Option Bk), (match x with
        | some (some (.row k' _ _ _ _)) => match decide (k = k'), (none : Option Nat) with
          | true, some i => V.ow i 0
          | _, _ => .un
        | some (some (.asr k' _ _)) => match decide (k = k'), (none : Option Nat) with
          | true, some i => V.ow i 0
          | _, _ => .un
        | _ => .un) = .un := by
        intro x
        split <;> first | rfl | (rename_i k' _ _ _ _; cases decide (k = k') <;> rfl) | (rename_i k' _ _; cases decide (k = k') <;> rfl)
      exact (h _).trans (h _).symm
  · rename_i n k s lo hi
    by_cases hn : n ∈ ρ
    · obtain ⟨b, hb⟩ := hρ n hn
      rw [hup _ _ hb, hb]
    · rw [idx_nin hn]
      have h : ∀ x : Option (Option Bk), (match x with
        | some (some (.row k' _ sz _ _)) => match decide (k = k' ∧ s = sz), (none : Option Nat) with
          | true, some i => V.vw i 0 s lo hi
          | _, _ => .un
        | _ => .un) = .un := by
        intro x
        split <;> first | rfl | (rename_i k' _ sz _ _; cases decide (k = k' ∧ s = sz) <;> rfl)
      exact (h _).trans (h _).symm
theorem ab_up (hup : Up m m2) (hρ : ∀ n ∈ ρ, ∃ b, m[n]? = some (some b)) : V.ab ρ m2 = V.ab ρ m := by
  have h1 : V.ab1 ρ m2 = V.ab1 ρ m := funext fun v => ab1_up hup hρ v
  funext v
  cases v <;> simp only [V.ab, h1]
theorem abM_up (hup : Up m m2) (hρ : ∀ n ∈ ρ, ∃ b, m[n]? = some (some b)) : ∀ {l : List Nat}, (∀ n ∈ l, ∃ b, m[n]? = some (some b)) → abM ρ m2 l = abM ρ m l
  | [], _ => rfl
  | n :: l, hl => by
    obtain ⟨b, hb⟩ := hl n (by simp)
    have ih := abM_up hup hρ (l := l) fun x hx => hl x (by simp [hx])
    simp only [abM, ih, hup _ _ hb, hb]
    have e : b.ab ρ m2 = b.ab ρ m := by cases b <;> simp only [Bk.ab, ab_up hup hρ]
    cases abM ρ m l with
    | none => rfl
    | some bs => exact congrArg (fun x => some (x :: bs)) e
theorem flM_up (hup : Up m m2) : ∀ {l : List Nat}, (∀ n ∈ l, ∃ b, m[n]? = some (some b)) → flM m2 l = flM m l
  | [], _ => rfl
  | n :: l, hl => by
    obtain ⟨b, hb⟩ := hl n (by simp)
    have ih := flM_up hup (l := l) fun x hx => hl x (by simp [hx])
    unfold flM at ih ⊢
    simp only [List.all_cons, ih, hup _ _ hb, hb]
theorem kindB_up (hup : Up m m2) : ∀ {l : List Nat} {bs : List Bk}, (∀ n ∈ l, ∃ b, m[n]? = some (some b)) → kindB m2 l bs = kindB m l bs
  | [], bs, _ => by cases bs <;> rfl
  | n :: l, [], hl => rfl
  | n :: l, b :: bs, hl => by
    obtain ⟨b', hb⟩ := hl n (by simp)
    have ih := kindB_up hup (l := l) (bs := bs) fun x hx => hl x (by simp [hx])
    unfold kindB
    rw [hup _ _ hb, hb, ih]
theorem verOf_up (hup : Up m m2) {st : Bool} {n : Nat} (h : ∃ b, m[n]? = some (some b)) : verOf st m2 n = verOf st m n := by
  obtain ⟨b, hb⟩ := h
  unfold verOf
  rw [hup _ _ hb, hb]
theorem co1_up (hup : Up m m2) (hρ : ∀ n ∈ ρ, ∃ b, m[n]? = some (some b)) {st g : Bool} : V.co1 st ρ m2 g = V.co1 st ρ m g := by
  funext v
  cases v <;> simp only [V.co1]
  all_goals
    split <;> first | rfl | (rename_i n _ hn; rw [verOf_up hup (hρ n (List.mem_of_getElem? hn))]) | (rename_i n hn; rw [verOf_up hup (hρ n (List.mem_of_getElem? hn))])
theorem co2_up (hup : Up m m2) (hρ : ∀ n ∈ ρ, ∃ b, m[n]? = some (some b)) {st g : Bool} : V.co2 st ρ m2 g = V.co2 st ρ m g := by
  funext v
  cases v <;> simp only [V.co2, co1_up hup hρ]
theorem co3_up (hup : Up m m2) (hρ : ∀ n ∈ ρ, ∃ b, m[n]? = some (some b)) {st g : Bool} : V.co3 st ρ m2 g = V.co3 st ρ m g := by
  funext v
  cases v <;> simp only [V.co3, co2_up hup hρ]
theorem bco_up (hup : Up m m2) (hρ : ∀ n ∈ ρ, ∃ b, m[n]? = some (some b)) {st g : Bool} {n : Nat} (hn : n ∈ ρ) (b : Bk) : b.co st ρ m2 g n = b.co st ρ m g n := by
  cases b <;> simp only [Bk.co, co2_up hup hρ, verOf_up hup (hρ n hn)]
def sameAt (F : Nat → Bk → Bk) : List Nat → List Bk → List (Option Bk) → Prop
  | n :: l, b :: bs, m => m[n]? = some (some (F n b)) ∧ sameAt F l bs m
  | [], [], _ => True
  | _, _, _ => False
theorem putM_same {F F' : Nat → Bk → Bk} (hup : Up m m2) : ∀ {l : List Nat} {bs : List Bk}, (∀ n ∈ l, ∀ b, F' n b = F n b) → sameAt F l bs m → putM F' l bs m2 = m2
  | [], [], _, _ => rfl
  | [], _ :: _, _, h => h.elim
  | _ :: _, [], _, h => h.elim
  | n :: l, b :: bs, hF, h => by
    have h1 := hup _ _ h.1
    have h2 : m2.set n (some (F' n b)) = m2 := by
      rw [hF n (by simp) b]
      refine List.ext_getElem? fun j => ?_
      rw [List.getElem?_set]
      split
      · rename_i e
        subst e
        rw [h1]
        split
        · rfl
        · rename_i hl
          rw [List.getElem?_eq_none (by omega)] at h1; cases h1
      · rfl
    unfold putM
    rw [h2]
    exact putM_same hup (fun x hx => hF x (by simp [hx])) h.2
theorem op_mcallC {o : Oper} {E : Operand → V} {c : Call} {f : FuncId} {pre post : List V} {ρ : List Nat} {gf : Bool} {m0 : List Bk} {args0 : List V} {res : V} (ho : o.op = .call c) (hc : calleeV E c = some (f, pre, post))
    (hg : ((pre ++ zA T E c.args.toList c.argTypes.toList ++ post).all V.fl && flM m ρ) = gf) (hab : abM ρ m ρ = some m0) (ha0 : (pre ++ zA T E c.args.toList c.argTypes.toList ++ post).map (V.ab ρ m) = args0) (hM : MCallsG true P f args0 m0 res m0)
    (hchk : (distinctB ρ && (kindB m ρ m0 && Nat.beq ρ.length m0.length)) = true) (hs : sameAt (fun n b => b.co true ρ m gf n) ρ m0 m) :
    OpRc P o E m (res.co3 true ρ m gf) := by
  intro m2 hup
  have hρ := abM_mem hab
  simp only [Bool.and_eq_true] at hchk
  obtain ⟨h1, h2, h3⟩ := hchk
  have key := op_mcall (T := T) (m := m2) (m1 := m2) (ρ := ρ) (φ := []) (ln := true) (st := true) ho hc rfl (gf := gf) (by rw [flM_up hup hρ]; exact hg) (by rw [abM_up hup hρ hρ]; exact hab) (by rw [ab_up hup hρ]; exact ha0) hM (by
    rw [List.append_nil, kindB_up hup hρ]
    simp only [Bool.and_eq_true]
    exact ⟨h1, rfl, h2, h3⟩)
  rw [List.append_nil, co3_up hup hρ, putM_same hup (fun n hn b => bco_up hup hρ hn b) hs] at key
  exact key
theorem mcallC {o : Oper} {E : Operand → V} {c : Call} {f : FuncId} {pre post : List V} {ρ : List Nat} {gf : Bool} {m0 : List Bk} {args0 : List V} {res : V} {K : V → List (Option Bk) → Prop} (hM : MCallsG true P f args0 m0 res m0)
    (hK : (res.co3 true ρ m gf).k fun v => K v m) (ho : o.op = .call c := by exact rfl) (hc : calleeV E c = some (f, pre, post) := by exact rfl)
    (hg : ((pre ++ zA T E c.args.toList c.argTypes.toList ++ post).all V.fl && flM m ρ) = gf := by exact rfl) (hab : abM ρ m ρ = some m0 := by exact rfl) (ha0 : (pre ++ zA T E c.args.toList c.argTypes.toList ++ post).map (V.ab ρ m) = args0 := by exact rfl)
    (hchk : (distinctB ρ && (kindB m ρ m0 && Nat.beq ρ.length m0.length)) = true := by exact rfl) (hs : sameAt (fun n b => b.co true ρ m gf n) ρ m0 m := by repeat' (first | exact trivial | refine And.intro rfl ?_)) :
    rdK P o E m K :=
  ⟨_, op_mcallC (T := T) ho hc hg hab ha0 hM hchk hs, hK⟩
end
end Go.Proofs.Ytmlednjhemnncaa
namespace Go.Proofs.Ytmlednjhemnncaa
open Go.RowKit
section
variable {o : Oper} {E : Operand → V} {m : List (Option Bk)} {n k d kd : Nat} {x : Operand} {R : List Ac} {j : Nat}
theorem open_el (ho : o.op = .load 64 x) (hx : E x = .oq n k 3 j 0) (hd : m[d]? = some none) (hm : m[n]? = some (some (.asr k (rC R) []))) (h : j < R.length) :
    OpTr Try.prog o E m (.ag [str R[j].tn, .ow d 0, int R[j].df]) ((m.set n (some (.asr k (rO R j R[j]) [.ow d 0]))).set d (some (.row 0 34 3 false (R[j].js.map jobD)))) := by
  have hnd : n ≠ d := by rintro rfl; rw [hm] at hd; cases hd
  have hg := gh_openC (outs := []) hm (get_ac h) (off := 1) rfl hd
  refine ot_pre hg (ot_rd (rd_ct_load tok ho rfl hx (by rw [List.getElem?_set_ne (Ne.symm hnd), List.getElem?_set_self (lt_of_get hm)]) op_len (cells := (acC R[j]).set 1 (.o 0)) ?_ ?_))
  · rw [List.getElem?_set_self (by simpa using h)]; rfl
  · rfl
end
def planB4 : Plan := .one 0 (.one 1 (.one 2 (.one 3 (.one 4 (.one 5 (.one 6 (.one 7 (.alt 8 (.one 9 (.one 10 (.done))) (.alt 9 (.one 8 (.one 10 (.done))) (.stop))))))))))
abbrev RDF : List (Nat × Bool) := [(33, false), (38, true), (4000064, false)]
set_option maxRecDepth 100000 in
set_option maxHeartbeats 4000000 in
theorem x_rdeficit (q : Int) (hq : 0 < q) (tu : Bool) (W : List (ByteArray × Int)) (R : List Ac) (t : ByteArray) (hR : R.length ≤ 1099511627776) :
    MCallsG true Try.prog 24 [.bx 0 0, str t] (rM q tu W R) (int (dfOf ⟨q, W, R, tu⟩ t)) (rM q tu W R) := by
  refine msxx RDF Try.func24 (by kernel_rfl) (by kernel_rfl) (by rfl) ?_
  have hf := x_find q tu W R t hR
  rcases idxA_spec R t 0 with ⟨h1, h2⟩ | ⟨p, a, h1, h2, h3, h4, h5⟩
  · rw [h2] at hf
    conv => whnf
    refine mcall (T := TT) (φ := []) (x_rmade q tu W R) ?_
    conv => whnf
    refine known false (by simp [hq]) ?_
    conv => whnf
    refine mcallC (T := TT) (gf := false) (ρ := [24, 25, 26]) hf ?_
    conv => whnf
    refine known true rfl ?_
    exact ⟨⟨rfl, rfl, fin_int (by simp [dfOf, h1])⟩, rfl⟩
  · rw [h2, Nat.zero_add] at hf
    obtain ⟨hp, h6⟩ := List.getElem?_eq_some_iff.1 h3
    conv => whnf
    refine mcall (T := TT) (φ := []) (x_rmade q tu W R) ?_
    conv => whnf
    refine known false (by simp [hq]) ?_
    conv => whnf
    refine mcallC (T := TT) (gf := false) (ρ := [24, 25, 26]) hf ?_
    conv => whnf
    refine known false (by simp) ?_
    conv => whnf
    refine ⟨none, by kernel_rfl, ?_⟩
    conv => whnf
    refine mcallC (T := TT) (gf := false) (ρ := [24, 25, 26]) hf ?_
    conv => whnf
    refine at_rd (idx_rg rfl rfl rfl rfl ⟨by omega, by simp; omega⟩) ?_
    conv => whnf
    refine at_rd (ld_df (j := p) rfl rfl rfl hp) ?_
    exact ⟨⟨rfl, rfl, fin_int (by simp [dfOf, h1, h6])⟩, rfl⟩
set_option maxRecDepth 100000 in
set_option maxHeartbeats 4000000 in
theorem x_rbacklog (q : Int) (hq : 0 < q) (tu : Bool) (W : List (ByteArray × Int)) (R : List Ac) (t : ByteArray) (hR : R.length ≤ 1099511627776) (hl : (jobsOf ⟨q, W, R, tu⟩ t).length ≤ 1000000) (hb : ∀ j ∈ jobsOf ⟨q, W, R, tu⟩ t, 0 ≤ j.co ∧ j.co ≤ 1000000000) :
    MCallsG true Try.prog 22 [.bx 0 0, str t] (rM q tu W R) (int (costs (jobsOf ⟨q, W, R, tu⟩ t))) (rM q tu W R) := by
  refine msxxg RDF Try.func22 (by kernel_rfl) (by kernel_rfl) (by rfl) ?_
  have hf := x_find q tu W R t hR
  rcases idxA_spec R t 0 with ⟨h1, h2⟩ | ⟨p, a, h1, h2, h3, h4, h5⟩
  · rw [h2] at hf
    conv => whnf
    refine mcall (T := TT) (φ := []) (x_rmade q tu W R) ?_
    conv => whnf
    refine known false (by simp [hq]) ?_
    conv => whnf
    refine mcallC (T := TT) (gf := false) (ρ := [42, 43, 44]) hf ?_
    conv => whnf
    refine known true rfl ?_
    conv => whnf
    refine ⟨_, Gh.refl _, ?_⟩
    exact ⟨⟨rfl, rfl, fin_int (by simp [jobsOf, h1, costs])⟩, rfl⟩
  · rw [h2, Nat.zero_add] at hf
    obtain ⟨hp, h6⟩ := List.getElem?_eq_some_iff.1 h3
    have hj : jobsOf ⟨q, W, R, tu⟩ t = R[p].js := by simp [jobsOf, h1, h6]
    rw [hj] at hl hb ⊢
    conv => whnf
    refine mcall (T := TT) (φ := []) (x_rmade q tu W R) ?_
    conv => whnf
    refine known false (by simp [hq]) ?_
    conv => whnf
    refine mcallC (T := TT) (gf := false) (ρ := [42, 43, 44]) hf ?_
    conv => whnf
    refine known false (by simp) ?_
    conv => whnf
    refine ⟨some planB4, by kernel_rfl, ?_⟩
    conv => whnf
    refine mcallC (T := TT) (gf := false) (ρ := [42, 43, 44]) hf ?_
    conv => whnf
    refine at_rd (idx_rg rfl rfl rfl rfl ⟨by omega, by simp; omega⟩) ?_
    apply cut
    · intro key
      conv => whnf
      refine And.intro ?_ ?_
      conv => whnf
      refine at_ex (open_el (n := 44) (d := 25) (j := p) rfl rfl rfl rfl hp) ?_
      conv => whnf
      exact key
      all_goals repeat' ((conv => whnf); first
        | exact trivial
        | refine And.intro ?_ ?_
        | refine at_ex (open_el (n := 44) (d := 25) (j := p) rfl rfl rfl rfl hp) ?_
        | exact key)
    conv => whnf
    refine ⟨[], Nat, fun k => [(7, int k), (5, int (costs (R[p].js.take k))), (24, .un), (25, .un)], fun _ => [], fun k => k ≤ R[p].js.length, fun k => R[p].js.length - k, 0, by simp, ?_, ?_⟩
    · refine ⟨rfl, ?_, ?_⟩ <;> repeat' (first | exact trivial | exact rfl | refine and_rfl ?_ | refine and_val (by simp [costs]) ?_ | refine and_two ?_ ?_)
    rintro k hk
    have hk : k ≤ R[p].js.length := hk
    conv => whnf
    rintro (_ | _) h1
    · simp at h1
      have e : k = R[p].js.length := by omega
      subst e
      rw [List.take_length]
      conv => whnf
      refine ⟨_, GhM.gh (close_rg (n := 44) (d := 25) hp rfl rfl), ?_⟩
      exact ⟨⟨rfl, rfl, rfl⟩, rfl⟩
    simp at h1
    have hn := costs_le (R[p].js.take (k + 1)) fun j hj => hb j (List.mem_of_mem_take hj)
    rw [List.length_take, Nat.min_eq_left (by omega)] at hn
    have ht := costs_take h1
    conv => whnf
    refine ⟨by omega, by simp; omega, ?_⟩
    conv => whnf
    refine ⟨_, get_map jobD h1, ?_⟩
    conv => whnf
    refine ⟨k + 1, h1, by dsimp only; omega, ?_⟩
    refine ⟨rfl, ?_, ?_⟩ <;> repeat' (first | exact trivial | exact rfl | refine and_rfl ?_ | refine and_val (wrap_succ (by omega)) ?_ | refine and_val (by rw [wrap_in (by omega), ht]) ?_ | refine and_two ?_ ?_)
end Go.Proofs.Ytmlednjhemnncaa
namespace Go.Proofs.Ytmlednjhemnncaa
open Go.RowKit
theorem x_rnew (q : Int) (h : 1 ≤ q ∧ q ≤ 1000000) :
    MCalls Try.prog 8 [int q] [] (.tu [.bx 0 0, int 0]) [.box [int q, .ow 1 0, .ow 2 0, boo false], .row 0 66 2 true [], .asr 0 (rC []) []] := by
  refine msxg [] Try.func8 (by kernel_rfl) (by kernel_rfl) ?_
  conv => whnf
  refine known false (by simp; omega) ?_
  conv => whnf
  refine known false (by simp; omega) ?_
  conv => whnf
  refine ⟨_, GhM.gh ((gh_nilR (n := 12) (d := 10) (i := 1) (E := 66) (sz := 2) rfl rfl rfl (by decide)).trans (gh_nilC (n := 12) (d := 9) (i := 2) (E := 64) (sz := 3) rfl rfl rfl)), ?_⟩
  exact ⟨rfl, rfl, rfl⟩
theorem x_rnew0 (q : Int) (h : ¬ (1 ≤ q ∧ q ≤ 1000000)) : MCalls Try.prog 8 [int q] [] (.tu [.cv (.pointer none), int 2]) [] := by
  refine msxg [] Try.func8 (by kernel_rfl) (by kernel_rfl) ?_
  conv => whnf
  rintro (_ | _) h1
  · simp at h1
    conv => whnf
    rintro (_ | _) h2
    · simp at h2
      exact absurd ⟨by omega, h2⟩ h
    · conv => whnf
      refine ⟨_, Gh.refl _, ?_⟩
      exact ⟨rfl, rfl, rfl⟩
  · conv => whnf
    refine ⟨_, Gh.refl _, ?_⟩
    exact ⟨rfl, rfl, rfl⟩
theorem putE_none {α : Type} : ∀ {l : List (ByteArray × α)} {t : ByteArray} (c : α), getE l t = none → putE l t c = l ++ [(t, c)]
  | [], _, _, _ => rfl
  | (k, x) :: l, t, c, h => by
    simp only [getE] at h
    split at h
    · cases h
    · rename_i e
      simp only [putE, if_neg e, putE_none c h, List.cons_append]
theorem putE_set {α : Type} : ∀ {l : List (ByteArray × α)} {t : ByteArray} {p : Nat} {x : α} (c : α), l[p]? = some (t, x) → t ∉ (l.take p).map (·.1) → putE l t c = l.set p (t, c)
  | [], _, _, _, _, h, _ => by simp at h
  | (k, y) :: l, t, 0, x, c, h, _ => by
    simp at h
    obtain ⟨rfl, rfl⟩ := h
    simp [putE]
  | (k, y) :: l, t, p + 1, x, c, h, hn => by
    simp only [List.take_succ_cons, List.map_cons, List.mem_cons, not_or] at hn
    simp only [putE, if_neg (Ne.symm hn.1), putE_set c (by simpa using h) hn.2, List.set_cons_succ]
abbrev RWM : List (Nat × Bool) := [(33, false), (37, false), (39, false)]
set_option maxRecDepth 100000 in
set_option maxHeartbeats 4000000 in
theorem x_rweigh (s : Qs) (hq : 0 < s.q) (t : ByteArray) (n : Int) (ht : t.size ≤ maxLen) (hW : s.W.length ≤ 1000000) (hR : s.R.length ≤ 1000000) :
    MCalls Try.prog 13 [.bx 0 0, str t, int n] (rM s.q s.tu s.W s.R) (int (weighE s t n)) (rM s.q s.tu (s.weigh t n).W s.R) := by
  obtain ⟨q, W, R, tu⟩ := s
  dsimp only at hq hW hR ⊢
  refine msxm RWM Try.func13 (by kernel_rfl) (by kernel_rfl) ?_
  conv => whnf
  refine mcall (T := TT) (φ := []) (x_rmade q tu W R) ?_
  conv => whnf
  refine known false (by simp [hq]) ?_
  conv => whnf
  refine ⟨_, x_rname t ht, ?_⟩
  conv => whnf
  rintro (_ | _) e2
  rotate_left
  · have e : weighE ⟨q, W, R, tu⟩ t n = 4 := by simp at e2; simp [weighE, e2]
    have w : (Qs.weigh ⟨q, W, R, tu⟩ t n).W = W := by simp [Qs.weigh, e]
    rw [e, w]
    exact ⟨rfl, rfl, rfl⟩
  simp at e2
  conv => whnf
  rintro (_ | _) e3
  rotate_left
  · have e : weighE ⟨q, W, R, tu⟩ t n = 2 := by simp at e3; simp [weighE, e2, e3]
    have w : (Qs.weigh ⟨q, W, R, tu⟩ t n).W = W := by simp [Qs.weigh, e]
    rw [e, w]
    exact ⟨rfl, rfl, rfl⟩
  simp at e3
  conv => whnf
  rintro (_ | _) e4
  rotate_left
  · have e : weighE ⟨q, W, R, tu⟩ t n = 2 := by simp at e4; simp [weighE, e2]; omega
    have w : (Qs.weigh ⟨q, W, R, tu⟩ t n).W = W := by simp [Qs.weigh, e]
    rw [e, w]
    exact ⟨rfl, rfl, rfl⟩
  simp at e4
  conv => whnf
  refine mcall (T := TT) (φ := []) (x_full q tu W R t (by omega) (by omega)) ?_
  conv => whnf
  rintro (_ | _) e5
  rotate_left
  · have e : weighE ⟨q, W, R, tu⟩ t n = 3 := by
      simp only [weighE, e2, fullB, e5]
      rw [if_neg (by simp), if_neg (by omega), if_pos trivial]
    have w : (Qs.weigh ⟨q, W, R, tu⟩ t n).W = W := by simp [Qs.weigh, e]
    rw [e, w]
    exact ⟨rfl, rfl, rfl⟩
  have e : weighE ⟨q, W, R, tu⟩ t n = 0 := by
    simp only [weighE, e2, fullB, e5]
    rw [if_neg (by simp), if_neg (by omega), if_neg (by simp)]
  have w : (Qs.weigh ⟨q, W, R, tu⟩ t n).W = putE W t n := by simp [Qs.weigh, e]
  rw [e, w]
  conv => whnf
  refine mcall (T := TT) (φ := []) (x_weighed q tu W R t (by omega)) ?_
  rcases idxW_spec W t 0 with ⟨h3, h4⟩ | ⟨p, n0, h3, h4, h5, h6⟩
  · rw [h4, putE_none n h3]
    rw [show rM q tu (W ++ [(t, n)]) R = [.box [int q, .ow 1 0, .ow 2 0, boo tu], .row 0 66 2 false (W.map wD ++ [wD (t, n)]), .asr 0 (rC R) []] from by simp [rM]]
    conv => whnf
    refine known true rfl ?_
    conv => whnf
    refine ⟨by simp; omega, ?_⟩
    exact ⟨rfl, rfl, rfl⟩
  · rw [h4, Nat.zero_add, putE_set n h5 h6]
    obtain ⟨hp, h8⟩ := List.getElem?_eq_some_iff.1 h5
    have hset : (W.set p (t, n)).map wD = (W.map wD).set p ((wD W[p]).take 1 ++ [D.cv (.int .i64 n)] ++ (wD W[p]).drop 2) := by
      rw [List.map_set, h8]; rfl
    rw [show rM q tu (W.set p (t, n)) R = [.box [int q, .ow 1 0, .ow 2 0, boo tu], .row 0 66 2 false ((W.map wD).set p ((wD W[p]).take 1 ++ [D.cv (.int .i64 n)] ++ (wD W[p]).drop 2)), .asr 0 (rC R) []] from by rw [← hset]]
    conv => whnf
    refine known false (by simp) ?_
    conv => whnf
    refine ⟨by omega, by simp; omega, ?_⟩
    conv => whnf
    refine ⟨_, get_map wD hp, by simp [wD], ?_⟩
    exact ⟨rfl, rfl, rfl⟩
end Go.Proofs.Ytmlednjhemnncaa
namespace Go.Proofs.Ytmlednjhemnncaa
open Go.RowKit
section
variable {o : Oper} {E : Operand → V} {m : List (Option Bk)} {n k d kd : Nat} {x y : Operand} {R : List Ac}
theorem bld_el {ps : Array (Nat × Operand)} {tn : ByteArray} {df : Int} {js : List Jb} {f : Bool} {xs : List (List D)} (ho : o.op = .buildSlice 58 1 ps) (hps : ps.toList = [(0, x)]) (hx : E x = .ag [str tn, .ow d kd, int df]) (hdst : o.dst = some n) (hn : m[n]? = some none) (hd : m[d]? = some (some (.row kd 34 3 f xs))) (hxs : xs = js.map jobD) :
    OpTr Try.prog o E m (.ow n 1) ((m.set n (some (.asr 1 (rC [⟨tn, js, df⟩]) []))).set d (some (.row (kd + 1) 34 3 true []))) := by
  subst hxs
  have hnd : n ≠ d := by rintro rfl; rw [hn] at hd; cases hd
  have h1 := ot_buildC (P := Try.prog) (E := E) tok ho hps (by rfl) (by rfl) (by decide) (vs := [str tn, .ow d kd, int df]) (by rw [hx]; rfl) rfl (by rw [hx]) rfl hdst hn
  have h2 := gh_closeC (m := m.set n (some (.asr 1 (rowC 64 3 [[.d (.cv (.string tn)), .o 0, .d (.cv (.int .i64 df))]]) [.ow d kd]))) (n := n) (d := d) (kd := kd) (k := 1) (Er := 64) (sz := 3) (E' := 34) (sz' := 3) (f := f) (xs := js.map jobD) (j := 0) (off := 1)
    (rs := [[.d (.cv (.string tn)), .z, .d (.cv (.int .i64 df))]]) (cells := [.d (.cv (.string tn)), .z, .d (.cv (.int .i64 df))]) (c := .z) (outs := []) rfl rfl rfl (by rw [List.getElem?_set_self (lt_of_get hn)]; rfl) (by rw [List.getElem?_set_ne hnd]; exact hd)
  have h3 := ot_post h1 h2
  rw [List.set_set] at h3
  exact h3
theorem app_rg {c : Call} {n2 k2 lo hi : Nat} {R2 : List Ac} {outs2 : List V} (ho : o.op = .call c) (hc : c.callee = .builtin .append) (hca : c.args.toList = [x, y]) (hct : c.argTypes.toList = [58, 58]) (hx : E x = .ow n k)
    (hy : E y = .vw n2 k2 3 lo hi ∨ (E y = .ow n2 k2 ∧ lo = 0 ∧ hi = R2.length)) {rs : List (List Cl)} (hm : m[n]? = some (some (.asr k (rC R) []))) (hm2 : m[n2]? = some (some (.asr k2 (rowC 64 3 rs) outs2))) (hrs : ∀ r ∈ rs, r.length = 3) (hpart : (rs.take hi).drop lo = ((R2.take hi).drop lo).map acC) (hnn : n ≠ n2) (hle : lo ≤ hi) (hhi : hi ≤ R2.length) (hl : rs.length = R2.length) (hbig : R.length + (hi - lo) ≤ 2000000) :
    OpTr Try.prog o E m (.ow n (k + 1)) ((m.set n (some (.asr (k + 1) (rC (R ++ (R2.take hi).drop lo)) []))).set n2 (some (.asr k2 (rowC 64 3 (rs.take lo ++ ((((R2.take hi).drop lo).map acC).map (fun r => r.map Cl.dead) ++ rs.drop hi))) outs2))) := by
  have h1 := ot_appendC (P := Try.prog) (it := (TT 58).get (by rfl)) (ie := (TT 64).get (by rfl)) tok ho hc hca hct (by rfl) (by rfl) (by rfl) (by rfl) (by decide) hx (hy.imp id fun h => ⟨h.1, h.2.1, h.2.2.trans hl.symm⟩) hm hm2 hnn hrs hle (by rw [hl]; exact hhi)
    (fun r hr q hq => by
      rw [hpart] at hr
      obtain ⟨a, _, rfl⟩ := List.mem_map.1 hr
      simp [acC] at hq
      rcases hq with rfl | rfl | rfl <;> rfl) (by rw [List.length_map]; show _ * 48 ≤ _; omega) (by decide)
  rw [hpart, ← List.map_append] at h1
  exact h1
theorem st_rg {j : Nat} {js : List Jb} {f : Bool} {xs : List (List D)} {z : V} (h : j < R.length) (ho : o.op = .store 40 x y) (hx : E x = .oq n k 3 j 1) (hy : E y = .ow d kd) (hm : m[n]? = some (some (.asr k (rO R j R[j]) [z]))) (hd : m[d]? = some (some (.row kd 34 3 f xs))) (hxs : xs = js.map jobD) :
    OpTr Try.prog o E m .un ((m.set n (some (.asr k (rC (R.set j { R[j] with js := js })) []))).set d (some (.row (kd + 1) 34 3 true []))) := by
  subst hxs
  have hnd : n ≠ d := by rintro rfl; rw [hm] at hd; cases hd
  have h1 := ot_ctR (P := Try.prog) tok ho (by rfl) rfl hx hm op_len (cells := (acC R[j]).set 1 (.o 0)) (c0 := .o 0) (by rw [List.getElem?_set_self (by simpa using h)]) rfl hy hd
  have e : ((R.map acC).set j ((acC R[j]).set 1 (.o 0))).set j (((acC R[j]).set 1 (.o 0)).set 1 (.r 34 3 (js.map jobD))) = (R.set j { R[j] with js := js }).map acC := by
    rw [List.set_set, List.map_set]; rfl
  rw [e] at h1
  have h2 := gh_dropC (m := (m.set n (some (.asr k (rC (R.set j { R[j] with js := js })) [z]))).set d (some (.row (kd + 1) 34 3 true []))) (n := n) (k := k) (E := 64) (sz := 3) (rs := (R.set j { R[j] with js := js }).map acC) (outs := []) (x := z) (by rw [List.getElem?_set_ne (Ne.symm hnd), List.getElem?_set_self (lt_of_get hm)]; rfl) (ac_noO _ _)
  have h3 := ot_post h1 h2
  rw [List.set_comm _ _ hnd, List.set_set] at h3
  rw [List.set_comm _ _ hnd]
  exact h3
end
theorem pushR_none : ∀ {R : List Ac} {j : Jb}, findA R j.tn = none → pushR R j = R ++ [⟨j.tn, [j], 0⟩] := fun h => pushR_new (findA_none.1 h)
theorem pushR_set : ∀ {R : List Ac} {p : Nat} {a : Ac} {j : Jb}, R[p]? = some a → a.tn = j.tn → j.tn ∉ (R.take p).map (·.tn) → pushR R j = R.set p { a with js := a.js ++ [j] }
  | [], _, _, _, h, _, _ => by simp at h
  | b :: l, 0, a, j, h, e, _ => by
    simp at h; subst h
    simp [pushR, e]
  | b :: l, p + 1, a, j, h, e, hn => by
    simp only [List.take_succ_cons, List.map_cons, List.mem_cons, not_or] at hn
    simp only [pushR, if_neg (Ne.symm hn.1), pushR_set (by simpa using h) e hn.2, List.set_cons_succ]
abbrev RPM : List (Nat × Bool) := [(33, false), (36, false), (20, false), (37, false), (38, false), (4000040, false), (5000058, false), (2000058, false)]
def planR13 : Plan := .one 0 (.one 1 (.one 2 (.one 5 (.one 6 (.one 7 (.pull 3 (.alt 4 (.one 8 (.one 9 (.one 10 (.one 11 (.one 12 (.one 13 (.one 14 (.done)))))))) (.alt 8 (.one 9 (.alt 4 (.one 10 (.one 11 (.one 12 (.one 13 (.one 14 (.done)))))) (.alt 10 (.one 4 (.one 11 (.one 12 (.one 13 (.one 14 (.done)))))) (.stop)))) (.stop)))))))))
def planR15 : Plan := .one 0 (.one 1 (.one 4 (.one 5 (.one 6 (.one 7 (.one 8 (.one 9 (.one 10 (.one 11 (.pull 2 (.alt 3 (.alt 12 (.one 13 (.one 14 (.one 15 (.one 16 (.one 17 (.one 18 (.done))))))) (.alt 13 (.alt 12 (.one 14 (.one 15 (.one 16 (.one 17 (.one 18 (.done)))))) (.alt 14 (.one 12 (.one 15 (.one 16 (.one 17 (.one 18 (.done)))))) (.stop))) (.stop))) (.alt 12 (.one 13 (.alt 3 (.one 14 (.one 15 (.one 16 (.one 17 (.one 18 (.done)))))) (.alt 14 (.alt 3 (.one 15 (.one 16 (.one 17 (.one 18 (.done))))) (.alt 15 (.one 3 (.one 16 (.one 17 (.one 18 (.done))))) (.stop))) (.stop)))) (.alt 13 (.alt 3 (.alt 12 (.one 14 (.one 15 (.one 16 (.one 17 (.one 18 (.done)))))) (.alt 14 (.one 12 (.one 15 (.one 16 (.one 17 (.one 18 (.done)))))) (.stop))) (.alt 12 (.alt 3 (.one 14 (.one 15 (.one 16 (.one 17 (.one 18 (.done)))))) (.alt 14 (.alt 3 (.one 15 (.one 16 (.one 17 (.one 18 (.done))))) (.alt 15 (.one 3 (.one 16 (.one 17 (.one 18 (.done))))) (.stop))) (.stop))) (.alt 14 (.alt 3 (.one 12 (.one 15 (.one 16 (.one 17 (.one 18 (.done)))))) (.alt 12 (.alt 3 (.one 15 (.one 16 (.one 17 (.one 18 (.done))))) (.alt 15 (.one 3 (.one 16 (.one 17 (.one 18 (.done))))) (.stop))) (.stop))) (.stop)))) (.stop))))))))))))))
structure RqOk (s : Qs) : Prop where
  q : 0 < s.q ∧ s.q ≤ 1000000
  W : s.W.length ≤ 1000000
  R : s.R.length ≤ 1000000
  l : lenR s.R ≤ 1000000
  js : ∀ a ∈ s.R, a.js.length ≤ 1000000
set_option maxRecDepth 100000 in
set_option maxHeartbeats 8000000 in
theorem x_rpush0 (s : Qs) (hs : RqOk s) (j : Jb) (h1 : j.id.size ≤ maxLen) (h2 : j.tn.size ≤ maxLen) (hne : pushE s j ≠ 0) :
    MCallsG true Try.prog 11 [.bx 0 0, j.V] (rM s.q s.tu s.W s.R) (int (pushE s j)) (rM s.q s.tu s.W s.R) := by
  obtain ⟨q, W, R, tu⟩ := s
  obtain ⟨hq, hW, hR, hlR, hjs⟩ := hs
  dsimp only at hq hW hR hlR hjs hne ⊢
  refine msxx RPM Try.func11 (by kernel_rfl) (by kernel_rfl) (by rfl) ?_
  conv => whnf
  refine mcall (T := TT) (φ := []) (x_rmade q tu W R) ?_
  conv => whnf
  refine known false (by simp [hq.1]) ?_
  conv => whnf
  refine ⟨_, x_rid j.id h1, ?_⟩
  conv => whnf
  rintro (_ | _) e1
  rotate_left
  · have e : pushE ⟨q, W, R, tu⟩ j = 4 := by simp at e1; simp [pushE, e1]
    rw [e]
    exact ⟨⟨rfl, rfl, rfl⟩, rfl⟩
  simp at e1
  conv => whnf
  refine ⟨_, x_rname j.tn h2, ?_⟩
  conv => whnf
  rintro (_ | _) e2
  rotate_left
  · have e : pushE ⟨q, W, R, tu⟩ j = 4 := by simp at e2; simp [pushE, e2]
    rw [e]
    exact ⟨⟨rfl, rfl, rfl⟩, rfl⟩
  simp at e2
  conv => whnf
  refine ⟨none, by kernel_rfl, ?_⟩
  conv => whnf
  rintro (_ | _) e3
  rotate_left
  · have e : pushE ⟨q, W, R, tu⟩ j = 2 := by simp at e3; simp [pushE, e1, e2, e3]
    rw [e]
    exact ⟨⟨rfl, rfl, rfl⟩, rfl⟩
  simp at e3
  conv => whnf
  rintro (_ | _) e4
  rotate_left
  · have e : pushE ⟨q, W, R, tu⟩ j = 2 := by
      rw [wrap_in (by omega)] at e4
      simp at e4; simp [pushE, e1, e2]; omega
    rw [e]
    exact ⟨⟨rfl, rfl, rfl⟩, rfl⟩
  rw [wrap_in (by omega)] at e4
  simp at e4
  conv => whnf
  refine mcall (T := TT) (φ := []) (x_rhas q tu W R j.id (by omega) hjs) ?_
  conv => whnf
  rintro (_ | _) e5
  rotate_left
  · have e : pushE ⟨q, W, R, tu⟩ j = 6 := by
      simp only [pushE, e1, e2, e5]
      rw [if_neg (by simp), if_neg (by omega), if_pos trivial]
    rw [e]
    exact ⟨⟨rfl, rfl, rfl⟩, rfl⟩
  conv => whnf
  refine mcall (T := TT) (φ := []) (x_rlen q hq.1 tu W R (by omega) hlR) ?_
  conv => whnf
  rintro (_ | _) e6
  rotate_left
  · have e : pushE ⟨q, W, R, tu⟩ j = 3 := by
      simp at e6
      simp only [pushE, e1, e2, e5]
      rw [if_neg (by simp), if_neg (by omega), if_neg (by simp), if_pos (.inl e6)]
    rw [e]
    exact ⟨⟨rfl, rfl, rfl⟩, rfl⟩
  simp at e6
  conv => whnf
  refine mcall (T := TT) (φ := []) (x_full q tu W R j.tn (by omega) (by omega)) ?_
  conv => whnf
  rintro (_ | _) e7
  rotate_left
  · have e : pushE ⟨q, W, R, tu⟩ j = 3 := by
      simp only [pushE, e1, e2, e5, fullB, e7]
      rw [if_neg (by simp), if_neg (by omega), if_neg (by simp), if_pos (.inr trivial)]
    rw [e]
    exact ⟨⟨rfl, rfl, rfl⟩, rfl⟩
  refine absurd ?_ hne
  simp only [pushE, e1, e2, e5, fullB, e7]
  rw [if_neg (by simp), if_neg (by omega), if_neg (by simp), if_neg (by simp; omega)]
end Go.Proofs.Ytmlednjhemnncaa
namespace Go.Proofs.Ytmlednjhemnncaa
open Go.RowKit
set_option maxRecDepth 100000 in
set_option maxHeartbeats 8000000 in
theorem x_rpush1 (s : Qs) (hs : RqOk s) (j : Jb) (h1 : j.id.size ≤ maxLen) (h2 : j.tn.size ≤ maxLen) (he : pushE s j = 0) (hf : findA s.R j.tn = none) :
    MCalls Try.prog 11 [.bx 0 0, j.V] (rM s.q s.tu s.W s.R) (int 0) (rM s.q s.tu s.W (s.R ++ [⟨j.tn, [j], 0⟩])) := by
  obtain ⟨q, W, R, tu⟩ := s
  obtain ⟨hq, hW, hR, hlR, hjs⟩ := hs
  dsimp only at hq hW hR hlR hjs he hf ⊢
  refine msxm RPM Try.func11 (by kernel_rfl) (by kernel_rfl) ?_
  conv => whnf
  refine mcall (T := TT) (φ := []) (x_rmade q tu W R) ?_
  conv => whnf
  refine known false (by simp [hq.1]) ?_
  conv => whnf
  refine ⟨_, x_rid j.id h1, ?_⟩
  conv => whnf
  rintro (_ | _) e1
  rotate_left
  · have e : pushE ⟨q, W, R, tu⟩ j = 4 := by simp at e1; simp [pushE, e1]
    exact absurd (e.symm.trans he) (by decide)
  simp at e1
  conv => whnf
  refine ⟨_, x_rname j.tn h2, ?_⟩
  conv => whnf
  rintro (_ | _) e2
  rotate_left
  · have e : pushE ⟨q, W, R, tu⟩ j = 4 := by simp at e2; simp [pushE, e2]
    exact absurd (e.symm.trans he) (by decide)
  simp at e2
  conv => whnf
  refine ⟨none, by kernel_rfl, ?_⟩
  conv => whnf
  rintro (_ | _) e3
  rotate_left
  · have e : pushE ⟨q, W, R, tu⟩ j = 2 := by simp at e3; simp [pushE, e1, e2, e3]
    exact absurd (e.symm.trans he) (by decide)
  simp at e3
  conv => whnf
  rintro (_ | _) e4
  rotate_left
  · have e : pushE ⟨q, W, R, tu⟩ j = 2 := by
      rw [wrap_in (by omega)] at e4
      simp at e4; simp [pushE, e1, e2]; omega
    exact absurd (e.symm.trans he) (by decide)
  rw [wrap_in (by omega)] at e4
  simp at e4
  conv => whnf
  refine mcall (T := TT) (φ := []) (x_rhas q tu W R j.id (by omega) hjs) ?_
  conv => whnf
  rintro (_ | _) e5
  rotate_left
  · have e : pushE ⟨q, W, R, tu⟩ j = 6 := by
      simp only [pushE, e1, e2, e5]
      rw [if_neg (by simp), if_neg (by omega), if_pos trivial]
    exact absurd (e.symm.trans he) (by decide)
  conv => whnf
  refine mcall (T := TT) (φ := []) (x_rlen q hq.1 tu W R (by omega) hlR) ?_
  conv => whnf
  rintro (_ | _) e6
  rotate_left
  · have e : pushE ⟨q, W, R, tu⟩ j = 3 := by
      simp at e6
      simp only [pushE, e1, e2, e5]
      rw [if_neg (by simp), if_neg (by omega), if_neg (by simp), if_pos (.inl e6)]
    exact absurd (e.symm.trans he) (by decide)
  simp at e6
  conv => whnf
  refine mcall (T := TT) (φ := []) (x_full q tu W R j.tn (by omega) (by omega)) ?_
  conv => whnf
  rintro (_ | _) e7
  rotate_left
  · have e : pushE ⟨q, W, R, tu⟩ j = 3 := by
      simp only [pushE, e1, e2, e5, fullB, e7]
      rw [if_neg (by simp), if_neg (by omega), if_neg (by simp), if_pos (.inr trivial)]
    exact absurd (e.symm.trans he) (by decide)
  conv => whnf
  refine mcall (T := TT) (φ := []) (x_find q tu W R j.tn (by omega)) ?_
  rcases idxA_spec R j.tn 0 with ⟨g1, g2⟩ | ⟨p, a, g1, _⟩
  rotate_left
  · rw [hf] at g1; cases g1
  rw [g2]
  conv => whnf
  refine known true rfl ?_
  have hb1 : R.length + (1 - 0) ≤ 2000000 := by omega
  have hr1 : ∀ r ∈ [acC ⟨j.tn, [j], 0⟩], r.length = 3 := by simp [acC]
  conv => whnf
  refine ⟨some planR13, by kernel_rfl, ?_⟩
  conv => whnf
  refine ⟨.bx 83 2, fun m2 K2 hK => hK, ?_⟩
  apply cut
  · intro key
    conv => whnf
    refine And.intro ?_ ?_
    conv => whnf
    refine at_tr (bld_el (n := 61) (d := 59) (js := [j]) rfl rfl rfl rfl rfl rfl rfl) ?_
    conv => whnf
    refine at_ex (app_rg (n := 85) (n2 := 61) (R2 := [⟨j.tn, [j], 0⟩]) (rs := [acC ⟨j.tn, [j], 0⟩]) (lo := 0) (hi := 1) rfl rfl rfl rfl rfl (.inr ⟨rfl, rfl, rfl⟩) rfl rfl hr1 rfl (by decide) (Nat.zero_le 1) (Nat.le_refl _) rfl hb1) ?_
    conv => whnf
    exact key
    all_goals repeat' ((conv => whnf); first
      | exact trivial
      | with_reducible exact key
      | refine And.intro ?_ ?_
      | refine at_tr (bld_el (n := 61) (d := 59) (js := [j]) rfl rfl rfl rfl rfl rfl rfl) ?_
      | refine at_ex (app_rg (n := 85) (n2 := 61) (R2 := [⟨j.tn, [j], 0⟩]) (rs := [acC ⟨j.tn, [j], 0⟩]) (lo := 0) (hi := 1) rfl rfl rfl rfl rfl (.inr ⟨rfl, rfl, rfl⟩) rfl rfl hr1 rfl (by decide) (Nat.zero_le 1) (Nat.le_refl _) rfl hb1) ?_
      | exact key)
  exact ⟨rfl, rfl, rfl⟩
end Go.Proofs.Ytmlednjhemnncaa
namespace Go.Proofs.Ytmlednjhemnncaa
open Go.RowKit
set_option maxRecDepth 100000 in
set_option maxHeartbeats 8000000 in
theorem x_rpush2 (s : Qs) (hs : RqOk s) (j : Jb) (h1 : j.id.size ≤ maxLen) (h2 : j.tn.size ≤ maxLen) (he : pushE s j = 0) (p : Nat) (hp : p < s.R.length) (hi : idxA s.R j.tn 0 = (p : Nat)) :
    MCalls Try.prog 11 [.bx 0 0, j.V] (rM s.q s.tu s.W s.R) (int 0) (rM s.q s.tu s.W (s.R.set p { s.R[p] with js := s.R[p].js ++ [j] })) := by
  obtain ⟨js0, hjs0⟩ : ∃ x, x = s.R[p].js ++ [j] := ⟨_, rfl⟩
  rw [← hjs0]
  obtain ⟨q, W, R, tu⟩ := s
  obtain ⟨hq, hW, hR, hlR, hjs⟩ := hs
  dsimp only at hq hW hR hlR hjs he hp hi hjs0 ⊢
  refine msxm RPM Try.func11 (by kernel_rfl) (by kernel_rfl) ?_
  conv => whnf
  refine mcall (T := TT) (φ := []) (x_rmade q tu W R) ?_
  conv => whnf
  refine known false (by simp [hq.1]) ?_
  conv => whnf
  refine ⟨_, x_rid j.id h1, ?_⟩
  conv => whnf
  rintro (_ | _) e1
  rotate_left
  · have e : pushE ⟨q, W, R, tu⟩ j = 4 := by simp at e1; simp [pushE, e1]
    exact absurd (e.symm.trans he) (by decide)
  simp at e1
  conv => whnf
  refine ⟨_, x_rname j.tn h2, ?_⟩
  conv => whnf
  rintro (_ | _) e2
  rotate_left
  · have e : pushE ⟨q, W, R, tu⟩ j = 4 := by simp at e2; simp [pushE, e2]
    exact absurd (e.symm.trans he) (by decide)
  simp at e2
  conv => whnf
  refine ⟨none, by kernel_rfl, ?_⟩
  conv => whnf
  rintro (_ | _) e3
  rotate_left
  · have e : pushE ⟨q, W, R, tu⟩ j = 2 := by simp at e3; simp [pushE, e1, e2, e3]
    exact absurd (e.symm.trans he) (by decide)
  simp at e3
  conv => whnf
  rintro (_ | _) e4
  rotate_left
  · have e : pushE ⟨q, W, R, tu⟩ j = 2 := by
      rw [wrap_in (by omega)] at e4
      simp at e4; simp [pushE, e1, e2]; omega
    exact absurd (e.symm.trans he) (by decide)
  rw [wrap_in (by omega)] at e4
  simp at e4
  conv => whnf
  refine mcall (T := TT) (φ := []) (x_rhas q tu W R j.id (by omega) hjs) ?_
  conv => whnf
  rintro (_ | _) e5
  rotate_left
  · have e : pushE ⟨q, W, R, tu⟩ j = 6 := by
      simp only [pushE, e1, e2, e5]
      rw [if_neg (by simp), if_neg (by omega), if_pos trivial]
    exact absurd (e.symm.trans he) (by decide)
  conv => whnf
  refine mcall (T := TT) (φ := []) (x_rlen q hq.1 tu W R (by omega) hlR) ?_
  conv => whnf
  rintro (_ | _) e6
  rotate_left
  · have e : pushE ⟨q, W, R, tu⟩ j = 3 := by
      simp at e6
      simp only [pushE, e1, e2, e5]
      rw [if_neg (by simp), if_neg (by omega), if_neg (by simp), if_pos (.inl e6)]
    exact absurd (e.symm.trans he) (by decide)
  simp at e6
  conv => whnf
  refine mcall (T := TT) (φ := []) (x_full q tu W R j.tn (by omega) (by omega)) ?_
  conv => whnf
  rintro (_ | _) e7
  rotate_left
  · have e : pushE ⟨q, W, R, tu⟩ j = 3 := by
      simp only [pushE, e1, e2, e5, fullB, e7]
      rw [if_neg (by simp), if_neg (by omega), if_neg (by simp), if_pos (.inr trivial)]
    exact absurd (e.symm.trans he) (by decide)
  have hjl := hjs _ (List.getElem_mem hp)
  have hset : R[p].js.map jobD ++ [jobD j] = js0.map jobD := by rw [hjs0]; simp
  conv => whnf
  refine mcall (T := TT) (φ := []) (x_find q tu W R j.tn (by omega)) ?_
  rw [hi]
  conv => whnf
  refine known false (by simp) ?_
  have hpa : (0 : Int) ≤ (p : Nat) ∧ ((p : Nat) : Int).toNat < (R.map acC).length := ⟨by omega, by simp; omega⟩
  have hpb : (0 : Int) ≤ (p : Nat) ∧ ((p : Nat) : Int).toNat < ((R.map acC).set p ((acC R[p]).set 1 (.o 0))).length := ⟨by omega, by simp; omega⟩
  have hsz : ((R[p].js.map jobD).length + 1) * 40 ≤ 140737488355328 := by rw [List.length_map]; omega
  conv => whnf
  refine ⟨some planR15, by kernel_rfl, ?_⟩
  conv => whnf
  refine at_rd (idx_rg rfl rfl rfl rfl hpa) ?_
  conv => whnf
  refine ⟨.bx 83 2, fun m2 K2 hK => hK, ?_⟩
  apply cut
  · intro key
    conv => whnf
    refine And.intro ?_ ?_
    conv => whnf
    refine And.intro ?_ ?_
    conv => whnf
    refine at_ex (open_rg (n := 85) (d := 77) (j := p) rfl rfl rfl rfl hp) ?_
    conv => whnf
    refine ⟨hsz, ?_⟩
    conv => whnf
    refine at_rd (idx_rg rfl rfl rfl rfl hpb) ?_
    conv => whnf
    refine at_ex (st_rg (n := 85) (j := p) (js := js0) hp rfl rfl rfl rfl rfl hset) ?_
    conv => whnf
    exact key
    all_goals repeat' ((conv => whnf); first
      | exact trivial
      | with_reducible exact key
      | refine And.intro ?_ ?_
      | refine at_ex (open_rg (n := 85) (d := 77) (j := p) rfl rfl rfl rfl hp) ?_
      | refine at_rd (idx_rg rfl rfl rfl rfl hpa) ?_
      | refine at_rd (idx_rg rfl rfl rfl rfl hpb) ?_
      | refine at_ex (st_rg (n := 85) (j := p) (js := js0) hp rfl rfl rfl rfl rfl hset) ?_
      | exact hsz
      | exact key)
  exact ⟨rfl, rfl, rfl⟩
end Go.Proofs.Ytmlednjhemnncaa
