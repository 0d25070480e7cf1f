/- Texts joined by pack.py: XSxFx XCd29 XCd30 -/
import Derived.Test.YtkpmlgpkmlhbjaaGreatDoorCp9
import Derived.Test.YtkpmlgpkmlhbjaaGreatDoorCp27
namespace Go.Proofs.YtkpmlgpkmlhbjaaGreatDoor
open Go.RowKit
section
variable {P : Program} {T : Tab} {w : World}
def shOk : V → Bool
  | .ow n k => Nat.beq n 0 && Nat.beq k 0
  | v => v.closed2
def V.shF (n : Nat) : V → V
  | .ow _ _ => .ow n fixV
  | v => v
def nameF (n : Nat) (v0 : Value) : Names := fun k => if k = n then some (fixV, v0) else none
def inF (n e s : Nat) (f : Bool) (xs : List (List D)) : List (Option Bk) := List.replicate n none ++ [some (.row fixV e s f xs)] ++ List.replicate 31 none
def frF (w : World) (v0 : Value) (So : Nat → Prop) (n : Nat) : Fr := { keep := fun g => g < w.heap.size ∧ ¬ blks [v0] g, old := So, lent := fun _ => none, ref := w, ghost := [(.ow n fixV, v0)] }
theorem nameF_at {n k x : Nat} {v0 v : Value} (h : nameF n v0 k = some (x, v)) : k = n ∧ x = fixV ∧ v = v0 := by
  unfold nameF at h
  split at h
  · cases h; exact ⟨by assumption, rfl, rfl⟩
  · cases h
theorem closed1_rel {N N' : Names} {S : Sets} {v : V} {u : Value} (h1 : v.closed1 = true) (h : RelV N S w v u) : RelV N' S w v u := by
  cases h <;> first | (cases h1; done) | skip
  · exact .un _
  · exact .cv _
  · exact .kb _
  · exact .sl _ _ _ _ (by assumption)
  · rename_i hS hc; exact .el _ _ _ _ _ (by assumption) _ (by assumption)
theorem closed2_rel {N N' : Names} {S : Sets} {v : V} {u : Value} (h1 : v.closed2 = true) (h : RelV N S w v u) : RelV N' S w v u := by
  cases v with
  | ag cs =>
    simp only [V.closed2, List.all_eq_true] at h1
    cases h with
    | ag _ us hl h => exact .ag cs us hl fun i v hv => closed1_rel (h1 v (List.mem_of_getElem? hv)) (h i v hv)
  | _ => exact closed1_rel h1 h
theorem shF_rel {v0 : Value} {So : Nat → Prop} {v : V} {u : Value} (n : Nat) (hv : shOk v = true) (_h0 : v0.oneCell' = true) (h : RelV (NamesOf [v0]) (oldS So) w v u) : RelV (nameF n v0) (oldS So) w (v.shF n) u := by
  cases v with
  | ow a b =>
    simp only [shOk, Bool.and_eq_true] at hv
    obtain rfl := Nat.eq_of_beq_eq_true hv.1
    obtain rfl := Nat.eq_of_beq_eq_true hv.2
    cases h with
    | ow _ _ _ hu hn =>
      obtain ⟨k', u', g1, g2, g3⟩ := hn
      have g1 : some (0, v0) = some (k', u') := g1
      cases g1
      exact .ow _ _ _ hu ⟨fixV, v0, by simp [nameF], Nat.le_refl _, fun _ => g3 rfl⟩
  | _ => exact closed2_rel hv h
theorem inF_get {n e s : Nat} {f : Bool} {xs : List (List D)} {k : Nat} {b : Bk} (h : (inF n e s f xs)[k]? = some (some b)) : k = n ∧ b = .row fixV e s f xs := by
  unfold inF at h
  rw [List.getElem?_append] at h
  split at h
  · rw [List.getElem?_append] at h
    split at h
    · rw [List.getElem?_replicate] at h; split at h <;> cases h
    · rename_i h1 hlt
      simp only [List.length_append, List.length_replicate, List.length_singleton] at h1 hlt h
      have : k - n = 0 := by omega
      rw [this] at h
      cases h
      exact ⟨by omega, rfl⟩
  · rw [List.getElem?_replicate] at h; split at h <;> cases h
theorem inF_at (n e s : Nat) (f : Bool) (xs : List (List D)) : (inF n e s f xs)[n]? = some (some (.row fixV e s f xs)) := by
  unfold inF
  rw [List.getElem?_append_left (by simp), List.getElem?_append_right (by simp)]
  simp
theorem sat_enterF {args : List V} {vs : List Value} {v0 : Value} {So : Nat → Prop} {e s : Nat} {f : Bool} {xs : List (List D)} (hm : MemOk w.heap.size (oldS So) w [v0] [.row 0 e s f xs]) (h : RelL (NamesOf [v0]) (oldS So) w args vs) (hok : ∀ v ∈ args, shOk v = true) (h0 : v0.oneCell' = true) (n : Nat) (hn : args.length ≤ n) :
    Sat (frF w v0 So n) w (nameF n v0) (oldS So) (args.map (V.shF n) ++ List.replicate (n - args.length) .un) (inF n e s f xs) { tmps := vs.toArray ++ Array.replicate (n - vs.toArray.size) undef, defers := [] } w := by
  obtain ⟨v, us, b1, b2, b3, b4, b5, b6⟩ := hm.blk 0 _ rfl
  have b1 : some (0, v0) = some (0, v) := b1
  cases b1
  refine ⟨Low.refl _ _, rfl, ⟨by simp [h.1], fun i v hv => ?_⟩, ?_, ?_, ?_, ?_, ?_, ?_, fun _ h => h.1, fun g hg => .inr hg.2, fun k a hk => (by cases hk), ⟨Nat.le_refl _, fun p h => ?_, fun g h => h.elim, hm.inv.1, fun g hg => ⟨ginv_lt hm.inv.1 hg, hm.inv.2 g hg⟩⟩⟩
  · rw [List.getElem?_append] at hv
    split at hv
    · rename_i hlt
      rw [List.getElem?_map, Option.map_eq_some_iff] at hv
      obtain ⟨v', hv', rfl⟩ := hv
      have := shF_rel n (hok v' (List.mem_of_getElem? hv')) h0 (h.2 i v' hv')
      have hlt' : i < vs.length := by rw [← h.1]; exact lt_of_get hv'
      have e : (({ tmps := vs.toArray ++ Array.replicate (n - vs.toArray.size) undef, defers := [] } : Act).tmps.toList).getD i undef = vs.getD i undef := by
        simp only [Array.toList_append, List.getD_eq_getElem?_getD]
        rw [List.getElem?_append_left hlt']
      rw [e]; exact this
    · rw [List.getElem?_replicate] at hv
      split at hv
      · cases hv; exact .un _
      · cases hv
  · intro k b hb
    obtain ⟨rfl, rfl⟩ := inF_get hb
    exact ⟨v0, us, by simp [nameF], b2, b3, b4, b5, b6⟩
  · intro k hk
    unfold nameF
    rw [if_neg]
    rintro rfl
    exact hk _ (inF_at _ _ _ _ _)
  · intro j k x y u v g h1 h2 h3 h4
    obtain ⟨rfl, _, _⟩ := nameF_at h1
    obtain ⟨rfl, _, _⟩ := nameF_at h2
    rfl
  · intro f g hg
    refine ⟨(hm.data f g hg).1, fun k x v h1 h2 => ?_⟩
    obtain ⟨_, _, rfl⟩ := nameF_at h1
    exact (hm.data f g hg).2 ⟨_, by simp, h2⟩
  · intro g hg; cases hg.1
  · intro k x v g h1 h2
    obtain ⟨_, _, rfl⟩ := nameF_at h1
    have : blks [v] g := ⟨v, by simp, h2⟩
    exact ⟨fun hk => hk.2 this, hm.lt g this⟩
  · simp only [frF, List.mem_singleton] at h
    subst h
    exact .ow _ _ _ h0 ⟨fixV, v0, by simp [nameF], Nat.le_refl _, fun _ => rfl⟩
def fixAt (m : List (Option Bk)) (n : Nat) : Bool := match m[n]? with
  | some (some (.row k _ _ _ _)) => Nat.beq k fixV
  | _ => false
def DoneF (sd : List V → List Nat) (T : Tab) (fn : Func) (res : V) (m' : List Bk) (e : Ex) (st : St) : Prop := DoneM sd T fn 1 res m' e st ∧ fixAt st.m fn.ntmps = true
def enterF (fn : Func) (args : List V) (e s : Nat) (f : Bool) (xs : List (List D)) (K : St → Prop) : Prop :=
  forceAll (args.map (V.shF fn.ntmps) ++ List.replicate (fn.ntmps - args.length) .un) fun t => forceM (inF fn.ntmps e s f xs) fun m => K ⟨t, m⟩
def BodyF (sd : List V → List Nat) (P : Program) (T : Tab) (fn : Func) (args : List V) (e s : Nat) (f : Bool) (xs : List (List D)) (res : V) (m' : List Bk) : Prop :=
  match fn.body with
  | some c => enterF fn args e s f xs fun st => awp P T c st (DoneF sd T fn res m')
  | none => False
theorem mcalls_fix {sd : List V → List Nat} (hT : TOk P T) (hm : P.follows .mixedOrders = true) {f : FuncId} {fn : Func} (hf : P.funcs[f]? = some fn) (hn : (fn.name == "runtime.NumGoroutine") = false) {args : List V} {res : V} {m1 : List Bk} {re rs : Nat} {rf : Bool} {rxs : List (List D)}
    (hle : Nat.ble args.length fn.ntmps = true) (hok : args.all shOk = true) (h : BodyF sd P T fn args re rs rf rxs res m1) : MCallsG true P f args [.row 0 re rs rf rxs] res m1 := by
  rw [List.all_eq_true] at hok
  have hle := Nat.le_of_ble_eq_true hle
  unfold BodyF at h
  cases hb : fn.body with
  | none => rw [hb] at h; exact h.elim
  | some c =>
    rw [hb] at h
    refine ⟨⟨fn, hf, hn, by rw [hb]; rfl⟩, fun w vs ns So hmem hvs => ?_⟩
    obtain ⟨v0, rfl⟩ : ∃ v0, ns = [v0] := by
      have := hmem.len
      match ns, this with
      | [a], _ => exact ⟨a, rfl⟩
    obtain ⟨vr, usr, b1, b2, _⟩ := hmem.blk 0 _ rfl
    have b1 : some (0, v0) = some (0, vr) := b1
    cases b1
    obtain ⟨AA, cc, hv0⟩ := own_parts b2
    have h0 : v0.oneCell' = true := by rw [hv0]; rfl
    simp only [enterF, forceAll_eq, forceM_eq] at h
    refine calls_of_wp hf hb (Go.wp_mono (awp_sound (B := frF w v0 So fn.ntmps) (w0 := w) hT hm (by intro p hp; simp only [frF, List.mem_singleton] at hp; subst hp; exact ⟨_, rfl⟩) c _ _ w ⟨_, _, _, _, sat_enterF hmem hvs hok h0 fn.ntmps hle, h⟩) ?_)
    have key : ∀ (a : Act) (w' : World), OkSt (frF w v0 So fn.ntmps) w (DoneF sd T fn res m1 .ret) a w' → a.defers = [] ∧ ∃ v, (results fn a.tmps).run P w' = .ok v w' ∧
        ∃ v' ns', Ending.returned v = .returned v' ∧ MemOk w.heap.size (newS So w w' ns') w' ns' m1 ∧ RelV (NamesOf ns') (newS So w w' ns') w' res v' ∧
          Low (fun g => g < w.heap.size ∧ ¬ blks [v0] g) w w' ∧ [v0].length ≤ ns'.length ∧ (∀ (k : Nat) (a : Addr), [v0][k]? = some (.pointer (some a)) → ns'[k]? = some (.pointer (some a))) ∧ (∀ g, blks ns' g → blks [v0] g ∨ w.heap.size ≤ g) ∧ (true = true → ∀ (k : Nat) (v : Value), [v0][k]? = some v → ns'[k]? = some v) := by
      rintro a w' ⟨N, S, t, m, hs, h⟩
      simp only [DoneF, DoneM] at h
      obtain ⟨h, hfix⟩ := h
      obtain ⟨us, vs', h1, h2, h3⟩ := rawL_sound hT hs _ h
      rw [revK_eq] at h3
      generalize (reach m 64 ((upto fn.ntmps 1).flatMap (kidsOf m) ++ sd vs') (upto fn.ntmps 1).reverse).reverse ++ [] = ρ at h3
      obtain ⟨h3, h4, h5⟩ := h3
      simp only [Bool.and_eq_true] at h3
      obtain ⟨hd, hp⟩ := h3
      have hρ := exM_mem h4
      have hok := exM_ok hs hd h4
      have hrel := exL_rel (T := T) hs hρ fn.resultTypes.toList h2
      obtain ⟨hp1, hp2⟩ := preB_spec hp
      rw [upto_length] at hp1
      have hrest : Low (fun g => g < w.heap.size ∧ ¬ blks [v0] g) w w' ∧ [v0].length ≤ (valsOf N ρ).length ∧ (∀ (k : Nat) (a : Addr), [v0][k]? = some (.pointer (some a)) → (valsOf N ρ)[k]? = some (.pointer (some a))) ∧ (∀ g, blks (valsOf N ρ) g → blks [v0] g ∨ w.heap.size ≤ g) ∧ (true = true → ∀ (k : Nat) (v : Value), [v0][k]? = some v → (valsOf N ρ)[k]? = some v) := by
        have hN : N fn.ntmps = some (fixV, v0) := by
          have hr := hs.more.ghost (.ow fn.ntmps fixV, v0) (by simp [frF])
          unfold fixAt at hfix
          split at hfix
          · rename_i k e s f xs hmk
            obtain rfl := Nat.eq_of_beq_eq_true hfix
            obtain ⟨v', us', c1, _⟩ := hs.blk _ _ hmk
            cases hr with
            | ow _ _ _ hu hx =>
              obtain ⟨k', v2, g1, g2, g3⟩ := hx
              rw [c1] at g1; cases g1
              have g4 : v0 = v' := g3 rfl
              rw [c1, g4]
          · cases hfix
        have h0' : (valsOf N ρ)[0]? = some v0 := valsOf_get (hp2 0 _ (upto_get _ _ _ (by omega))) hN
        refine ⟨hs.low, by simpa [valsOf] using hp1, fun k a hk => ?_, fun g hg => ?_, fun _ k v hk => ?_⟩
        · cases k with
          | zero => rw [hv0] at hk; simp at hk
          | succ k => simp at hk
        · obtain ⟨n, _, x, v, h6, h7⟩ := blks_valsOf hρ hs hg
          have := (hs.own n x v g h6 h7).1
          simp only [frF, not_and, Classical.not_not] at this
          rcases Nat.lt_or_ge g w.heap.size with h | h
          · exact .inl (this h)
          · exact .inr h
        · cases k with
          | zero => simp at hk; subst hk; exact h0'
          | succ k => simp at hk
      have hrun : ∀ v, (if h : us.toArray.size = 1 then us.toArray[0] else .tuple us.toArray) = v → (results fn a.tmps).run P w' = .ok v w' := by
        intro v hv
        unfold results
        rw [Array.mapM_eq_mapM_toList]
        change Sem.run P (do
          let vs ← List.toArray <$> fn.results.toList.mapM (resR a)
          pure (if h : vs.size = 1 then vs[0] else Value.tuple vs)) w' = _
        simp only [Sem.run_bind, Sem.run_map, h1, Result.andThen_ok, Sem.run_pure, hv]
      refine ⟨hs.nodef, ?_⟩
      generalize exL T ρ m vs' fn.resultTypes.toList = rs at hrel h5
      subst h5
      unfold tupV
      split
      · rename_i v
        obtain ⟨u, rfl⟩ : ∃ u, us = [u] := by
          have := hrel.1
          match us, this with
          | [u], _ => exact ⟨u, rfl⟩
        exact ⟨u, hrun u rfl, u, valsOf N ρ, rfl, hok, by simpa [frF] using hrel.2 0 _ rfl, hrest⟩
      · rename_i hne
        have hsz : us.toArray.size ≠ 1 := by
          intro e
          have : us.length = 1 := by simpa using e
          have h4 := hrel.1
          rw [this] at h4
          match rs, h4 with
          | [v], _ => exact hne v rfl
        refine ⟨.tuple us.toArray, hrun _ (by rw [dif_neg hsz]), _, valsOf N ρ, rfl, hok, .tu _ _ (by simpa using hrel.1) fun i v hv => ?_, hrest⟩
        have := hrel.2 i v hv
        rw [← getD_toList]; simpa [frF] using this
    intro e a w' h
    cases e <;> simp only [QK] at h <;> first | exact h.elim | skip
    · exact key a w' h
    · obtain ⟨N, S, t, m, hs, h⟩ := h; exact h.1.elim
    · exact key a w' h
end
end Go.Proofs.YtkpmlgpkmlhbjaaGreatDoor
namespace Go.Proofs.YtkpmlgpkmlhbjaaGreatDoor
open Go.RowKit
def boolD (b : Bool) : List D := [.cv (.bool b)]
abbrev cdV0 (c : Cd) : V := .ag [.sl false 5 (c.fs.map fnD), .sl false 4 (c.is.map inD)]
def noIn : In := ⟨0, 0, [], []⟩
def dAt (d : List Int) (i : Nat) : Int := d.getD i (-1)
def pen (d : List Int) (fol : List Bool) (i : Nat) : Bool := decide (0 ≤ dAt d i) && !fol.getD i true
def nextP (d : List Int) (fol : List Bool) : Nat → Nat → Option Nat
  | 0, _ => none
  | n + 1, i => if pen d fol i then some i else nextP d fol n (i + 1)
def setS (af : Int) : List Int → List Int → Option Int × List Int
  | [], d => (none, d)
  | k :: r, d => if decide (dAt d k.toNat ≥ 0) && dAt d k.toNat != af then (some k, d) else setS af r (d.set k.toNat af)
def afterI (c : Cd) (d : List Int) (i : Nat) : Int := dAt d i - popsN c.fs (c.is.getD i noIn) + pushN (c.is.getD i noIn)
def badI (c : Cd) (d : List Int) (i : Nat) : Bool :=
  decide (popsN c.fs (c.is.getD i noIn) > dAt d i) || ((c.is.getD i noIn).op == 20 && dAt d i != 1) || decide (afterI c d i > 64)
def run (c : Cd) (lo ed : Nat) : Nat → List Int → List Bool → Int × List Int
  | 0, d, _ => (-1, d)
  | n + 1, d, fol =>
    match nextP d fol (ed - lo) lo with
    | none => (-1, d)
    | some i =>
      if badI c d i then (i, d)
      else match setS (afterI c d i) (succs (c.is.getD i noIn) i) d with
        | (some k, d') => (k, d')
        | (none, d') => run c lo ed n d' (fol.set i true)
theorem nextP_none {d : List Int} {fol : List Bool} : ∀ (n i : Nat), (∀ j, i ≤ j → j < i + n → pen d fol j = false) → nextP d fol n i = none
  | 0, _, _ => rfl
  | n + 1, i, h => by
    unfold nextP
    rw [h i (Nat.le_refl _) (by omega), if_neg (by simp)]
    exact nextP_none n (i + 1) fun j h1 h2 => h j (by omega) (by omega)
theorem nextP_some {d : List Int} {fol : List Bool} {k : Nat} : ∀ (n i : Nat), i ≤ k → k < i + n → pen d fol k = true → (∀ j, i ≤ j → j < k → pen d fol j = false) → nextP d fol n i = some k
  | 0, _, _, _, _, _ => by omega
  | n + 1, i, h1, h2, hk, h => by
    unfold nextP
    by_cases e : i = k
    · subst e; rw [if_pos hk]
    · rw [h i (Nat.le_refl _) (by omega), if_neg (by simp)]
      exact nextP_some n (i + 1) (by omega) (by omega) hk fun j h1 h2 => h j (by omega) h2
theorem run_none {c : Cd} {lo ed : Nat} {d : List Int} {fol : List Bool} (n : Nat) (h : ∀ j, lo ≤ j → j < ed → pen d fol j = false) : run c lo ed n d fol = (-1, d) := by
  cases n with
  | zero => rfl
  | succ n =>
    unfold run
    rw [nextP_none _ _ fun j h1 h2 => h j h1 (by omega)]
theorem run_bad {c : Cd} {lo ed i : Nat} {d : List Int} {fol : List Bool} (n : Nat) (h1 : lo ≤ i) (h2 : i < ed) (hp : pen d fol i = true) (h : ∀ j, lo ≤ j → j < i → pen d fol j = false) (hb : badI c d i = true) : run c lo ed (n + 1) d fol = ((i : Int), d) := by
  unfold run
  rw [nextP_some (ed - lo) lo h1 (by omega) hp h]
  dsimp only
  rw [if_pos hb]
def run2 (c : Cd) (lo ed n : Nat) (fol : List Bool) : Option Int × List Int → Int × List Int
  | (some k, d') => (k, d')
  | (none, d') => run c lo ed n d' fol
theorem run_ok {c : Cd} {lo ed i : Nat} {d : List Int} {fol : List Bool} (n : Nat) (h1 : lo ≤ i) (h2 : i < ed) (hp : pen d fol i = true) (h : ∀ j, lo ≤ j → j < i → pen d fol j = false) (hb : badI c d i = false) :
    run c lo ed (n + 1) d fol = run2 c lo ed n (fol.set i true) (setS (afterI c d i) (succs (c.is.getD i noIn) i) d) := by
  conv => lhs; unfold run
  rw [nextP_some (ed - lo) lo h1 (by omega) hp h]
  dsimp only
  rw [if_neg (by rw [hb]; simp)]
  unfold run2
  rfl
structure GoodI (c : Cd) (lo ed i : Nat) (x : In) : Prop where
  h1 : 1 ≤ x.op
  h2 : x.op ≤ 20
  h3 : x.op = 17 → 0 ≤ x.a ∧ x.a < c.fs.length
  h4 : 0 ≤ popsN c.fs x
  h5 : popsN c.fs x ≤ 4096
  h6 : ∀ k ∈ succs x i, (lo : Int) ≤ k ∧ k < ed
abbrev Goods (c : Cd) (lo ed : Nat) : Prop := ∀ i (h : i < c.is.length), lo ≤ i → i < ed → GoodI c lo ed i c.is[i]
structure Rw (n : Nat) (d : List Int) : Prop where
  len : d.length = n
  b : ∀ v ∈ d, -1 ≤ v ∧ v ≤ 64
theorem dAt_eq {d : List Int} {i : Nat} (h : i < d.length) : dAt d i = d[i] := by simp [dAt, h]
theorem Rw.at {n : Nat} {d : List Int} (h : Rw n d) (i : Nat) : -1 ≤ dAt d i ∧ dAt d i ≤ 64 := by
  by_cases hi : i < d.length
  · rw [dAt_eq hi]; exact h.b _ (List.getElem_mem hi)
  · have : dAt d i = -1 := by simp [dAt, List.getElem?_eq_none (by omega : d.length ≤ i)]
    omega
theorem Rw.set {n : Nat} {d : List Int} (h : Rw n d) (i : Nat) {v : Int} (h1 : -1 ≤ v) (h2 : v ≤ 64) : Rw n (d.set i v) :=
  ⟨by rw [List.length_set]; exact h.len, fun x hx => by
    rcases List.mem_or_eq_of_mem_set hx with hx | rfl
    · exact h.b x hx
    · exact ⟨h1, h2⟩⟩
theorem dAt_set {d : List Int} {i j : Nat} {v : Int} : dAt (d.set i v) j = if i = j ∧ j < d.length then v else dAt d j := by
  unfold dAt
  rw [List.getD_eq_getElem?_getD, List.getD_eq_getElem?_getD, List.getElem?_set]
  by_cases h : i = j
  · subst h
    by_cases h2 : i < d.length <;> simp [h2]
  · simp [h]
theorem push_bound (x : In) : 0 ≤ pushN x ∧ pushN x ≤ 2 := by
  unfold pushN
  split
  · omega
  · split <;> omega
abbrev nfol (fol : List Bool) : Nat := fol.count false
theorem nfol_set {fol : List Bool} {i : Nat} (h : fol.getD i true = false) : nfol (fol.set i true) + 1 = nfol fol := by
  induction fol generalizing i with
  | nil => simp at h
  | cons b l ih =>
    cases i with
    | zero => simp at h; subst h; simp [nfol]
    | succ i =>
      have := ih (i := i) (by simpa using h)
      simp only [nfol, List.set_cons_succ, List.count_cons] at this ⊢
      omega
theorem fol_set {fol : List Bool} {i j : Nat} : (fol.set i true).getD j true = (fol.getD j true || (i == j)) := by
  rw [List.getD_eq_getElem?_getD, List.getD_eq_getElem?_getD, List.getElem?_set]
  by_cases h : i = j
  · subst h
    by_cases h2 : i < fol.length <;> simp [h2]
  · simp [h]
structure Fol (c : Cd) (lo ed : Nat) (R : Int × List Int) (n i : Nat) (d : List Int) (fol : List Bool) : Prop where
  ge : lo ≤ i
  le : i ≤ ed
  rw : Rw c.is.length d
  len : fol.length = c.is.length
  none : ∀ j, lo ≤ j → j < i → pen d fol j = false
  go : run c lo ed n d fol = R
  fuel : nfol fol = n
theorem Fol.skip {c : Cd} {lo ed : Nat} {R : Int × List Int} {n i : Nat} {d : List Int} {fol : List Bool} (h : Fol c lo ed R n i d fol) (hi : i < ed) (hp : pen d fol i = false) : Fol c lo ed R n (i + 1) d fol :=
  ⟨by have := h.ge; omega, hi, h.rw, h.len, fun j h1 h2 => by
    by_cases e : j = i
    · subst e; exact hp
    · exact h.none j h1 (by omega), h.go, h.fuel⟩
theorem Fol.pos {c : Cd} {lo ed : Nat} {R : Int × List Int} {n i : Nat} {d : List Int} {fol : List Bool} (h : Fol c lo ed R n i d fol) (hp : pen d fol i = true) : ∃ m, n = m + 1 ∧ nfol (fol.set i true) = m := by
  unfold pen at hp
  simp only [Bool.and_eq_true, Bool.not_eq_true'] at hp
  have := nfol_set hp.2
  have := h.fuel
  exact ⟨n - 1, by omega, by omega⟩
structure Suc (c : Cd) (lo : Nat) (S : Option Int × List Int) (af : Int) (i : Nat) (d : List Int) (ks : List Int) (m : Nat) (least : Int) (d' : List Int) : Prop where
  lt : m ≤ ks.length
  rw : Rw c.is.length d'
  set : setS af (ks.drop m) d' = S
  ge : (lo : Int) ≤ least
  le : least ≤ (i : Int) + 1
  min : ∀ k ∈ ks.take m, least ≤ k
  same : ∀ j : Nat, (j : Int) < least → dAt d' j = dAt d j
theorem Suc.step {c : Cd} {lo : Nat} {S : Option Int × List Int} {af : Int} {i : Nat} {d : List Int} {ks : List Int} {m : Nat} {least : Int} {d' : List Int} (h : Suc c lo S af i d ks m least d') (hm : m < ks.length)
    (hc : ¬ (dAt d' (ks[m]).toNat ≥ 0 ∧ dAt d' (ks[m]).toNat ≠ af)) (h1 : -1 ≤ af) (h2 : af ≤ 64) (h3 : (lo : Int) ≤ ks[m]) : Suc c lo S af i d ks (m + 1) (if ks[m] < least then ks[m] else least) (d'.set (ks[m]).toNat af) := by
  have hs := h.set
  rw [List.drop_eq_getElem_cons hm] at hs
  unfold setS at hs
  rw [if_neg (by simpa using hc)] at hs
  have e1 := h.ge
  have e2 := h.le
  refine ⟨hm, h.rw.set _ h1 h2, hs, by split <;> omega, by split <;> omega, fun k hk => ?_, fun j hj => ?_⟩
  · rw [List.take_add_one, List.mem_append, List.getElem?_eq_getElem hm] at hk
    rcases hk with hk | hk
    · have := h.min k hk
      split <;> omega
    · simp at hk; subst hk; split <;> omega
  · rw [dAt_set, if_neg]
    · exact h.same j (by split at hj <;> omega)
    · rintro ⟨e, _⟩
      split at hj <;> omega
theorem Suc.stop {c : Cd} {lo : Nat} {S : Option Int × List Int} {af : Int} {i : Nat} {d : List Int} {ks : List Int} {m : Nat} {least : Int} {d' : List Int} (h : Suc c lo S af i d ks m least d') (hm : m < ks.length)
    (hc : dAt d' (ks[m]).toNat ≥ 0 ∧ dAt d' (ks[m]).toNat ≠ af) : S = (some ks[m], d') := by
  have hs := h.set
  rw [List.drop_eq_getElem_cons hm] at hs
  unfold setS at hs
  rw [if_pos (by simpa using hc)] at hs
  exact hs.symm
theorem Suc.done {c : Cd} {lo : Nat} {S : Option Int × List Int} {af : Int} {i : Nat} {d : List Int} {ks : List Int} {m : Nat} {least : Int} {d' : List Int} (h : Suc c lo S af i d ks m least d') (hm : ks.length ≤ m) : S = (none, d') := by
  have hs := h.set
  rw [List.drop_eq_nil_of_le hm] at hs
  exact hs.symm
theorem Suc.start {c : Cd} {lo : Nat} {af : Int} {i : Nat} {d : List Int} {ks : List Int} (h : Rw c.is.length d) (hi : lo ≤ i) : Suc c lo (setS af ks d) af i d ks 0 ((i : Int) + 1) d :=
  ⟨Nat.zero_le _, h, by rw [List.drop_zero], by omega, by omega, fun k hk => by simp at hk, fun j _ => rfl⟩
theorem Fol.next {c : Cd} {lo ed : Nat} {R : Int × List Int} {n i : Nat} {d d' : List Int} {fol : List Bool} {least : Int} (h : Fol c lo ed R (n + 1) i d fol) (hi : i < ed) (hp : pen d fol i = true) (hb : badI c d i = false) (hn : nfol (fol.set i true) = n)
    {m : Nat} (hs : Suc c lo (setS (afterI c d i) (succs (c.is.getD i noIn) i) d) (afterI c d i) i d (succs (c.is.getD i noIn) i) m least d') (hm : (succs (c.is.getD i noIn) i).length ≤ m) (hl : least ≤ ed) :
    Fol c lo ed R n least.toNat d' (fol.set i true) := by
  have h1 := hs.ge
  have h2 := hs.le
  refine ⟨by omega, by omega, hs.rw, by rw [List.length_set]; exact h.len, fun j hj1 hj2 => ?_, ?_, hn⟩
  · have := hs.same j (by omega)
    unfold pen
    rw [this, fol_set]
    by_cases e : j = i
    · subst e; simp
    · have := h.none j hj1 (by omega)
      unfold pen at this
      rw [show (i == j) = false by simpa using fun h : i = j => e h.symm, Bool.or_false]
      exact this
  · have := run_ok (c := c) n h.ge hi hp h.none hb
    rw [h.go, hs.done hm] at this
    rw [this]; rfl
theorem Fol.conf {c : Cd} {lo ed : Nat} {R : Int × List Int} {n i : Nat} {d d' : List Int} {fol : List Bool} {least : Int} (h : Fol c lo ed R (n + 1) i d fol) (hi : i < ed) (hp : pen d fol i = true) (hb : badI c d i = false)
    {m : Nat} (hs : Suc c lo (setS (afterI c d i) (succs (c.is.getD i noIn) i) d) (afterI c d i) i d (succs (c.is.getD i noIn) i) m least d') (hm : m < (succs (c.is.getD i noIn) i).length)
    (hc : dAt d' ((succs (c.is.getD i noIn) i)[m]).toNat ≥ 0 ∧ dAt d' ((succs (c.is.getD i noIn) i)[m]).toNat ≠ afterI c d i) : R = ((succs (c.is.getD i noIn) i)[m], d') := by
  have := run_ok (c := c) n h.ge hi hp h.none hb
  rw [h.go, hs.stop hm hc] at this
  rw [this]; rfl
theorem Fol.bad {c : Cd} {lo ed : Nat} {R : Int × List Int} {n i : Nat} {d : List Int} {fol : List Bool} (h : Fol c lo ed R (n + 1) i d fol) (hi : i < ed) (hp : pen d fol i = true) (hb : badI c d i = true) : R = ((i : Int), d) := by
  rw [← h.go]; exact run_bad n h.ge hi hp h.none hb
theorem Fol.end_ {c : Cd} {lo ed : Nat} {R : Int × List Int} {n : Nat} {d : List Int} {fol : List Bool} (h : Fol c lo ed R n ed d fol) : R = (-1, d) := by
  rw [← h.go]; exact run_none n h.none
theorem Fol.start {c : Cd} {lo ed : Nat} {d : List Int} (h : Rw c.is.length d) (hl : lo ≤ ed) : Fol c lo ed (YtkpmlgpkmlhbjaaGreatDoor.run c lo ed c.is.length d (List.replicate c.is.length false)) c.is.length lo d (List.replicate c.is.length false) :=
  ⟨Nat.le_refl _, hl, h, by simp, fun j h1 h2 => by omega, rfl, by simp [nfol]⟩
end Go.Proofs.YtkpmlgpkmlhbjaaGreatDoor
namespace Go.Proofs.YtkpmlgpkmlhbjaaGreatDoor
open Go.RowKit
theorem boolInfo : ∃ i, Tryz.prog.info? 4 = some i ∧ i.zero = some (.bool false) ∧ i.size = 1 ∧ i.bytes = 1 := by
  have h : (Tryz.prog.info? 4).map (fun i => (i.zero, i.size, i.bytes)) = some (some (.bool false), 1, 1) := by kernel_rfl
  cases hi : Tryz.prog.info? 4 with
  | none => rw [hi] at h; cases h
  | some i =>
    rw [hi] at h
    simp only [Option.map_some, Option.some.injEq, Prod.mk.injEq] at h
    exact ⟨i, rfl, h.1, h.2.1, h.2.2⟩
theorem zF : Value.cells (.bool false) = #[.bool false] := rfl
theorem rep_bool (n : Nat) : List.replicate n [D.cv (.bool false)] = (List.replicate n false).map boolD := by rw [List.map_replicate]; rfl
theorem set_int (d : List Int) (i : Nat) (v : Int) : (d.map intD).set i [D.cv (.int .i64 v)] = (d.set i v).map intD := by rw [List.map_set]; rfl
theorem set_bool (d : List Bool) (i : Nat) (v : Bool) : (d.map boolD).set i [D.cv (.bool v)] = (d.set i v).map boolD := by rw [List.map_set]; rfl
theorem shape_push (x : In) (h1 : 1 ≤ x.op) (h2 : x.op ≤ 20) (cs : List Value) (h : gcells 0 = some cs) : (cs.map V.cv)[0 + x.op.toNat * 6 + 5]? = some (int (pushN x)) := by
  obtain ⟨op, a, s, ks⟩ := x
  dsimp only at h1 h2
  cases h
  rcases op20 h1 h2 with h | h | h | h | h | h | h | h | h | h | h | h | h | h | h | h | h | h | h | h <;> subst h <;> rfl
theorem succs_len (x : In) (i : Nat) : (succs x i).length ≤ 2 := by
  unfold succs
  repeat' split
  all_goals simp
theorem st_int (d : List Int) (i : Nat) (h : i < d.length) (v : Int) : (d.map intD).set i ((intD d[i]).take 0 ++ [D.cv (.int .i64 v)] ++ (intD d[i]).drop (0 + 1)) = (d.set i v).map intD := by rw [← set_int]; rfl
theorem st_bool (d : List Bool) (i : Nat) (h : i < d.length) (v : Bool) : (d.map boolD).set i ((boolD d[i]).take 0 ++ [D.cv (.bool v)] ++ (boolD d[i]).drop (0 + 1)) = (d.set i v).map boolD := by rw [← set_bool]; rfl
set_option maxHeartbeats 8000000 in
set_option maxRecDepth 100000 in
theorem x_depths (c : Cd) (f : Fn) (d : List Int) (lo ed : Nat) (hn : f.en = lo) (he : f.ed = ed) (h3 : lo < ed) (h4 : ed ≤ c.is.length) (h5 : c.is.length ≤ 4000) (h6 : Rw c.is.length d) (hg : Goods c lo ed) :
    MCallsG true Tryz.prog 56 [cdV0 c, f.V, .ow 0 0] [.row 0 3 1 false (d.map intD)] (int (YtkpmlgpkmlhbjaaGreatDoor.run c lo ed c.is.length (d.set lo 0) (List.replicate c.is.length false)).1)
      [.row 0 3 1 false ((YtkpmlgpkmlhbjaaGreatDoor.run c lo ed c.is.length (d.set lo 0) (List.replicate c.is.length false)).2.map intD)] := by
  obtain ⟨bi, i1, i2, i3, i4⟩ := boolInfo
  obtain ⟨nm, ps, ls, en, ed_⟩ := f
  dsimp only at hn he
  subst hn he
  have hld : (d.map intD).length = c.is.length := by rw [List.length_map]; exact h6.len
  have hF := Fol.start (c := c) (lo := lo) (ed := ed) (h6.set lo (v := 0) (by omega) (by omega)) (by omega)
  generalize hR : YtkpmlgpkmlhbjaaGreatDoor.run c lo ed c.is.length (d.set lo 0) (List.replicate c.is.length false) = R at *
  have hlo : lo < d.length := by rw [h6.len]; omega
  change MCallsG true Tryz.prog 56 [.ag [.sl false 5 (c.fs.map fnD), .sl false 4 (c.is.map inD)], .ag [bstr nm, int ps, int ls, int lo, int ed], .ow 0 0] _ _ _
  refine mcalls_fix (sd := fun vs => vs.flatMap V.nm3) tok mixed Tryz.func56 (by kernel_rfl) (by kernel_rfl) (by kernel_rfl) ?_
  conv => whnf
  rw [show Tryz.f56.ntmps = 120 from rfl]
  refine ⟨_, _, ot_makeZ (n := c.is.length) (z := .bool false) (e := 4) (i := bi) rfl (by simp [evN, ev, V.nf, hld]) (by simp [evN, ev, V.nf, hld]) rfl rfl (by kernel_rfl) i1 i2 zF rfl i3 (by rw [i4]; omega) (by omega), ?_⟩
  rw [rep_bool]
  conv => whnf
  refine ⟨by omega, by rw [hld]; omega, ?_⟩
  conv => whnf
  refine ⟨_, get_map intD hlo, Nat.le_refl _, ?_⟩
  conv => whnf
  refine ⟨[], Nat × Nat × List Int × List Bool, fun ⟨n, i, d, fol⟩ => [(8, int i)], fun ⟨n, i, d, fol⟩ => [(120, some (.row fixV 3 1 false (d.map intD))), (17, some (.row 0 4 1 true (fol.map boolD)))], fun ⟨n, i, d, fol⟩ => Fol c lo ed R n i d fol, fun x => x.1 * (c.is.length + 2) + (ed - x.2.1), (c.is.length, lo, d.set lo 0, List.replicate c.is.length false), hF, ?_, ?_⟩
  · refine ⟨rfl, ?_, ?_⟩ <;> repeat' (first | exact trivial | exact rfl | refine and_rfl ?_ | exact st_int _ _ hlo _ | refine and_two ?_ ?_)
  clear hF hR hld h6 i1 i2 i3 i4
  rintro ⟨n, i, dd, fol⟩ (hF : Fol c lo ed R n i dd fol)
  have q1 := hF.ge
  have q2 := hF.le
  have hdl := hF.rw.len
  have hfl := hF.len
  have hmd : (dd.map intD).length = c.is.length := by rw [List.length_map]; exact hdl
  have hmf : (fol.map boolD).length = c.is.length := by rw [List.length_map]; exact hfl
  conv => whnf
  rintro (_ | _) k1
  · have k1 : i = ed := by simp at k1; omega
    subst k1
    rw [hF.end_]
    conv => whnf
    refine ⟨?_, rfl⟩
    conv => whnf
    exact ⟨rfl, rfl, rfl⟩
  have k1 : i < ed := by simpa using k1
  have hil : i < c.is.length := by omega
  have hid : i < dd.length := by omega
  have hif : i < fol.length := by omega
  have hgi := hg i hil q1 k1
  have hda := dAt_eq hid
  have hfa : fol.getD i true = fol[i] := by simp [hif]
  have hxa : c.is.getD i noIn = c.is[i] := by simp [hil]
  conv => whnf
  refine ⟨by omega, by rw [hmd]; omega, ?_⟩
  conv => whnf
  refine ⟨_, get_map intD hid, ?_⟩
  have skip : pen dd fol i = false → Fol c lo ed R n (i + 1) dd fol ∧ n * (c.is.length + 2) + (ed - (i + 1)) < n * (c.is.length + 2) + (ed - i) := fun h => ⟨hF.skip k1 h, by omega⟩
  have hw1 : IntKind.i64.wrap (((i : Nat) : Int) + 1) = ((i + 1 : Nat) : Int) := wrap_succ (by omega)
  conv => whnf
  rintro (_ | _) k2
  rotate_left
  · have k2 : dd[i] < 0 := by simpa using k2
    obtain ⟨s1, s2⟩ := skip (by unfold pen; rw [hda]; simp; intro; omega)
    conv => whnf
    refine ⟨(n, i + 1, dd, fol), s1, s2, ?_⟩
    refine ⟨rfl, ?_, ?_⟩ <;> repeat' (first | exact trivial | exact rfl | refine and_rfl ?_ | refine and_val hw1 ?_ | refine and_two ?_ ?_)
  have k2 : 0 ≤ dd[i] := by simp at k2; omega
  conv => whnf
  refine ⟨by omega, by rw [hmf]; omega, ?_⟩
  conv => whnf
  refine ⟨_, get_map boolD hif, ?_⟩
  conv => whnf
  rintro (_ | _) k3
  rotate_left
  · have k3 : fol[i] = true := k3
    obtain ⟨s1, s2⟩ := skip (by unfold pen; rw [hfa, k3]; simp)
    conv => whnf
    refine ⟨(n, i + 1, dd, fol), s1, s2, ?_⟩
    refine ⟨rfl, ?_, ?_⟩ <;> repeat' (first | exact trivial | exact rfl | refine and_rfl ?_ | refine and_val hw1 ?_ | refine and_two ?_ ?_)
  have k3 : fol[i] = false := k3
  clear skip
  have hp : pen dd fol i = true := by unfold pen; rw [hda, hfa, k3]; simpa using k2
  obtain ⟨m, rfl, hm⟩ := hF.pos hp
  conv => whnf
  refine ⟨by omega, by rw [hmf]; omega, ?_⟩
  conv => whnf
  refine ⟨_, get_map boolD hif, Nat.le_refl _, ?_⟩
  conv => whnf
  refine ⟨by omega, _, get_map inD hil, ?_⟩
  conv => whnf
  refine ⟨_, x_pops c c.is[i] hgi.h1 hgi.h2 hgi.h3, ?_⟩
  conv => whnf
  refine ⟨none, by kernel_rfl, ?_⟩
  conv => whnf
  refine ⟨by omega, by rw [hmd]; omega, ?_⟩
  conv => whnf
  refine ⟨_, get_map intD hid, ?_⟩
  conv => whnf
  refine ⟨by have := hgi.h1; omega, by have := hgi.h2; omega, ?_⟩
  conv => whnf
  split
  rotate_left
  · rename_i hv
    exact absurd hv (by rw [shape_push c.is[i] hgi.h1 hgi.h2 _ rfl]; simp)
  rename_i v hv
  have hv := (shape_push c.is[i] hgi.h1 hgi.h2 _ rfl).symm.trans hv
  cases hv
  have hpu := push_bound c.is[i]
  have hpo := hgi.h4
  have hpo2 := hgi.h5
  have hr0 := hF.rw.at i
  rw [hda] at hr0
  have haf : afterI c dd i = dd[i] - popsN c.fs c.is[i] + pushN c.is[i] := by unfold afterI; rw [hda, hxa]
  have hw2 : IntKind.i64.wrap (IntKind.i64.wrap (dd[i] - popsN c.fs c.is[i]) + pushN c.is[i]) = afterI c dd i := by
    rw [haf, IntWalk.i64_in (dd[i] - popsN c.fs c.is[i]) (by omega), IntWalk.i64_in _ (by omega)]
  have hbd : badI c dd i = (decide (popsN c.fs c.is[i] > dd[i]) || (c.is[i].op == 20 && dd[i] != 1) || decide (afterI c dd i > 64)) := by
    unfold badI; rw [hda, hxa]
  conv => whnf
  refine ⟨by omega, by rw [hmd]; omega, ?_⟩
  conv => whnf
  refine ⟨_, get_map intD hid, ?_⟩
  conv => whnf
  rintro (_ | _) k4
  rotate_left
  · have k4 : popsN c.fs c.is[i] > dd[i] := by simpa using k4
    have hR := hF.bad k1 hp (by rw [hbd]; simp [k4])
    subst hR
    conv => whnf
    refine ⟨?_, rfl⟩
    conv => whnf
    exact ⟨rfl, rfl, rfl⟩
  have k4 : ¬ popsN c.fs c.is[i] > dd[i] := by simpa using k4
  have last : (c.is[i].op == 20 && dd[i] != 1) = false → badI c dd i = decide (afterI c dd i > 64) := by
    intro h
    rw [hbd, h, show decide (popsN c.fs c.is[i] > dd[i]) = false from decide_eq_false k4]; rfl
  conv => whnf
  rintro (_ | _) k5
  have k8 := last (by rw [show (c.is[i].op == 20) = false from k5]; rfl)
  rotate_left
  have k5 : c.is[i].op = 20 := by simpa using k5
  conv => whnf
  refine ⟨by omega, by rw [hmd]; omega, ?_⟩
  conv => whnf
  refine ⟨_, get_map intD hid, ?_⟩
  conv => whnf
  rintro (_ | _) k6
  rotate_left
  · have k6 : (dd[i] != 1) = true := k6
    have hR := hF.bad k1 hp (by rw [hbd, k5, k6]; simp)
    subst hR
    conv => whnf
    refine ⟨?_, rfl⟩
    conv => whnf
    exact ⟨rfl, rfl, rfl⟩
  rotate_left
  have k8 := last (by rw [show (dd[i] != 1) = false from k6]; simp)
  clear k5
  all_goals
    clear last hbd
    conv => whnf
    rw [hw2]
    rintro (_ | _) k7
    rotate_left
    · have k7 : afterI c dd i > 64 := by simpa using k7
      have hR := hF.bad k1 hp (by rw [k8]; simpa using k7)
      subst hR
      conv => whnf
      refine ⟨?_, rfl⟩
      conv => whnf
      exact ⟨rfl, rfl, rfl⟩
    have k7 : ¬ afterI c dd i > 64 := by simpa using k7
    have hb : badI c dd i = false := by rw [k8]; exact decide_eq_false k7
    clear k8
    have hsuc : succs (c.is.getD i noIn) i = succs c.is[i] i := by rw [hxa]
    obtain ⟨ab1, ab2⟩ : 0 ≤ afterI c dd i ∧ afterI c dd i ≤ 64 := by omega
    conv => whnf
    refine ⟨_, x_succ c.is[i] i hgi.h1 hgi.h2 (by omega), ?_⟩
    have hml : ((succs c.is[i] i).map intD).length = (succs c.is[i] i).length := List.length_map _
    have hS0 := Suc.start (c := c) (af := afterI c dd i) (ks := succs (c.is.getD i noIn) i) hF.rw q1
    conv => whnf
    rw [hw1]
    refine ⟨[], Nat × Int × List Int, fun ⟨m, least, d⟩ => [(93, int m), (12, int least)], fun ⟨m, least, d⟩ => [(120, some (.row fixV 3 1 false (d.map intD)))],
      fun ⟨m, least, d⟩ => Suc c lo (setS (afterI c dd i) (succs (c.is.getD i noIn) i) dd) (afterI c dd i) i dd (succs (c.is.getD i noIn) i) m least d, fun x => (succs c.is[i] i).length - x.1, (0, (i : Int) + 1, dd), hS0, ?_, ?_⟩
    · refine ⟨rfl, ?_, ?_⟩ <;> repeat' (first | exact trivial | exact rfl | refine and_rfl ?_ | refine and_two ?_ ?_)
    rintro ⟨k, least, d2⟩ (hS : Suc c lo (setS (afterI c dd i) (succs (c.is.getD i noIn) i) dd) (afterI c dd i) i dd (succs (c.is.getD i noIn) i) k least d2)
    rw [hsuc] at hS
    have hd2 := hS.rw.len
    have hm2 : (d2.map intD).length = c.is.length := by rw [List.length_map]; exact hd2
    have hS1 := hS.ge
    have hS2 := hS.le
    conv => whnf
    rintro (_ | _) k9
    · have k9 : (succs c.is[i] i).length ≤ k := by rw [← hml]; simpa using k9
      have hl : least ≤ ed := by omega
      have hN := hF.next k1 hp hb hm (by rw [hsuc]; exact hS) (by rw [hsuc]; exact k9) hl
      conv => whnf
      refine ⟨(m, least.toNat, d2, fol.set i true), hN, ?_, ?_⟩
      · dsimp only
        rw [Nat.succ_mul]
        omega
      refine ⟨rfl, ?_, ?_⟩ <;> repeat' (first | exact trivial | exact rfl | refine and_rfl ?_ | refine and_val (show least = ((least.toNat : Nat) : Int) by omega) ?_ | exact st_bool _ _ hif _ | refine and_two ?_ ?_)
    have k9 : k < (succs c.is[i] i).length := by rw [← hml]; simpa using k9
    have hk6 := hgi.h6 _ (List.getElem_mem k9)
    have hkl : ((succs c.is[i] i)[k]).toNat < d2.length := by omega
    have hdk := dAt_eq hkl
    have hw3 : IntKind.i64.wrap (((k : Nat) : Int) + 1) = ((k + 1 : Nat) : Int) := wrap_succ (by
      have := succs_len c.is[i] i
      omega)
    conv => whnf
    refine ⟨by omega, _, get_map intD k9, ?_⟩
    conv => whnf
    refine ⟨by omega, by rw [hm2]; omega, ?_⟩
    conv => whnf
    refine ⟨_, get_map intD hkl, ?_⟩
    conv => whnf
    rintro (_ | _) kA
    rotate_left
    conv => whnf
    refine ⟨by omega, by rw [hm2]; omega, ?_⟩
    conv => whnf
    refine ⟨_, get_map intD hkl, ?_⟩
    conv => whnf
    rintro (_ | _) kB
    rotate_left
    · have kA : 0 ≤ d2[((succs c.is[i] i)[k]).toNat] := by simpa using kA
      have kB : d2[((succs c.is[i] i)[k]).toNat] ≠ afterI c dd i := by simpa using kB
      have hR := hF.conf k1 hp hb (by rw [hsuc]; exact hS) (m := k) (by rw [hsuc]; exact k9) (by simp only [hsuc]; rw [hdk]; exact ⟨kA, kB⟩)
      simp only [hsuc] at hR
      subst hR
      conv => whnf
      refine ⟨?_, rfl⟩
      conv => whnf
      exact ⟨rfl, rfl, rfl⟩
    have kC : ¬ (dAt d2 ((succs c.is[i] i)[k]).toNat ≥ 0 ∧ dAt d2 ((succs c.is[i] i)[k]).toNat ≠ afterI c dd i) := by rw [hdk]; simp at kA; omega
    rotate_left
    have kC : ¬ (dAt d2 ((succs c.is[i] i)[k]).toNat ≥ 0 ∧ dAt d2 ((succs c.is[i] i)[k]).toNat ≠ afterI c dd i) := by rw [hdk]; simp at kB; simp [kB]
    all_goals
      clear kA
      conv => whnf
      refine ⟨by omega, by rw [hm2]; omega, ?_⟩
      conv => whnf
      refine ⟨_, get_map intD hkl, Nat.le_refl _, ?_⟩
      conv => whnf
      refine ⟨(k + 1, _, d2.set ((succs c.is[i] i)[k]).toNat (afterI c dd i)), (by rw [hsuc]; exact hS.step k9 kC (by omega) ab2 hk6.1), by dsimp only; omega, ?_⟩
      refine ⟨rfl, ?_, ?_⟩ <;> repeat' (first | exact trivial | exact rfl | refine and_rfl ?_ | refine and_val hw3 ?_ | (rw [hw2]; exact st_int _ _ hkl _) | exact st_int _ _ hkl _ | refine and_two ?_ ?_)
end Go.Proofs.YtkpmlgpkmlhbjaaGreatDoor
