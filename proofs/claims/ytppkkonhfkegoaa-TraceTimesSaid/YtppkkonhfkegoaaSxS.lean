/-
  A reader of code over states that name their own memory: functions that are lent memory of their caller's: a body that has been read.
-/
import Derived.Test.YtppkkonhfkegoaaSxQ
namespace Go.Proofs.Ytppkkonhfkegoaa
open Go.RowKit

def upto : Nat → Nat → List Nat
  | _, 0 => []
  | b, n + 1 => b :: upto (b + 1) n

def preB : List Nat → List Nat → Bool
  | [], _ => true
  | a :: l, b :: l' => match Nat.beq a b with
    | true => preB l l'
    | false => false
  | _ :: _, [] => false

def rawL (T : Tab) (t : List V) (m : List (Option Bk)) : List ResultVar → (List V → Prop) → Prop
  | [], K => K []
  | r :: l, K => match resV T t m r with
    | some v => v.k fun v => rawL T t m l fun vs => K (v :: vs)
    | none => False

def exL (T : Tab) (ρ : List Nat) (m : List (Option Bk)) : List V → List TypeId → List V
  | [], _ => []
  | v :: vs, ty :: tys => (v.ex ρ m).z (czs T 5 ty) :: exL T ρ m vs tys
  | v :: vs, [] => v.ex ρ m :: exL T ρ m vs []

def tupV : List V → V
  | [v] => v
  | vs => .tu vs

def kidsOf (m : List (Option Bk)) (n : Nat) : List Nat := match m[n]? with
  | some (some b) => b.names
  | _ => []

/-- What such a function leaves behind. -/
def DoneM (sd : List V → List Nat) (T : Tab) (fn : Func) (nl : Nat) (res : V) (m' : List Bk) : Ex → St → Prop
  | .exit _, _ => False
  | _, ⟨t, m⟩ => rawL T t m fn.results.toList fun vs => revK (reach m 64 ((upto fn.ntmps nl).flatMap (kidsOf m) ++ sd vs) (upto fn.ntmps nl).reverse) [] fun ρ =>
    (distinctB ρ && preB (upto fn.ntmps nl) ρ) = true ∧ exM ρ m ρ = some m' ∧ tupV (exL T ρ m vs fn.resultTypes.toList) = res

def enterMK (fn : Func) (args : List V) (m : List Bk) (K : St → Prop) : Prop :=
  forceAll (args.map (V.sh fn.ntmps) ++ List.replicate (fn.ntmps - args.length) .un) fun t => forceM (inM fn.ntmps m) fun m => K ⟨t, m⟩

def BodyM (sd : List V → List Nat) (P : Program) (T : Tab) (fn : Func) (args : List V) (m : List Bk) (res : V) (m' : List Bk) : Prop :=
  match fn.body with
  | some c => enterMK fn args m fun st => awp P T c st (DoneM sd T fn m.length res m')
  | none => False

section
variable {P : Program} {T : Tab} {B : Fr} {w0 : World} {N : Names} {S : Sets} {t t' : List V} {m m' : List (Option Bk)} {a : Act} {w : World} {ρ : List Nat}

theorem revK_eq : ∀ (l acc : List Nat) (K : List Nat → Prop), revK l acc K = K (l.reverse ++ acc)
  | [], acc, K => rfl
  | n :: l, acc, K => by simp [revK, revK_eq l]

theorem upto_get : ∀ (b n k : Nat), k < n → (upto b n)[k]? = some (b + k)
  | b, 0, k, h => by omega
  | b, n + 1, 0, h => by simp [upto]
  | b, n + 1, k + 1, h => by simp only [upto, List.getElem?_cons_succ]; rw [upto_get (b + 1) n k (by omega)]; congr 1; omega

theorem upto_length : ∀ (b n : Nat), (upto b n).length = n
  | b, 0 => rfl
  | b, n + 1 => by simp [upto, upto_length]

theorem preB_spec : ∀ {l l' : List Nat}, preB l l' = true → l.length ≤ l'.length ∧ ∀ (i n : Nat), l[i]? = some n → l'[i]? = some n
  | [], l', _ => ⟨by simp, fun i n h => by simp at h⟩
  | a :: l, [], h => by simp [preB] at h
  | a :: l, b :: l', h => by
    simp only [preB] at h
    split at h
    · rename_i hb
      have := Nat.eq_of_beq_eq_true hb
      subst this
      obtain ⟨h1, h2⟩ := preB_spec h
      refine ⟨by simp [h1], fun i n hi => ?_⟩
      cases i with
      | zero => simpa using hi
      | succ i => simpa using h2 i n (by simpa using hi)
    · cases h

theorem rawL_sound (hT : TOk P T) (hs : Sat B w0 N S t m a w) : ∀ (rs : List ResultVar) {K : List V → Prop}, rawL T t m rs K →
    ∃ us vs, (rs.mapM (resR a)).run P w = .ok us w ∧ RelL N S w vs us ∧ K vs
  | [], K, h => ⟨[], [], rfl, ⟨rfl, by simp⟩, h⟩
  | r :: rs, K, h => by
    simp only [rawL] at h
    split at h
    rotate_left
    · cases h
    rename_i v hv
    rw [k_eq] at h
    obtain ⟨u, h1, h2⟩ := resV_sound hT hs hv
    obtain ⟨us, vs, h3, h4, h5⟩ := rawL_sound hT hs rs h
    refine ⟨u :: us, v :: vs, ?_, ⟨by simp [h4.1], fun i v' hv' => ?_⟩, h5⟩
    · rw [List.mapM_cons]
      simp only [Sem.run_bind, h1, h3, Sem.run_pure, Result.andThen_ok]
    · cases i with
      | zero => simp at hv'; subst hv'; exact h2
      | succ i => simpa using h4.2 i v' (by simpa using hv')

theorem exL_rel (hs : Sat B w0 N S t m a w) (hρ : ∀ n ∈ ρ, ∃ b, m[n]? = some (some b)) : ∀ {vs : List V} {us : List Value} (tys : List TypeId), RelL N S w vs us → RelL (NamesOf (valsOf N ρ)) (newS B.old w0 w (valsOf N ρ)) w (exL T ρ m vs tys) us
  | [], us, tys, h => by
    have e : exL T ρ m [] tys = [] := by cases tys <;> rfl
    rw [e]
    exact ⟨h.1, fun i v hv => by simp at hv⟩
  | v :: vs, us, tys, h => by
    cases us with
    | nil => have := h.1; simp at this
    | cons u us =>
      have hv := ex_rel hs hρ (by simpa using h.2 0 v rfl)
      have htl : RelL N S w vs us := ⟨by simpa using h.1, fun i v' hv' => by simpa using h.2 (i + 1) v' (by simpa using hv')⟩
      have mk : ∀ {v' : V} {vs' : List V}, RelV (NamesOf (valsOf N ρ)) (newS B.old w0 w (valsOf N ρ)) w v' u → RelL (NamesOf (valsOf N ρ)) (newS B.old w0 w (valsOf N ρ)) w vs' us → RelL (NamesOf (valsOf N ρ)) (newS B.old w0 w (valsOf N ρ)) w (v' :: vs') (u :: us) := by
        intro v' vs' h1 h2
        refine ⟨by simp [h2.1], fun i x hx => ?_⟩
        cases i with
        | zero => simp at hx; subst hx; exact h1
        | succ i => simpa using h2.2 i x (by simpa using hx)
      cases tys with
      | nil => exact mk hv (exL_rel hs hρ [] htl)
      | cons ty tys => exact mk (z_rel _ hv) (exL_rel hs hρ tys htl)

/-- A FUNCTION THAT IS LENT MEMORY, WHOSE BODY HAS BEEN READ. -/
theorem mcalls_of {sd : List V → List Nat} (hT : TOk P T) (hm : P.follows .mixedOrders = true) {f : FuncId} {fn : Func} (hf : P.funcs[f]? = some fn) (hn : (fn.name == "runtime.NumGoroutine") = false) {args : List V} {m0 : List Bk} {res : V} {m1 : List Bk}
    (h16 : (decide (args.length ≤ fn.ntmps) && decide (m0.length ≤ 16)) = true) (h : BodyM sd P T fn args m0 res m1) : MCalls P f args m0 res m1 := by
  simp only [Bool.and_eq_true, decide_eq_true_eq] at h16
  unfold BodyM at h
  cases hb : fn.body with
  | none => rw [hb] at h; exact h.elim
  | some c =>
    rw [hb] at h
    refine ⟨⟨fn, hf, hn, by rw [hb]; rfl⟩, fun w vs ns So hmem hvs => ?_⟩
    simp only [enterMK, forceAll_eq, forceM_eq] at h
    refine calls_of_wp hf hb (Go.wp_mono (awp_sound (B := frM w ns So fn.ntmps) (w0 := w) hT hm rfl c _ _ w ⟨_, _, _, _, sat_enterM hmem hvs fn.ntmps h16.1 h16.2, h⟩) ?_)
    have key : ∀ (a : Act) (w' : World), OkSt (frM w ns So fn.ntmps) w (DoneM sd T fn m0.length res m1 .ret) a w' → a.defers = [] ∧ ∃ v, (results fn a.tmps).run P w' = .ok v w' ∧
        ∃ v' ns', Ending.returned v = .returned v' ∧ MemOk w.heap.size (newS So w w' ns') w' ns' m1 ∧ RelV (NamesOf ns') (newS So w w' ns') w' res v' ∧
          Low (fun g => g < w.heap.size ∧ ¬ blks ns g) w w' ∧ ns.length ≤ ns'.length ∧ (∀ (k : Nat) (a : Addr), ns[k]? = some (.pointer (some a)) → ns'[k]? = some (.pointer (some a))) ∧ (∀ g, blks ns' g → blks ns g ∨ w.heap.size ≤ g) ∧ (false = true → ∀ (k : Nat) (v : Value), ns[k]? = some v → ns'[k]? = some v) := by
      rintro a w' ⟨N, S, t, m, hs, h⟩
      simp only [DoneM] at h
      obtain ⟨us, vs', h1, h2, h3⟩ := rawL_sound hT hs _ h
      rw [revK_eq] at h3
      generalize (reach m 64 ((upto fn.ntmps m0.length).flatMap (kidsOf m) ++ sd vs') (upto fn.ntmps m0.length).reverse).reverse ++ [] = ρ at h3
      obtain ⟨h3, h4, h5⟩ := h3
      simp only [Bool.and_eq_true] at h3
      obtain ⟨hd, hp⟩ := h3
      have hρ := exM_mem h4
      have hok := exM_ok hs hd h4
      have hrel := exL_rel (T := T) hs hρ fn.resultTypes.toList h2
      obtain ⟨hp1, hp2⟩ := preB_spec hp
      rw [upto_length] at hp1
      have hrest : Low (fun g => g < w.heap.size ∧ ¬ blks ns g) w w' ∧ ns.length ≤ (valsOf N ρ).length ∧ (∀ (k : Nat) (a : Addr), ns[k]? = some (.pointer (some a)) → (valsOf N ρ)[k]? = some (.pointer (some a))) ∧ (∀ g, blks (valsOf N ρ) g → blks ns g ∨ w.heap.size ≤ g) ∧ (false = true → ∀ (k : Nat) (v : Value), ns[k]? = some v → (valsOf N ρ)[k]? = some v) := by
        refine ⟨hs.low, by rw [hmem.len]; simpa [valsOf] using hp1, fun k a hk => ?_, fun g hg => ?_, fun h => by cases h⟩
        · have hlt := lt_of_get hk
          rw [hmem.len] at hlt
          have := (hs.lent (fn.ntmps + k) a (by simp [frM, hk])).2.2
          exact valsOf_get (hp2 k _ (upto_get _ _ _ hlt)) this
        · obtain ⟨n, _, x, v, h6, h7⟩ := blks_valsOf hρ hs hg
          have := (hs.own n x v g h6 h7).1
          simp only [frM, not_and, Classical.not_not] at this
          rcases Nat.lt_or_ge g w.heap.size with h | h
          · exact .inl (this h)
          · exact .inr h
      have hrun : ∀ v, (if h : us.toArray.size = 1 then us.toArray[0] else .tuple us.toArray) = v → (results fn a.tmps).run P w' = .ok v w' := by
        intro v hv
        unfold results
        rw [Array.mapM_eq_mapM_toList]
        change Sem.run P (do
          let vs ← List.toArray <$> fn.results.toList.mapM (resR a)
          pure (if h : vs.size = 1 then vs[0] else Value.tuple vs)) w' = _
        simp only [Sem.run_bind, Sem.run_map, h1, Result.andThen_ok, Sem.run_pure, hv]
      refine ⟨hs.nodef, ?_⟩
      generalize exL T ρ m vs' fn.resultTypes.toList = rs at hrel h5
      subst h5
      unfold tupV
      split
      · rename_i v
        obtain ⟨u, rfl⟩ : ∃ u, us = [u] := by
          have := hrel.1
          match us, this with
          | [u], _ => exact ⟨u, rfl⟩
        exact ⟨u, hrun u rfl, u, valsOf N ρ, rfl, hok, by simpa [frM] using hrel.2 0 _ rfl, hrest⟩
      · rename_i hne
        have hsz : us.toArray.size ≠ 1 := by
          intro e
          have : us.length = 1 := by simpa using e
          have h4 := hrel.1
          rw [this] at h4
          match rs, h4 with
          | [v], _ => exact hne v rfl
        refine ⟨.tuple us.toArray, hrun _ (by rw [dif_neg hsz]), _, valsOf N ρ, rfl, hok, .tu _ _ (by simpa using hrel.1) fun i v hv => ?_, hrest⟩
        have := hrel.2 i v hv
        rw [← getD_toList]; simpa [frM] using this
    intro e a w' h
    cases e <;> simp only [QK] at h <;> first | exact h.elim | skip
    · exact key a w' h
    · obtain ⟨N, S, t, m, hs, h⟩ := h; exact h.elim
    · exact key a w' h

end
end Go.Proofs.Ytppkkonhfkegoaa
