/- Texts joined by pack.py: XSxE2 XFf0 XFc0 XFc1 XFc2 XFc3 -/
import Derived.Test.YtmlednjhemnncaaFs14
import Derived.Laws.StructEq
import Derived.Test.YtmlednjhemnncaaFs27
import Derived.Test.YtmlednjhemnncaaFs29
import Derived.Test.YtmlednjhemnncaaFs26
namespace Go.Proofs.Ytmlednjhemnncaa
open Go.RowKit
def kindOk (T : Tab) (ty : Nat) (x y : Value) : Bool :=
  match T ty with
  | some ⟨_, _, false, _, .int _⟩ => match x, y with | .int k _, .int k' _ => decide (k = k') | _, _ => false
  | some ⟨_, _, false, _, .string⟩ => match x, y with | .string _, .string _ => true | _, _ => false
  | some ⟨_, _, false, _, .bool⟩ => match x, y with | .bool _, .bool _ => true | _, _ => false
  | _ => false
def eqPl : List Value → List Value → Bool
  | .int _ a :: xs, .int _ b :: ys => (a == b) && eqPl xs ys
  | .string a :: xs, .string b :: ys => (a.toList == b.toList) && eqPl xs ys
  | .bool a :: xs, .bool b :: ys => (a == b) && eqPl xs ys
  | _, _ => true
def okPl (T : Tab) : List (String × Nat × Nat) → Nat → List Value → List Value → Bool
  | [], _, [], [] => true
  | (n, ty, o) :: sp, off, x :: xs, y :: ys => n != "_" && (o == off && (kindOk T ty x y && okPl T sp (off + 1) xs ys))
  | _, _, _, _ => false
theorem dropE_cons {α : Type} {xs : List α} {off : Nat} {x : α} {l : List α} (h : xs.drop off = x :: l) : xs[off]? = some x ∧ xs.drop (off + 1) = l := by
  constructor
  · have := List.getElem?_drop (xs := xs) (i := off) (j := 0)
    rw [h] at this; simpa using this.symm
  · rw [← List.drop_drop, h]; rfl
theorem eqFields_run {P : Program} {T : Tab} (hT : TOk P T) (w : World) (d : Nat) (xs ys : Array Value) : ∀ (fs : List Field) (sp : List (String × Nat × Nat)) (off : Nat) (l1 l2 : List Value), fs.map (fun f => (f.name, f.type, f.offset)) = sp →
    xs.toList.drop off = l1 → ys.toList.drop off = l2 → okPl T sp off l1 l2 = true → (Op.eqFields (d + 1) xs ys fs).run P w = .ok (eqPl l1 l2) w := by
  intro fs
  induction fs with
  | nil =>
    intro sp off l1 l2 hsp h1 h2 hok
    subst hsp
    cases l1 <;> cases l2 <;> first | (cases hok; done) | simp [Op.eqFields, eqPl]
  | cons f fs ih =>
    intro sp off l1 l2 hsp h1 h2 hok
    subst hsp
    cases l1 with
    | nil => cases hok
    | cons x l1 =>
      cases l2 with
      | nil => cases hok
      | cons y l2 =>
        simp only [List.map_cons, okPl, Bool.and_eq_true, beq_iff_eq] at hok
        obtain ⟨hn, ho, hk, hrest⟩ := hok
        obtain ⟨hx, hx'⟩ := dropE_cons h1
        obtain ⟨hy, hy'⟩ := dropE_cons h2
        have hr := ih _ (off + 1) l1 l2 rfl hx' hy' hrest
        have hn' : f.name ≠ "_" := by simpa using hn
        have step : ∀ (r : Bool), (part f.type xs f.offset).run P w = .ok x w → (part f.type ys f.offset).run P w = .ok y w → (Op.equalIn (d + 1) f.type x y).run P w = .ok r w → (Op.eqFields (d + 1) xs ys (f :: fs)).run P w = .ok (r && eqPl l1 l2) w := by
          intro r p1 p2 p3
          simp only [Op.eqFields, hn', ne_eq, not_false_eq_true, if_true, Sem.run_bind, p1, p2, p3, Result.andThen_ok, Sem.run_ite]
          cases r
          · simp
          · simp [hr]
        have part : ∀ {i : TI} {zs : Array Value} {z : Value}, T f.type = some i → i.agg = false → zs.toList[off]? = some z → (part f.type zs f.offset).run P w = .ok z w := by
          intro i zs z hi hag hz
          rw [Array.getElem?_toList] at hz
          simp [Go.part, hT.agg hi, hag, ho, hz]
        unfold kindOk at hk
        split at hk
        · rename_i hti
          cases x <;> cases y <;> simp only at hk <;> try (cases hk; done)
          simp only [decide_eq_true_eq] at hk
          subst hk
          exact step _ (part hti rfl hx) (part hti rfl hy) (run_equalIn_int w d f.type _ _ _ _ (hT.kd_int hti rfl))
        · rename_i hti
          cases x <;> cases y <;> simp only at hk <;> try (cases hk; done)
          exact step _ (part hti rfl hx) (part hti rfl hy) (run_equalIn_string w d f.type _ _ (hT.kd_string hti rfl))
        · rename_i hti
          cases x <;> cases y <;> simp only at hk <;> try (cases hk; done)
          exact step _ (part hti rfl hx) (part hti rfl hy) (run_equalIn_bool' w d f.type _ _ (hT.kd_bool hti rfl))
        · cases hk
theorem eq_cells {w : World} {cs : List V} {us : Array Value} (h : RelV (fun _ => none) (fun _ _ => False) w (.ag cs) (.agg us)) {ws : List Value} (hv : valsL cs = some ws) : us = ws.toArray := by
  have := val2_eq h (u' := .agg ws.toArray) (by simp [V.val2, hv])
  cases this; rfl
theorem eq_ok {ty : Nat} {xs ys : List V} {us vs : List Value} {sp : List (String × Nat × Nat)} (hx : valsL xs = some us) (hy : valsL ys = some vs) (ht : Try.prog.underlying ty = some (.struct (Try.prog.fieldsOf ty))) (hp : Try.prog.stoodInHeld ty = false) (hg : Try.prog.eqGuardType Try.prog.depth ty = false)
    (hf : (Try.prog.fieldsOf ty).toList.map (fun f => (f.name, f.type, f.offset)) = sp) (hok : okPl TT sp 0 us vs = true) : EqOk Try.prog ty xs ys (eqPl us vs) := by
  intro w us' vs' hu hv
  have e1 := eq_cells hu hx
  have e2 := eq_cells hv hy
  subst e1 e2
  refine ⟨?_, hg⟩
  rw [Op.equal, show Op.maxDepth = 9998 + 1 + 1 from rfl, run_equalIn_agg w (9998 + 1) ty _ _ ht hp]
  exact eqFields_run tok w 9998 _ _ _ sp 0 us vs hf rfl rfl hok
end Go.Proofs.Ytmlednjhemnncaa
namespace Go.Proofs.Ytmlednjhemnncaa
open Go.RowKit
abbrev rmem (s : Qs) : List Bk := rM s.q s.tu s.W s.R
section
variable {s : Qs}
theorem Qs.fine.rq (hf : s.fine) : RqOk s := by
  have h1 := hf.q1
  have h2 := hf.q2
  have h3 := hf.wl
  have h4 := hf.size
  have h5 := hf.ln
  exact ⟨by omega, by omega, by omega, by omega, fun a ha => by have := hf.jsize ha; omega⟩
theorem c_rpush (hf : s.fine) (j : Jb) (h1 : j.id.size ≤ maxLen) (h2 : j.tn.size ≤ maxLen) : MCalls Try.prog 11 [.bx 0 0, j.V] (rmem s) (int (pushE s j)) (rmem (s.push j)) := by
  have hk := push_keeps s j
  by_cases he : pushE s j = 0
  · have hR : (s.push j).R = pushR s.R j := by unfold Qs.push; rw [if_pos he]
    unfold rmem
    rw [hk.1, hk.2.1, hk.2.2, hR, he]
    rcases idxA_spec s.R j.tn 0 with ⟨g1, g2⟩ | ⟨p, a, g1, g2, g3, g4, g5⟩
    · rw [pushR_none g1]
      exact x_rpush1 s hf.rq j h1 h2 he g1
    · obtain ⟨hp, g6⟩ := List.getElem?_eq_some_iff.1 g3
      rw [pushR_set g3 g4 g5, ← g6]
      exact x_rpush2 s hf.rq j h1 h2 he p hp (by rw [g2, Nat.zero_add])
  · have hs : s.push j = s := by unfold Qs.push; rw [if_neg he]
    rw [hs]
    exact mcalls_weak (x_rpush0 s hf.rq j h1 h2 he)
theorem c_rweigh (hf : s.fine) (t : ByteArray) (n : Int) (ht : t.size ≤ maxLen) : MCalls Try.prog 13 [.bx 0 0, str t, int n] (rmem s) (int (weighE s t n)) (rmem (s.weigh t n)) := by
  have h := x_rweigh s (by have := hf.q1; omega) t n ht hf.rq.W hf.rq.R
  have e : (s.weigh t n).q = s.q ∧ (s.weigh t n).tu = s.tu ∧ (s.weigh t n).R = s.R := by unfold Qs.weigh; split <;> exact ⟨rfl, rfl, rfl⟩
  unfold rmem
  rw [e.1, e.2.1, e.2.2]
  exact h
theorem c_rpop (hf : s.fine) : MCalls Try.prog 18 [.bx 0 0] (rmem s) (.tu [(s.pop.1.getD Jb.zero).V, boo s.pop.1.isSome]) (rmem s.pop.2) := by
  have hk := pop_keeps (s.mu + 1) s
  have h := x_rpop hf (P := s.pop) rfl
  unfold rmem
  rw [show s.pop.2.q = s.q from hk.1, show s.pop.2.W = s.W from hk.2]
  exact h
theorem c_rdrop0 (hf : s.fine) {t : ByteArray} (h : findA s.R t = none) : MCallsG true Try.prog 16 [.bx 0 0, str t] (rmem s) (.sl true 3 []) (rmem s) := by
  rcases idxA_spec s.R t 0 with ⟨g1, g2⟩ | ⟨p, a, g1, _⟩
  · exact x_rdrop0 s.q (by have := hf.q1; omega) s.tu s.W s.R t hf.rq.R g2
  · rw [h] at g1; cases g1
theorem c_rdrop1 (hf : s.fine) {t : ByteArray} {a : Ac} (h : findA s.R t = some a) : MCalls Try.prog 16 [.bx 0 0, str t] (rmem s) (.ow 3 0) (rmem (s.drop t) ++ [.row 0 34 3 false (a.js.map jobD)]) := by
  rcases idxA_spec s.R t 0 with ⟨g1, _⟩ | ⟨p, b, g1, g2, g3, g4, g5⟩
  · rw [h] at g1; cases g1
  · rw [h] at g1; cases g1
    obtain ⟨hp, g6⟩ := List.getElem?_eq_some_iff.1 g3
    have hk := drop_keeps s t
    have hR : (s.drop t).R = s.R.take p ++ s.R.drop (p + 1) := by rw [← dropR_p g3 g4 g5]; unfold Qs.drop; split <;> rfl
    have hT : (s.drop t).tu = if p = 0 then false else s.tu := by
      unfold Qs.drop
      cases p with
      | zero =>
        have : headIs s.R t = true := by
          cases hc : s.R with
          | nil => rw [hc] at hp; simp at hp
          | cons b l => rw [hc] at g3; simp at g3; subst g3; simp [headIs, g4]
        rw [if_pos this, if_pos rfl]
      | succ p =>
        have : headIs s.R t = false := by
          cases hc : s.R with
          | nil => rw [hc] at hp; simp at hp
          | cons b l =>
            rw [hc] at g5
            simp only [List.take_succ_cons, List.map_cons, List.mem_cons, not_or] at g5
            simp [headIs, Ne.symm g5.1]
        rw [this, if_neg (Nat.succ_ne_zero p)]; rfl
    unfold rmem
    rw [hk.1, hk.2, hR, hT, ← g6]
    exact x_rdrop1 s.q (by have := hf.q1; omega) s.tu s.W s.R t hf.rq.R p hp (by rw [g2, Nat.zero_add])
theorem c_rlen (hf : s.fine) : MCallsG true Try.prog 20 [.bx 0 0] (rmem s) (int (lenR s.R)) (rmem s) :=
  x_rlen s.q (by have := hf.q1; omega) s.tu s.W s.R (by have := hf.rq.R; omega) hf.rq.l
theorem c_rbacklog (hf : s.fine) (t : ByteArray) : MCallsG true Try.prog 22 [.bx 0 0, str t] (rmem s) (int (costs (jobsOf s t))) (rmem s) := by
  have hjo : (jobsOf s t).length ≤ 1000000 ∧ ∀ j ∈ jobsOf s t, 0 ≤ j.co ∧ j.co ≤ 1000000000 := by
    unfold jobsOf
    cases hfa : findA s.R t with
    | none => simp
    | some a =>
      obtain ⟨ha, _⟩ := findA_some hfa
      have h1 := hf.jsize ha
      have h2 := hf.q2
      refine ⟨by simp; omega, fun j hj => ?_⟩
      have h3 := hf.own a ha j (by simpa using hj)
      omega
  exact x_rbacklog s.q (by have := hf.q1; omega) s.tu s.W s.R t (by have := hf.rq.R; omega) hjo.1 hjo.2
theorem c_rdeficit (hf : s.fine) (t : ByteArray) : MCallsG true Try.prog 24 [.bx 0 0, str t] (rmem s) (int (dfOf s t)) (rmem s) :=
  x_rdeficit s.q (by have := hf.q1; omega) s.tu s.W s.R t (by have := hf.rq.R; omega)
end
theorem eq_jobs (a b : Jb) : EqOk Try.prog 34 [str a.id, str a.tn, int a.co] [str b.id, str b.tn, int b.co] (eqPl [.string a.id, .string a.tn, .int .i64 a.co] [.string b.id, .string b.tn, .int .i64 b.co]) :=
  eq_ok rfl rfl (by kernel_rfl) (by kernel_rfl) (by kernel_rfl) (sp := [("ID", 9, 0), ("Tenant", 9, 1), ("Cost", 3, 2)]) (by kernel_rfl) rfl
theorem eqPl_job (a : Jb) : eqPl [.string a.id, .string a.tn, .int .i64 a.co] [.string a.id, .string a.tn, .int .i64 a.co] = true := by simp [eqPl]
set_option maxRecDepth 100000 in
theorem x_same (l : List Jb) (hl : l.length ≤ 8796093022207) : DCalls Try.prog 14 [.sl true 3 (l.map jobD), .sl true 3 (l.map jobD)] (boo true) := by
  refine sx Try.func14 (by kernel_rfl) ?_
  conv => whnf
  refine known false (by simp) ?_
  conv => whnf
  refine ⟨[], Nat, fun k => [(5, int k)], fun _ => [], fun k => k ≤ l.length, fun k => l.length - k, 0, by simp, ?_, ?_⟩
  · refine ⟨rfl, ?_, ?_⟩ <;> repeat' (first | exact trivial | exact rfl | refine and_rfl ?_ | refine and_two ?_ ?_)
  rintro k hk
  conv => whnf
  rintro (_ | _) h1
  · exact rfl
  simp at h1
  conv => whnf
  refine ⟨none, by kernel_rfl, ?_⟩
  conv => whnf
  refine ⟨by omega, _, get_map jobD h1, ?_⟩
  conv => whnf
  refine ⟨by omega, _, get_map jobD h1, ?_⟩
  conv => whnf
  refine ⟨_, eq_jobs l[k] l[k], ?_⟩
  conv => whnf
  refine known false (by rw [eqPl_job]; rfl) ?_
  conv => whnf
  refine ⟨k + 1, h1, by dsimp only; omega, ?_⟩
  refine ⟨rfl, ?_, ?_⟩ <;> repeat' (first | exact trivial | exact rfl | refine and_rfl ?_ | refine and_val (wrap_succ (by omega)) ?_ | refine and_two ?_ ?_)
end Go.Proofs.Ytmlednjhemnncaa
namespace Go.Proofs.Ytmlednjhemnncaa
open Go.RowKit
abbrev nilP : V := .cv (.pointer none)
set_option maxRecDepth 100000 in
theorem n_made : DCalls Try.prog 28 [nilP] (boo false) := by
  refine sxm [] Try.func28 (by kernel_rfl) ?_
  conv => whnf
  refine known false rfl ?_
  (conv => whnf) <;> rfl
end Go.Proofs.Ytmlednjhemnncaa
namespace Go.Proofs.Ytmlednjhemnncaa
open Go.RowKit
set_option maxRecDepth 100000 in
theorem x_job (i t : ByteArray) : DCalls Try.prog 27 [str i, str t] ((⟨i, t, 5⟩ : Jb).V) := by
  refine sxm [] Try.func27 (by kernel_rfl) ?_
  (conv => whnf) <;> rfl
end Go.Proofs.Ytmlednjhemnncaa
namespace Go.Proofs.Ytmlednjhemnncaa
open Go.RowKit
end Go.Proofs.Ytmlednjhemnncaa
namespace Go.Proofs.Ytmlednjhemnncaa
open Go.RowKit
abbrev sa : ByteArray := ⟨#[97]⟩
abbrev sb : ByteArray := ⟨#[98]⟩
def aw1 : Qs := (Qs.new 5).weigh sb 2
def aw2 : Qs := aw1.push ⟨⟨#[97, 49]⟩, sa, 5⟩
def aw3 : Qs := aw2.push ⟨⟨#[97, 50]⟩, sa, 5⟩
def aw4 : Qs := aw3.push ⟨⟨#[98, 49]⟩, sb, 5⟩
def aw5 : Qs := aw4.push ⟨⟨#[98, 50]⟩, sb, 5⟩
def aw6 : Qs := aw5.push ⟨⟨#[98, 51]⟩, sb, 5⟩
theorem ea1 : weighE (Qs.new 5) sb 2 = 0 := by kernel_rfl
theorem ea2 : pushE aw1 ⟨⟨#[97, 49]⟩, sa, 5⟩ = 0 := by kernel_rfl
theorem ea3 : pushE aw2 ⟨⟨#[97, 50]⟩, sa, 5⟩ = 0 := by kernel_rfl
theorem ea7 : pushE aw6 ⟨⟨#[98, 51]⟩, sa, 5⟩ = 6 := by kernel_rfl
theorem ea4 : pushE aw3 ⟨⟨#[98, 49]⟩, sb, 5⟩ = 0 := by kernel_rfl
theorem ea5 : pushE aw4 ⟨⟨#[98, 50]⟩, sb, 5⟩ = 0 := by kernel_rfl
theorem ea6 : pushE aw5 ⟨⟨#[98, 51]⟩, sb, 5⟩ = 0 := by kernel_rfl
theorem aw7 : aw6.push ⟨⟨#[98, 51]⟩, sa, 5⟩ = aw6 := by kernel_rfl
theorem ea8 : lenR aw6.R = 5 ∧ costs (jobsOf aw6 sb) = 15 ∧ dfOf aw6 sa = 0 := ⟨by kernel_rfl, by kernel_rfl, by kernel_rfl⟩
def pp1 : Qs := aw6.pop.2
def pp2 : Qs := pp1.pop.2
def pp3 : Qs := pp2.pop.2
def pp4 : Qs := pp3.pop.2
def pp5 : Qs := pp4.pop.2
theorem ep1 : aw6.pop.1 = some ⟨⟨#[97, 49]⟩, sa, 5⟩ := by kernel_rfl
theorem ep2 : pp1.pop.1 = some ⟨⟨#[98, 49]⟩, sb, 5⟩ := by kernel_rfl
theorem ep2d : dfOf pp2 sb = 5 := by kernel_rfl
theorem ep3 : pp2.pop.1 = some ⟨⟨#[98, 50]⟩, sb, 5⟩ := by kernel_rfl
theorem ep4 : pp3.pop.1 = some ⟨⟨#[97, 50]⟩, sa, 5⟩ := by kernel_rfl
theorem ep5 : pp4.pop.1 = some ⟨⟨#[98, 51]⟩, sb, 5⟩ := by kernel_rfl
theorem ep6 : pp5.pop.1 = none := by kernel_rfl
def pp6 : Qs := pp5.pop.2
theorem eq1 : pushE pp6 ⟨⟨#[99]⟩, ⟨#[67]⟩, 5⟩ = 4 := by kernel_rfl
theorem eq2 : pushE pp6 ⟨⟨#[99]⟩, ⟨#[99]⟩, 5001⟩ = 2 := by kernel_rfl
theorem eq3 : pushE pp6 ⟨⟨#[99]⟩, ⟨#[99]⟩, 5⟩ = 0 := by kernel_rfl
def aw8 : Qs := pp6.push ⟨⟨#[99]⟩, ⟨#[99]⟩, 5⟩
theorem eq4 : jobsOf aw8 ⟨#[99]⟩ = [⟨⟨#[99]⟩, ⟨#[99]⟩, 5⟩] := by kernel_rfl
def aw9 : Qs := aw8.drop ⟨#[99]⟩
theorem eq5 : lenR aw9.R = 0 := by kernel_rfl
end Go.Proofs.Ytmlednjhemnncaa
