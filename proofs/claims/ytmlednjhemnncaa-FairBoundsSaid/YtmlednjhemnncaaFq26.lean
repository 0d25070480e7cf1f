/- Texts joined by pack.py: XFc5 XFc6 XFc8 -/
import Derived.Test.YtmlednjhemnncaaFq25
import Derived.Test.YtmlednjhemnncaaFq24
namespace Go.Proofs.Ytmlednjhemnncaa
open Go.RowKit
section
set_option maxRecDepth 100000
end
structure Opf where
  k : Int
  j : Jb
  n : Int
def opfD (o : Opf) : List D := [.cv (.int .i64 o.k), .cv (.string o.j.id), .cv (.string o.j.tn), .cv (.int .i64 o.j.co), .cv (.int .i64 o.n)]
abbrev Opf.V (o : Opf) : V := .ag [int o.k, str o.j.id, str o.j.tn, int o.j.co, int o.n]
end Go.Proofs.Ytmlednjhemnncaa
namespace Go.Proofs.Ytmlednjhemnncaa
open Go.RowKit
theorem find_push (j : Jb) (t : ByteArray) : ∀ l : List Ac,
    ((findA (pushR l j) t).map (·.js)).getD [] = (if j.tn = t then ((findA l t).map (·.js)).getD [] ++ [j] else ((findA l t).map (·.js)).getD []) ∧ ((findA (pushR l j) t).map (·.df)).getD 0 = ((findA l t).map (·.df)).getD 0
  | [] => by
    simp only [pushR, findA]
    split <;> simp
  | a :: l => by
    obtain ⟨h1, h2⟩ := find_push j t l
    simp only [pushR]
    split
    · rename_i e
      simp only [findA]
      by_cases ha : a.tn = t
      · simp [ha, show j.tn = t from e ▸ ha]
      · have hj : j.tn ≠ t := fun h => ha (e.trans h)
        simp [ha, hj]
    · simp only [findA]
      by_cases ha : a.tn = t
      · have hj : j.tn ≠ t := fun h => by simp_all
        simp [ha, hj]
      · simp only [ha, if_false]
        exact ⟨h1, h2⟩
theorem lenR_push (j : Jb) : ∀ l : List Ac, lenR (pushR l j) = lenR l + 1
  | [] => by simp [pushR, lenR]
  | a :: l => by
    have := lenR_push j l
    simp only [pushR]
    split
    · simp only [lenR, List.length_append, List.length_singleton]; omega
    · simp only [lenR, this]; omega
theorem find_drop_ne {t u : ByteArray} (h : u ≠ t) : ∀ l : List Ac, findA (dropR l t) u = findA l u
  | [] => rfl
  | a :: l => by
    simp only [dropR, findA]
    split
    · rename_i e
      rw [if_neg (fun e' => h (e'.symm.trans e))]
    · simp only [findA, find_drop_ne h l]
theorem find_drop_eq {t : ByteArray} : ∀ l : List Ac, (l.map (·.tn)).Nodup → findA (dropR l t) t = none
  | [], _ => rfl
  | a :: l, h => by
    rw [List.map_cons, List.nodup_cons] at h
    simp only [dropR]
    split
    · rename_i e
      exact findA_none.2 (e ▸ h.1)
    · rename_i e
      simp only [findA, if_neg e, find_drop_eq l h.2]
theorem lenR_drop {t : ByteArray} : ∀ l : List Ac, lenR (dropR l t) = lenR l - (((findA l t).map (·.js)).getD []).length
  | [] => by simp [dropR, lenR, findA]
  | a :: l => by
    have := lenR_drop (t := t) l
    simp only [dropR, findA]
    split
    · simp only [lenR, Option.map_some, Option.getD_some]; omega
    · simp only [lenR, this]; omega
theorem jobs_push {s : Qs} {j : Jb} (he : pushE s j = 0) (t : ByteArray) : jobsOf (s.push j) t = if j.tn = t then jobsOf s t ++ [j] else jobsOf s t := by
  unfold jobsOf Qs.push
  rw [if_pos he]
  exact (find_push j t s.R).1
theorem df_push {s : Qs} {j : Jb} (t : ByteArray) : dfOf (s.push j) t = dfOf s t := by
  unfold dfOf Qs.push
  split
  · exact (find_push j t s.R).2
  · rfl
theorem len_push {s : Qs} {j : Jb} (he : pushE s j = 0) : lenR (s.push j).R = lenR s.R + 1 := by
  unfold Qs.push
  rw [if_pos he]
  exact lenR_push j s.R
theorem push_no {s : Qs} {j : Jb} (he : pushE s j ≠ 0) : s.push j = s := by unfold Qs.push; rw [if_neg he]
theorem weigh_R (s : Qs) (t : ByteArray) (n : Int) : (s.weigh t n).R = s.R ∧ (s.weigh t n).tu = s.tu := by unfold Qs.weigh; split <;> exact ⟨rfl, rfl⟩
theorem drop_R (s : Qs) (t : ByteArray) : (s.drop t).R = dropR s.R t := by unfold Qs.drop; split <;> rfl
theorem jobs_turn (s : Qs) (t : ByteArray) : jobsOf s.turn t = jobsOf s t ∧ lenR s.turn.R = lenR s.R := by
  unfold jobsOf Qs.turn
  cases hR : s.R with
  | nil => simp [hR]
  | cons a l =>
    dsimp only
    split
    · simp [hR]
    · refine ⟨?_, rfl⟩
      simp only [findA]
      split <;> rfl
theorem find_rot {a : Ac} {l : List Ac} (h : ((a :: l).map (·.tn)).Nodup) (t : ByteArray) : findA (l ++ [a]) t = findA (a :: l) t := by
  rw [List.map_cons, List.nodup_cons] at h
  have key : ∀ l : List Ac, findA (l ++ [a]) t = match findA l t with | some b => some b | none => if a.tn = t then some a else none := by
    intro l
    induction l with
    | nil => rfl
    | cons b l ih =>
      simp only [List.cons_append, findA]
      split
      · rfl
      · exact ih
  rw [key]
  simp only [findA]
  by_cases ha : a.tn = t
  · rw [if_pos ha]
    have : findA l t = none := findA_none.2 (ha ▸ h.1)
    rw [this]
    simp [ha]
  · rw [if_neg ha]
    cases findA l t <;> simp [ha]
theorem findA_head {a : Ac} {l : List Ac} : findA (a :: l) a.tn = some a := by simp [findA]
theorem findA_tail {a : Ac} {l : List Ac} {t : ByteArray} (h : t ≠ a.tn) : findA (a :: l) t = findA l t := by
  simp only [findA]
  rw [if_neg (Ne.symm h)]
theorem serve_jobs {s : Qs} (h : s.fine) (hR0 : s.R ≠ []) :
    (s.turn.serve.1 = none ∧ (∀ t, jobsOf s.turn.serve.2 t = jobsOf s t) ∧ lenR s.turn.serve.2.R = lenR s.R) ∨
    ∃ j, s.turn.serve.1 = some j ∧ jobsOf s j.tn = j :: jobsOf s.turn.serve.2 j.tn ∧ (∀ t, t ≠ j.tn → jobsOf s.turn.serve.2 t = jobsOf s t) ∧ lenR s.turn.serve.2.R + 1 = lenR s.R := by
  have ht := h.turn
  have e1 := fun t => (jobs_turn s t).1
  have e2 := (jobs_turn s ⟨#[]⟩).2
  have hne := turn_ne hR0
  simp only [← e1, ← e2]
  generalize s.turn = s1 at *
  unfold Qs.serve
  cases hR : s1.R with
  | nil => exact absurd hR hne
  | cons a l =>
    have ha : a ∈ s1.R := by rw [hR]; exact List.mem_cons_self
    have hnd := ht.Rk
    rw [hR] at hnd
    cases hjs : a.js with
    | nil => exact absurd hjs (ht.js a ha)
    | cons j js =>
      have hj := ht.own a ha j (by rw [hjs]; exact List.mem_cons_self)
      simp only [hjs]
      have hj0 : jobsOf s1 j.tn = j :: js := by
        unfold jobsOf; rw [hR, hj.1, findA_head]; simp [hjs]
      by_cases hc : j.co ≤ a.df
      · rw [if_pos hc]
        refine .inr ⟨j, rfl, ?_, fun t htn => ?_, ?_⟩
        · rw [hj0]
          congr 1
          dsimp only
          split
          · rename_i e
            subst e
            rw [List.map_cons, List.nodup_cons] at hnd
            unfold jobsOf
            dsimp only
            rw [hj.1, findA_none.2 hnd.1]; rfl
          · unfold jobsOf
            dsimp only
            rw [hj.1]
            simp [findA]
        · have h3 : findA s1.R t = findA l t := by rw [hR]; exact findA_tail (by rw [← hj.1]; exact htn)
          unfold jobsOf
          rw [h3]
          dsimp only
          split
          · rfl
          · dsimp only
            rw [findA_tail (by dsimp only; rw [← hj.1]; exact htn)]
        · dsimp only
          split
          · rename_i e
            subst e
            simp only [lenR, hjs, List.length_singleton]; omega
          · simp only [lenR, hjs, List.length_cons]; omega
      · rw [if_neg hc]
        refine .inl ⟨rfl, fun t => ?_, ?_⟩
        · unfold jobsOf
          dsimp only
          rw [hR, find_rot hnd]
        · dsimp only
          rw [lenR_app]
          simp only [lenR]; omega
theorem pop_jobs : ∀ (n : Nat) {s : Qs}, s.fine →
    ((popF n s).1 = none ∧ (∀ t, jobsOf (popF n s).2 t = jobsOf s t) ∧ lenR (popF n s).2.R = lenR s.R) ∨
    ∃ j, (popF n s).1 = some j ∧ jobsOf s j.tn = j :: jobsOf (popF n s).2 j.tn ∧ (∀ t, t ≠ j.tn → jobsOf (popF n s).2 t = jobsOf s t) ∧ lenR (popF n s).2.R + 1 = lenR s.R
  | 0, s, _ => .inl ⟨rfl, fun _ => rfl, rfl⟩
  | n + 1, s, h => by
    unfold popF
    cases hR : s.R with
    | nil => exact .inl ⟨rfl, fun _ => rfl, by rw [hR]⟩
    | cons a l =>
      dsimp only
      have hR0 : s.R ≠ [] := by rw [hR]; simp
      have hsv := serve_jobs h hR0
      rw [← hR]
      split
      · rename_i j s' e
        rw [e] at hsv
        rcases hsv with ⟨h1, _⟩ | ⟨j', h1, h2, h3, h4⟩
        · cases h1
        · cases h1
          exact .inr ⟨j, rfl, h2, h3, h4⟩
      · rename_i s' e
        have hf' : s'.fine := by
          have := h.turn.serve (fun _ => turn_tu hR0)
          rw [e] at this; exact this
        rw [e] at hsv
        rcases hsv with ⟨_, h1, h2⟩ | ⟨j', h1, _⟩
        · rcases pop_jobs n hf' with ⟨g1, g2, g3⟩ | ⟨j, g1, g2, g3, g4⟩
          · exact .inl ⟨g1, fun t => (g2 t).trans (h1 t), g3.trans h2⟩
          · exact .inr ⟨j, g1, (h1 _).symm.trans g2, fun t ht => (g3 t ht).trans (h1 t), g4.trans h2⟩
        · cases h1
abbrev ofT (t : ByteArray) (l : List Jb) : List Jb := l.filter fun j => decide (j.tn = t)
structure Kp (l : List Jb) (s : Qs) : Prop where
  of : ∀ t, ofT t l = jobsOf s t
  ln : (l.length : Int) = lenR s.R
theorem Kp.new (q : Int) : Kp [] (Qs.new q) := ⟨fun _t => rfl, rfl⟩
theorem Kp.push {l : List Jb} {s : Qs} (h : Kp l s) {j : Jb} (he : pushE s j = 0) : Kp (l ++ [j]) (s.push j) := by
  refine ⟨fun t => ?_, ?_⟩
  · rw [jobs_push he, ← h.of t]
    simp only [ofT, List.filter_append]
    by_cases e : j.tn = t <;> simp [e]
  · rw [len_push he, ← h.ln]; simp
theorem Kp.weigh {l : List Jb} {s : Qs} (h : Kp l s) (t : ByteArray) (n : Int) : Kp l (s.weigh t n) :=
  ⟨fun u => by rw [h.of u]; unfold jobsOf; rw [(weigh_R s t n).1], by rw [(weigh_R s t n).1]; exact h.ln⟩
theorem first_at {t : ByteArray} {j : Jb} {r : List Jb} : ∀ {l : List Jb} (i : Int), ofT t l = j :: r →
    ∃ k, k < l.length ∧ firstF t l i = i + k ∧ l[k]? = some j ∧ ofT t (l.take k ++ l.drop (k + 1)) = r ∧ ∀ u, u ≠ t → ofT u (l.take k ++ l.drop (k + 1)) = ofT u l
  | [], _, h => by cases h
  | x :: l, i, h => by
    by_cases hx : x.tn = t
    · have h1 : ofT t (x :: l) = x :: ofT t l := by simp [ofT, hx]
      rw [h1] at h
      cases h
      refine ⟨0, by simp, ?_, rfl, rfl, fun u hu => ?_⟩
      · simp only [firstF]
        rw [if_pos (sEq_iff.2 hx)]; simp
      · have : j.tn ≠ u := fun e => hu (e.symm.trans hx)
        simp [ofT, this]
    · have h1 : ofT t (x :: l) = ofT t l := by simp [ofT, hx]
      rw [h1] at h
      obtain ⟨k, g1, g2, g3, g4, g5⟩ := first_at (i + 1) h
      refine ⟨k + 1, by simp; omega, ?_, by simpa using g3, ?_, fun u hu => ?_⟩
      · simp only [firstF]
        rw [if_neg (fun e => hx (sEq_iff.1 e)), g2]; push_cast; omega
      · simp only [List.take_succ_cons, List.drop_succ_cons, List.cons_append]
        simpa [ofT, hx] using g4
      · simp only [List.take_succ_cons, List.drop_succ_cons, List.cons_append]
        have := g5 u hu
        by_cases hxu : x.tn = u
        · simpa [ofT, hxu] using this
        · simpa [ofT, hxu] using this
theorem first_no {t : ByteArray} : ∀ {l : List Jb} (i : Int), ofT t l = [] → firstF t l i = -1
  | [], _, _ => rfl
  | x :: l, i, h => by
    by_cases hx : x.tn = t
    · have h1 : ofT t (x :: l) = x :: ofT t l := by simp [ofT, hx]
      rw [h1] at h; cases h
    · have h1 : ofT t (x :: l) = ofT t l := by simp [ofT, hx]
      rw [h1] at h
      simp only [firstF]
      rw [if_neg (fun e => hx (sEq_iff.1 e))]
      exact first_no (i + 1) h
theorem Kp.pop {l : List Jb} {s : Qs} (h : Kp l s) (hf : s.fine) :
    (s.pop.1 = none ∧ l = [] ∧ Kp l s.pop.2) ∨
    ∃ j k, s.pop.1 = some j ∧ k < l.length ∧ firstF j.tn l 0 = (k : Nat) ∧ l[k]? = some j ∧ Kp (l.take k ++ l.drop (k + 1)) s.pop.2 := by
  have hs := popF_some (s.mu + 1) hf (by omega)
  rcases pop_jobs (s.mu + 1) hf with ⟨h1, h2, h3⟩ | ⟨j, h1, h2, h3, h4⟩
  · refine .inl ⟨h1, ?_, fun t => (h.of t).trans (h2 t).symm, h.ln.trans h3.symm⟩
    rw [h1] at hs
    have hR : s.R = [] := by simpa using hs.symm
    have := h.ln
    rw [hR] at this
    exact List.eq_nil_of_length_eq_zero (by simpa [lenR] using this)
  · have h5 : ofT j.tn l = j :: jobsOf (popF (s.mu + 1) s).2 j.tn := (h.of _).trans h2
    obtain ⟨k, g1, g2, g3, g4, g5⟩ := first_at 0 h5
    refine .inr ⟨j, k, h1, g1, by rw [g2]; omega, g3, fun t => ?_, ?_⟩
    · by_cases e : t = j.tn
      · subst e; exact g4
      · rw [g5 t e, h.of t]; exact (h3 t e).symm
    · have := h.ln
      show _ = lenR (popF (s.mu + 1) s).2.R
      simp only [List.length_append, List.length_take, List.length_drop]
      omega
structure Kd (t : ByteArray) (s : Qs) (k : Nat) (l : List Jb) : Prop where
  of : ofT t l = (jobsOf s t).drop k
  ot : ∀ u, u ≠ t → ofT u l = jobsOf s u
  ln : (l.length : Int) + k = lenR s.R
theorem Kp.drop {l : List Jb} {s : Qs} (h : Kp l s) (t : ByteArray) : Kd t s 0 l := ⟨by rw [h.of]; rfl, fun u _ => h.of u, by rw [← h.ln]; simp⟩
theorem Kd.next {t : ByteArray} {s : Qs} {k : Nat} {l : List Jb} (h : Kd t s k l) (hk : k < (jobsOf s t).length) :
    ∃ n, n < l.length ∧ firstF t l 0 = (n : Nat) ∧ l[n]? = some (jobsOf s t)[k] ∧ Kd t s (k + 1) (l.take n ++ l.drop (n + 1)) := by
  have h1 := h.of
  rw [List.drop_eq_getElem_cons hk] at h1
  obtain ⟨n, g1, g2, g3, g4, g5⟩ := first_at 0 h1
  refine ⟨n, g1, by rw [g2]; omega, g3, g4, fun u hu => (g5 u hu).trans (h.ot u hu), ?_⟩
  have := h.ln
  simp only [List.length_append, List.length_take, List.length_drop]
  omega
theorem Kd.done {t : ByteArray} {s : Qs} {l : List Jb} (h : Kd t s (jobsOf s t).length l) (hf : s.fine) : firstF t l 0 = -1 ∧ Kp l (s.drop t) := by
  have h1 : ofT t l = [] := by rw [h.of]; simp
  refine ⟨first_no 0 h1, fun u => ?_, ?_⟩
  · by_cases e : u = t
    · subst e
      rw [h1]
      unfold jobsOf
      rw [drop_R, find_drop_eq _ hf.Rk]; rfl
    · rw [h.ot u e]
      unfold jobsOf
      rw [drop_R, find_drop_ne e]
  · have h2 := h.ln
    rw [drop_R, lenR_drop]
    unfold jobsOf at h2
    omega
theorem Kp.le {l : List Jb} {s : Qs} (h : Kp l s) (hf : s.fine) : l.length ≤ 256 := by
  have := h.ln
  have := hf.ln
  omega
end Go.Proofs.Ytmlednjhemnncaa
namespace Go.Proofs.Ytmlednjhemnncaa
open Go.RowKit
def ord (s : Qs) : List ByteArray := if s.tu then (tns s).tail ++ (tns s).take 1 else tns s
def bef : List ByteArray → ByteArray → ByteArray → Bool
  | [], _, _ => false
  | x :: l, b, a => if x = b then true else if x = a then false else bef l b a
def pot (s : Qs) (wa wb : Int) (A B : ByteArray) : Int := (if bef (ord s) B A then s.q * wa * wb else 0) - wb * dfOf s A + wa * dfOf s B
theorem bef_mid {x a b : ByteArray} (ha : x ≠ a) (hb : x ≠ b) : ∀ (l l' : List ByteArray), bef (l ++ x :: l') b a = bef (l ++ l') b a
  | [], l' => by simp [bef, ha, hb]
  | y :: l, l' => by
    simp only [List.cons_append, bef, bef_mid ha hb l l']
theorem bef_in {a b : ByteArray} : ∀ {l : List ByteArray} (r : List ByteArray), b ∈ l → a ∉ l → bef (l ++ r) b a = true
  | [], _, h, _ => by cases h
  | x :: l, r, h, ha => by
    simp only [List.cons_append, bef]
    split
    · rfl
    · rename_i hx
      rcases List.mem_cons.1 h with rfl | h
      · exact absurd rfl hx
      · rw [if_neg (fun e => ha (by simp [e]))]
        exact bef_in r h (fun h => ha (List.mem_cons_of_mem _ h))
theorem bef_not {a b : ByteArray} : ∀ {l : List ByteArray} (r : List ByteArray), a ∈ l → b ∉ l → bef (l ++ r) b a = false
  | [], _, h, _ => by cases h
  | x :: l, r, h, hb => by
    simp only [List.cons_append, bef]
    rw [if_neg (fun e => hb (by simp [e]))]
    split
    · rfl
    · rename_i hx
      rcases List.mem_cons.1 h with rfl | h
      · exact absurd rfl hx
      · exact bef_not r h (fun h => hb (List.mem_cons_of_mem _ h))
theorem tns_iff {s : Qs} {t : ByteArray} : t ∈ tns s ↔ ∃ a ∈ s.R, a.tn = t := by simp [tns]
theorem tns_jobs {s : Qs} (hf : s.fine) {t : ByteArray} : t ∈ tns s ↔ jobsOf s t ≠ [] := by
  unfold jobsOf
  constructor
  · intro h
    cases hfa : findA s.R t with
    | none => exact absurd h (findA_none.1 hfa)
    | some a => exact hf.js a (findA_some hfa).1
  · intro h
    cases hfa : findA s.R t with
    | none => rw [hfa] at h; exact absurd rfl h
    | some a => exact tns_iff.2 ⟨a, findA_some hfa⟩
theorem costs_nil {s : Qs} (hf : s.fine) (t : ByteArray) : costs (jobsOf s t) = 0 ↔ t ∉ tns s := by
  rw [tns_jobs hf]
  cases hj : jobsOf s t with
  | nil => simp [costs]
  | cons j l =>
    have : ∀ x ∈ j :: l, 1 ≤ x.co := by
      intro x hx
      rw [← hj] at hx
      unfold jobsOf at hx
      cases hfa : findA s.R t with
      | none => rw [hfa] at hx; cases hx
      | some a => rw [hfa] at hx; exact (hf.own a (findA_some hfa).1 x (by simpa using hx)).2.1
    have hp : ∀ l : List Jb, (∀ x ∈ l, 1 ≤ x.co) → 0 ≤ costs l := by
      intro l
      induction l with
      | nil => intro _; simp [costs]
      | cons y l ih => intro h; have := h y (by simp); have := ih fun x hx => h x (by simp [hx]); simp only [costs]; omega
    have h1 := this j (by simp)
    have h2 := hp l fun x hx => this x (by simp [hx])
    simp only [costs]
    constructor
    · intro h; omega
    · intro h; exact absurd (by simp) h
theorem tns_push : ∀ (l : List Ac) (j : Jb), ((pushR l j).map (·.tn) = l.map (·.tn) ∧ j.tn ∈ l.map (·.tn)) ∨ ((pushR l j).map (·.tn) = l.map (·.tn) ++ [j.tn] ∧ j.tn ∉ l.map (·.tn))
  | [], j => .inr (by simp [pushR])
  | a :: l, j => by
    simp only [pushR]
    split
    · rename_i e; exact .inl (by simp [e])
    · rename_i e
      rcases tns_push l j with ⟨h1, h2⟩ | ⟨h1, h2⟩
      · exact .inl ⟨by simp only [List.map_cons, h1], List.mem_cons_of_mem _ h2⟩
      · refine .inr ⟨by simp only [List.map_cons, h1, List.cons_append], ?_⟩
        simp only [List.map_cons, List.mem_cons, not_or]
        exact ⟨Ne.symm e, h2⟩
theorem pot_push {s : Qs} (_hf : s.fine) (j : Jb) {A B : ByteArray} {wa wb : Int} (hA : A ∈ tns s) (hB : B ∈ tns s) : pot (s.push j) wa wb A B = pot s wa wb A B := by
  unfold pot
  rw [df_push, df_push]
  by_cases he : pushE s j = 0
  rotate_left
  · rw [push_no he]
  have hq : (s.push j).q = s.q ∧ (s.push j).tu = s.tu ∧ (s.push j).R = pushR s.R j := by unfold Qs.push; rw [if_pos he]; exact ⟨rfl, rfl, rfl⟩
  have ho : bef (ord (s.push j)) B A = bef (ord s) B A := by
    unfold ord
    rw [hq.2.1]
    rcases tns_push s.R j with ⟨h1, _⟩ | ⟨h1, h2⟩
    · have : tns (s.push j) = tns s := by unfold tns; rw [hq.2.2]; exact h1
      rw [this]
    · have ht : tns (s.push j) = tns s ++ [j.tn] := by unfold tns; rw [hq.2.2]; exact h1
      have hja : j.tn ≠ A := fun e => h2 (e ▸ hA)
      have hjb : j.tn ≠ B := fun e => h2 (e ▸ hB)
      rw [ht]
      split
      · cases hR : tns s with
        | nil => rw [hR] at hA; cases hA
        | cons x l =>
          simp only [List.cons_append, List.tail_cons, List.take_succ_cons, List.take_zero, List.append_assoc]
          exact bef_mid hja hjb l [x]
      · have := bef_mid hja hjb (tns s) []
        simpa using this
  rw [ho, hq.1]
theorem pot_weigh (s : Qs) (t : ByteArray) (n : Int) {A B : ByteArray} {wa wb : Int} : pot (s.weigh t n) wa wb A B = pot s wa wb A B := by
  have h := weigh_R s t n
  have hq : (s.weigh t n).q = s.q := (weigh_W s t n).2
  unfold pot ord tns dfOf
  rw [h.1, h.2, hq]
theorem dropR_tns {t : ByteArray} : ∀ {l : List Ac}, (l.map (·.tn)).Nodup → t ∈ l.map (·.tn) → ∃ l1 l2, l.map (·.tn) = l1 ++ t :: l2 ∧ (dropR l t).map (·.tn) = l1 ++ l2
  | [], _, h => by cases h
  | a :: l, hn, h => by
    rw [List.map_cons, List.nodup_cons] at hn
    simp only [dropR]
    split
    · rename_i e; exact ⟨[], l.map (·.tn), by simp [e], by simp⟩
    · rename_i e
      rw [List.map_cons] at h
      rcases List.mem_cons.1 h with h | h
      · exact absurd h.symm e
      · obtain ⟨l1, l2, h1, h2⟩ := dropR_tns hn.2 h
        exact ⟨a.tn :: l1, l2, by simp [h1], by simp [h2]⟩
theorem df_drop {s : Qs} {t u : ByteArray} (h : u ≠ t) : dfOf (s.drop t) u = dfOf s u := by
  unfold dfOf
  rw [drop_R, find_drop_ne h]
theorem pot_drop {s : Qs} (hf : s.fine) {t A B : ByteArray} {wa wb : Int} (hA : A ≠ t) (hB : B ≠ t) : pot (s.drop t) wa wb A B = pot s wa wb A B := by
  unfold pot
  rw [df_drop hA, df_drop hB]
  have hq : (s.drop t).q = s.q := (drop_keeps s t).1
  rw [hq]
  by_cases ht : t ∈ tns s
  rotate_left
  · have h1 : dropR s.R t = s.R := dropR_none ht
    have h2 : headIs s.R t = false := by
      cases hR : s.R with
      | nil => rfl
      | cons a l =>
        simp only [headIs]
        exact decide_eq_false fun e => ht (tns_iff.2 ⟨a, by rw [hR]; simp, e⟩)
    have : s.drop t = s := by unfold Qs.drop; rw [h2, h1]; rfl
    rw [this]
  have ho : bef (ord (s.drop t)) B A = bef (ord s) B A := by
    obtain ⟨l1, l2, e1, e2⟩ := dropR_tns hf.Rk ht
    have et : tns (s.drop t) = l1 ++ l2 := by unfold tns; rw [drop_R]; exact e2
    have es : tns s = l1 ++ t :: l2 := e1
    unfold ord
    rw [et, es]
    have hm := fun x y => bef_mid (a := A) (b := B) (Ne.symm hA) (Ne.symm hB) x y
    cases l1 with
    | nil =>
      have hh : headIs s.R t = true := by
        cases hR : s.R with
        | nil => rw [tns, hR] at es; cases es
        | cons a l => rw [tns, hR] at es; simp only [List.map_cons, List.nil_append, List.cons.injEq] at es; simp [headIs, es.1]
      have htu : (s.drop t).tu = false := by unfold Qs.drop; rw [if_pos hh]
      rw [htu]
      simp only [Bool.false_eq_true, if_false, List.nil_append]
      split
      · simpa using (hm l2 []).symm
      · simpa using (hm [] l2).symm
    | cons x l1 =>
      have hh : headIs s.R t = false := by
        cases hR : s.R with
        | nil => rfl
        | cons a l =>
          have hnd := hf.Rk
          have es' : (s.R).map (·.tn) = x :: l1 ++ t :: l2 := e1
          rw [hR] at es' hnd
          simp only [List.map_cons, List.cons_append, List.cons.injEq] at es'
          simp only [headIs]
          refine decide_eq_false fun e => ?_
          rw [List.map_cons, List.nodup_cons] at hnd
          exact hnd.1 (by rw [es'.2, e]; simp)
      have htu : (s.drop t).tu = s.tu := by unfold Qs.drop; rw [if_neg (by rw [hh]; simp)]
      rw [htu]
      split
      · have h1 := hm l1 (l2 ++ [x])
        simpa using h1.symm
      · exact (hm (x :: l1) l2).symm
  rw [ho]
theorem dfOf_head {s : Qs} {a : Ac} {l : List Ac} (hR : s.R = a :: l) : dfOf s a.tn = a.df := by unfold dfOf; rw [hR, findA_head]; rfl
theorem dfOf_tail {s : Qs} {a : Ac} {l : List Ac} {t : ByteArray} (hR : s.R = a :: l) (h : t ≠ a.tn) : dfOf s t = ((findA l t).map (·.df)).getD 0 := by unfold dfOf; rw [hR, findA_tail h]
theorem pot_turn {s : Qs} (hf : s.fine) {A B : ByteArray} (hAB : A ≠ B) {wa wb : Int} (hA : A ∈ tns s) (hB : B ∈ tns s) (hwa : wtOf s.W A = wa) (hwb : wtOf s.W B = wb) : pot s.turn wa wb A B = pot s wa wb A B := by
  cases hR : s.R with
  | nil => rw [tns, hR] at hA; cases hA
  | cons a l =>
    cases htu : s.tu with
    | true => have : s.turn = s := by unfold Qs.turn; simp [hR, htu]
              rw [this]
    | false =>
      have hs : s.turn = { s with R := { a with df := a.df + shareOf s a.tn } :: l, tu := true } := by unfold Qs.turn; simp [hR, htu]
      have hnd := hf.Rk
      rw [hR, List.map_cons, List.nodup_cons] at hnd
      have hsh := share_eq s a.tn
      have ho : ord s = a.tn :: l.map (·.tn) := by unfold ord; rw [htu]; simp [tns, hR]
      have ho' : ord s.turn = l.map (·.tn) ++ [a.tn] := by rw [hs]; simp [ord, tns]
      have hd1 : dfOf s.turn a.tn = dfOf s a.tn + s.q * wtOf s.W a.tn := by
        rw [dfOf_head hR, hs, ← hsh]
        exact dfOf_head (a := { a with df := a.df + shareOf s a.tn }) rfl
      have hd2 : ∀ t, t ≠ a.tn → dfOf s.turn t = dfOf s t := fun t ht => by
        rw [dfOf_tail hR ht, hs]
        exact dfOf_tail (a := { a with df := a.df + shareOf s a.tn }) rfl ht
      have hq : s.turn.q = s.q := by rw [hs]
      have hmem : ∀ t, t ∈ tns s → t ≠ a.tn → t ∈ l.map (·.tn) := fun t ht hne => by
        rw [tns, hR, List.map_cons] at ht
        rcases List.mem_cons.1 ht with h | h
        · exact absurd h hne
        · exact h
      unfold pot
      rw [hq, ho, ho']
      by_cases ha : a.tn = A
      · have hBa : B ≠ a.tn := fun e => hAB (ha.symm.trans e.symm)
        have h1 : bef (l.map (·.tn) ++ [a.tn]) B A = true := bef_in _ (hmem B hB hBa) (ha ▸ hnd.1)
        have h2 : bef (a.tn :: l.map (·.tn)) B A = false := by
          simp only [bef]; rw [if_neg (Ne.symm hBa), if_pos ha]
        rw [h1, h2, hd2 B hBa, ← ha, hd1, ha, hwa]
        simp only [if_true, Bool.false_eq_true, if_false]
        rw [Int.mul_add, show wb * (s.q * wa) = s.q * wa * wb from Int.mul_comm _ _]
        omega
      · by_cases hb : a.tn = B
        · have hAa : A ≠ a.tn := fun e => ha e.symm
          have h1 : bef (l.map (·.tn) ++ [a.tn]) B A = false := bef_not _ (hmem A hA hAa) (hb ▸ hnd.1)
          have h2 : bef (a.tn :: l.map (·.tn)) B A = true := by
            simp only [bef]; rw [if_pos hb]
          rw [h1, h2, hd2 A hAa, ← hb, hd1, hb, hwb]
          simp only [if_true, Bool.false_eq_true, if_false]
          rw [Int.mul_add, show wa * (s.q * wb) = s.q * wa * wb by rw [Int.mul_comm wa, Int.mul_assoc, Int.mul_comm wb, ← Int.mul_assoc]]
          omega
        · have h1 := bef_mid ha hb (l.map (·.tn)) []
          have h2 := bef_mid ha hb [] (l.map (·.tn))
          simp only [List.append_nil, List.nil_append] at h1 h2
          rw [h1, h2, hd2 A (Ne.symm ha), hd2 B (Ne.symm hb)]
def costOf (t : ByteArray) : Option Jb → Int
  | some j => if j.tn = t then j.co else 0
  | none => 0
theorem pot_serve {s : Qs} (hf : s.fine) (htu : s.tu = true) {A B : ByteArray} (hAB : A ≠ B) {wa wb : Int} (hA : A ∈ tns s.serve.2) (hB : B ∈ tns s.serve.2) :
    pot s.serve.2 wa wb A B = pot s wa wb A B + wb * costOf A s.serve.1 - wa * costOf B s.serve.1 := by
  cases hR : s.R with
  | nil =>
    have : s.serve = (none, s) := by unfold Qs.serve; rw [hR]
    rw [this]; simp [costOf]
  | cons a l =>
    have ha0 : a ∈ s.R := by rw [hR]; exact List.mem_cons_self
    have hnd := hf.Rk
    rw [hR] at hnd
    have hnd' := hnd
    rw [List.map_cons, List.nodup_cons] at hnd
    cases hjs : a.js with
    | nil => exact absurd hjs (hf.js a ha0)
    | cons j js =>
      have hj := hf.own a ha0 j (by rw [hjs]; exact List.mem_cons_self)
      have ho : ord s = l.map (·.tn) ++ [a.tn] := by unfold ord; rw [htu]; simp [tns, hR]
      by_cases hc : j.co ≤ a.df
      · have hs : s.serve = (some j, if js = [] then { s with R := l, tu := false } else { s with R := { a with js := js, df := a.df - j.co } :: l }) := by
          unfold Qs.serve; simp only [hR, hjs]; rw [if_pos hc]
        rw [hs] at hA hB ⊢
        by_cases he : js = []
        · subst he
          simp only [if_true] at hA hB ⊢
          have hAa : A ≠ a.tn := fun e => hnd.1 (e ▸ hA)
          have hBa : B ≠ a.tn := fun e => hnd.1 (e ▸ hB)
          have h0 : costOf A (some j) = 0 ∧ costOf B (some j) = 0 := by
            simp only [costOf]
            rw [hj.1, if_neg (Ne.symm hAa), if_neg (Ne.symm hBa)]; exact ⟨rfl, rfl⟩
          rw [h0.1, h0.2]
          unfold pot
          have ho' : ord { s with R := l, tu := false } = l.map (·.tn) := by simp [ord, tns]
          have h1 := bef_mid (a := A) (b := B) (Ne.symm hAa) (Ne.symm hBa) (l.map (·.tn)) []
          simp only [List.append_nil] at h1
          rw [ho, ho', h1, dfOf_tail hR hAa, dfOf_tail hR hBa]
          simp [dfOf]
        · simp only [if_neg he] at hA hB ⊢
          have ho' : ord { s with R := { a with js := js, df := a.df - j.co } :: l } = l.map (·.tn) ++ [a.tn] := by unfold ord; simp only [htu]; simp [tns]
          have d1 : dfOf { s with R := { a with js := js, df := a.df - j.co } :: l } a.tn = dfOf s a.tn - j.co := by
            rw [dfOf_head hR]; exact dfOf_head (a := { a with js := js, df := a.df - j.co }) rfl
          have d2 : ∀ t, t ≠ a.tn → dfOf { s with R := { a with js := js, df := a.df - j.co } :: l } t = dfOf s t := fun t ht => by
            rw [dfOf_tail hR ht]; exact dfOf_tail (a := { a with js := js, df := a.df - j.co }) rfl ht
          unfold pot
          rw [ho, ho']
          simp only [costOf]
          rw [hj.1]
          by_cases haA : a.tn = A
          · have hBa : B ≠ a.tn := fun e => hAB (haA.symm.trans e.symm)
            rw [d2 B hBa, ← haA, d1, if_pos rfl, if_neg (Ne.symm hBa), Int.mul_sub]
            try dsimp only
            omega
          · by_cases haB : a.tn = B
            · rw [d2 A (Ne.symm haA), ← haB, d1, if_pos rfl, if_neg haA, Int.mul_sub]
              try dsimp only
              omega
            · rw [d2 A (Ne.symm haA), d2 B (Ne.symm haB), if_neg haA, if_neg haB]
              try dsimp only
              omega
      · have hs : s.serve = (none, { s with R := l ++ [a], tu := false }) := by
          unfold Qs.serve; simp only [hR, hjs]; rw [if_neg hc]
        rw [hs]
        have ho' : ord { s with R := l ++ [a], tu := false } = l.map (·.tn) ++ [a.tn] := by simp [ord, tns]
        have d1 : ∀ t, dfOf { s with R := l ++ [a], tu := false } t = dfOf s t := fun t => by
          unfold dfOf; dsimp only; rw [hR, find_rot hnd']
        unfold pot
        rw [ho, ho', d1, d1]
        simp [costOf]
theorem turn_tns (s : Qs) : tns s.turn = tns s ∧ s.turn.W = s.W ∧ s.turn.q = s.q := by
  unfold tns Qs.turn
  cases hR : s.R with
  | nil => simp [hR]
  | cons a l =>
    dsimp only
    split
    · simp [hR]
    · simp
theorem serve_W (s : Qs) : s.serve.2.W = s.W ∧ s.serve.2.q = s.q := by
  unfold Qs.serve
  cases hR : s.R with
  | nil => exact ⟨rfl, rfl⟩
  | cons a l =>
    dsimp only
    cases a.js with
    | nil => exact ⟨rfl, rfl⟩
    | cons j js =>
      dsimp only
      split
      · dsimp only; split <;> exact ⟨rfl, rfl⟩
      · exact ⟨rfl, rfl⟩
theorem serve_tns (s : Qs) : (∀ t, t ∈ tns s.serve.2 → t ∈ tns s) ∧ (s.serve.1 = none → ∀ t, t ∈ tns s → t ∈ tns s.serve.2) := by
  unfold Qs.serve
  cases hR : s.R with
  | nil => exact ⟨fun _ h => h, fun _ _ h => h⟩
  | cons a l =>
    dsimp only
    cases hjs : a.js with
    | nil => exact ⟨fun _ h => h, fun _ _ h => h⟩
    | cons j js =>
      dsimp only
      split
      · refine ⟨fun t h => ?_, fun h => by cases h⟩
        dsimp only at h
        split at h
        · simp only [tns] at h; simp only [tns, hR, List.map_cons]; exact List.mem_cons_of_mem _ h
        · simpa [tns, hR] using h
      · refine ⟨fun t h => ?_, fun _ t h => ?_⟩
        · simp [tns, hR] at h ⊢; rcases h with h | h
          · exact .inr h
          · exact .inl h
        · simp [tns, hR] at h ⊢; rcases h with h | h
          · exact .inr h
          · exact .inl h
theorem pop_tns : ∀ (n : Nat) (s : Qs) (t : ByteArray), t ∈ tns (popF n s).2 → t ∈ tns s
  | 0, _, _, h => h
  | n + 1, s, t, h => by
    unfold popF at h
    cases hR : s.R with
    | nil => rw [hR] at h; exact h
    | cons a l =>
      rw [hR] at h
      dsimp only at h
      have h1 := (serve_tns s.turn).1 t
      rw [(turn_tns s).1] at h1
      split at h
      · rename_i j s' e; rw [e] at h1; exact h1 h
      · rename_i s' e; rw [e] at h1; exact h1 (pop_tns n s' t h)
theorem pop_pot {A B : ByteArray} (hAB : A ≠ B) {wa wb : Int} : ∀ (n : Nat) {s : Qs}, s.fine → A ∈ tns (popF n s).2 → B ∈ tns (popF n s).2 → wtOf s.W A = wa → wtOf s.W B = wb →
    pot (popF n s).2 wa wb A B = pot s wa wb A B + wb * costOf A (popF n s).1 - wa * costOf B (popF n s).1
  | 0, s, _, _, _, _, _ => by simp [popF, costOf]
  | n + 1, s, hf, hA, hB, hwa, hwb => by
    have hA0 := pop_tns _ _ _ hA
    have hB0 := pop_tns _ _ _ hB
    unfold popF at hA hB ⊢
    cases hR : s.R with
    | nil => simp [costOf]
    | cons a l =>
      rw [hR] at hA hB
      dsimp only at hA hB ⊢
      have hR0 : s.R ≠ [] := by rw [hR]; simp
      have ht := turn_tu hR0
      have hp := pot_turn hf hAB hA0 hB0 hwa hwb
      have hsv := fun h1 h2 => pot_serve (wa := wa) (wb := wb) hf.turn ht hAB h1 h2
      have hsf := hf.turn.serve (fun _ => ht)
      have hW := serve_W s.turn
      rw [(turn_tns s).2.1] at hW
      split at hA
      · rename_i j s' e
        rw [e] at hB hsv
        dsimp only at hA hB hsv ⊢
        rw [hsv hA hB, hp]
      · rename_i s' e
        rw [e] at hB hsv hsf hW
        dsimp only at hA hB hsv hsf hW ⊢
        rw [pop_pot hAB n hsf hA hB (by rw [hW.1]; exact hwa) (by rw [hW.1]; exact hwb), hsv (pop_tns _ _ _ hA) (pop_tns _ _ _ hB), hp]
        simp [costOf]
def hdOk (s : Qs) (t : ByteArray) (w mo : Int) : Prop := ∀ a l, s.R = a :: l → s.tu = true → a.tn = t → a.df ≤ s.q * w + mo
theorem hd_push {s : Qs} (hf : s.fine) (j : Jb) {t : ByteArray} {w mo mo' : Int} (h : hdOk s t w mo) (hm : mo ≤ mo') : hdOk (s.push j) t w mo' := by
  by_cases he : pushE s j = 0
  rotate_left
  · rw [push_no he]; intro a l h1 h2 h3; have := h a l h1 h2 h3; omega
  intro a l h1 h2 h3
  have hs : (s.push j).R = pushR s.R j ∧ (s.push j).tu = s.tu ∧ (s.push j).q = s.q := by unfold Qs.push; rw [if_pos he]; exact ⟨rfl, rfl, rfl⟩
  rw [hs.1] at h1
  rw [hs.2.1] at h2
  rw [hs.2.2]
  cases hR : s.R with
  | nil => exact absurd hR (hf.tu h2)
  | cons b r =>
    rw [hR] at h1
    simp only [pushR] at h1
    split at h1
    · simp only [List.cons.injEq] at h1
      obtain ⟨rfl, _⟩ := h1
      have := h b r hR h2 h3
      dsimp only; omega
    · simp only [List.cons.injEq] at h1
      obtain ⟨rfl, _⟩ := h1
      have := h b r hR h2 h3
      omega
theorem hd_weigh {s : Qs} (u : ByteArray) (n : Int) {t : ByteArray} {w mo : Int} (h : hdOk s t w mo) : hdOk (s.weigh u n) t w mo := by
  intro a l h1 h2 h3
  rw [(weigh_R s u n).1] at h1
  rw [(weigh_R s u n).2] at h2
  rw [(weigh_W s u n).2]
  exact h a l h1 h2 h3
theorem hd_drop {s : Qs} (u : ByteArray) {t : ByteArray} {w mo : Int} (h : hdOk s t w mo) : hdOk (s.drop u) t w mo := by
  intro a l h1 h2 h3
  rw [(drop_keeps s u).1]
  unfold Qs.drop at h1 h2
  split at h1
  · rename_i e; rw [if_pos e] at h2; cases h2
  · rename_i e
    rw [if_neg e] at h2
    dsimp only at h1 h2
    cases hR : s.R with
    | nil => rw [hR] at h1; cases h1
    | cons b r =>
      rw [hR] at h1 e
      simp only [headIs, decide_eq_true_eq] at e
      simp only [dropR, if_neg e] at h1
      cases h1
      exact h _ r hR h2 h3
theorem hd_turn {s : Qs} (hf : s.fine) {t : ByteArray} {w mo : Int} (h : hdOk s t w mo) (hw : wtOf s.W t = w) (hm : ∀ j ∈ jobsOf s t, j.co ≤ mo) : hdOk s.turn t w mo := by
  intro a l h1 h2 h3
  rw [(turn_tns s).2.2]
  cases hR : s.R with
  | nil => have : s.turn = s := by unfold Qs.turn; rw [hR]
           rw [this, hR] at h1; cases h1
  | cons b r =>
    cases htu : s.tu with
    | true =>
      have : s.turn = s := by unfold Qs.turn; simp [hR, htu]
      rw [this] at h1
      exact h a l h1 htu h3
    | false =>
      have hs : s.turn = { s with R := { b with df := b.df + shareOf s b.tn } :: r, tu := true } := by unfold Qs.turn; simp [hR, htu]
      rw [hs] at h1
      simp only [List.cons.injEq] at h1
      obtain ⟨rfl, _⟩ := h1
      dsimp only at h3 ⊢
      have hb : b ∈ s.R := by rw [hR]; exact List.mem_cons_self
      have hlo := hf.lo
      rw [htu] at hlo
      simp only [Bool.false_eq_true, if_false] at hlo
      cases hjs : b.js with
      | nil => exact absurd hjs (hf.js b hb)
      | cons j js =>
        have h4 := hlo b hb j js hjs
        have h5 : j ∈ jobsOf s t := by
          unfold jobsOf
          rw [hR, ← h3, findA_head]
          simp [hjs]
        have h6 := hm j h5
        rw [share_eq, h3, hw]
        omega
theorem hd_serve {s : Qs} (hf : s.fine) {t : ByteArray} {w mo : Int} (h : hdOk s t w mo) : hdOk s.serve.2 t w mo := by
  intro a l h1 h2 h3
  rw [(serve_W s).2]
  unfold Qs.serve at h1 h2
  cases hR : s.R with
  | nil => rw [hR] at h1; dsimp only at h1; rw [hR] at h1; cases h1
  | cons b r =>
    rw [hR] at h1 h2
    have hb : b ∈ s.R := by rw [hR]; exact List.mem_cons_self
    cases hjs : b.js with
    | nil => exact absurd hjs (hf.js b hb)
    | cons j js =>
      have hj := hf.own b hb j (by rw [hjs]; exact List.mem_cons_self)
      simp only [hjs] at h1 h2
      split at h1
      · rename_i hc
        rw [if_pos hc] at h2
        dsimp only at h1 h2
        split at h1
        · rename_i e; rw [if_pos e] at h2; cases h2
        · rename_i e
          rw [if_neg e] at h2
          simp only [List.cons.injEq] at h1
          obtain ⟨rfl, _⟩ := h1
          have := h b r hR h2 h3
          dsimp only; omega
      · rename_i hc
        rw [if_neg hc] at h2
        cases h2
theorem hd_pop {t : ByteArray} {w mo : Int} : ∀ (n : Nat) {s : Qs}, s.fine → hdOk s t w mo → wtOf s.W t = w → (∀ j ∈ jobsOf s t, j.co ≤ mo) → hdOk (popF n s).2 t w mo
  | 0, s, _, h, _, _ => h
  | n + 1, s, hf, h, hw, hm => by
    unfold popF
    cases hR : s.R with
    | nil => exact h
    | cons a l =>
      dsimp only
      have hR0 : s.R ≠ [] := by rw [hR]; simp
      have h1 := hd_serve hf.turn (hd_turn hf h hw hm)
      have hsf := hf.turn.serve (fun _ => turn_tu hR0)
      have hW := serve_W s.turn
      rw [(turn_tns s).2.1] at hW
      have hsv := serve_jobs hf hR0
      split
      · rename_i j s' e; rw [e] at h1; exact h1
      · rename_i s' e
        rw [e] at h1 hsf hW hsv
        rcases hsv with ⟨_, hj, _⟩ | ⟨j, hj, _⟩
        · exact hd_pop n hsf h1 (by rw [hW.1]; exact hw) (fun j hj' => hm j (by rw [← hj t]; exact hj'))
        · cases hj
theorem df_range {s : Qs} (hf : s.fine) {t : ByteArray} {w mo : Int} (hh : hdOk s t w mo) (_hw : 1 ≤ w) (hm : ∀ j ∈ jobsOf s t, j.co ≤ mo) (ht : t ∈ tns s) :
    0 ≤ dfOf s t ∧ (dfOf s t ≤ mo ∨ (dfOf s t ≤ s.q * w + mo ∧ ∃ a l, s.R = a :: l ∧ s.tu = true ∧ a.tn = t)) := by
  obtain ⟨a, ha, hat⟩ := tns_iff.1 ht
  have hfa : ∃ b, findA s.R t = some b := by
    cases hfa : findA s.R t with
    | none => exact absurd ht (findA_none.1 hfa)
    | some b => exact ⟨b, rfl⟩
  obtain ⟨b, hb⟩ := hfa
  obtain ⟨hb1, hb2⟩ := findA_some hb
  have hd : dfOf s t = b.df := by unfold dfOf; rw [hb]; rfl
  have hj : jobsOf s t = b.js := by unfold jobsOf; rw [hb]; rfl
  rw [hd]
  refine ⟨hf.df b hb1, ?_⟩
  have small : (b ∈ (if s.tu then s.R.tail else s.R)) → b.df ≤ mo := fun hin => by
    cases hjs : b.js with
    | nil => exact absurd hjs (hf.js b hb1)
    | cons j js =>
      have h1 := hf.lo b hin j js hjs
      have h2 := hm j (by rw [hj, hjs]; simp)
      omega
  cases htu : s.tu with
  | false => rw [htu] at small; exact .inl (small hb1)
  | true =>
    rw [htu] at small
    cases hR : s.R with
    | nil => rw [hR] at hb1; cases hb1
    | cons c l =>
      rw [hR] at hb1 small
      rcases List.mem_cons.1 hb1 with rfl | h1
      · exact .inr ⟨hh _ l hR htu hb2, _, l, rfl, rfl, hb2⟩
      · exact .inl (small h1)
theorem pot_range {s : Qs} (hf : s.fine) {A B : ByteArray} (hAB : A ≠ B) {wa wb ma mb : Int} (hA : A ∈ tns s) (hB : B ∈ tns s) (ha : hdOk s A wa ma) (hb : hdOk s B wb mb) (hwa : 1 ≤ wa) (hwb : 1 ≤ wb)
    (hma : ∀ j ∈ jobsOf s A, j.co ≤ ma) (hmb : ∀ j ∈ jobsOf s B, j.co ≤ mb) : - (wb * ma) ≤ pot s wa wb A B ∧ pot s wa wb A B ≤ s.q * wa * wb + wa * mb := by
  obtain ⟨a0, a1⟩ := df_range hf ha hwa hma hA
  obtain ⟨b0, b1⟩ := df_range hf hb hwb hmb hB
  have hq := hf.q1
  have pq : 0 ≤ s.q * wa * wb := Int.mul_nonneg (Int.mul_nonneg (by omega) (by omega)) (by omega)
  have p1 : 0 ≤ wb * dfOf s A := Int.mul_nonneg (by omega) a0
  have p2 : 0 ≤ wa * dfOf s B := Int.mul_nonneg (by omega) b0
  have inturn : ∀ {t u : ByteArray} {a : Ac} {l : List Ac}, s.R = a :: l → s.tu = true → a.tn = t → u ≠ t → u ∈ tns s → (bef (ord s) u t = true ∧ bef (ord s) t u = false) := by
    intro t u a l hR htu hat hut hu
    have ho : ord s = l.map (·.tn) ++ [a.tn] := by unfold ord; rw [htu]; simp [tns, hR]
    have hnd := hf.Rk
    rw [hR, List.map_cons, List.nodup_cons] at hnd
    have hul : u ∈ l.map (·.tn) := by
      rw [tns, hR, List.map_cons] at hu
      rcases List.mem_cons.1 hu with h | h
      · exact absurd (h.trans hat) hut
      · exact h
    rw [ho]
    exact ⟨bef_in _ hul (hat ▸ hnd.1), bef_not _ hul (hat ▸ hnd.1)⟩
  have e1 : wb * (s.q * wa + ma) = s.q * wa * wb + wb * ma := by rw [Int.mul_add, Int.mul_comm wb (s.q * wa)]
  have e2 : wa * (s.q * wb + mb) = s.q * wa * wb + wa * mb := by rw [Int.mul_add, ← Int.mul_assoc, Int.mul_comm wa s.q]
  unfold pot
  constructor
  · rcases a1 with a1 | ⟨a1, x, l, hR, htu, hx⟩
    · have : wb * dfOf s A ≤ wb * ma := Int.mul_le_mul_of_nonneg_left a1 (by omega)
      split <;> omega
    · have h1 := (inturn hR htu hx (Ne.symm hAB) hB).1
      have : wb * dfOf s A ≤ wb * (s.q * wa + ma) := Int.mul_le_mul_of_nonneg_left a1 (by omega)
      rw [h1]
      simp only [if_true]
      omega
  · rcases b1 with b1 | ⟨b1, x, l, hR, htu, hx⟩
    · have : wa * dfOf s B ≤ wa * mb := Int.mul_le_mul_of_nonneg_left b1 (by omega)
      split <;> omega
    · have h1 := (inturn hR htu hx hAB hA).2
      have : wa * dfOf s B ≤ wa * (s.q * wb + mb) := Int.mul_le_mul_of_nonneg_left b1 (by omega)
      rw [h1]
      simp only [Bool.false_eq_true, if_false]
      omega
end Go.Proofs.Ytmlednjhemnncaa
