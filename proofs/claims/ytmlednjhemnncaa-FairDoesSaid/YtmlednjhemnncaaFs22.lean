/- Texts joined by pack.py: XFb1 -/
import Derived.Test.YtmlednjhemnncaaFs21
namespace Go.Proofs.Ytmlednjhemnncaa
open Go.RowKit
theorem getE_put_ne {α : Type} : ∀ (l : List (ByteArray × α)) {t u : ByteArray} (c : α), u ≠ t → getE (putE l t c) u = getE l u
  | [], t, u, c, h => by simp [putE, getE, Ne.symm h]
  | (k, x) :: l, t, u, c, h => by
    simp only [putE]
    split
    · rename_i e; subst e; simp only [getE, if_neg (Ne.symm h)]
    · simp only [getE, getE_put_ne l c h]
theorem getE_del_ne {α : Type} : ∀ (l : List (ByteArray × α)) {t u : ByteArray}, u ≠ t → getE (delE l t) u = getE l u
  | [], t, u, h => rfl
  | (k, x) :: l, t, u, h => by
    simp only [delE]
    split
    · rename_i e; subst e; simp only [getE, if_neg (Ne.symm h)]
    · simp only [getE, getE_del_ne l h]
theorem keys_put {α : Type} : ∀ (l : List (ByteArray × α)) (t : ByteArray) (c : α), ((putE l t c).map (·.1) = l.map (·.1) ∧ t ∈ l.map (·.1)) ∨ ((putE l t c).map (·.1) = l.map (·.1) ++ [t] ∧ t ∉ l.map (·.1))
  | [], t, c => by simp [putE]
  | (k, x) :: l, t, c => by
    simp only [putE]
    split
    · rename_i e; subst e; simp
    · rename_i e
      rcases keys_put l t c with ⟨h1, h2⟩ | ⟨h1, h2⟩
      · exact .inl ⟨by simp only [List.map_cons, h1], by simp only [List.map_cons]; exact List.mem_cons_of_mem _ h2⟩
      · refine .inr ⟨by simp only [List.map_cons, h1, List.cons_append], ?_⟩
        simp only [List.map_cons, List.mem_cons, not_or]
        exact ⟨Ne.symm e, h2⟩
theorem nodup_put {α : Type} {l : List (ByteArray × α)} {t : ByteArray} {c : α} (h : (l.map (·.1)).Nodup) : ((putE l t c).map (·.1)).Nodup := by
  rcases keys_put l t c with ⟨h1, _⟩ | ⟨h1, hn⟩
  · rw [h1]; exact h
  · rw [h1, List.nodup_append]
    exact ⟨h, by simp, fun a ha b hb => by simp at hb; subst hb; rintro rfl; exact hn ha⟩
theorem keys_del {α : Type} : ∀ (l : List (ByteArray × α)) (t : ByteArray), ((delE l t).map (·.1)).Sublist (l.map (·.1))
  | [], t => by simp [delE]
  | (k, x) :: l, t => by
    simp only [delE]
    split
    · exact List.sublist_cons_self _ _
    · exact (keys_del l t).cons_cons _
theorem nodup_del {α : Type} {l : List (ByteArray × α)} {t : ByteArray} (h : (l.map (·.1)).Nodup) : ((delE l t).map (·.1)).Nodup := (keys_del l t).nodup h
theorem getE_del {α : Type} : ∀ (l : List (ByteArray × α)) (t : ByteArray), (l.map (·.1)).Nodup → getE (delE l t) t = none
  | [], t, _ => rfl
  | (k, x) :: l, t, h => by
    simp only [List.map_cons, List.nodup_cons] at h
    simp only [delE]
    split
    · rename_i e; subst e; exact getE_none.2 h.1
    · rename_i e; simp only [getE, if_neg e, getE_del l t h.2]
structure Qm where
  J : List (ByteArray × List Jb)
  De : List (ByteArray × Int)
  tu : Bool
  R : List ByteArray
def Qm.mem (q : Int) (W : List (ByteArray × Int)) (M : Qm) : List Bk := qM q M.tu W M.J M.De M.R
def turnQ (q : Int) (W : List (ByteArray × Int)) (M : Qm) : Qm := match M.R with
  | [] => M
  | t :: _ => if M.tu then M else { M with De := putE M.De t ((getE M.De t).getD 0 + q * wtOf W t), tu := true }
def serveQ (M : Qm) : Option Jb × Qm := match M.R with
  | [] => (none, M)
  | t :: l => match jOf M.J t with
    | [] => (none, M)
    | j :: js => if j.co ≤ (getE M.De t).getD 0 then (some j, if js = [] then ⟨delE M.J t, delE M.De t, false, l⟩ else ⟨putE M.J t js, putE M.De t ((getE M.De t).getD 0 - j.co), M.tu, M.R⟩) else (none, { M with tu := false, R := l ++ [t] })
def popQ (q : Int) (W : List (ByteArray × Int)) : Nat → Qm → Option Jb × Qm
  | 0, M => (none, M)
  | n + 1, M => match M.R with
    | [] => (none, M)
    | _ :: _ => match serveQ (turnQ q W M) with
      | (some j, M') => (some j, M')
      | (none, M') => popQ q W n M'
def tns (s : Qs) : List ByteArray := s.R.map (·.tn)
structure Fit (s : Qs) (M : Qm) : Prop where
  r : M.R = tns s
  tu : M.tu = s.tu
  jb : ∀ a ∈ s.R, getE M.J a.tn = some a.js
  df : ∀ a ∈ s.R, (getE M.De a.tn).getD 0 = a.df
  jn : ∀ t, t ∉ tns s → getE M.J t = none
  dn : ∀ t, t ∉ tns s → getE M.De t = none
  Jk : (M.J.map (·.1)).Nodup
  Dk : (M.De.map (·.1)).Nodup
structure Qs.fine (s : Qs) : Prop extends Qs.ok s where
  lo : ∀ a ∈ (if s.tu then s.R.tail else s.R), ∀ j js, a.js = j :: js → a.df < j.co
  up : ∀ a ∈ s.R, a.df ≤ 2000 * s.q
  ln : lenR s.R ≤ 256
  wl : s.W.length ≤ 16
theorem share_eq (s : Qs) (t : ByteArray) : shareOf s t = s.q * wtOf s.W t := by
  unfold shareOf wtOf
  cases getE s.W t <;> simp
theorem getE_mem {α : Type} : ∀ {l : List (ByteArray × α)} {t : ByteArray} {c : α}, getE l t = some c → (t, c) ∈ l
  | [], _, _, h => by simp [getE] at h
  | (k, x) :: l, t, c, h => by
    simp only [getE] at h
    split at h
    · rename_i e; cases h; subst e; exact List.mem_cons_self
    · exact List.mem_cons_of_mem _ (getE_mem h)
theorem Qs.ok.wt {s : Qs} (h : s.ok) (t : ByteArray) : 1 ≤ wtOf s.W t ∧ wtOf s.W t ≤ 1000 := by
  unfold wtOf
  cases hg : getE s.W t with
  | none => simp
  | some n => exact h.Wn _ (getE_mem hg)
theorem Qs.ok.share {s : Qs} (h : s.ok) (t : ByteArray) : s.q ≤ shareOf s t ∧ shareOf s t ≤ 1000 * s.q := by
  rw [share_eq]
  have h1 := h.wt t
  have h2 := h.q1
  constructor
  · have := Int.mul_le_mul_of_nonneg_left h1.1 (by omega : 0 ≤ s.q); omega
  · have := Int.mul_le_mul_of_nonneg_left h1.2 (by omega : 0 ≤ s.q); omega
theorem lenR_app : ∀ l l', lenR (l ++ l') = lenR l + lenR l'
  | [], l' => by simp [lenR]
  | a :: l, l' => by simp only [List.cons_append, lenR, lenR_app l l']; omega
theorem lenR_pos : ∀ l, 0 ≤ lenR l
  | [] => by simp [lenR]
  | a :: l => by have := lenR_pos l; simp only [lenR]; omega
theorem lenR_len : ∀ (l : List Ac), (∀ a ∈ l, a.js ≠ []) → (l.length : Int) ≤ lenR l
  | [], _ => by simp [lenR]
  | a :: l, h => by
    have h1 := lenR_len l fun x hx => h x (List.mem_cons_of_mem _ hx)
    have h2 : 0 < a.js.length := List.length_pos_iff.2 (h a (by simp))
    simp only [lenR, List.length_cons]; omega
theorem lenR_one : ∀ {l : List Ac} {a : Ac}, a ∈ l → (a.js.length : Int) ≤ lenR l
  | b :: l, a, h => by
    have h0 := lenR_pos l
    rcases List.mem_cons.1 h with rfl | h
    · simp only [lenR]; omega
    · have := lenR_one h; simp only [lenR]; omega
theorem Fit.turn {s : Qs} {M : Qm} (h : Fit s M) (hk : s.ok) : Fit s.turn (turnQ s.q s.W M) := by
  obtain ⟨r, tu, jb, df, jn, dn, Jk, Dk⟩ := h
  unfold turnQ Qs.turn
  cases hR : s.R with
  | nil =>
    have hr : M.R = [] := by rw [r, tns, hR]; rfl
    rw [hr]
    exact ⟨r, tu, jb, df, jn, dn, Jk, Dk⟩
  | cons a l =>
    have hr : M.R = a.tn :: l.map (·.tn) := by rw [r, tns, hR]; rfl
    rw [hr]
    dsimp only
    rw [tu]
    split
    · exact ⟨r, tu, jb, df, jn, dn, Jk, Dk⟩
    · have hm : ∀ t, t ∈ (({ a with df := a.df + shareOf s a.tn } : Ac) :: l).map (·.tn) ↔ t ∈ tns s := fun t => by rw [tns, hR]; rfl
      have hnd : a.tn ∉ l.map (·.tn) := by have := hk.Rk; rw [hR, List.map_cons, List.nodup_cons] at this; exact this.1
      refine ⟨by simp [tns], rfl, fun b hb => ?_, fun b hb => ?_, fun t ht => jn t fun h => ht ((hm t).2 h), fun t ht => ?_, Jk, nodup_put Dk⟩
      · rcases List.mem_cons.1 hb with rfl | hb
        · exact jb a (by rw [hR]; exact List.mem_cons_self)
        · exact jb b (by rw [hR]; exact List.mem_cons_of_mem _ hb)
      · rcases List.mem_cons.1 hb with rfl | hb
        · dsimp only
          rw [getE_put, share_eq, ← df a (by rw [hR]; exact List.mem_cons_self)]; rfl
        · dsimp only
          rw [getE_put_ne _ _ (show b.tn ≠ a.tn from fun e => hnd (e ▸ List.mem_map_of_mem hb))]
          exact df b (by rw [hR]; exact List.mem_cons_of_mem _ hb)
      · dsimp only
        have h1 : t ∉ tns s := fun h => ht ((hm t).2 h)
        rw [getE_put_ne _ _ fun e => h1 (by rw [e, tns, hR]; exact List.mem_cons_self)]
        exact dn t h1
theorem Fit.serve {s : Qs} {M : Qm} (h : Fit s M) (hk : s.ok) : (serveQ M).1 = s.serve.1 ∧ Fit s.serve.2 (serveQ M).2 := by
  have h0 := h
  obtain ⟨r, tu, jb, df, jn, dn, Jk, Dk⟩ := h
  unfold serveQ Qs.serve
  cases hR : s.R with
  | nil =>
    have hr : M.R = [] := by rw [r, tns, hR]; rfl
    rw [hr]
    exact ⟨rfl, h0⟩
  | cons a l =>
    have hr : M.R = a.tn :: l.map (·.tn) := by rw [r, tns, hR]; rfl
    have ha : a ∈ s.R := by rw [hR]; exact List.mem_cons_self
    have hl : ∀ b ∈ l, b ∈ s.R := fun b hb => by rw [hR]; exact List.mem_cons_of_mem _ hb
    have hnd : a.tn ∉ l.map (·.tn) := by have := hk.Rk; rw [hR, List.map_cons, List.nodup_cons] at this; exact this.1
    have hne : ∀ b ∈ l, b.tn ≠ a.tn := fun b hb e => hnd (e ▸ List.mem_map_of_mem hb)
    have hj : jOf M.J a.tn = a.js := by simp [jOf, jb a ha]
    have hd := df a ha
    rw [hr]
    dsimp only
    rw [hj, hd]
    cases hjs : a.js with
    | nil => exact ⟨rfl, h0⟩
    | cons j js =>
      dsimp only
      split
      · refine ⟨rfl, ?_⟩
        dsimp only
        split
        · refine ⟨rfl, rfl, fun b hb => ?_, fun b hb => ?_, fun t ht => ?_, fun t ht => ?_, nodup_del Jk, nodup_del Dk⟩
          · dsimp only at hb ⊢
            rw [getE_del_ne _ (hne b hb)]; exact jb b (hl b hb)
          · dsimp only at hb ⊢
            rw [getE_del_ne _ (hne b hb)]; exact df b (hl b hb)
          · dsimp only
            by_cases e : t = a.tn
            · subst e; exact getE_del _ _ Jk
            · rw [getE_del_ne _ e]
              exact jn t fun h => by rw [tns, hR, List.map_cons, List.mem_cons] at h; exact h.elim e ht
          · dsimp only
            by_cases e : t = a.tn
            · subst e; exact getE_del _ _ Dk
            · rw [getE_del_ne _ e]
              exact dn t fun h => by rw [tns, hR, List.map_cons, List.mem_cons] at h; exact h.elim e ht
        · have hm : ∀ t, t ∈ (({ a with js := js, df := a.df - j.co } : Ac) :: l).map (·.tn) ↔ t ∈ tns s := fun t => by rw [tns, hR]; rfl
          refine ⟨by simp [tns], tu, fun b hb => ?_, fun b hb => ?_, fun t ht => ?_, fun t ht => ?_, nodup_put Jk, nodup_put Dk⟩
          · dsimp only at hb ⊢
            rcases List.mem_cons.1 hb with rfl | hb
            · exact getE_put _ _ _
            · rw [getE_put_ne _ _ (hne b hb)]; exact jb b (hl b hb)
          · dsimp only at hb ⊢
            rcases List.mem_cons.1 hb with rfl | hb
            · rw [getE_put]; rfl
            · rw [getE_put_ne _ _ (hne b hb)]; exact df b (hl b hb)
          · dsimp only
            have h1 : t ∉ tns s := fun h => ht ((hm t).2 h)
            rw [getE_put_ne _ _ fun e => h1 (by rw [e, tns, hR]; exact List.mem_cons_self)]
            exact jn t h1
          · dsimp only
            have h1 : t ∉ tns s := fun h => ht ((hm t).2 h)
            rw [getE_put_ne _ _ fun e => h1 (by rw [e, tns, hR]; exact List.mem_cons_self)]
            exact dn t h1
      · have hm : ∀ t, t ∈ (l ++ [a]).map (·.tn) ↔ t ∈ tns s := fun t => by rw [tns, hR]; simp [or_comm]
        have hm2 : ∀ b, b ∈ l ++ [a] → b ∈ s.R := fun b hb => by rw [hR]; simp at hb ⊢; exact hb.symm
        refine ⟨rfl, ⟨by simp [tns], rfl, fun b hb => jb b (hm2 b hb), fun b hb => df b (hm2 b hb), fun t ht => jn t fun h => ht ((hm t).2 h), fun t ht => dn t fun h => ht ((hm t).2 h), Jk, Dk⟩⟩
end Go.Proofs.Ytmlednjhemnncaa
