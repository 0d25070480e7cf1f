/-
  Stages of a rollout: what Check returns, in plain terms, and the contracts of both Check functions.
-/
import Derived.Test.YtejjemeaponbaaaAlias2
import Derived.Test.YtejjemeaponbaaaWords
import Derived.Test.YtejjemeaponbaaaOver
namespace Go.Proofs.Ytejjemeaponbaaa
open Go.RowKit

abbrev Stg := Int × Int
def cellsS (l : List Stg) : List Value := l.flatMap fun s => [.int .i64 s.1, .int .i64 s.2]

theorem cellsS_length (l : List Stg) : (cellsS l).length = l.length * 2 := by
  induction l with
  | nil => rfl
  | cons a l ih => simp [cellsS] at ih ⊢; omega

theorem cellsS_at (l : List Stg) : ∀ (k : Nat) (s : Stg), l[k]? = some s → (cellsS l)[k * 2]? = some (.int .i64 s.1) ∧ (cellsS l)[k * 2 + 1]? = some (.int .i64 s.2) := by
  induction l with
  | nil => intro k s h; simp at h
  | cons a l ih =>
    intro k s h
    cases k with
    | zero => simp at h; subst h; exact ⟨rfl, rfl⟩
    | succ k =>
      have := ih k s (by simpa using h)
      simp only [cellsS, List.flatMap_cons]
      rw [show (k + 1) * 2 = k * 2 + 2 from by omega, show k * 2 + 2 + 1 = (k * 2 + 1) + 2 from by omega]
      exact this

def instB (n : Int) : Bool := decide (0 ≤ n) && decide (n ≤ 1073741824)
def stOk (s : Stg) : Bool := (decide (1 ≤ s.1) && decide (s.1 ≤ 1000)) && instB s.2

/-- What Check finds in the stages from one on; the weight before it is 'last'. -/
def chkFrom (last : Int) : List Stg → Int
  | [] => if last = 1000 then 0 else 10
  | s :: r => if stOk s = false then 2 else if s.1 ≤ last then 11 else chkFrom s.1 r
def checkS (l : List Stg) : Int := if l.length < 1 ∨ 8 < l.length then 3 else chkFrom 0 l

theorem rd_stage {w : World} {B n k : Nat} {A : Option Addr} {l : List Stg} (h : Rd w B 2 A n (cellsS l)) (hk : k < n) :
    ∃ b o s, A = some ⟨b, o, none⟩ ∧ b < B ∧ l[k]? = some s ∧ w.cell? ⟨b, o + k * 2, none⟩ = some (.int .i64 s.1) ∧ w.cell? ⟨b, o + k * 2 + 1, none⟩ = some (.int .i64 s.2) := by
  obtain ⟨b, o, e, hlt, hc⟩ := h.here (by omega)
  have hl := h.len
  rw [cellsS_length] at hl
  have hkl : k < l.length := by omega
  obtain ⟨h1, h2⟩ := cellsS_at l k l[k] (List.getElem?_eq_getElem hkl)
  exact ⟨b, o, l[k], e, hlt, List.getElem?_eq_getElem hkl, hc _ _ h1, by have := hc _ _ h2; rwa [← Nat.add_assoc] at this⟩

set_option maxHeartbeats 400000 in
theorem instant_any (n : Int) (w : World) :
    Calls Try.prog 24 #[.int .i64 n] w fun e w' => e = .returned (.bool (instB n)) ∧ w = w' := by
  go_enter Try.func24, Try.ntmps24
  go_wp2
  all_goals
    go_ret
    exact ⟨retb (by simp [instB]; try omega), rfl⟩

set_option maxHeartbeats 400000 in
theorem rtime_any (n : Int) (w : World) :
    Calls Try.prog 27 #[.int .i64 n] w fun e w' => e = .returned (.bool (instB n)) ∧ w = w' := by
  go_enter Try.func27, Try.ntmps27
  go_wp2
  all_goals
    go_ret
    exact ⟨retb (by simp [instB]; try omega), rfl⟩

theorem chkFrom_step {last : Int} {l : List Stg} {k : Nat} {s : Stg} (h : l[k]? = some s) :
    chkFrom last (l.drop k) = if stOk s = false then 2 else if s.1 ≤ last then 11 else chkFrom s.1 (l.drop (k + 1)) := by
  have hk : k < l.length := by
    rcases Nat.lt_or_ge k l.length with h' | h'
    · exact h'
    · rw [List.getElem?_eq_none h'] at h; cases h
  rw [List.getElem?_eq_getElem hk] at h
  injection h with h
  rw [List.drop_eq_getElem_cons hk, h]
  rfl

theorem chk_bad {sw sb : Int} {x : Int} (h : ¬ (1 ≤ sw ∧ sw ≤ 1000 ∧ instB sb = true)) : (if stOk (sw, sb) = false then (2 : Int) else x) = 2 := by
  rw [if_pos]
  cases hb : stOk (sw, sb)
  · rfl
  · exfalso
    simp [stOk] at hb
    exact h ⟨hb.1.1, hb.1.2, hb.2⟩

theorem chk_good {sw sb : Int} {x : Int} (h : 1 ≤ sw ∧ sw ≤ 1000 ∧ instB sb = true) : (if stOk (sw, sb) = false then (2 : Int) else x) = x := by
  rw [if_neg]
  simp [stOk]
  exact h

theorem instB_iff (n : Int) : instB n = true ↔ 0 ≤ n ∧ n ≤ 1073741824 := by simp [instB]

set_option maxHeartbeats 2000000 in
theorem checkS_any (A : Option Addr) (n c : Nat) (l : List Stg) (w : World) (hr : Rd w w.heap.size 2 A n (cellsS l)) (hm : n ≤ maxLen) :
    Calls Try.prog 8 #[.slice A n c] w fun e w' => e = .returned (.int .i64 (checkS l)) ∧ Below w.heap.size w w' := by
  have hl := hr.len
  rw [cellsS_length] at hl
  have hl' : l.length = n := by omega
  clear hl
  unfold maxLen at hm
  by_cases hz : n < 1 ∨ 8 < n
  · have hs : checkS l = 3 := by unfold checkS; rw [if_pos (by omega)]
    rw [hs]
    clear hs hl' hr
    rcases hz with h1 | h1
    all_goals
      go_enter Try.func8, Try.ntmps8
      go_wp2
      go_ret
      exact ⟨rfl, Below.refl _ _⟩
  · have hs : checkS l = chkFrom 0 l := by unfold checkS; rw [if_neg (by omega)]
    rw [hs]
    have h1 : 1 ≤ n := by omega
    have h2 : n ≤ 8 := by omega
    clear hs hz
    have Hr := Lib.hid hr; clear hr
    have Hl := Lib.hid hl'; clear hl'
    go_enter Try.func8, Try.ntmps8
    go_wp2_with fail
    go_loopw [3, 16] (fun x i wr => ∃ (k : Nat) (last : Int), k ≤ n ∧ i = .int .i64 k ∧ x = .int .i64 last ∧ chkFrom 0 l = chkFrom last (l.drop k) ∧ Below w.heap.size w wr) (fun _ i _ => n - (intOf i).toNat)
    case atStart => exact ⟨0, 0, Nat.zero_le _, rfl, rfl, rfl, Below.refl _ _⟩
    case round =>
      obtain ⟨k, last, hk, rfl, rfl, heq, hbw⟩ := hrel
      have Heq := Lib.hid heq; clear heq
      by_cases hlt : k < n
      · obtain ⟨b, o, ⟨sw, sb⟩, rfl, hbB, hx, hc0, hc1⟩ := rd_stage (Hr.out.below hbw) hlt
        have hst := chkFrom_step (last := last) hx
        have Hst := Lib.hid (Heq.out.trans hst); clear hst hx
        go_wp2_with (go_at_call 24; refine (instant_any _ _).mono ?_; rintro e w' ⟨rfl, rfl⟩)
        all_goals
          first
            | (have hbad : ¬ (1 ≤ sw ∧ sw ≤ 1000 ∧ instB sb = true) := by (rintro ⟨a, b, c⟩; first | omega | (simp_all; done) | (simp_all; omega))
               go_ret
               exact ⟨reti (Eq.symm (Hst.out.trans (chk_bad hbad))), hbw.alloc hbw.size _⟩)
            | (have hgood : 1 ≤ sw ∧ sw ≤ 1000 ∧ instB sb = true := by (refine ⟨by omega, by omega, ?_⟩; simp_all; done)
               have Hg := Lib.hid (Hst.out.trans (chk_good hgood)); clear hgood
               first
                 | (have hle : sw ≤ last := by assumption
                    go_ret
                    exact ⟨reti (Eq.symm (Hg.out.trans (if_pos hle))), hbw.alloc hbw.size _⟩)
                 | (have Hnx := Lib.hid (Hg.out.trans (if_neg (by omega)))
                    go_roundw
                    case rel => exact ⟨k + 1, sw, by omega, by go_num, rfl, Hnx.out, hbw.alloc hbw.size _⟩
                    case measure => simp [intOf]; omega))
      · obtain rfl : k = n := by omega
        have hd : l.drop k = [] := List.drop_eq_nil_of_le (by rw [Hl.out]; exact Nat.le_refl _)
        have heq : chkFrom 0 l = if last = 1000 then 0 else 10 := by rw [Heq.out, hd]; rfl
        have Hq := Lib.hid heq; clear heq hd
        cases hq : (last != 1000)
        all_goals
          go_wp2
          go_ret
          exact ⟨reti (Eq.symm (Hq.out.trans (by simp_all))), hbw⟩

set_option maxHeartbeats 2000000 in
theorem rcheckS_any (A : Option Addr) (n c : Nat) (l : List Stg) (w : World) (hr : Rd w w.heap.size 2 A n (cellsS l)) (hm : n ≤ maxLen) :
    Calls Try.prog 9 #[.slice A n c] w fun e w' => e = .returned (.int .i64 (checkS l)) ∧ Below w.heap.size w w' := by
  have hl := hr.len
  rw [cellsS_length] at hl
  have hl' : l.length = n := by omega
  clear hl
  unfold maxLen at hm
  by_cases hz : n < 1 ∨ 8 < n
  · have hs : checkS l = 3 := by unfold checkS; rw [if_pos (by omega)]
    rw [hs]
    clear hs hl' hr
    rcases hz with h1 | h1
    all_goals
      go_enter Try.func9, Try.ntmps9
      go_wp2
      go_ret
      exact ⟨rfl, Below.refl _ _⟩
  · have hs : checkS l = chkFrom 0 l := by unfold checkS; rw [if_neg (by omega)]
    rw [hs]
    have h1 : 1 ≤ n := by omega
    have h2 : n ≤ 8 := by omega
    clear hs hz
    have Hr := Lib.hid hr; clear hr
    have Hl := Lib.hid hl'; clear hl'
    go_enter Try.func9, Try.ntmps9
    go_wp2_with fail
    go_loopw [3] (fun i wr => ∃ (k : Nat) (last : Int), k ≤ n ∧ i = .int .i64 k ∧ (k = 0 → last = 0) ∧ (∀ j, k = j + 1 → ∃ s, l[j]? = some s ∧ s.1 = last) ∧ chkFrom 0 l = chkFrom last (l.drop k) ∧ Below w.heap.size w wr) (fun i _ => n - (intOf i).toNat)
    case atStart => exact ⟨0, 0, Nat.zero_le _, rfl, fun _ => rfl, fun j h => by omega, rfl, Below.refl _ _⟩
    case round =>
      obtain ⟨k, last, hk, rfl, h0, hpos, heq, hbw⟩ := hrel
      have Heq := Lib.hid heq; clear heq
      by_cases hlt : k < n
      · obtain ⟨b, o, ⟨sw, sb⟩, rfl, hbB, hx, hc0, hc1⟩ := rd_stage (Hr.out.below hbw) hlt
        have hst := chkFrom_step (last := last) hx
        have Hst := Lib.hid (Heq.out.trans hst); clear hst
        have Hx := Lib.hid hx; clear hx
        simp only at hc0 hc1
        by_cases hok : 1 ≤ sw ∧ sw ≤ 1000 ∧ instB sb = true
        rotate_left
        · have Hg := Lib.hid (Hst.out.trans (chk_bad hok))
          have hb : sw < 1 ∨ 1000 < sw ∨ sb < 0 ∨ 1073741824 < sb := by
            rw [instB_iff] at hok; omega
          clear hok h0 hpos
          rcases hb with hb | hb | hb | hb
          all_goals
            go_wp2
            all_goals
              first
                | (go_ret; exact ⟨reti Hg.out.symm, hbw⟩)
                | (exfalso; omega)
                | (exfalso; simp_all; omega)
        · have Hg := Lib.hid (Hst.out.trans (chk_good hok))
          rw [instB_iff] at hok
          obtain ⟨g1, g2, g3, g4⟩ := hok
          by_cases hz : k = 0
          · have hlast := h0 hz
            subst hz
            subst hlast
            clear h0 hpos
            have Hnx := Lib.hid (Hg.out.trans (if_neg (by omega)))
            simp only [Nat.zero_mul, Nat.add_zero] at hc0 hc1
            go_wp2
            go_quiet (fail)
            go_wp2
            go_roundw
            case rel => exact ⟨0 + 1, sw, by omega, by go_num, fun h => by omega, fun j hj => ⟨(sw, sb), by (obtain rfl : j = 0 := (by omega)); exact Hx.out, rfl⟩, Hnx.out, hbw.trans ⟨rfl, rfl, rfl, Nat.le_refl _, fun _ _ => rfl⟩⟩
            case measure => simp [intOf]; omega
          · obtain ⟨j, rfl⟩ : ∃ j, k = j + 1 := ⟨k - 1, by omega⟩
            obtain ⟨⟨pw, pb⟩, hpx, hpl⟩ := hpos j rfl
            simp only at hpl
            subst hpl
            obtain ⟨b', o', s', e', hbB', hx', hp0, -⟩ := rd_stage (Hr.out.below hbw) (show j < n by omega)
            simp only [Option.some.injEq, Addr.mk.injEq] at e'
            obtain ⟨rfl, rfl, -⟩ := e'
            rw [hpx] at hx'
            injection hx' with hx'
            subst hx'
            simp only at hp0
            clear hz h0 hpos hpx
            cases hord : decide (sw ≤ pw)
            · have Hnx := Lib.hid (Hg.out.trans (if_neg (by simpa using hord)))
              go_wp2
              go_quiet (fail)
              go_wp2
              go_roundw
              case rel => exact ⟨j + 1 + 1, sw, by omega, by go_num, fun h => by omega, fun j' hj => ⟨(sw, sb), by (obtain rfl : j' = j + 1 := (by omega)); exact Hx.out, rfl⟩, Hnx.out, hbw.trans ⟨rfl, rfl, rfl, Nat.le_refl _, fun _ _ => rfl⟩⟩
              case measure => simp [intOf]; omega
            · have Hnx := Lib.hid (Hg.out.trans (if_pos (by simpa using hord)))
              go_wp2
              go_quiet (fail)
              go_wp2
              go_ret
              exact ⟨reti Hnx.out.symm, hbw.trans ⟨rfl, rfl, rfl, Nat.le_refl _, fun _ _ => rfl⟩⟩
      · obtain rfl : k = n := by omega
        obtain ⟨j, rfl⟩ : ∃ j, k = j + 1 := ⟨k - 1, by omega⟩
        obtain ⟨⟨pw, pb⟩, hpx, hpl⟩ := hpos j rfl
        simp only at hpl
        subst hpl
        obtain ⟨b', o', s', rfl, hbB', hx', hp0, -⟩ := rd_stage (Hr.out.below hbw) (show j < j + 1 by omega)
        rw [hpx] at hx'
        injection hx' with hx'
        subst hx'
        simp only at hp0
        clear h0 hpos hpx
        have hd : l.drop (j + 1) = [] := List.drop_eq_nil_of_le (by rw [Hl.out]; exact Nat.le_refl _)
        have heq : chkFrom 0 l = if pw = 1000 then 0 else 10 := by rw [Heq.out, hd]; rfl
        have Hq := Lib.hid heq; clear heq hd
        cases hq : (pw != 1000)
        all_goals
          go_wp2
          go_ret
          exact ⟨reti (Eq.symm (Hq.out.trans (by simp_all))), hbw⟩

end Go.Proofs.Ytejjemeaponbaaa
