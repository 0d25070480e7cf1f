/-
  Contracts of the packages rollout and faasref20, part four: steps.
-/
import Derived.Test.YtejjemeaponbaaaRx3
import Derived.Test.YtejjemeaponbaaaRoll5
namespace Go.Proofs.Ytejjemeaponbaaa
open Go.RowKit

abbrev roR (p : RO × Int) : V := .tu [p.1.V, int p.2]
def abortX (r : RO) : ByteArray × Int × Int × Int × Int := chF r.nm r.s r.c r.v (canE r.c) r.nm r.s 0 0
def promoteX (r : RO) : ByteArray × Int × Int × Int × Int := chF r.nm r.s r.c r.v (canE r.c) r.nm r.c 0 0

def nextR (r : RO) (h : Bool) (now : Int) : RO × Int :=
  if runE r ≠ 0 then (zeroRO, 10) else if clockE r.si now ≠ 0 then (zeroRO, clockE r.si now)
  else if h = false then ({ r with st := 3, c := 0, v := 0, si := now }, 0)
  else if now - r.si < bAt r.l r.a then (r, 0)
  else if r.a = r.l.length - 1 then ({ r with st := 2, s := r.c, c := 0, v := 0, si := now }, 0)
  else ({ r with a := r.a + 1, v := wAt r.l (r.a + 1), si := now }, 0)

theorem x_back : DCalls Try.prog 31 [] (.ag [int 3, .cv (.func (.func 44) #[] #[])]) := by
  refine sx Try.func31 (by kernel_rfl) ?_
  rfl
theorem x_done : DCalls Try.prog 33 [] (.ag [int 2, .cv (.func (.func 45) #[] #[])]) := by
  refine sx Try.func33 (by kernel_rfl) ?_
  rfl

theorem get1 {us : Array Value} {i : Nat} {N : Names} {S : Sets} {w : World} {cs : List V} (hl : cs.length = us.size) (h : ∀ i v, cs[i]? = some v → RelV N S w v (us.getD i undef)) {v : V} (hi : cs[i]? = some v) : ∃ u, us[i]? = some u ∧ RelV N S w v u := by
  have hlt := lt_of_get hi
  exact ⟨us.getD i undef, by simp [Array.getD_eq_getD_getElem?, show i < us.size by omega], h i v hi⟩

/-- A rollout that came in, in the older words. -/
theorem ro_open {B : Nat} {w : World} {r : RO} {u : Value} (h : RelV (fun _ => none) (fun _ b => b < B) w r.V u) :
    ∃ A k, u = .agg #[.int .i64 r.st, .string r.nm, .int .i64 r.s, .int .i64 r.c, .int .i64 r.v, .slice A r.l.length k, .int .i64 r.a, .int .i64 r.si] ∧ Rd w B 2 A r.l.length (cellsS r.l) := by
  cases h with
  | ag _ us hl h =>
    obtain ⟨u0, e0, r0⟩ := get1 hl h (i := 0) rfl
    obtain ⟨u1, e1, r1⟩ := get1 hl h (i := 1) rfl
    obtain ⟨u2, e2, r2⟩ := get1 hl h (i := 2) rfl
    obtain ⟨u3, e3, r3⟩ := get1 hl h (i := 3) rfl
    obtain ⟨u4, e4, r4⟩ := get1 hl h (i := 4) rfl
    obtain ⟨u5, e5, r5⟩ := get1 hl h (i := 5) rfl
    obtain ⟨u6, e6, r6⟩ := get1 hl h (i := 6) rfl
    obtain ⟨u7, e7, r7⟩ := get1 hl h (i := 7) rfl
    cases r0; cases r1; cases r2; cases r3; cases r4; cases r6; cases r7
    cases r5 with
    | sl _ _ _ _ hr =>
      obtain ⟨A, k, rfl, hrd⟩ := rd_of_sl (by omega) hr (fun x hx d hd => (stD_flat r.l x hx d hd).imp fun _ h => h.1)
      rw [stD_plain, List.length_map] at hrd
      refine ⟨A, k, ?_, hrd⟩
      congr 1
      apply Array.ext_getElem?
      intro i
      rcases Nat.lt_or_ge i 8 with hi | hi
      · match i, hi with
        | 0, _ => rw [e0]; rfl
        | 1, _ => rw [e1]; rfl
        | 2, _ => rw [e2]; rfl
        | 3, _ => rw [e3]; rfl
        | 4, _ => rw [e4]; rfl
        | 5, _ => rw [e5]; simp
        | 6, _ => rw [e6]; rfl
        | 7, _ => rw [e7]; rfl
      · rw [Array.getElem?_eq_none (by rw [← hl]; simpa using hi), Array.getElem?_eq_none (by simpa using hi)]

theorem ro_shut {B : Nat} {w : World} {r : RO} {u : Value} {e : Nat} (h : w.ownsRow B e 2 u r.l.length (cellsS r.l)) :
    RelV (fun _ => none) (fun _ b => B ≤ b ∧ b < w.heap.size) w r.V (.agg #[.int .i64 r.st, .string r.nm, .int .i64 r.s, .int .i64 r.c, .int .i64 r.v, u, .int .i64 r.a, .int .i64 r.si]) := by
  refine .ag _ _ rfl fun i v hv => ?_
  match i, hv with
  | 0, hv => cases hv; exact .cv _
  | 1, hv => cases hv; exact .cv _
  | 2, hv => cases hv; exact .cv _
  | 3, hv => cases hv; exact .cv _
  | 4, hv => cases hv; exact .cv _
  | 5, hv => cases hv; exact .sl _ _ _ _ (sl_of_own (by rw [stD_plain]; simpa using h) (stD_len r.l) (by simp) (stD_flat r.l))
  | 6, hv => cases hv; exact .cv _
  | 7, hv => cases hv; exact .cv _
  | n + 8, hv => simp at hv

theorem x_end {st : Int} {f : Nat} {r : RO} {r' : RO} {now : Int} (hl : r'.l = r.l)
    (h : ∀ (A : Option Addr) (k : Nat) (w : World), Rd w w.heap.size 2 A r.l.length (cellsS r.l) → Calls Try.prog 32 #[.agg #[.int .i64 st, .func (.func f) #[] #[]], .agg #[.int .i64 r.st, .string r.nm, .int .i64 r.s, .int .i64 r.c, .int .i64 r.v, .slice A r.l.length k, .int .i64 r.a, .int .i64 r.si], .int .i64 now] w fun e w' =>
      ∃ u, e = .returned (.tuple #[.agg #[.int .i64 r'.st, .string r'.nm, .int .i64 r'.s, .int .i64 r'.c, .int .i64 r'.v, u, .int .i64 r'.a, .int .i64 r'.si], .int .i64 0]) ∧ w'.ownsRow w.heap.size 34 2 u r.l.length (cellsS r.l) ∧ Below w.heap.size w w') :
    DCalls Try.prog 32 [.ag [int st, .cv (.func (.func f) #[] #[])], r.V, int now] (roR (r', 0)) := by
  refine ⟨⟨_, Try.func32, by kernel_rfl, by kernel_rfl⟩, fun w vs hvs => ?_⟩
  obtain ⟨u0, u1, u2, rfl⟩ : ∃ u0 u1 u2, vs = [u0, u1, u2] := by
    have := hvs.1
    match vs, this with
    | [u0, u1, u2], _ => exact ⟨u0, u1, u2, rfl⟩
  have e0 := val2_eq (hvs.2 0 _ rfl) (u' := .agg #[.int .i64 st, .func (.func f) #[] #[]]) rfl
  have e2 := val2_eq (hvs.2 2 _ rfl) (u' := .int .i64 now) rfl
  obtain ⟨A, k, e1, hrd⟩ := ro_open (hvs.2 1 _ rfl)
  simp at e0 e1 e2
  subst e0 e1 e2
  refine (h A k w hrd).mono fun e w' ⟨u, he, hown, hb⟩ => ⟨_, he, .tu _ _ rfl fun i v hv => ?_, hb⟩
  match i, hv with
  | 0, hv => cases hv; exact ro_shut (r := r') (by rw [hl]; exact hown)
  | 1, hv => cases hv; exact .cv _
  | n + 2, hv => simp at hv

theorem ok_parts {r : RO} (h : okB r = true) : 1 ≤ r.l.length ∧ r.l.length ≤ 8 ∧ 0 ≤ r.a ∧ r.a < r.l.length ∧ 0 ≤ r.si ∧ r.si ≤ 1073741824 := by
  simp [okB, fineB, instB] at h
  obtain ⟨⟨h1, _, h3, h4, h5, h6⟩, _⟩ := h
  obtain ⟨a, b⟩ := checkS_len h1
  exact ⟨a, b, h3, h4, h5, h6⟩
theorem run_ok {r : RO} (h : runE r = 0) : okB r = true ∧ r.st = 1 := by
  unfold runE at h
  split at h
  · rename_i h'; simpa using h'
  · cases h
theorem clock_ok {si now : Int} (h : clockE si now = 0) : 0 ≤ now ∧ now ≤ 1073741824 ∧ si ≤ now := by
  unfold clockE at h
  split at h
  · cases h
  rename_i h1
  split at h
  · cases h
  simp [instB] at h1
  omega

theorem alias_ok {r : RO} (h : okB r = true) (hst : r.st = 1) : abortX r = (r.nm, r.s, 0, 0, 0) ∧ promoteX r = (r.nm, r.c, 0, 0, 0) := by
  simp [okB, fineB] at h
  obtain ⟨⟨_, h2, _⟩, h3⟩ := h
  simp [fitB, hst] at h3
  have hc : canE r.c = 0 := by simp [canE, h3.1]
  have h2' : (chk r.nm r.s r.c r.v != 0) = false := by simp [h2]
  exact ⟨by unfold abortX; rw [hc]; exact chF_ok h2' rfl, by unfold promoteX; rw [hc]; exact chF_ok h2' rfl⟩

theorem x_end_back (r : RO) (now : Int) (hn : r.nm.size ≤ maxLen) (h1 : 1 ≤ r.l.length) (h8 : r.l.length ≤ 8) (hx : abortX r = (r.nm, r.s, 0, 0, 0)) :
    DCalls Try.prog 32 [.ag [int 3, .cv (.func (.func 44) #[] #[])], r.V, int now] (roR ({ r with st := 3, c := 0, v := 0, si := now }, 0)) :=
  x_end rfl fun A k w hr => end_back r.st r.s r.c r.v r.a r.si r.nm A _ k r.l now w hn hr h1 h8 (Lib.hid hx)

theorem x_end_done (r : RO) (now : Int) (hn : r.nm.size ≤ maxLen) (h1 : 1 ≤ r.l.length) (h8 : r.l.length ≤ 8) (hx : promoteX r = (r.nm, r.c, 0, 0, 0)) :
    DCalls Try.prog 32 [.ag [int 2, .cv (.func (.func 45) #[] #[])], r.V, int now] (roR ({ r with st := 2, s := r.c, c := 0, v := 0, si := now }, 0)) :=
  x_end rfl fun A k w hr => end_done r.st r.s r.c r.v r.a r.si r.nm A _ k r.l now w hn hr h1 h8 (Lib.hid hx)

set_option maxRecDepth 100000 in
theorem x_next (r : RO) (h : Bool) (now : Int) (hn : r.nm.size ≤ maxLen) : DCalls Try.prog 14 [r.V, boo h, int now] (roR (nextR r h now)) := by
  refine sx Try.func14 (by kernel_rfl) ?_
  refine ⟨_, x_running r hn, ?_⟩
  rintro (_ | _) h1
  rotate_left
  · simp at h1
    have e : nextR r h now = (zeroRO, runE r) := by unfold nextR; rw [if_pos h1]; unfold runE at h1 ⊢; split at h1 <;> simp_all
    rw [e]; rfl
  simp at h1
  obtain ⟨ho, hst⟩ := run_ok h1
  obtain ⟨l1, l8, a0, a1, s0, s1⟩ := ok_parts ho
  obtain ⟨hxa, hxp⟩ := alias_ok ho hst
  refine ⟨_, x_clock r now, ?_⟩
  rintro (_ | _) h2
  rotate_left
  · simp at h2
    have e : nextR r h now = (zeroRO, clockE r.si now) := by unfold nextR; rw [if_neg (by simp [h1]), if_pos h2]
    rw [e]; rfl
  simp at h2
  obtain ⟨n0, n1, ns⟩ := clock_ok h2
  rintro (_ | _) h3
  rotate_left
  · simp at h3
    have e : nextR r h now = ({ r with st := 3, c := 0, v := 0, si := now }, 0) := by unfold nextR; rw [if_neg (by simp [h1]), if_neg (by simp [h2]), if_pos h3]
    rw [e]
    refine ⟨none, by kernel_rfl, ?_⟩
    refine ⟨_, x_back, ?_⟩
    refine ⟨_, x_end_back r now hn l1 l8 hxa, ?_⟩
    rfl
  simp at h3
  refine ⟨none, by kernel_rfl, ?_⟩
  refine ⟨a0, _, wAt_of a0 a1, ?_⟩
  rintro (_ | _) h4
  rotate_left
  · simp at h4
    rw [wrap_in (by omega)] at h4
    have e : nextR r h now = (r, 0) := by unfold nextR; rw [if_neg (by simp [h1]), if_neg (by simp [h2]), if_neg (by simp [h3]), if_pos h4]
    rw [e]
    refine ⟨_, x_own r l1 l8, ?_⟩
    rfl
  simp at h4
  rw [wrap_in (by omega)] at h4
  rintro (_ | _) h5
  rotate_left
  · simp at h5
    rw [wrap_in (by omega)] at h5
    have e : nextR r h now = ({ r with st := 2, s := r.c, c := 0, v := 0, si := now }, 0) := by unfold nextR; rw [if_neg (by simp [h1]), if_neg (by simp [h2]), if_neg (by simp [h3]), if_neg (by omega), if_pos h5]
    rw [e]
    refine ⟨none, by kernel_rfl, ?_⟩
    refine ⟨_, x_done, ?_⟩
    refine ⟨_, x_end_done r now hn l1 l8 hxp, ?_⟩
    rfl
  simp at h5
  rw [wrap_in (by omega)] at h5
  have ew : IntKind.i64.wrap (r.a + 1) = r.a + 1 := wrap_in (by omega)
  have e : nextR r h now = ({ r with a := IntKind.i64.wrap (r.a + 1), v := wAt r.l (IntKind.i64.wrap (r.a + 1)), si := now }, 0) := by
    rw [ew]; unfold nextR; rw [if_neg (by simp [h1]), if_neg (by simp [h2]), if_neg (by simp [h3]), if_neg (by omega), if_neg h5]
  rw [e]
  refine ⟨by rw [ew]; omega, _, wAt_of (a := IntKind.i64.wrap (r.a + 1)) (by rw [ew]; omega) (by rw [ew]; omega), ?_⟩
  refine ⟨_, x_own { r with a := IntKind.i64.wrap (r.a + 1), v := wAt r.l (IntKind.i64.wrap (r.a + 1)), si := now } l1 l8, ?_⟩
  rfl

set_option maxRecDepth 100000 in
theorem x_rnext (r : RO) (h : Bool) (now : Int) (hn : r.nm.size ≤ maxLen) : DCalls Try.prog 15 [r.V, boo h, int now] (roR (nextR r h now)) := by
  refine sx Try.func15 (by kernel_rfl) ?_
  refine ⟨_, x_ready r now hn, ?_⟩
  rintro (_ | _) h1
  rotate_left
  · simp at h1
    have e : nextR r h now = (zeroRO, readyE r now) := by
      unfold nextR readyE at *
      by_cases hr : runE r = 0
      · rw [if_neg (by simp [hr])] at h1 ⊢; rw [if_pos h1, if_neg (by simp [hr])]
      · rw [if_pos hr, if_pos hr]
    rw [e]; rfl
  simp at h1
  have hr0 : runE r = 0 := by
    unfold readyE at h1
    by_cases hr : runE r = 0
    · exact hr
    · rw [if_pos hr] at h1; cases h1
  have h2 : clockE r.si now = 0 := by unfold readyE at h1; rwa [if_neg (by simp [hr0])] at h1
  obtain ⟨ho, hst⟩ := run_ok hr0
  obtain ⟨l1, l8, a0, a1, s0, s1⟩ := ok_parts ho
  obtain ⟨hxa, hxp⟩ := alias_ok ho hst
  obtain ⟨n0, n1, ns⟩ := clock_ok h2
  refine ⟨_, x_rown r (by omega), ?_⟩
  rintro (_ | _) h3
  rotate_left
  · simp at h3
    have e : nextR r h now = ({ r with st := 3, c := 0, v := 0, si := now }, 0) := by unfold nextR; rw [if_neg (by simp [hr0]), if_neg (by simp [h2]), if_pos h3]
    rw [e]
    have hab := x_rabort r.nm r.s r.c r.v hn
    change DCalls _ _ _ (alR (abortX r)) at hab
    rw [hxa] at hab
    refine ⟨_, hab, ?_⟩
    rintro (_ | _) h4
    · rfl
    · cases h4
  simp at h3
  refine ⟨none, by kernel_rfl, ?_⟩
  refine ⟨a0, _, wAt_of a0 a1, ?_⟩
  rintro (_ | _) h4
  rotate_left
  · simp at h4
    rw [wrap_in (by omega)] at h4
    have e : nextR r h now = (r, 0) := by unfold nextR; rw [if_neg (by simp [hr0]), if_neg (by simp [h2]), if_neg (by simp [h3]), if_pos h4]
    rw [e]; rfl
  simp at h4
  rw [wrap_in (by omega)] at h4
  rintro (_ | _) h5
  rotate_left
  · simp at h5
    rw [wrap_in (by omega)] at h5
    have e : nextR r h now = ({ r with st := 2, s := r.c, c := 0, v := 0, si := now }, 0) := by unfold nextR; rw [if_neg (by simp [hr0]), if_neg (by simp [h2]), if_neg (by simp [h3]), if_neg (by omega), if_pos h5]
    rw [e]
    have hab := x_rpromote r.nm r.s r.c r.v hn
    change DCalls _ _ _ (alR (promoteX r)) at hab
    rw [hxp] at hab
    refine ⟨_, hab, ?_⟩
    rintro (_ | _) h4
    · rfl
    · cases h4
  simp at h5
  rw [wrap_in (by omega)] at h5
  have ew : IntKind.i64.wrap (r.a + 1) = r.a + 1 := wrap_in (by omega)
  have e : nextR r h now = ({ r with a := IntKind.i64.wrap (r.a + 1), v := wAt r.l (IntKind.i64.wrap (r.a + 1)), si := now }, 0) := by
    rw [ew]; unfold nextR; rw [if_neg (by simp [hr0]), if_neg (by simp [h2]), if_neg (by simp [h3]), if_neg (by omega), if_neg h5]
  rw [e]
  refine ⟨by rw [ew]; omega, _, wAt_of (a := IntKind.i64.wrap (r.a + 1)) (by rw [ew]; omega) (by rw [ew]; omega), ?_⟩
  rfl

def alarmedR (r : RO) (s now : Int) : RO × Int :=
  if runE r ≠ 0 then (zeroRO, 10) else if s < 0 ∨ s > 2 then (zeroRO, 2) else if clockE r.si now ≠ 0 then (zeroRO, clockE r.si now)
  else if s = 0 then (r, 0) else nextR r (s == 1) now

set_option maxRecDepth 100000 in
theorem x_alarmed (r : RO) (s now : Int) (hn : r.nm.size ≤ maxLen) : DCalls Try.prog 18 [r.V, int s, int now] (roR (alarmedR r s now)) := by
  refine sx Try.func18 (by kernel_rfl) ?_
  refine ⟨_, x_running r hn, ?_⟩
  rintro (_ | _) h1
  rotate_left
  · simp at h1
    have e : alarmedR r s now = (zeroRO, runE r) := by unfold alarmedR; rw [if_pos h1]; unfold runE at h1 ⊢; split at h1 <;> simp_all
    rw [e]; rfl
  simp at h1
  obtain ⟨ho, hst⟩ := run_ok h1
  obtain ⟨l1, l8, a0, a1, s0, s1⟩ := ok_parts ho
  obtain ⟨hxa, hxp⟩ := alias_ok ho hst
  rintro (_ | _) h2
  rotate_left
  · simp at h2
    have e : alarmedR r s now = (zeroRO, 2) := by unfold alarmedR; rw [if_neg (by simp [h1]), if_pos (by omega)]
    rw [e]; rfl
  rintro (_ | _) h3
  rotate_left
  · simp at h3
    have e : alarmedR r s now = (zeroRO, 2) := by unfold alarmedR; rw [if_neg (by simp [h1]), if_pos (by omega)]
    rw [e]; rfl
  simp at h2 h3
  refine ⟨_, x_clock r now, ?_⟩
  rintro (_ | _) h4
  rotate_left
  · simp at h4
    have e : alarmedR r s now = (zeroRO, clockE r.si now) := by unfold alarmedR; rw [if_neg (by simp [h1]), if_neg (by omega), if_pos h4]
    rw [e]; rfl
  simp at h4
  rintro (_ | _) h5
  · simp at h5
    have e : alarmedR r s now = nextR r (s == 1) now := by unfold alarmedR; rw [if_neg (by simp [h1]), if_neg (by omega), if_neg (by simp [h4]), if_neg h5]
    rw [e]
    refine ⟨_, x_next r (s == 1) now hn, ?_⟩
    rfl
  · simp at h5
    have e : alarmedR r s now = (r, 0) := by unfold alarmedR; rw [if_neg (by simp [h1]), if_neg (by omega), if_neg (by simp [h4]), if_pos h5]
    rw [e]
    refine ⟨_, x_own r l1 l8, ?_⟩
    rfl

end Go.Proofs.Ytejjemeaponbaaa
