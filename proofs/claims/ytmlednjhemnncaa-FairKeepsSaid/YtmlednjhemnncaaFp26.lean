/- Texts joined by pack.py: XFc5 XSxR XFd4 XFc6 -/
import Derived.Test.YtmlednjhemnncaaFp25
import Derived.Test.YtmlednjhemnncaaFp14
import Derived.ChangeArms
import Derived.SizedLaws
import Derived.DataReads
import Derived.WideShapes
import Derived.DataShut
import Derived.Test.YtmlednjhemnncaaFp24
namespace Go.Proofs.Ytmlednjhemnncaa
open Go.RowKit
section
set_option maxRecDepth 100000
theorem nm_len : MCalls Try.prog fLen [nilP] [] (int 0) [] := by
  refine msxm [] Try.func19 (by kernel_rfl) (by kernel_rfl) ?_
  conv => whnf
  refine ⟨_, n_made, ?_⟩
  conv => whnf
  refine known true rfl ?_
  conv => whnf
  exact ⟨rfl, rfl, rfl⟩
theorem nm_pop : MCalls Try.prog fPop [nilP] [] (.tu [Jb.zero.V, boo false]) [] := by
  refine msxm [] Try.func17 (by kernel_rfl) (by kernel_rfl) ?_
  conv => whnf
  refine ⟨_, n_made, ?_⟩
  conv => whnf
  refine known true rfl ?_
  conv => whnf
  exact ⟨rfl, rfl, rfl⟩
theorem nm_weigh (t : ByteArray) (n : Int) : MCalls Try.prog fWeigh [nilP, str t, int n] [] (int 10) [] := by
  refine msxm [] Try.func12 (by kernel_rfl) (by kernel_rfl) ?_
  conv => whnf
  refine ⟨_, n_made, ?_⟩
  conv => whnf
  refine known true rfl ?_
  conv => whnf
  exact ⟨rfl, rfl, rfl⟩
theorem nm_drop (t : ByteArray) : MCalls Try.prog fDrop [nilP, str t] [] (.sl true 3 []) [] := by
  refine msxm [] Try.func15 (by kernel_rfl) (by kernel_rfl) ?_
  conv => whnf
  refine ⟨_, n_made, ?_⟩
  conv => whnf
  refine known true rfl ?_
  conv => whnf
  exact ⟨rfl, rfl, rfl⟩
theorem nm_backlog (t : ByteArray) : MCalls Try.prog fBacklog [nilP, str t] [] (int 0) [] := by
  refine msxm [] Try.func21 (by kernel_rfl) (by kernel_rfl) ?_
  conv => whnf
  refine ⟨_, n_made, ?_⟩
  conv => whnf
  refine known true rfl ?_
  conv => whnf
  exact ⟨rfl, rfl, rfl⟩
theorem nm_deficit (t : ByteArray) : MCalls Try.prog fDeficit [nilP, str t] [] (int 0) [] := by
  refine msxm [] Try.func23 (by kernel_rfl) (by kernel_rfl) ?_
  conv => whnf
  refine ⟨_, n_made, ?_⟩
  conv => whnf
  refine known true rfl ?_
  conv => whnf
  exact ⟨rfl, rfl, rfl⟩
end
structure Opf where
  k : Int
  j : Jb
  n : Int
def opfD (o : Opf) : List D := [.cv (.int .i64 o.k), .cv (.string o.j.id), .cv (.string o.j.tn), .cv (.int .i64 o.j.co), .cv (.int .i64 o.n)]
abbrev Opf.V (o : Opf) : V := .ag [int o.k, str o.j.id, str o.j.tn, int o.j.co, int o.n]
set_option maxRecDepth 100000 in
set_option maxHeartbeats 8000000 in
theorem x_none (q : Int) (o : Opf) : DCalls Try.prog 4 [int q, o.V] (boo true) := by
  obtain ⟨k, ⟨i, t, c⟩, n⟩ := o
  refine sxm FM Try.func4 (by kernel_rfl) ?_
  by_cases hq : 1 ≤ q ∧ q ≤ 1000000
  · have h1 : decide (q ≥ 1) = true := by simp; omega
    have h2 : decide (q ≤ 1000000) = true := by simp; omega
    conv => whnf
    refine mcallV (gf := true) (T := TT) (φ := [16, 19, 20, 21, 22]) (x_new q hq) ?_
    conv => whnf
    refine known true h1 ?_
    conv => whnf
    rw [h2]
    repeat ((conv => whnf); first | refine known false rfl ?_ | refine known true rfl ?_)
    conv => whnf
    refine mcallV (ρ := []) (ln := true) (gf := true) (T := TT) (φ := []) nm_pop ?_
    repeat ((conv => whnf); first | refine known false rfl ?_ | refine known true rfl ?_)
    conv => whnf
    refine mcallV (ρ := [37]) (ln := true) (gf := true) (T := TT) (φ := []) z_pop ?_
    repeat ((conv => whnf); first | refine known false rfl ?_ | refine known true rfl ?_)
    conv => whnf
    refine mcallV (ρ := []) (ln := true) (gf := true) (T := TT) (φ := []) (nm_push ⟨i, t, c⟩) ?_
    repeat ((conv => whnf); first | refine known false rfl ?_ | refine known true rfl ?_)
    conv => whnf
    refine mcallV (ρ := [37]) (ln := true) (gf := true) (T := TT) (φ := []) (z_push ⟨i, t, c⟩) ?_
    repeat ((conv => whnf); first | refine known false rfl ?_ | refine known true rfl ?_)
    conv => whnf
    refine mcallV (ρ := []) (ln := true) (gf := true) (T := TT) (φ := []) (nm_weigh t n) ?_
    repeat ((conv => whnf); first | refine known false rfl ?_ | refine known true rfl ?_)
    conv => whnf
    refine mcallV (ρ := [37]) (ln := true) (gf := true) (T := TT) (φ := []) (z_weigh t n) ?_
    repeat ((conv => whnf); first | refine known false rfl ?_ | refine known true rfl ?_)
    conv => whnf
    refine mcallV (ρ := []) (ln := true) (gf := true) (T := TT) (φ := []) (nm_drop t) ?_
    repeat ((conv => whnf); first | refine known false rfl ?_ | refine known true rfl ?_)
    conv => whnf
    refine mcallV (ρ := [37]) (ln := true) (gf := true) (T := TT) (φ := []) (z_drop t) ?_
    repeat ((conv => whnf); first | refine known false rfl ?_ | refine known true rfl ?_)
    conv => whnf
    refine mcallV (ρ := []) (ln := true) (gf := true) (T := TT) (φ := []) nm_len ?_
    repeat ((conv => whnf); first | refine known false rfl ?_ | refine known true rfl ?_)
    conv => whnf
    refine mcallV (ρ := [37]) (ln := true) (gf := true) (T := TT) (φ := []) z_len ?_
    repeat ((conv => whnf); first | refine known false rfl ?_ | refine known true rfl ?_)
    conv => whnf
    refine mcallV (ρ := []) (ln := true) (gf := true) (T := TT) (φ := []) (nm_backlog t) ?_
    repeat ((conv => whnf); first | refine known false rfl ?_ | refine known true rfl ?_)
    conv => whnf
    refine mcallV (ρ := [37]) (ln := true) (gf := true) (T := TT) (φ := []) (z_backlog t) ?_
    repeat ((conv => whnf); first | refine known false rfl ?_ | refine known true rfl ?_)
    conv => whnf
    refine mcallV (ρ := []) (ln := true) (gf := true) (T := TT) (φ := []) (nm_deficit t) ?_
    repeat ((conv => whnf); first | refine known false rfl ?_ | refine known true rfl ?_)
    conv => whnf
    refine mcallV (ρ := [37]) (ln := true) (gf := true) (T := TT) (φ := []) (z_deficit t) ?_
    repeat ((conv => whnf); first | refine known false rfl ?_ | refine known true rfl ?_)
    conv => whnf
    refine ⟨_, x_awake, ?_⟩
    (conv => whnf) <;> rfl
  · rcases Int.lt_or_le q 1 with hq1 | hq1
    · have h1 : decide (q ≥ 1) = false := by simp; omega
      conv => whnf
      refine mcallV (ln := true) (gf := true) (T := TT) (φ := []) (x_new0 q hq) ?_
      conv => whnf
      refine known false h1 ?_
      repeat ((conv => whnf); first | refine known false rfl ?_ | refine known true rfl ?_)
      conv => whnf
      refine mcallV (ρ := []) (ln := true) (gf := true) (T := TT) (φ := []) nm_pop ?_
      repeat ((conv => whnf); first | refine known false rfl ?_ | refine known true rfl ?_)
      conv => whnf
      refine mcallV (ρ := [37]) (ln := true) (gf := true) (T := TT) (φ := []) z_pop ?_
      repeat ((conv => whnf); first | refine known false rfl ?_ | refine known true rfl ?_)
      conv => whnf
      refine mcallV (ρ := []) (ln := true) (gf := true) (T := TT) (φ := []) (nm_push ⟨i, t, c⟩) ?_
      repeat ((conv => whnf); first | refine known false rfl ?_ | refine known true rfl ?_)
      conv => whnf
      refine mcallV (ρ := [37]) (ln := true) (gf := true) (T := TT) (φ := []) (z_push ⟨i, t, c⟩) ?_
      repeat ((conv => whnf); first | refine known false rfl ?_ | refine known true rfl ?_)
      conv => whnf
      refine mcallV (ρ := []) (ln := true) (gf := true) (T := TT) (φ := []) (nm_weigh t n) ?_
      repeat ((conv => whnf); first | refine known false rfl ?_ | refine known true rfl ?_)
      conv => whnf
      refine mcallV (ρ := [37]) (ln := true) (gf := true) (T := TT) (φ := []) (z_weigh t n) ?_
      repeat ((conv => whnf); first | refine known false rfl ?_ | refine known true rfl ?_)
      conv => whnf
      refine mcallV (ρ := []) (ln := true) (gf := true) (T := TT) (φ := []) (nm_drop t) ?_
      repeat ((conv => whnf); first | refine known false rfl ?_ | refine known true rfl ?_)
      conv => whnf
      refine mcallV (ρ := [37]) (ln := true) (gf := true) (T := TT) (φ := []) (z_drop t) ?_
      repeat ((conv => whnf); first | refine known false rfl ?_ | refine known true rfl ?_)
      conv => whnf
      refine mcallV (ρ := []) (ln := true) (gf := true) (T := TT) (φ := []) nm_len ?_
      repeat ((conv => whnf); first | refine known false rfl ?_ | refine known true rfl ?_)
      conv => whnf
      refine mcallV (ρ := [37]) (ln := true) (gf := true) (T := TT) (φ := []) z_len ?_
      repeat ((conv => whnf); first | refine known false rfl ?_ | refine known true rfl ?_)
      conv => whnf
      refine mcallV (ρ := []) (ln := true) (gf := true) (T := TT) (φ := []) (nm_backlog t) ?_
      repeat ((conv => whnf); first | refine known false rfl ?_ | refine known true rfl ?_)
      conv => whnf
      refine mcallV (ρ := [37]) (ln := true) (gf := true) (T := TT) (φ := []) (z_backlog t) ?_
      repeat ((conv => whnf); first | refine known false rfl ?_ | refine known true rfl ?_)
      conv => whnf
      refine mcallV (ρ := []) (ln := true) (gf := true) (T := TT) (φ := []) (nm_deficit t) ?_
      repeat ((conv => whnf); first | refine known false rfl ?_ | refine known true rfl ?_)
      conv => whnf
      refine mcallV (ρ := [37]) (ln := true) (gf := true) (T := TT) (φ := []) (z_deficit t) ?_
      repeat ((conv => whnf); first | refine known false rfl ?_ | refine known true rfl ?_)
      conv => whnf
      refine ⟨_, x_awake, ?_⟩
      (conv => whnf) <;> rfl
    · have h1 : decide (q ≥ 1) = true := by simp; omega
      have h2 : decide (q ≤ 1000000) = false := by simp; omega
      conv => whnf
      refine mcallV (ln := true) (gf := true) (T := TT) (φ := []) (x_new0 q hq) ?_
      conv => whnf
      refine known true h1 ?_
      conv => whnf
      rw [h2]
      repeat ((conv => whnf); first | refine known false rfl ?_ | refine known true rfl ?_)
      conv => whnf
      refine mcallV (ρ := []) (ln := true) (gf := true) (T := TT) (φ := []) nm_pop ?_
      repeat ((conv => whnf); first | refine known false rfl ?_ | refine known true rfl ?_)
      conv => whnf
      refine mcallV (ρ := [37]) (ln := true) (gf := true) (T := TT) (φ := []) z_pop ?_
      repeat ((conv => whnf); first | refine known false rfl ?_ | refine known true rfl ?_)
      conv => whnf
      refine mcallV (ρ := []) (ln := true) (gf := true) (T := TT) (φ := []) (nm_push ⟨i, t, c⟩) ?_
      repeat ((conv => whnf); first | refine known false rfl ?_ | refine known true rfl ?_)
      conv => whnf
      refine mcallV (ρ := [37]) (ln := true) (gf := true) (T := TT) (φ := []) (z_push ⟨i, t, c⟩) ?_
      repeat ((conv => whnf); first | refine known false rfl ?_ | refine known true rfl ?_)
      conv => whnf
      refine mcallV (ρ := []) (ln := true) (gf := true) (T := TT) (φ := []) (nm_weigh t n) ?_
      repeat ((conv => whnf); first | refine known false rfl ?_ | refine known true rfl ?_)
      conv => whnf
      refine mcallV (ρ := [37]) (ln := true) (gf := true) (T := TT) (φ := []) (z_weigh t n) ?_
      repeat ((conv => whnf); first | refine known false rfl ?_ | refine known true rfl ?_)
      conv => whnf
      refine mcallV (ρ := []) (ln := true) (gf := true) (T := TT) (φ := []) (nm_drop t) ?_
      repeat ((conv => whnf); first | refine known false rfl ?_ | refine known true rfl ?_)
      conv => whnf
      refine mcallV (ρ := [37]) (ln := true) (gf := true) (T := TT) (φ := []) (z_drop t) ?_
      repeat ((conv => whnf); first | refine known false rfl ?_ | refine known true rfl ?_)
      conv => whnf
      refine mcallV (ρ := []) (ln := true) (gf := true) (T := TT) (φ := []) nm_len ?_
      repeat ((conv => whnf); first | refine known false rfl ?_ | refine known true rfl ?_)
      conv => whnf
      refine mcallV (ρ := [37]) (ln := true) (gf := true) (T := TT) (φ := []) z_len ?_
      repeat ((conv => whnf); first | refine known false rfl ?_ | refine known true rfl ?_)
      conv => whnf
      refine mcallV (ρ := []) (ln := true) (gf := true) (T := TT) (φ := []) (nm_backlog t) ?_
      repeat ((conv => whnf); first | refine known false rfl ?_ | refine known true rfl ?_)
      conv => whnf
      refine mcallV (ρ := [37]) (ln := true) (gf := true) (T := TT) (φ := []) (z_backlog t) ?_
      repeat ((conv => whnf); first | refine known false rfl ?_ | refine known true rfl ?_)
      conv => whnf
      refine mcallV (ρ := []) (ln := true) (gf := true) (T := TT) (φ := []) (nm_deficit t) ?_
      repeat ((conv => whnf); first | refine known false rfl ?_ | refine known true rfl ?_)
      conv => whnf
      refine mcallV (ρ := [37]) (ln := true) (gf := true) (T := TT) (φ := []) (z_deficit t) ?_
      repeat ((conv => whnf); first | refine known false rfl ?_ | refine known true rfl ?_)
      conv => whnf
      refine ⟨_, x_awake, ?_⟩
      (conv => whnf) <;> rfl
end Go.Proofs.Ytmlednjhemnncaa
namespace Go.Proofs.Ytmlednjhemnncaa
open Go.RowKit
def szOf (T : Tab) (e : Nat) : Nat := match T e with | some i => i.size | none => 0
def byOf (T : Tab) (e : Nat) : Nat := match T e with | some i => i.bytes | none => 0
def DOkL (p : Nat → List D → Prop) : List (Nat × Nat) → List D → Prop
  | [], ds => ds = []
  | f :: fs, ds => ∃ a b, ds = a ++ b ∧ p f.2 a ∧ DOkL p fs b
def DOk (T : Tab) : Nat → Nat → List D → Prop
  | 0, _, _ => False
  | n + 1, ty, ds => match T ty with
    | none => False
    | some i => match i.kd with
      | .int k => ∃ z, ds = [.cv (.int k z)] ∧ (Lit.int k z).wf = true
      | .bool => ∃ b, ds = [.cv (.bool b)]
      | .string => ∃ s : ByteArray, ds = [.cv (.string s)] ∧ s.size ≤ reachBytes
      | .slice e => ∃ xs, ds = [.sl (szOf T e) xs] ∧ xs.length * byOf T e ≤ reachBytes ∧ xs.length ≤ maxLen ∧ ∀ x ∈ xs, DOk T n e x
      | .struct fs => DOkL (DOk T n) fs ds
      | _ => False
def contig (T : Tab) : Nat → List (Nat × Nat) → Option Nat
  | o, [] => some o
  | o, (off, ty) :: fs => if off = o then (match T ty with | some i => contig T (o + i.size) fs | none => none) else none
def okT (T : Tab) : Nat → Nat → Bool
  | 0, _ => false
  | n + 1, ty => match T ty with
    | none => false
    | some i => match i.kd with
      | .int _ | .bool | .string => i.size == 1
      | .slice e => i.size == 1 && (szOf T e != 0 && okT T n e)
      | .struct fs => contig T 0 fs == some i.size && fs.all fun f => okT T n f.2
      | _ => false
section
variable {P : Program} {T : Tab} {H : Type} {enc : TypeId × Value → H} {w : World} {spare : Nat → Bool} {held : Bool}
theorem TOk.cells (hT : TOk P T) {ty : Nat} {i : TI} (h : T ty = some i) : P.cellsOf ty = i.size ∧ P.bytesOf ty = i.bytes := by
  obtain ⟨j, h1, h2, h3, _⟩ := hT.get ty i h
  simp [Program.cellsOf, Program.bytesOf, h1, h2, h3]
theorem TOk.szOf (hT : TOk P T) {ty : Nat} (h : szOf T ty ≠ 0) : P.cellsOf ty = szOf T ty ∧ P.bytesOf ty = byOf T ty := by
  unfold Go.Proofs.Ytmlednjhemnncaa.szOf at h ⊢
  unfold byOf
  cases hi : T ty with
  | none => rw [hi] at h; exact absurd rfl h
  | some i => exact hT.cells hi
theorem get_of_cells? {a : Addr} {n : Nat} {cs : List Value} (h : w.cells? 0 a n = some cs) : cs.length = n ∧ ∀ j u, cs[j]? = some u → w.cell? (a.add j) = some u := by
  unfold World.cells? at h
  rw [if_pos (Nat.zero_le _)] at h
  have hl := mapM_some_length h
  simp at hl
  refine ⟨hl, fun j u hu => ?_⟩
  have hj : j < n := by have := lt_of_get hu; omega
  have := mapM_some_get h j j (by simp [hj])
  rw [this, hu]
theorem weights_sl {e : TypeId} {d : DataW H} : ∀ {l : List (DataW H)}, d ∈ l → ∀ n ∈ d.weights P e, n ∈ DataW.weightsAll P e l
  | x :: l, hd, n, hn => by
    simp only [DataW.weightsAll, List.mem_append]
    rcases List.mem_cons.1 hd with rfl | hd
    · exact .inl hn
    · exact .inr (weights_sl hd n hn)
theorem cells_one {v : Value} (h : v.oneCell' = true) : v.cells = #[v] := by
  cases v <;> simp_all [Value.oneCell', Value.cells]
set_option maxHeartbeats 1000000 in
theorem trod_read (hT : TOk P T) : ∀ (n ty fuel : Nat) (cs : List Value) (x : DataW H × List MemPlace), okT T n ty = true → DataW.trod enc P w 0 spare held fuel ty cs = some x → (∀ q ∈ x.1.weights P ty, q ≤ reachBytes) →
    ∃ ds, DOk T n ty ds ∧ ds.length = cs.length ∧ ∀ (i : Nat) (d : D), ds[i]? = some d → ∃ u : Value, cs[i]? = some u ∧ RelD (fun b => b < w.heap.size) w d u := by
  intro n
  induction n with
  | zero => intro ty fuel cs x h; cases h
  | succ n ih =>
    intro ty fuel cs x hok h hw
    simp only [okT] at hok
    cases hi : T ty with
    | none => rw [hi] at hok; cases hok
    | some i =>
    rw [hi] at hok
    obtain ⟨size, bytes, agg, zero, kd⟩ := i
    have one : ∀ {d : D} {u : Value}, RelD (fun b => b < w.heap.size) w d u → ∀ (i : Nat) (d' : D), [d][i]? = some d' → ∃ u' : Value, [u][i]? = some u' ∧ RelD (fun b => b < w.heap.size) w d' u' := by
      intro d u hr i d' hd
      cases i with
      | zero => simp at hd; subst hd; exact ⟨u, rfl, hr⟩
      | succ i => simp at hd
    cases kd with
    | int k =>
      obtain ⟨z, rfl, _, hz⟩ := DataW.trod_int (hT.kd_int hi rfl) h
      exact ⟨[.cv (.int k z)], by simp only [DOk, hi]; exact ⟨z, rfl, hz⟩, rfl, one (.cv _ rfl)⟩
    | bool =>
      obtain ⟨b, rfl, _⟩ := DataW.trod_bool (hT.kd_bool hi rfl) h
      exact ⟨[.cv (.bool b)], by simp only [DOk, hi]; exact ⟨b, rfl⟩, rfl, one (.cv _ rfl)⟩
    | string =>
      obtain ⟨s, rfl, rfl, _⟩ := DataW.trod_string (hT.kd_string hi rfl) h
      have := hw s.data.toList.length (by simp [DataW.weights])
      exact ⟨[.cv (.string s)], by simp only [DOk, hi]; exact ⟨s, rfl, by simpa using this⟩, rfl, one (.cv _ rfl)⟩
    | slice e =>
      simp only [Bool.and_eq_true, bne_iff_ne, ne_eq] at hok
      obtain ⟨_, hsz, hoke⟩ := hok
      obtain ⟨hc, hb⟩ := hT.szOf hsz
      have hu := hT.kd_slice hi rfl
      rcases DataW.trod_slice hu h with ⟨rfl, rfl⟩ | ⟨a, len, cap, elems, rest, m, rfl, rfl, rfl, _, hlc, hcm, hlen, hel, _, _⟩
      · exact ⟨[.sl (szOf T e) []], by simp only [DOk, hi]; exact ⟨[], rfl, by simp, by simp, by simp⟩, rfl, one (.nil _ _ _)⟩
      · rw [hc] at hel
        have helem : ∀ i, i < len → ∃ (ds : List D) (us : List Value), w.cells? 0 (a.add (i * szOf T e)) (szOf T e) = some us ∧ DOk T n e ds ∧ ds.length = us.length ∧ ∀ (j : Nat) (d : D), ds[j]? = some d → ∃ u : Value, us[j]? = some u ∧ RelD (fun b => b < w.heap.size) w d u := by
          intro i hlt
          have h1 := hel i hlt
          have hi' : i < elems.length := by omega
          rw [List.getElem?_eq_getElem hi', Option.bind_eq_some_iff] at h1
          obtain ⟨us, h2, h3⟩ := h1
          obtain ⟨ds, h4, h5, h6⟩ := ih e m us _ hoke h3 fun q hq => hw q (by
            simp only [DataW.weights, hu, List.mem_cons, List.mem_append]
            exact .inr (.inl (weights_sl (List.mem_map.2 ⟨_, List.getElem_mem hi', rfl⟩) q hq)))
          exact ⟨ds, us, h2, h4, h5, h6⟩
        let dsF : Nat → List D := fun i => if hlt : i < len then Classical.choose (helem i hlt) else []
        have hF : ∀ i, i < len → ∃ us : List Value, w.cells? 0 (a.add (i * szOf T e)) (szOf T e) = some us ∧ DOk T n e (dsF i) ∧ (dsF i).length = us.length ∧ ∀ (j : Nat) (d : D), (dsF i)[j]? = some d → ∃ u : Value, us[j]? = some u ∧ RelD (fun b => b < w.heap.size) w d u := by
          intro i hlt
          have := Classical.choose_spec (helem i hlt)
          simp only [dsF, hlt, dif_pos]
          exact this
        refine ⟨[.sl (szOf T e) ((List.range len).map dsF)], ?_, rfl, one ?_⟩
        · simp only [DOk, hi]
          refine ⟨_, rfl, ?_, by simp; omega, fun x hx => ?_⟩
          · have := hw ((elems.length + rest.length) * P.bytesOf e) (by simp [DataW.weights, hu])
            rw [hb] at this
            simp only [List.length_map, List.length_range]
            refine Nat.le_trans (Nat.mul_le_mul_right _ ?_) this
            omega
          · obtain ⟨i, hi', rfl⟩ := List.mem_map.1 hx
            exact (hF i (by simpa using hi')).choose_spec.2.1
        · by_cases h0 : len = 0
          · subst h0; exact .nil _ _ _
          have hcell : ∀ (i j : Nat) (d : D), i < len → (dsF i)[j]? = some d → ∃ u : Value, w.cell? ((a.add (i * szOf T e)).add j) = some u ∧ RelD (fun b => b < w.heap.size) w d u := by
            intro i j d hlt hd
            obtain ⟨us, h1, h2, h3, h4⟩ := hF i hlt
            obtain ⟨u, h5, h6⟩ := h4 j d hd
            exact ⟨u, (get_of_cells? h1).2 j u h5, h6⟩
          have hlenF : ∀ i, i < len → (dsF i).length = szOf T e := fun i hlt => by
            obtain ⟨us, h1, h2, h3, h4⟩ := hF i hlt
            rw [h3, (get_of_cells? h1).1]
          obtain ⟨b, o, spot⟩ := a
          obtain ⟨u0, h1, _⟩ := hcell 0 0 _ (by omega) (List.getElem?_eq_getElem (by rw [hlenF 0 (by omega)]; omega))
          have hspot : spot = none := by
            have := World.cell?_spot h1
            unfold Addr.add at this
            split at this <;> split at this <;> simp_all
          subst hspot
          have hlt := World.block_lt_of_cell? w _ h1
          simp only [add_mk] at hlt hcell
          have hl : ((List.range len).map dsF).length = len := by simp
          have hget : ∀ (i j : Nat) (d : D), (((List.range len).map dsF)[i]?.bind fun x => x[j]?) = some d → i < len ∧ (dsF i)[j]? = some d := by
            intro i j d hd
            rcases Nat.lt_or_ge i len with h' | h'
            · simp [h'] at hd; exact ⟨h', hd⟩
            · simp [h'] at hd
          suffices hs : RelD (fun b => b < w.heap.size) w (.sl (szOf T e) ((List.range len).map dsF)) (.slice (some ⟨b, o, none⟩) ((List.range len).map dsF).length cap) by rw [hl] at hs; exact hs
          refine RelD.sl (S := fun b => b < w.heap.size) _ _ b o cap (fun i j => (w.cell? ⟨b, o + i * szOf T e + j, none⟩).getD undef) hlt (fun x hx => ?_) (by rw [hl]; exact hlc) (fun i j d hd => ?_) (fun i j d hd => ?_)
          · obtain ⟨i, hi', rfl⟩ := List.mem_map.1 hx
            exact hlenF i (by simpa using hi')
          · obtain ⟨h2, h3⟩ := hget i j d hd
            obtain ⟨u, h4, _⟩ := hcell i j d h2 h3
            rw [h4]; rfl
          · obtain ⟨h2, h3⟩ := hget i j d hd
            obtain ⟨u, h4, h5⟩ := hcell i j d h2 h3
            rw [h4]; exact h5
    | struct fs =>
      simp only [Bool.and_eq_true, beq_iff_eq, List.all_eq_true] at hok
      obtain ⟨hcon, hall⟩ := hok
      obtain ⟨gs, hu, hgs⟩ := hT.kd_struct hi rfl
      obtain ⟨xs, m, rfl, rfl, hl, hxl, hf⟩ := DataW.trod_struct hu h
      rw [(hT.cells hi).1] at hl
      replace hl : cs.length = size := hl
      have key : ∀ (l : List (Nat × Nat)) (k o : Nat), fs.drop k = l → contig T o l = some size → ∃ ds, DOkL (DOk T n) l ds ∧ o + ds.length = size ∧ ∀ (i : Nat) (d : D), ds[i]? = some d → ∃ u : Value, cs[o + i]? = some u ∧ RelD (fun b => b < w.heap.size) w d u := by
        intro l
        induction l with
        | nil =>
          intro k o _ hc
          simp only [contig, Option.some.injEq] at hc
          exact ⟨[], rfl, by simp [hc], by simp⟩
        | cons f l ihl =>
          intro k o hk hc
          obtain ⟨off, fty⟩ := f
          simp only [contig] at hc
          split at hc
          rotate_left
          · cases hc
          rename_i hoff
          subst hoff
          cases hft : T fty with
          | none => rw [hft] at hc; cases hc
          | some fi =>
          rw [hft] at hc
          have hkf : fs[k]? = some (off, fty) := by
            have := congrArg (fun l => l[0]?) hk
            simpa using this
          have hg : ∃ g, gs[k]? = some g ∧ g.offset = off ∧ g.type = fty := by
            rw [← hgs, List.getElem?_map, Option.map_eq_some_iff] at hkf
            obtain ⟨g, hg, e⟩ := hkf
            simp only [Prod.mk.injEq] at e
            exact ⟨g, by simpa using hg, e.1, e.2⟩
          obtain ⟨g, hg, rfl, rfl⟩ := hg
          have h1 := hf k g hg
          have hlt : k < xs.length := by
            have : k < gs.size := (Array.getElem?_eq_some_iff.1 hg).1
            omega
          rw [List.getElem?_eq_getElem hlt, (hT.cells hft).1] at h1
          obtain ⟨da, h2, h3, h4⟩ := ih g.type m _ _ (hall _ (List.mem_of_getElem? hkf)) h1 fun q hq => hw q (by
            simp only [DataW.weights, hu]
            refine DataW.weights_mem_each (j := k) (t := g.type) (d := xs[k].1) ?_ ?_ q hq
            · rw [List.getElem?_map]; simp [hg]
            · simp [hlt])
          obtain ⟨db, h5, h6, h7⟩ := ihl (k + 1) (g.offset + fi.size) (by
            have := congrArg (List.drop 1) hk
            simpa [List.drop_drop, Nat.add_comm] using this) hc
          have hla : da.length = fi.size := by
            rw [h3, List.length_take, List.length_drop]; omega
          refine ⟨da ++ db, ⟨da, db, rfl, h2, h5⟩, by simp; omega, fun i d hd => ?_⟩
          rw [List.getElem?_append] at hd
          split at hd
          · rename_i hlt'
            obtain ⟨u, h8, h9⟩ := h4 i d hd
            rw [List.getElem?_take, if_pos (by omega), List.getElem?_drop] at h8
            exact ⟨u, h8, h9⟩
          · rename_i hge
            obtain ⟨u, h8, h9⟩ := h7 _ d hd
            refine ⟨u, ?_, h9⟩
            rw [← h8]; congr 1; omega
      obtain ⟨ds, h1, h2, h3⟩ := key fs 0 0 rfl hcon
      exact ⟨ds, by simp only [DOk, hi]; exact h1, by omega, fun i d hd => by simpa using h3 i d hd⟩
    | _ => cases hok
def dV : List D → V
  | [d] => d.v true
  | _ => .un
def vOf (T : Tab) (ty : Nat) (ds : List D) : V :=
  match T ty with
  | some i => if i.agg then .ag (ds.map (D.v true)) else dV ds
  | none => .un
open Go.WideShapes in
theorem read_arg (hT : TOk P T) {n ty : Nat} (hok : okT T n ty = true) {r : Reach} {b0 : Nat} {v : Value} {d : DataW H} {ps : List MemPlace} (hval : Value.okWide P w r b0 ty v)
    (h : DataW.Trod enc P w 0 spare held ty v d ps) (hw : ∀ q ∈ d.weights P ty, q ≤ reachBytes) : ∃ ds, DOk T n ty ds ∧ RelV (fun _ => none) (fun _ b => b < w.heap.size) w (vOf T ty ds) v := by
  obtain ⟨fuel, h⟩ := h
  obtain ⟨ds, h1, h2, h3⟩ := trod_read hT n ty fuel _ _ hok h hw
  refine ⟨ds, h1, ?_⟩
  cases n with
  | zero => cases hok
  | succ n =>
  simp only [okT] at hok
  unfold vOf
  cases hi : T ty with
  | none => rw [hi] at hok; cases hok
  | some i =>
  rw [hi] at hok
  have hagg := (hT.ok hi).1
  have one : i.agg = false → v.cells = #[v] → RelV (fun _ => none) (fun _ b => b < w.heap.size) w (if i.agg then .ag (ds.map (D.v true)) else dV ds) v := by
    intro e1 e2
    rw [e2] at h2 h3
    rw [e1]
    match ds, h2, h3 with
    | [d], _, h3 =>
      obtain ⟨u, hu, hr⟩ := h3 0 d rfl
      simp at hu; subst hu
      exact .ofD (S := fun _ b => b < w.heap.size) hr
    | [], _, _ => exact .un _
    | _ :: _ :: _, _, _ => exact .un _
  have many : ∀ us : Array Value, i.agg = true → v = .agg us → RelV (fun _ => none) (fun _ b => b < w.heap.size) w (if i.agg then .ag (ds.map (D.v true)) else dV ds) v := by
    rintro us e1 rfl
    rw [e1]
    simp only [Value.cells, Array.length_toList] at h2 h3
    refine .ag _ us (by simpa using h2) fun j c hc => ?_
    rw [List.getElem?_map, Option.map_eq_some_iff] at hc
    obtain ⟨d, hd, rfl⟩ := hc
    obtain ⟨u, hu, hr⟩ := h3 j d hd
    rw [getD_of_get hu]
    exact .ofD (S := fun _ b => b < w.heap.size) hr
  obtain ⟨size, bytes, agg, zero, kd⟩ := i
  cases kd with
  | int k => obtain ⟨z, rfl⟩ := okWide_int (hT.kd_int hi rfl) hval; exact one hagg rfl
  | bool => obtain ⟨z, rfl⟩ := okWide_bool (hT.kd_bool hi rfl) hval; exact one hagg rfl
  | string => obtain ⟨z, rfl⟩ := okWide_string (hT.kd_string hi rfl) hval; exact one hagg rfl
  | slice e => obtain ⟨a, l, c, rfl⟩ := okWide_slice (hT.kd_slice hi rfl) hval; exact one hagg rfl
  | struct fs =>
    obtain ⟨gs, hu, _⟩ := hT.kd_struct hi rfl
    obtain ⟨us, rfl, _⟩ := okWide_struct hu hval
    exact many us hagg rfl
  | _ => cases hok
theorem weights_cons {t : TypeId} {ts : List TypeId} {d : DataW H} {ds : List (DataW H)} (h : ∀ q ∈ DataW.weightsEach P (t :: ts) (d :: ds), q ≤ reachBytes) :
    (∀ q ∈ d.weights P t, q ≤ reachBytes) ∧ ∀ q ∈ DataW.weightsEach P ts ds, q ≤ reachBytes := by
  simp only [DataW.weightsEach, List.mem_append] at h
  exact ⟨fun q hq => h q (.inl hq), fun q hq => h q (.inr hq)⟩
theorem relL_nil {N : Names} {S : Sets} : RelL N S w [] [] := ⟨rfl, by simp⟩
theorem relL_cons {N : Names} {S : Sets} {v : V} {u : Value} {vs : List V} {us : List Value} (h : RelV N S w v u) (hl : RelL N S w vs us) : RelL N S w (v :: vs) (u :: us) := by
  refine ⟨by simp [hl.1], fun i x hx => ?_⟩
  cases i with
  | zero => simp at hx; subst hx; simpa using h
  | succ i => simpa using hl.2 i x (by simpa using hx)
end
end Go.Proofs.Ytmlednjhemnncaa
namespace Go.Proofs.Ytmlednjhemnncaa
open Go.RowKit
theorem reach_le {n : Nat} (h : n ≤ reachBytes) : n ≤ maxLen := Nat.le_trans h (by decide)
theorem map_ofF {A : Type} {f : A → List D} {p : A → Prop} : ∀ {xs : List (List D)}, (∀ x ∈ xs, ∃ a, x = f a ∧ p a) → ∃ l : List A, xs = l.map f ∧ ∀ a ∈ l, p a
  | [], _ => ⟨[], rfl, by simp⟩
  | x :: xs, h => by
    obtain ⟨a, rfl, ha⟩ := h x (by simp)
    obtain ⟨l, rfl, hl⟩ := map_ofF (xs := xs) fun y hy => h y (by simp [hy])
    exact ⟨a :: l, rfl, by simp [ha]; exact hl⟩
theorem read_opf {n : Nat} {ds : List D} (h : DOk TT (n + 3) 36 ds) : ∃ o : Opf, ds = opfD o ∧ o.j.id.size ≤ maxLen ∧ o.j.tn.size ≤ maxLen := by
  obtain ⟨_, _, rfl, ⟨k, rfl, _⟩, _, _, rfl, ⟨_, _, rfl, ⟨a, rfl, g1⟩, _, _, rfl, ⟨b, rfl, g2⟩, _, _, rfl, ⟨c, rfl, _⟩, rfl⟩, _, _, rfl, ⟨m, rfl, _⟩, rfl⟩ := h
  exact ⟨⟨k, ⟨a, b, c⟩, m⟩, rfl, reach_le g1, reach_le g2⟩
theorem d_none (ds0 ds1 : List D) (h0 : DOk TT 6 3 ds0) (h1 : DOk TT 6 36 ds1) : DCalls Try.prog 4 [vOf TT 3 ds0, vOf TT 36 ds1] (boo true) := by
  obtain ⟨q, rfl, _⟩ := h0
  obtain ⟨o, rfl, _⟩ := read_opf h1
  exact x_none q o
end Go.Proofs.Ytmlednjhemnncaa
namespace Go.Proofs.Ytmlednjhemnncaa
open Go.RowKit
theorem find_push (j : Jb) (t : ByteArray) : ∀ l : List Ac,
    ((findA (pushR l j) t).map (·.js)).getD [] = (if j.tn = t then ((findA l t).map (·.js)).getD [] ++ [j] else ((findA l t).map (·.js)).getD []) ∧ ((findA (pushR l j) t).map (·.df)).getD 0 = ((findA l t).map (·.df)).getD 0
  | [] => by
    simp only [pushR, findA]
    split <;> simp
  | a :: l => by
    obtain ⟨h1, h2⟩ := find_push j t l
    simp only [pushR]
    split
    · rename_i e
      simp only [findA]
      by_cases ha : a.tn = t
      · simp [ha, show j.tn = t from e ▸ ha]
      · have hj : j.tn ≠ t := fun h => ha (e.trans h)
        simp [ha, hj]
    · simp only [findA]
      by_cases ha : a.tn = t
      · have hj : j.tn ≠ t := fun h => by simp_all
        simp [ha, hj]
      · simp only [ha, if_false]
        exact ⟨h1, h2⟩
theorem lenR_push (j : Jb) : ∀ l : List Ac, lenR (pushR l j) = lenR l + 1
  | [] => by simp [pushR, lenR]
  | a :: l => by
    have := lenR_push j l
    simp only [pushR]
    split
    · simp only [lenR, List.length_append, List.length_singleton]; omega
    · simp only [lenR, this]; omega
theorem find_drop_ne {t u : ByteArray} (h : u ≠ t) : ∀ l : List Ac, findA (dropR l t) u = findA l u
  | [] => rfl
  | a :: l => by
    simp only [dropR, findA]
    split
    · rename_i e
      rw [if_neg (fun e' => h (e'.symm.trans e))]
    · simp only [findA, find_drop_ne h l]
theorem find_drop_eq {t : ByteArray} : ∀ l : List Ac, (l.map (·.tn)).Nodup → findA (dropR l t) t = none
  | [], _ => rfl
  | a :: l, h => by
    rw [List.map_cons, List.nodup_cons] at h
    simp only [dropR]
    split
    · rename_i e
      exact findA_none.2 (e ▸ h.1)
    · rename_i e
      simp only [findA, if_neg e, find_drop_eq l h.2]
theorem lenR_drop {t : ByteArray} : ∀ l : List Ac, lenR (dropR l t) = lenR l - (((findA l t).map (·.js)).getD []).length
  | [] => by simp [dropR, lenR, findA]
  | a :: l => by
    have := lenR_drop (t := t) l
    simp only [dropR, findA]
    split
    · simp only [lenR, Option.map_some, Option.getD_some]; omega
    · simp only [lenR, this]; omega
theorem jobs_push {s : Qs} {j : Jb} (he : pushE s j = 0) (t : ByteArray) : jobsOf (s.push j) t = if j.tn = t then jobsOf s t ++ [j] else jobsOf s t := by
  unfold jobsOf Qs.push
  rw [if_pos he]
  exact (find_push j t s.R).1
theorem len_push {s : Qs} {j : Jb} (he : pushE s j = 0) : lenR (s.push j).R = lenR s.R + 1 := by
  unfold Qs.push
  rw [if_pos he]
  exact lenR_push j s.R
theorem push_no {s : Qs} {j : Jb} (he : pushE s j ≠ 0) : s.push j = s := by unfold Qs.push; rw [if_neg he]
theorem weigh_R (s : Qs) (t : ByteArray) (n : Int) : (s.weigh t n).R = s.R ∧ (s.weigh t n).tu = s.tu := by unfold Qs.weigh; split <;> exact ⟨rfl, rfl⟩
theorem drop_R (s : Qs) (t : ByteArray) : (s.drop t).R = dropR s.R t := by unfold Qs.drop; split <;> rfl
theorem jobs_turn (s : Qs) (t : ByteArray) : jobsOf s.turn t = jobsOf s t ∧ lenR s.turn.R = lenR s.R := by
  unfold jobsOf Qs.turn
  cases hR : s.R with
  | nil => simp [hR]
  | cons a l =>
    dsimp only
    split
    · simp [hR]
    · refine ⟨?_, rfl⟩
      simp only [findA]
      split <;> rfl
theorem find_rot {a : Ac} {l : List Ac} (h : ((a :: l).map (·.tn)).Nodup) (t : ByteArray) : findA (l ++ [a]) t = findA (a :: l) t := by
  rw [List.map_cons, List.nodup_cons] at h
  have key : ∀ l : List Ac, findA (l ++ [a]) t = match findA l t with | some b => some b | none => if a.tn = t then some a else none := by
    intro l
    induction l with
    | nil => rfl
    | cons b l ih =>
      simp only [List.cons_append, findA]
      split
      · rfl
      · exact ih
  rw [key]
  simp only [findA]
  by_cases ha : a.tn = t
  · rw [if_pos ha]
    have : findA l t = none := findA_none.2 (ha ▸ h.1)
    rw [this]
    simp [ha]
  · rw [if_neg ha]
    cases findA l t <;> simp [ha]
theorem findA_head {a : Ac} {l : List Ac} : findA (a :: l) a.tn = some a := by simp [findA]
theorem findA_tail {a : Ac} {l : List Ac} {t : ByteArray} (h : t ≠ a.tn) : findA (a :: l) t = findA l t := by
  simp only [findA]
  rw [if_neg (Ne.symm h)]
theorem serve_jobs {s : Qs} (h : s.fine) (hR0 : s.R ≠ []) :
    (s.turn.serve.1 = none ∧ (∀ t, jobsOf s.turn.serve.2 t = jobsOf s t) ∧ lenR s.turn.serve.2.R = lenR s.R) ∨
    ∃ j, s.turn.serve.1 = some j ∧ jobsOf s j.tn = j :: jobsOf s.turn.serve.2 j.tn ∧ (∀ t, t ≠ j.tn → jobsOf s.turn.serve.2 t = jobsOf s t) ∧ lenR s.turn.serve.2.R + 1 = lenR s.R := by
  have ht := h.turn
  have e1 := fun t => (jobs_turn s t).1
  have e2 := (jobs_turn s ⟨#[]⟩).2
  have hne := turn_ne hR0
  simp only [← e1, ← e2]
  generalize s.turn = s1 at *
  unfold Qs.serve
  cases hR : s1.R with
  | nil => exact absurd hR hne
  | cons a l =>
    have ha : a ∈ s1.R := by rw [hR]; exact List.mem_cons_self
    have hnd := ht.Rk
    rw [hR] at hnd
    cases hjs : a.js with
    | nil => exact absurd hjs (ht.js a ha)
    | cons j js =>
      have hj := ht.own a ha j (by rw [hjs]; exact List.mem_cons_self)
      simp only [hjs]
      have hj0 : jobsOf s1 j.tn = j :: js := by
        unfold jobsOf; rw [hR, hj.1, findA_head]; simp [hjs]
      by_cases hc : j.co ≤ a.df
      · rw [if_pos hc]
        refine .inr ⟨j, rfl, ?_, fun t htn => ?_, ?_⟩
        · rw [hj0]
          congr 1
          dsimp only
          split
          · rename_i e
            subst e
            rw [List.map_cons, List.nodup_cons] at hnd
            unfold jobsOf
            dsimp only
            rw [hj.1, findA_none.2 hnd.1]; rfl
          · unfold jobsOf
            dsimp only
            rw [hj.1]
            simp [findA]
        · have h3 : findA s1.R t = findA l t := by rw [hR]; exact findA_tail (by rw [← hj.1]; exact htn)
          unfold jobsOf
          rw [h3]
          dsimp only
          split
          · rfl
          · dsimp only
            rw [findA_tail (by dsimp only; rw [← hj.1]; exact htn)]
        · dsimp only
          split
          · rename_i e
            subst e
            simp only [lenR, hjs, List.length_singleton]; omega
          · simp only [lenR, hjs, List.length_cons]; omega
      · rw [if_neg hc]
        refine .inl ⟨rfl, fun t => ?_, ?_⟩
        · unfold jobsOf
          dsimp only
          rw [hR, find_rot hnd]
        · dsimp only
          rw [lenR_app]
          simp only [lenR]; omega
theorem pop_jobs : ∀ (n : Nat) {s : Qs}, s.fine →
    ((popF n s).1 = none ∧ (∀ t, jobsOf (popF n s).2 t = jobsOf s t) ∧ lenR (popF n s).2.R = lenR s.R) ∨
    ∃ j, (popF n s).1 = some j ∧ jobsOf s j.tn = j :: jobsOf (popF n s).2 j.tn ∧ (∀ t, t ≠ j.tn → jobsOf (popF n s).2 t = jobsOf s t) ∧ lenR (popF n s).2.R + 1 = lenR s.R
  | 0, s, _ => .inl ⟨rfl, fun _ => rfl, rfl⟩
  | n + 1, s, h => by
    unfold popF
    cases hR : s.R with
    | nil => exact .inl ⟨rfl, fun _ => rfl, by rw [hR]⟩
    | cons a l =>
      dsimp only
      have hR0 : s.R ≠ [] := by rw [hR]; simp
      have hsv := serve_jobs h hR0
      rw [← hR]
      split
      · rename_i j s' e
        rw [e] at hsv
        rcases hsv with ⟨h1, _⟩ | ⟨j', h1, h2, h3, h4⟩
        · cases h1
        · cases h1
          exact .inr ⟨j, rfl, h2, h3, h4⟩
      · rename_i s' e
        have hf' : s'.fine := by
          have := h.turn.serve (fun _ => turn_tu hR0)
          rw [e] at this; exact this
        rw [e] at hsv
        rcases hsv with ⟨_, h1, h2⟩ | ⟨j', h1, _⟩
        · rcases pop_jobs n hf' with ⟨g1, g2, g3⟩ | ⟨j, g1, g2, g3, g4⟩
          · exact .inl ⟨g1, fun t => (g2 t).trans (h1 t), g3.trans h2⟩
          · exact .inr ⟨j, g1, (h1 _).symm.trans g2, fun t ht => (g3 t ht).trans (h1 t), g4.trans h2⟩
        · cases h1
abbrev ofT (t : ByteArray) (l : List Jb) : List Jb := l.filter fun j => decide (j.tn = t)
structure Kp (l : List Jb) (s : Qs) : Prop where
  of : ∀ t, ofT t l = jobsOf s t
  ln : (l.length : Int) = lenR s.R
theorem Kp.new (q : Int) : Kp [] (Qs.new q) := ⟨fun _t => rfl, rfl⟩
theorem Kp.push {l : List Jb} {s : Qs} (h : Kp l s) {j : Jb} (he : pushE s j = 0) : Kp (l ++ [j]) (s.push j) := by
  refine ⟨fun t => ?_, ?_⟩
  · rw [jobs_push he, ← h.of t]
    simp only [ofT, List.filter_append]
    by_cases e : j.tn = t <;> simp [e]
  · rw [len_push he, ← h.ln]; simp
theorem Kp.weigh {l : List Jb} {s : Qs} (h : Kp l s) (t : ByteArray) (n : Int) : Kp l (s.weigh t n) :=
  ⟨fun u => by rw [h.of u]; unfold jobsOf; rw [(weigh_R s t n).1], by rw [(weigh_R s t n).1]; exact h.ln⟩
theorem first_at {t : ByteArray} {j : Jb} {r : List Jb} : ∀ {l : List Jb} (i : Int), ofT t l = j :: r →
    ∃ k, k < l.length ∧ firstF t l i = i + k ∧ l[k]? = some j ∧ ofT t (l.take k ++ l.drop (k + 1)) = r ∧ ∀ u, u ≠ t → ofT u (l.take k ++ l.drop (k + 1)) = ofT u l
  | [], _, h => by cases h
  | x :: l, i, h => by
    by_cases hx : x.tn = t
    · have h1 : ofT t (x :: l) = x :: ofT t l := by simp [ofT, hx]
      rw [h1] at h
      cases h
      refine ⟨0, by simp, ?_, rfl, rfl, fun u hu => ?_⟩
      · simp only [firstF]
        rw [if_pos (sEq_iff.2 hx)]; simp
      · have : j.tn ≠ u := fun e => hu (e.symm.trans hx)
        simp [ofT, this]
    · have h1 : ofT t (x :: l) = ofT t l := by simp [ofT, hx]
      rw [h1] at h
      obtain ⟨k, g1, g2, g3, g4, g5⟩ := first_at (i + 1) h
      refine ⟨k + 1, by simp; omega, ?_, by simpa using g3, ?_, fun u hu => ?_⟩
      · simp only [firstF]
        rw [if_neg (fun e => hx (sEq_iff.1 e)), g2]; push_cast; omega
      · simp only [List.take_succ_cons, List.drop_succ_cons, List.cons_append]
        simpa [ofT, hx] using g4
      · simp only [List.take_succ_cons, List.drop_succ_cons, List.cons_append]
        have := g5 u hu
        by_cases hxu : x.tn = u
        · simpa [ofT, hxu] using this
        · simpa [ofT, hxu] using this
theorem first_no {t : ByteArray} : ∀ {l : List Jb} (i : Int), ofT t l = [] → firstF t l i = -1
  | [], _, _ => rfl
  | x :: l, i, h => by
    by_cases hx : x.tn = t
    · have h1 : ofT t (x :: l) = x :: ofT t l := by simp [ofT, hx]
      rw [h1] at h; cases h
    · have h1 : ofT t (x :: l) = ofT t l := by simp [ofT, hx]
      rw [h1] at h
      simp only [firstF]
      rw [if_neg (fun e => hx (sEq_iff.1 e))]
      exact first_no (i + 1) h
theorem Kp.pop {l : List Jb} {s : Qs} (h : Kp l s) (hf : s.fine) :
    (s.pop.1 = none ∧ l = [] ∧ Kp l s.pop.2) ∨
    ∃ j k, s.pop.1 = some j ∧ k < l.length ∧ firstF j.tn l 0 = (k : Nat) ∧ l[k]? = some j ∧ Kp (l.take k ++ l.drop (k + 1)) s.pop.2 := by
  have hs := popF_some (s.mu + 1) hf (by omega)
  rcases pop_jobs (s.mu + 1) hf with ⟨h1, h2, h3⟩ | ⟨j, h1, h2, h3, h4⟩
  · refine .inl ⟨h1, ?_, fun t => (h.of t).trans (h2 t).symm, h.ln.trans h3.symm⟩
    rw [h1] at hs
    have hR : s.R = [] := by simpa using hs.symm
    have := h.ln
    rw [hR] at this
    exact List.eq_nil_of_length_eq_zero (by simpa [lenR] using this)
  · have h5 : ofT j.tn l = j :: jobsOf (popF (s.mu + 1) s).2 j.tn := (h.of _).trans h2
    obtain ⟨k, g1, g2, g3, g4, g5⟩ := first_at 0 h5
    refine .inr ⟨j, k, h1, g1, by rw [g2]; omega, g3, fun t => ?_, ?_⟩
    · by_cases e : t = j.tn
      · subst e; exact g4
      · rw [g5 t e, h.of t]; exact (h3 t e).symm
    · have := h.ln
      show _ = lenR (popF (s.mu + 1) s).2.R
      simp only [List.length_append, List.length_take, List.length_drop]
      omega
structure Kd (t : ByteArray) (s : Qs) (k : Nat) (l : List Jb) : Prop where
  of : ofT t l = (jobsOf s t).drop k
  ot : ∀ u, u ≠ t → ofT u l = jobsOf s u
  ln : (l.length : Int) + k = lenR s.R
theorem Kp.drop {l : List Jb} {s : Qs} (h : Kp l s) (t : ByteArray) : Kd t s 0 l := ⟨by rw [h.of]; rfl, fun u _ => h.of u, by rw [← h.ln]; simp⟩
theorem Kd.next {t : ByteArray} {s : Qs} {k : Nat} {l : List Jb} (h : Kd t s k l) (hk : k < (jobsOf s t).length) :
    ∃ n, n < l.length ∧ firstF t l 0 = (n : Nat) ∧ l[n]? = some (jobsOf s t)[k] ∧ Kd t s (k + 1) (l.take n ++ l.drop (n + 1)) := by
  have h1 := h.of
  rw [List.drop_eq_getElem_cons hk] at h1
  obtain ⟨n, g1, g2, g3, g4, g5⟩ := first_at 0 h1
  refine ⟨n, g1, by rw [g2]; omega, g3, g4, fun u hu => (g5 u hu).trans (h.ot u hu), ?_⟩
  have := h.ln
  simp only [List.length_append, List.length_take, List.length_drop]
  omega
theorem Kd.done {t : ByteArray} {s : Qs} {l : List Jb} (h : Kd t s (jobsOf s t).length l) (hf : s.fine) : firstF t l 0 = -1 ∧ Kp l (s.drop t) := by
  have h1 : ofT t l = [] := by rw [h.of]; simp
  refine ⟨first_no 0 h1, fun u => ?_, ?_⟩
  · by_cases e : u = t
    · subst e
      rw [h1]
      unfold jobsOf
      rw [drop_R, find_drop_eq _ hf.Rk]; rfl
    · rw [h.ot u e]
      unfold jobsOf
      rw [drop_R, find_drop_ne e]
  · have h2 := h.ln
    rw [drop_R, lenR_drop]
    unfold jobsOf at h2
    omega
theorem df_none {s : Qs} (hf : s.fine) {t : ByteArray} (h : jobsOf s t = []) : dfOf s t = 0 := by
  unfold jobsOf at h
  unfold dfOf
  cases hfa : findA s.R t with
  | none => rfl
  | some a =>
    rw [hfa] at h
    exact absurd (by simpa using h) (hf.js a (findA_some hfa).1)
theorem df_two {s : Qs} (hf : s.fine) {A B : ByteArray} (hAB : A ≠ B) {ja jb : Jb} {ra rb : List Jb} (ha : jobsOf s A = ja :: ra) (hb : jobsOf s B = jb :: rb) : dfOf s A < ja.co ∨ dfOf s B < jb.co := by
  have one : ∀ {t : ByteArray} {j : Jb} {r : List Jb}, jobsOf s t = j :: r → ∃ a, a ∈ s.R ∧ a.tn = t ∧ a.js = j :: r ∧ dfOf s t = a.df := by
    intro t j r h
    unfold jobsOf at h
    unfold dfOf
    cases hfa : findA s.R t with
    | none => rw [hfa] at h; cases h
    | some a =>
      rw [hfa] at h
      obtain ⟨h1, h2⟩ := findA_some hfa
      exact ⟨a, h1, h2, by simpa using h, rfl⟩
  obtain ⟨a, a1, a2, a3, a4⟩ := one ha
  obtain ⟨b, b1, b2, b3, b4⟩ := one hb
  rw [a4, b4]
  have hlo := hf.lo
  split at hlo
  · cases hR : s.R with
    | nil => rw [hR] at a1; cases a1
    | cons x l =>
      rw [hR] at a1 b1 hlo
      rcases List.mem_cons.1 a1 with rfl | a1
      · rcases List.mem_cons.1 b1 with rfl | b1
        · exact absurd (a2.symm.trans b2) hAB
        · exact .inr (hlo b b1 _ _ b3)
      · exact .inl (hlo a a1 _ _ a3)
  · exact .inl (hlo a a1 _ _ a3)
theorem Kp.judge {l : List Jb} {s : Qs} (h : Kp l s) (hf : s.fine) (t : ByteArray) : (firstF t l 0 = -1 ∧ dfOf s t = 0) ∨ ∃ (k : Nat) (j : Jb) (r : List Jb), k < l.length ∧ firstF t l 0 = (k : Int) ∧ l[k]? = some j ∧ jobsOf s t = j :: r := by
  cases hj : jobsOf s t with
  | nil => exact .inl ⟨first_no 0 ((h.of t).trans hj), df_none hf hj⟩
  | cons j r =>
    obtain ⟨k, g1, g2, g3, _, _⟩ := first_at 0 ((h.of t).trans hj)
    exact .inr ⟨k, j, r, g1, by rw [g2]; omega, g3, rfl⟩
theorem Kp.le {l : List Jb} {s : Qs} (h : Kp l s) (hf : s.fine) : l.length ≤ 256 := by
  have := h.ln
  have := hf.ln
  omega
theorem nlen {l : List Jb} {s : Qs} (h : Kp l s) : (lenR s.R != ((l.map jobD).length : Int)) = false := by
  rw [List.length_map, h.ln]; simp
end Go.Proofs.Ytmlednjhemnncaa
