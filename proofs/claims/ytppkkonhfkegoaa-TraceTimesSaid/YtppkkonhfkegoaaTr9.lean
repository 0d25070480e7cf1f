/-
  Contracts of the packages trace and faasref51, part nine: the iterator.
-/
import Derived.Test.YtppkkonhfkegoaaTr8
namespace Go.Proofs.Ytppkkonhfkegoaa
open Go.RowKit

theorem beq_no {a b : Nat} (h : a ≠ b) : Nat.beq a b = false := by
  cases h' : Nat.beq a b with
  | false => rfl
  | true => exact absurd (Nat.eq_of_beq_eq_true h') h

theorem visits_nil {nx : Nat → Option Nat} {i : Nat} : visits nx 0 i = [] := rfl

section
variable {B : Fr} {w0 : World} {G : List (V × Value)} {A : Nat → Prop}

/-- What holds where the iterator's loop begins a round. -/
def UpHead (B : Fr) (w0 : World) (G : List (V × Value)) (A : Nat → Prop) (fn : FuncId) (tm : Array Value) (p : Tmp) (asg body : Code) (D lp : Nat) (l : List Sp) (st : Sp → ByteArray) (xs : List Nat) (n1 n2 n3 : Nat)
    (mem : Nat → Int → List (Option Bk)) (Ok : Nat → Prop) (k : Nat) (a : Act) (w : World) : Prop :=
  Ok k ∧ k ≤ l.length ∧ ∃ (ii : Int) (rest : List Nat), (∃ pre, xs = pre ++ rest ∧ pre.length = k) ∧
    ((∃ i : Nat, ii = i ∧ i < l.length ∧ rest = visits (stepI l st) (l.length - k) i) ∨ (ii = -1 ∧ rest = [])) ∧
    ∃ W1, Low B.keep B.ref W1 ∧ (∃ N S, Sat (outB B W1 G A []) w0 N S ([.cv (.func (.yield lp) #[] #[]), .bx n1 0, .bx n2 0, .bx n3 0, .un, .un, .un, int l.length, int k] ++ List.replicate 21 .un) (mem k ii) a w) ∧
    W1.heap[D]? = some (.deferred (some [])) ∧ W1.heap[lp]? = some (.loop (lrec fn tm p asg body D .ready none))

theorem up1_in {n : Nat} (l : List Sp) (hl : l.length ≤ 8796093022207) (st : Sp → ByteArray) (fs : FuncId) (hst : ∀ s, DCalls Try.prog fs [s.V] (str (st s))) (htab : TT.fm fs = none)
    (n1 n2 n3 : Nat) (mem : Nat → Int → List (Option Bk)) (hm1 : ∀ k i, (mem k i)[n1]? = some (some (.box [.sl false 6 (l.map spD)]))) (hm2 : ∀ k i, (mem k i)[n2]? = some (some (.box [int i])))
    (hm3 : ∀ k i, (mem k i)[n3]? = some (some (.box [fnV fs]))) (hset : ∀ k i j, (mem k i).set n2 (some (.box [int j])) = mem k j)
    {fn : FuncId} {tm : Array Value} {p : Tmp} {asg body : Code} {D lp : Nat} (hAD : A D) (hAl : A lp) (hne : D ≠ lp) (hBD : ¬ B.keep D) (hBl : ¬ B.keep lp) {Kr : List (Option Bk) → Prop} (Ok : Nat → Prop) (ok0 : Ok 0) (xs : List Nat)
    (hY : ∀ (G' : List (V × Value)) (k x : Nat) (W : World), (∀ q ∈ G, q ∈ G') → (∀ q ∈ G', q ∈ G ∨ ∀ d, d ≠ n1 → d ≠ n2 → d ≠ n3 → q.1.noN d = true) → Ok k → xs[k]? = some x → Mem B w0 G' A (mem k x) W → W.heap[lp]? = some (.loop (lrec fn tm p asg body D .ready none)) →
      YieldAt (fen none) (n - 1) Try.prog lp #[.int .i64 x] W fun e w' => ∃ m', Mem B w0 G' A m' w' ∧ (∀ g, A g → g ≠ lp → w'.heap[g]? = W.heap[g]?) ∧
      ((e = .returned (.bool true) ∧ (m' = mem (k + 1) x ∧ Ok (k + 1)) ∧ w'.heap[lp]? = some (.loop (lrec fn tm p asg body D .ready none))) ∨
       (e = .returned (.bool false) ∧ Kr m' ∧ w'.heap[lp]? = some (.loop (lrec fn tm p asg body D .done (some .ret))))))
    (i0 : Nat) (hi0 : i0 < l.length) (hxs : xs = visits (stepI l st) l.length i0) {u1 u2 u3 : Value} (g1 : (V.bx n1 0, u1) ∈ G) (g2 : (V.bx n2 0, u2) ∈ G) (g3 : (V.bx n3 0, u3) ∈ G)
    {W : World} (hM : Mem B w0 G A (mem 0 i0) W) (hWD : W.heap[D]? = some (.deferred (some []))) (hWl : W.heap[lp]? = some (.loop (lrec fn tm p asg body D .ready none))) :
    CallsIn (fen none) n Try.prog 59 (#[.func (.yield lp) #[] #[]] ++ #[u1, u2, u3]) W (IterPost B w0 G A fn tm p asg body D lp (fun m' => ∃ ii, m' = mem xs.length ii ∧ Ok xs.length) Kr) := by
  refine callsIn_of_wp_marks Try.func59 rfl trivial ?_ rfl
  have e0 : ((#[Value.func (.yield lp) #[] #[]] ++ #[u1, u2, u3]) ++ Array.replicate (Try.f59.ntmps - (#[Value.func (.yield lp) #[] #[]] ++ #[u1, u2, u3]).size) undef).toList = [.func (.yield lp) #[] #[], u1, u2, u3] ++ List.replicate 26 undef := by
    simp [Try.f59]
  generalize ha0 : ({ tmps := (#[Value.func (.yield lp) #[] #[]] ++ #[u1, u2, u3]) ++ Array.replicate (Try.f59.ntmps - (#[Value.func (.yield lp) #[] #[]] ++ #[u1, u2, u3]).size) undef, defers := [] } : Act) = a0
  have ea : a0.tmps.toList = [.func (.yield lp) #[] #[], u1, u2, u3] ++ List.replicate 26 undef := by rw [← ha0]; exact e0
  have ed : a0.defers = [] := by rw [← ha0]
  obtain ⟨N0, S0, hs0⟩ := hM.frame (t := [.cv (.func (.yield lp) #[] #[]), .bx n1 0, .bx n2 0, .bx n3 0] ++ List.replicate 26 .un) (a := a0) (fun N S hG => by
    rw [ea]
    exact relV_cons (.cv _) (relV_cons (hG _ g1) (relV_cons (hG _ g2) (relV_cons (hG _ g3) (relL_un (by simp))))))
  rw [ed] at hs0
  -- the loop's counter
  refine wpIn_seq (go_norm (t1 := [.cv (.func (.yield lp) #[] #[]), .bx n1 0, .bx n2 0, .bx n3 0, .un, .un, .sl false 6 (l.map spD), int l.length, int 0] ++ List.replicate 21 .un) (m1 := mem 0 i0) tok mixed hs0 ?_ ?_)
  · conv => whnf
    simp only [hm1]
    conv => whnf
    exact ⟨rfl, by simp [fgt, List.replicate]⟩
  intro N S a w hs
  refine wpIn_block ?_
  refine wpIn_loop (fun a w => ∃ k, UpHead B w0 G A fn tm p asg body D lp l st xs n1 n2 n3 mem Ok k a w) (fun a _ => l.length - cntOf a 8) ?_ ?_
  · refine ⟨0, ok0, Nat.zero_le _, i0, xs, ⟨[], rfl, rfl⟩, .inl ⟨i0, rfl, hi0, by rw [hxs]; rfl⟩, W, hM.low, ⟨N, S, hs.forget ?_ fun _ => rfl⟩, hWD, hWl⟩
    simp [fgt, List.replicate]
  clear hs0 hs
  rintro a w ⟨k, hok, hk, ii, rest, ⟨pre, hpre, hpk⟩, hii, W1, hlow, ⟨N, S, hs⟩, hD1, hl1⟩
  have hcnt : cntOf a 8 = k := cnt_of hs rfl
  rw [hcnt]
  clear hcnt
  refine wpIn_seq (go_norm (t1 := [.cv (.func (.yield lp) #[] #[]), .bx n1 0, .bx n2 0, .bx n3 0, .un, .un, .un, int l.length, int k, boo (decide ((k : Int) < (l.length : Nat)))] ++ List.replicate 20 .un) (m1 := mem k ii) tok mixed hs ?_ ?_)
  · conv => whnf
    exact ⟨rfl, by simp [fgt, List.replicate]⟩
  clear hs
  intro N S a w hs
  refine wpIn_seq (wpIn_cond_split (ev_of hs rfl) ?_ ?_)
  rotate_left
  · intro hlt
    simp at hlt
    have e : l.length - k = 0 := by omega
    have hr : rest = [] := by
      rcases hii with ⟨i, _, _, h⟩ | ⟨_, h⟩
      · rw [h, e]; rfl
      · exact h
    refine wpIn_exit ?_
    show LeavesInM _ _ _ _ _ _ _ _ _
    have hd : a.defers = [] := hs.nodef
    rw [hd]
    refine ⟨_, results_none rfl _ _ _, ⟨_, rfl⟩, mem k ii, Mem.back hlow hs hs.more.ghost, (hs.low.block D (.inr hAD)).trans hD1, .inl ⟨⟨ii, ?_, ?_⟩, (hs.low.block lp (.inr hAl)).trans hl1⟩⟩
    · rw [hpre, hr, List.append_nil, hpk]
    · rw [hpre, hr, List.append_nil, hpk]; exact hok
  intro hlt
  simp at hlt
  refine wpIn_skip ?_
  refine wpIn_seq (wpIn_block (wpIn_seq (wpIn_seq ?_)))
  rcases hii with ⟨i, rfl, hi, hrest⟩ | ⟨rfl, hrest⟩
  rotate_left
  · -- no span: the iterator returns
    refine go_norm (t1 := List.replicate 17 .un ++ [.kb true] ++ List.replicate 12 .un) (m1 := mem k (-1)) tok mixed hs ?_ ?_
    · conv => whnf
      simp only [hm2]
      conv => whnf
      rintro (_ | _) h
      · simp at h
      conv => whnf
      exact ⟨rfl, by simp [fgt, List.replicate]⟩
    clear hs
    intro N S a w hs
    refine wpIn_cond_true (evk_of hs rfl) (wpIn_ret ?_)
    show LeavesInM _ _ _ _ _ _ _ _ _
    have hd : a.defers = [] := hs.nodef
    rw [hd]
    refine ⟨_, results_none rfl _ _ _, ⟨_, rfl⟩, mem k (-1), Mem.back hlow hs hs.more.ghost, (hs.low.block D (.inr hAD)).trans hD1, .inl ⟨⟨-1, ?_, ?_⟩, (hs.low.block lp (.inr hAl)).trans hl1⟩⟩
    · rw [hpre, hrest, List.append_nil, hpk]
    · rw [hpre, hrest, List.append_nil, hpk]; exact hok
  -- the round
  refine wpIn_region_list ?_
  refine go_opsk 5 (t1 := [.cv (.func (.yield lp) #[] #[]), .bx n1 0, .bx n2 0, .bx n3 0, .un, .un, .un, int l.length, int k, .un, .un, .un, .kb false, .cv (.func (.yield lp) #[] #[]), int i] ++ List.replicate 15 .un) (m1 := mem k i) tok hs ?_ ?_
  · conv => whnf
    simp only [hm2]
    conv => whnf
    rintro (_ | _) h
    · conv => whnf
      simp only [hm2]
      conv => whnf
      exact ⟨rfl, by simp [fgt, List.replicate]⟩
    · simp at h; omega
  clear hs
  intro N S a w hs
  refine list_wanted rfl (wanted_kb hs rfl rfl rfl) ?_
  have hv : a.eval (.tmp 13) = .func (.yield lp) #[] #[] := ev_of hs rfl
  have hx : a.eval (.tmp 14) = .int .i64 i := ev_of hs rfl
  have hMk : Mem B w0 (G ++ List.zip ([.cv (.func (.yield lp) #[] #[]), .bx n1 0, .bx n2 0, .bx n3 0, .un, .un, .un, int l.length, int k, .un, .un, .un, .kb false, .cv (.func (.yield lp) #[] #[]), int i] ++ List.replicate 15 .un) a.tmps.toList) A (mem k i) w := Mem.back hlow hs fun q hq => by
    rcases List.mem_append.1 hq with hq | hq
    · exact hs.more.ghost q hq
    · exact zip_of hs.tmps q hq
  have hi' : l.length - k = (l.length - k - 1) + 1 := by omega
  rw [hi'] at hrest
  have hget : xs[k]? = some i := by
    rw [hpre, List.getElem?_append_right (by omega), hpk, Nat.sub_self, hrest]
    rfl
  refine yield_op rfl hv hx (hY _ k i w (fun q hq => List.mem_append_left _ hq) ?_ hok hget hMk ((hs.low.block lp (.inr hAl)).trans hl1)) ?_
  · intro q hq
    rcases List.mem_append.1 hq with hq | hq
    · exact .inl hq
    · refine .inr fun d h1 h2 h3 => ?_
      have := (List.of_mem_zip hq).1
      simp only [List.mem_append, List.mem_cons, List.mem_replicate, List.not_mem_nil, or_false] at this
      have e1 : (Nat.beq n1 d) = false := beq_no (Ne.symm h1)
      have e2 : (Nat.beq n2 d) = false := beq_no (Ne.symm h2)
      have e3 : (Nat.beq n3 d) = false := beq_no (Ne.symm h3)
      rcases this with (h | h | h | h | h | h | h | h | h | h | h | h | h | h | h) | ⟨_, h⟩ <;> rw [h] <;> simp [V.noN, V.noN1, e1, e2, e3]
  rintro e w2 ⟨m', hM2, hA2, h⟩
  have hD2 : w2.heap[D]? = some (.deferred (some [])) := (hA2 D hAD hne).trans ((hs.low.block D (.inr hAD)).trans hD1)
  have hda : a.defers = [] := hs.nodef
  obtain ⟨N2, S2, hs2⟩ := hM2.frame (a := a) fun N S hG => of_zip hs.tmps.1 fun q hq => hG q (List.mem_append_right _ hq)
  rw [hda] at hs2
  have hs2 := hs2.fewer (G' := G) fun q hq => List.mem_append_left _ hq
  have hlow2 := hM2.low
  clear hM2 hMk hs
  rcases h with ⟨rfl, ⟨rfl, hok2⟩, hl2⟩ | ⟨rfl, hkr, hl2⟩
  rotate_left
  · -- a round says 'no more'
    refine ⟨_, rfl, ?_⟩
    have hs3 := hs2.put (v := .kb false) (u := .bool false) (.kb false) (some 15)
    refine go_opsn (t1 := List.replicate 17 .un ++ [boo true] ++ List.replicate 12 .un) (m1 := m') tok hs3 ?_ ?_
    · conv => whnf
      exact ⟨rfl, by simp [fgt, List.replicate]⟩
    intro N S a w hs
    refine wpIn_cond_true (ev_of hs rfl) (wpIn_ret ?_)
    show LeavesInM _ _ _ _ _ _ _ _ _
    have hd : a.defers = [] := hs.nodef
    rw [hd]
    exact ⟨_, results_none rfl _ _ _, ⟨_, rfl⟩, m', Mem.back hlow2 hs hs.more.ghost, (hs.low.block D (.inr hAD)).trans hD2, .inr ⟨hkr, (hs.low.block lp (.inr hAl)).trans hl2⟩⟩
  refine ⟨_, rfl, ?_⟩
  have hs3 := hs2.put (v := .kb true) (u := .bool true) (.kb true) (some 15)
  refine go_opsn (t1 := [.cv (.func (.yield lp) #[] #[]), .bx n1 0, .bx n2 0, .bx n3 0, .un, .un, .un, int l.length, int k] ++ List.replicate 8 .un ++ [boo false] ++ List.replicate 12 .un) (m1 := mem (k + 1) i) tok hs3 ?_ ?_
  · conv => whnf
    exact ⟨rfl, by simp [fgt, List.replicate]⟩
  clear hs2 hs3
  intro N S a w hs
  refine wpIn_cond_false (ev_of hs rfl) (wpIn_skip ?_)
  refine wpIn_seq (go_norm (t1 := [.cv (.func (.yield lp) #[] #[]), .bx n1 0, .bx n2 0, .bx n3 0, .un, str (st l[i]), .un, int l.length, int k] ++ List.replicate 21 .un) (m1 := mem (k + 1) i) tok mixed hs ?_ ?_)
  · conv => whnf
    refine ⟨none, by kernel_rfl, ?_⟩
    conv => whnf
    simp only [hm3]
    conv => whnf
    simp only [hm1]
    conv => whnf
    simp only [hm2]
    conv => whnf
    refine ⟨by omega, _, get_map spD hi, ?_⟩
    conv => whnf
    simp only [htab]
    conv => whnf
    refine ⟨_, hst l[i], ?_⟩
    conv => whnf
    exact ⟨rfl, by simp [fgt, List.replicate]⟩
  clear hs
  intro N S a w hs
  refine wpIn_seq (wpIn_seq (go_norm (t1 := [.cv (.func (.yield lp) #[] #[]), .bx n1 0, .bx n2 0, .bx n3 0, .un, str (st l[i]), .un, int l.length, int k] ++ List.replicate 16 .un ++ [boo (sEq (st l[i]) emp)] ++ List.replicate 4 .un) (m1 := mem (k + 1) i) tok mixed hs ?_ ?_))
  · conv => whnf
    exact ⟨rfl, by simp [fgt, List.replicate, sEq, emp]⟩
  clear hs
  intro N S a w hs
  have hnx : ∀ {o}, stepI l st i = o → rest = i :: (match o with
      | none => []
      | some j => visits (stepI l st) (l.length - k - 1) j) := fun h => by rw [hrest, ← h]; rfl
  refine wpIn_cond_split (ev_of hs rfl) ?_ ?_
  · intro he
    refine wpIn_ret ?_
    show LeavesInM _ _ _ _ _ _ _ _ _
    have hd : a.defers = [] := hs.nodef
    rw [hd]
    refine ⟨_, results_none rfl _ _ _, ⟨_, rfl⟩, mem (k + 1) i, Mem.back hlow2 hs hs.more.ghost, (hs.low.block D (.inr hAD)).trans hD2, .inl ⟨⟨i, ?_, ?_⟩, (hs.low.block lp (.inr hAl)).trans hl2⟩⟩
    · rw [hpre, hnx (o := none) (by simp [stepI, hi, he])]
      simp [hpk]
    · rw [hpre, hnx (o := none) (by simp [stepI, hi, he])]
      simpa [hpk] using hok2
  intro he
  refine wpIn_skip ?_
  refine go_norm (t1 := [.cv (.func (.yield lp) #[] #[]), .bx n1 0, .bx n2 0, .bx n3 0, .un, .un, .un, int l.length, int k] ++ List.replicate 21 .un) (m1 := mem (k + 1) (findI l (st l[i]))) tok mixed hs ?_ ?_
  · conv => whnf
    simp only [hm1]
    conv => whnf
    refine ⟨_, x_find l (st l[i]) hl, ?_⟩
    conv => whnf
    simp only [hm2]
    conv => whnf
    rw [setK_eq, hset]
    conv => whnf
    exact ⟨rfl, by simp [fgt, List.replicate]⟩
  clear hs
  intro N S a w hs
  refine go_norm (t1 := [.cv (.func (.yield lp) #[] #[]), .bx n1 0, .bx n2 0, .bx n3 0, .un, .un, .un, int l.length, int (k + 1 : Nat)] ++ List.replicate 21 .un) (m1 := mem (k + 1) (findI l (st l[i]))) tok mixed hs ?_ ?_
  · conv => whnf
    exact ⟨rfl, by simp [fgt, List.replicate]; exact wrap_succ (by omega)⟩
  clear hs
  intro N S a w hs
  obtain ⟨rst, hrst⟩ : ∃ rst : List Nat, rst = (match stepI l st i with
    | none => []
    | some j => visits (stepI l st) (l.length - k - 1) j) := ⟨_, rfl⟩
  refine ⟨⟨k + 1, hok2, by omega, findI l (st l[i]), rst, ⟨pre ++ [i], ?_, by simp [hpk]⟩, ?_, w2, hlow2, ⟨N, S, hs⟩, hD2, hl2⟩, ?_⟩
  · rw [hpre, hnx rfl, hrst]; simp
  · have hs1 : stepI l st i = if findI l (st l[i]) < 0 then none else some (findI l (st l[i])).toNat := by simp [stepI, hi, he]
    rcases findI_spec l (st l[i]) with ⟨h1, _⟩ | ⟨j, hj, h1, _⟩
    · right
      refine ⟨h1, ?_⟩
      rw [hrst, hs1, h1]; rfl
    · left
      refine ⟨j, h1, hj, ?_⟩
      have : ¬ ((j : Int) < 0) := by omega
      rw [hrst, hs1, h1, if_neg this]
      simp [Nat.sub_sub]
  · rw [cnt_of hs rfl]; omega

end
end Go.Proofs.Ytppkkonhfkegoaa
