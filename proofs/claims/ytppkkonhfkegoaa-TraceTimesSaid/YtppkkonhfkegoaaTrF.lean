/-
  Contracts of the packages trace and faasref51, part fourteen: Critical.
-/
import Derived.Test.YtppkkonhfkegoaaTrE
namespace Go.Proofs.Ytppkkonhfkegoaa
open Go.RowKit

def toN (l : List Sp) (x : Nat) : Int := ((l[x]?).map (·.to)).getD 0
def frN (l : List Sp) (x : Nat) : Int := ((l[x]?).map (·.fr)).getD 0
theorem toN_eq {l : List Sp} {i : Nat} (h : i < l.length) : toN l i = l[i].to := by simp [toN, h]
theorem frN_eq {l : List Sp} {i : Nat} (h : i < l.length) : frN l i = l[i].fr := by simp [frN, h]

/-- The child that ends last. -/
def pick (l : List Sp) (b : Nat) (ks : List Nat) : Nat := ks.foldl (fun b k => if toN l k > toN l b then k else b) b

theorem pick_mem (l : List Sp) : ∀ (ks : List Nat) (b : Nat), pick l b ks = b ∨ pick l b ks ∈ ks
  | [], b => .inl rfl
  | k :: ks, b => by
    unfold pick
    simp only [List.foldl_cons]
    split
    · rcases pick_mem l ks k with h | h
      · exact .inr (by unfold pick at h; rw [h]; simp)
      · exact .inr (by unfold pick at h; simp [h])
    · rcases pick_mem l ks b with h | h
      · exact .inl h
      · exact .inr (by unfold pick at h; simp [h])

/-- The way down. -/
def downs (l : List Sp) : Nat → Nat → List Nat
  | 0, _ => []
  | f + 1, i => i :: (match kidsP l (idAt l i) with
    | [] => []
    | k :: ks => downs l f (pick l k (k :: ks)))

def critP (l : List Sp) (x : ByteArray) : List ByteArray × Int :=
  if (spanP l x).2 = 0 then ((downs l l.length (spanP l x).1.toNat).map (idAt l), 0) else ([], (spanP l x).2)

theorem idxs_get {p : Sp → Bool} : ∀ (l : List Sp) (i : Nat), ∀ x ∈ idxs p l i, ∃ h : x - i < l.length, p l[x - i] = true
  | [], i, x, h => by simp [idxs] at h
  | s :: l, i, x, h => by
    simp only [idxs] at h
    split at h
    · rename_i hp
      rcases List.mem_cons.1 h with rfl | h
      · exact ⟨by simp, by simpa using hp⟩
      · obtain ⟨h1, h2⟩ := idxs_get l (i + 1) x h
        have := (idxs_lt p l (i + 1) x h).1
        have e : x - i = (x - (i + 1)) + 1 := by omega
        exact ⟨by simp only [List.length_cons]; omega, by simp only [e, List.getElem_cons_succ]; exact h2⟩
    · obtain ⟨h1, h2⟩ := idxs_get l (i + 1) x h
      have := (idxs_lt p l (i + 1) x h).1
      have e : x - i = (x - (i + 1)) + 1 := by omega
      exact ⟨by simp only [List.length_cons]; omega, by simp only [e, List.getElem_cons_succ]; exact h2⟩

theorem kid_lt {l : List Sp} {x : ByteArray} {k : Nat} (h : k ∈ kidsP l x) : ∃ hk : k < l.length, sEq l[k].pa x = true := by
  obtain ⟨h1, h2⟩ := idxs_get l 0 k h
  exact ⟨by simpa using h1, by simpa [kidB] using h2⟩

theorem kid_step {l : List Sp} (h : Trc l) {i k : Nat} (hi : i < l.length) (hk : k ∈ kidsP l (idAt l i)) : stepP l k = some i := by
  obtain ⟨h1, h2⟩ := kid_lt hk
  rw [idAt_eq hi] at h2
  have := sEq_eq h2
  obtain ⟨u1, u2⟩ := h.once i hi
  unfold stepP
  rw [List.getElem?_eq_getElem h1]
  simp only [this, u2, u1]
  rw [if_neg (by simp), if_neg (by omega)]
  simp

/-- The state on the way down: a span at depth k. -/
structure Down (l : List Sp) (i k a : Nat) : Prop where
  lt : a < l.length
  up : itr (stepP l) k a = some i
  fuel : k < l.length

theorem Down.next {l : List Sp} (h : Trc l) {i k a : Nat} (hd : Down l i k a) {c : Nat} (hc : c ∈ kidsP l (idAt l a)) : Down l i (k + 1) c := by
  have hs := kid_step h hd.lt hc
  have hu : itr (stepP l) (k + 1) c = some i := by simp only [itr, hs]; exact hd.up
  refine ⟨(kid_lt hc).1, hu, ?_⟩
  rcases Nat.lt_or_ge (k + 1) l.length with h' | h'
  · exact h'
  · have e : k + 1 = l.length := by have := hd.fuel; omega
    rw [e, par_ends h (kid_lt hc).1] at hu
    cases hu

theorem downs_step {l : List Sp} (n a : Nat) : downs l (n + 1) a = a :: (match kidsP l (idAt l a) with
    | [] => []
    | k :: ks => downs l n (pick l k (k :: ks))) := rfl

theorem pick_in {l : List Sp} {ks : List Nat} {k : Nat} : pick l k (k :: ks) ∈ k :: ks := by
  rcases pick_mem l (k :: ks) k with h | h
  · rw [h]; simp
  · exact h

set_option maxRecDepth 100000 in
set_option maxHeartbeats 1000000 in
theorem x_critical (l : List Sp) (x : ByteArray) (hl : l.length ≤ 8796093022207) (hok : okAll l) : DCalls Try.prog 19 [sps l, str x] (strsE (critP l x)) := by
  refine sx Try.func19 (by kernel_rfl) ?_
  conv => whnf
  refine ⟨_, x_span l x hl hok, ?_⟩
  conv => whnf
  rintro (_ | _) h0
  rotate_left
  · simp at h0
    have : critP l x = ([], (spanP l x).2) := by rw [critP, if_neg h0]
    rw [this]; rfl
  simp at h0
  obtain ⟨hT, i, hi, e1, e2, e3⟩ := spanP_ok h0
  have hc : critP l x = ((downs l l.length i).map (idAt l), 0) := by rw [critP, if_pos h0, e1]; rfl
  rw [hc, e1]
  clear hc e1
  have hb : l.length ≤ 256 := hT.len
  conv => whnf
  refine ⟨[(8, 28, 9, 1)], Nat × Nat × List ByteArray, fun ⟨k, a, acc⟩ => [(6, int a), (8, .ow 28 0)], fun ⟨k, a, acc⟩ => [(28, some (.row 0 9 1 true (acc.map strD)))], fun ⟨k, a, acc⟩ => Down l i k a ∧ acc.length = k ∧ acc ++ (downs l (l.length - k) a).map (idAt l) = (downs l l.length i).map (idAt l),
    fun x => l.length - x.1, (0, i, []), ⟨⟨hi, rfl, by omega⟩, rfl, rfl⟩, ?_, ?_⟩
  · refine ⟨rfl, ?_, ?_⟩ <;> repeat' (first | exact trivial | exact rfl | refine and_rfl ?_ | refine and_two ?_ ?_)
  rintro ⟨k, a, acc⟩ ⟨hd, hac, hw⟩
  have ha := hd.lt
  have hk := hd.fuel
  have ek : l.length - k = (l.length - k - 1) + 1 := by omega
  rw [ek, downs_step] at hw
  conv => whnf
  refine ⟨by omega, _, get_map spD ha, ?_⟩
  conv => whnf
  refine ⟨by simp; omega, ?_⟩
  conv => whnf
  refine ⟨by omega, _, get_map spD ha, ?_⟩
  conv => whnf
  refine ⟨_, x_kids l l[a].id hl, ?_⟩
  have hke : kidsP l (idAt l a) = kidsP l l[a].id := by rw [idAt_eq ha]
  have hmem := fun c (hc : c ∈ kidsP l l[a].id) => hd.next hT (c := c) (by rw [hke]; exact hc)
  rw [hke] at hw
  have hkl : (kidsP l l[a].id).length ≤ l.length := idxs_len _ _ _
  generalize kidsP l l[a].id = ks at hw hmem hkl
  conv => whnf
  rintro (_ | _) h1
  rotate_left
  · simp at h1
    subst h1
    simp [idAt_eq ha] at hw
    rw [← hw]
    conv => whnf
    simp [strD]
  simp at h1
  cases ks with
  | nil => exact absurd rfl h1
  | cons c cs =>
  simp only at hw
  have hc0 := (hmem c (by simp)).lt
  have g0 : ((c :: cs).map natD)[(0 : Int).toNat]? = some (natD c) := rfl
  conv => whnf
  refine ⟨by omega, _, g0, ?_⟩
  conv => whnf
  refine ⟨[], Nat × Nat, fun ⟨j, b⟩ => [(44, int j), (6, int b)], fun _ => [], fun ⟨j, b⟩ => j ≤ (c :: cs).length ∧ b ∈ c :: cs ∧ pick l b ((c :: cs).drop j) = pick l c (c :: cs), fun x => (c :: cs).length - x.1, (0, c), ⟨by omega, by simp, rfl⟩, ?_, ?_⟩
  · refine ⟨rfl, ?_, ?_⟩ <;> repeat' (first | exact trivial | exact rfl | refine and_rfl ?_ | refine and_two ?_ ?_)
  rintro ⟨j, b⟩ ⟨hj, hbm, hp⟩
  conv => whnf
  rintro (_ | _) h2
  · simp at h2
    have e : j = (c :: cs).length := by simp at hj ⊢; omega
    rw [e, List.drop_length] at hp
    have hp : b = pick l c (c :: cs) := hp
    subst hp
    have hdn := hmem _ (pick_in (l := l) (ks := cs) (k := c))
    conv => whnf
    refine ⟨(k + 1, pick l c (c :: cs), acc ++ [l[a].id]), ⟨hdn, by simp [hac], by rw [← hw]; simp [idAt_eq ha, Nat.sub_sub]⟩, by dsimp only; omega, ?_⟩
    refine ⟨rfl, ?_, ?_⟩ <;> repeat' (first | exact trivial | exact rfl | refine and_rfl ?_ | refine and_two ?_ ?_ | (simp [strD]; done))
  · have h2 : j < (c :: cs).length := by simp at h2 ⊢; omega
    have hb2 := (hmem b hbm).lt
    have hj2 := (hmem _ (List.getElem_mem h2)).lt
    rw [drop_cons h2] at hp
    have hp : pick l (if toN l (c :: cs)[j] > toN l b then (c :: cs)[j] else b) ((c :: cs).drop (j + 1)) = pick l c (c :: cs) := hp
    conv => whnf
    refine ⟨by omega, _, get_map natD h2, ?_⟩
    conv => whnf
    refine ⟨none, by kernel_rfl, ?_⟩
    conv => whnf
    refine ⟨by omega, _, get_map spD hj2, ?_⟩
    conv => whnf
    refine ⟨by omega, _, get_map spD hb2, ?_⟩
    rw [toN_eq hj2, toN_eq hb2] at hp
    conv => whnf
    rintro (_ | _) h3
    · simp at h3
      rw [if_neg (by omega)] at hp
      conv => whnf
      refine ⟨(j + 1, b), ⟨h2, hbm, hp⟩, by dsimp only; omega, ?_⟩
      refine ⟨rfl, ?_, ?_⟩ <;> repeat' (first | exact trivial | exact rfl | refine and_rfl ?_ | refine and_val (wrap_succ (by omega)) ?_ | refine and_two ?_ ?_)
    · simp at h3
      rw [if_pos (by omega)] at hp
      conv => whnf
      refine ⟨(j + 1, (c :: cs)[j]), ⟨h2, List.getElem_mem h2, hp⟩, by dsimp only; omega, ?_⟩
      refine ⟨rfl, ?_, ?_⟩ <;> repeat' (first | exact trivial | exact rfl | refine and_rfl ?_ | refine and_val (wrap_succ (by omega)) ?_ | refine and_two ?_ ?_)

set_option maxRecDepth 100000 in
set_option maxHeartbeats 1000000 in
theorem x_rcritical (l : List Sp) (x : ByteArray) (hl : l.length ≤ 8796093022207) (hok : okAll l) : DCalls Try.prog 20 [sps l, str x] (strsE (critP l x)) := by
  refine sx Try.func20 (by kernel_rfl) ?_
  conv => whnf
  refine ⟨_, x_place l x hl hok, ?_⟩
  conv => whnf
  rintro (_ | _) h0
  rotate_left
  · simp at h0
    have : critP l x = ([], (spanP l x).2) := by rw [critP, if_neg h0]
    rw [this]; rfl
  simp at h0
  obtain ⟨hT, i, hi, e1, e2, e3⟩ := spanP_ok h0
  have hc : critP l x = ((downs l l.length i).map (idAt l), 0) := by rw [critP, if_pos h0, e1]; rfl
  rw [hc]
  clear hc e1
  have hb : l.length ≤ 256 := hT.len
  have hx : x = idAt l i := by rw [idAt_eq hi]; exact (sEq_eq e3).symm
  conv => whnf
  refine ⟨_, x_rkids l x hl, ?_⟩
  conv => whnf
  refine ⟨[], Nat × Nat × List ByteArray, fun ⟨k, a, acc⟩ => [(9, nats (kidsP l (idAt l a))), (8, .ow 22 0), (22, .un)], fun ⟨k, a, acc⟩ => [(22, some (.row 0 9 1 true ((acc ++ [idAt l a]).map strD)))],
    fun ⟨k, a, acc⟩ => Down l i k a ∧ acc.length = k ∧ acc ++ (downs l (l.length - k) a).map (idAt l) = (downs l l.length i).map (idAt l),
    fun x => l.length - x.1, (0, i, []), ⟨⟨hi, rfl, by omega⟩, rfl, rfl⟩, ?_, ?_⟩
  · rw [hx]
    refine ⟨rfl, ?_, ?_⟩ <;> repeat' (first | exact trivial | exact rfl | refine and_rfl ?_ | refine and_two ?_ ?_)
  rintro ⟨k, a, acc⟩ ⟨hd, hac, hw⟩
  have ha := hd.lt
  have hk := hd.fuel
  have ek : l.length - k = (l.length - k - 1) + 1 := by omega
  rw [ek, downs_step] at hw
  have hmem := fun c (hc : c ∈ kidsP l (idAt l a)) => hd.next hT (c := c) hc
  have hkl : (kidsP l (idAt l a)).length ≤ l.length := idxs_len _ _ _
  conv => whnf
  generalize kidsP l (idAt l a) = ks at hw hmem hkl ⊢
  rintro (_ | _) h1
  · simp at h1
    subst h1
    simp at hw
    rw [← hw]
    conv => whnf
  simp at h1
  cases ks with
  | nil => simp at h1
  | cons c cs =>
  simp only at hw
  have hc0 := (hmem c (by simp)).lt
  have g0 : ((c :: cs).map natD)[(0 : Int).toNat]? = some (natD c) := rfl
  conv => whnf
  refine ⟨by omega, _, g0, ?_⟩
  conv => whnf
  refine ⟨[], Nat × Nat, fun ⟨j, b⟩ => [(11, int j), (10, int b)], fun _ => [], fun ⟨j, b⟩ => j ≤ (c :: cs).length ∧ b ∈ c :: cs ∧ pick l b ((c :: cs).drop j) = pick l c (c :: cs), fun x => (c :: cs).length - x.1, (0, c), ⟨by omega, by simp, rfl⟩, ?_, ?_⟩
  · refine ⟨rfl, ?_, ?_⟩ <;> repeat' (first | exact trivial | exact rfl | refine and_rfl ?_ | refine and_two ?_ ?_)
  rintro ⟨j, b⟩ ⟨hj, hbm, hp⟩
  conv => whnf
  rintro (_ | _) h2
  · simp at h2
    have e : j = (c :: cs).length := by simp at hj ⊢; omega
    rw [e, List.drop_length] at hp
    have hp : b = pick l c (c :: cs) := hp
    subst hp
    have hdn := hmem _ (pick_in (l := l) (ks := cs) (k := c))
    have hbl := hdn.lt
    conv => whnf
    refine ⟨by omega, _, get_map spD hbl, ?_⟩
    conv => whnf
    refine ⟨by simp; omega, ?_⟩
    conv => whnf
    refine ⟨by omega, _, get_map spD hbl, ?_⟩
    have hk2 : DCalls Try.prog 38 [sps l, str l[pick l c (c :: cs)].id] (nats (kidsP l (idAt l (pick l c (c :: cs))))) := by rw [idAt_eq hbl]; exact x_rkids l _ hl
    conv => whnf
    refine ⟨_, hk2, ?_⟩
    conv => whnf
    refine ⟨(k + 1, pick l c (c :: cs), acc ++ [idAt l a]), ⟨hdn, by simp [hac], by rw [← hw]; simp [Nat.sub_sub]⟩, by dsimp only; omega, ?_⟩
    refine ⟨rfl, ?_, ?_⟩ <;> repeat' (first | exact trivial | exact rfl | refine and_rfl ?_ | refine and_two ?_ ?_ | (simp [strD, idAt_eq hbl]; done))
  · have h2 : j < (c :: cs).length := by simp at h2 ⊢; omega
    have hb2 := (hmem b hbm).lt
    have hj2 := (hmem _ (List.getElem_mem h2)).lt
    rw [drop_cons h2] at hp
    have hp : pick l (if toN l (c :: cs)[j] > toN l b then (c :: cs)[j] else b) ((c :: cs).drop (j + 1)) = pick l c (c :: cs) := hp
    conv => whnf
    refine ⟨none, by kernel_rfl, ?_⟩
    conv => whnf
    refine ⟨by omega, _, get_map natD h2, ?_⟩
    conv => whnf
    refine ⟨by omega, _, get_map spD hj2, ?_⟩
    conv => whnf
    refine ⟨by omega, _, get_map spD hb2, ?_⟩
    rw [toN_eq hj2, toN_eq hb2] at hp
    conv => whnf
    rintro (_ | _) h3
    · simp at h3
      rw [if_neg (by omega)] at hp
      conv => whnf
      refine ⟨(j + 1, b), ⟨h2, hbm, hp⟩, by dsimp only; omega, ?_⟩
      refine ⟨rfl, ?_, ?_⟩ <;> repeat' (first | exact trivial | exact rfl | refine and_rfl ?_ | refine and_val (wrap_succ (by omega)) ?_ | refine and_two ?_ ?_)
    · simp at h3
      rw [if_pos (by omega)] at hp
      conv => whnf
      refine ⟨by omega, _, get_map natD h2, ?_⟩
      conv => whnf
      refine ⟨(j + 1, (c :: cs)[j]), ⟨h2, List.getElem_mem h2, hp⟩, by dsimp only; omega, ?_⟩
      refine ⟨rfl, ?_, ?_⟩ <;> repeat' (first | exact trivial | exact rfl | refine and_rfl ?_ | refine and_val (wrap_succ (by omega)) ?_ | refine and_two ?_ ?_)

end Go.Proofs.Ytppkkonhfkegoaa
