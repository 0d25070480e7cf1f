/- The law RegistryImmutable: the walk; over arguments that were read. -/
import Derived.Test.YtjmabkpcahmnpaaGreatDoorRz46
namespace Go.Proofs.YtjmabkpcahmnpaaGreatDoor
open Go.RowKit

section
variable {E : Mf → Int} {Dg : Mf → Bs × Int}

def imM : List (Nat × Bool) := [(9, false), (10, false), (12, false), (11, false), (13, false)]

set_option maxRecDepth 100000 in
set_option maxHeartbeats 16000000 in
theorem x_limmutable (hP : PubOk E Dg) (hAw : DCalls Tryz.prog 7 [] (boo true)) (l : List Rop) (m : Mf) (nw : Int) (l2 : List Rop) (hl : l.length ≤ 8796093022207) (ho : ∀ o ∈ l, o.m.ops.length ≤ 8796093022207) (hm : m.ops.length ≤ 8796093022207)
    (hl2 : l2.length ≤ 8796093022207) (ho2 : ∀ o ∈ l2, o.m.ops.length ≤ 8796093022207) (hr : ∀ o ∈ l, MfRg o.m) (hrm : MfRg m) (hr2 : ∀ o ∈ l2, MfRg o.m) : DCalls Tryz.prog 4 [ropsV l, m.V, int nw, ropsV l2] (boo true) := by
  refine sxm imM Tryz.func4 (by kernel_rfl) ?_
  conv => whnf
  refine ⟨_, x_small l hl ho, ?_⟩
  cases h1 : smL l with
  | false =>
    repeat ((conv => whnf); refine known true rfl ?_)
    conv => whnf
    refine ⟨_, hAw, ?_⟩
    (conv => whnf) <;> rfl
  | true =>
  conv => whnf
  refine known false rfl ?_
  conv => whnf
  refine ⟨_, x_small l2 hl2 ho2, ?_⟩
  cases h2 : smL l2 with
  | false =>
    repeat ((conv => whnf); refine known true rfl ?_)
    conv => whnf
    refine ⟨_, hAw, ?_⟩
    (conv => whnf) <;> rfl
  | true =>
  conv => whnf
  refine known false rfl ?_
  conv => whnf
  refine ⟨_, x_small [⟨0, 0, 0, [], m⟩] (by simp) (by simpa using hm), ?_⟩
  cases h3 : smL [⟨0, 0, 0, [], m⟩] with
  | false =>
    repeat ((conv => whnf); refine known true rfl ?_)
    conv => whnf
    refine ⟨_, hAw, ?_⟩
    (conv => whnf) <;> rfl
  | true =>
  have hsm : smM m = true := by
    rw [smL_one] at h3
    simp only [smO, Bool.and_eq_true] at h3
    exact h3.2
  have hops : m.ops.length ≤ 1000000 := by have := smM_ops hsm; omega
  obtain ⟨h40, hsm2⟩ := smL_of h2
  have hG : GoodR Dg (playR E Dg ([], 0) l).1 := GoodR.play l (s := ([], 0)) (good_nil Dg) fun o hx => by have := smM_ops ((smL_of h1).2 o hx); omega
  have c0 := x_played hP l h1 hr
  generalize playR E Dg ([], 0) l = s at hG c0
  obtain ⟨F, now⟩ := s
  dsimp only at hG c0
  have c1 := hP F now m nw hsm hrm hG
  conv => whnf
  refine known false rfl ?_
  conv => whnf
  refine mcallV (T := TM imM) (φ := [190, 191]) (ρ := []) (ln := true) c0 ?_
  conv => whnf
  refine known false rfl ?_
  by_cases h0 : (pubP F now m nw (E m) (Dg m)).1.2 = 0
  rotate_left
  · obtain ⟨e1, e2⟩ := pub_err rfl h0
    rw [e1, show (pubP F now m nw (E m) (Dg m)).2.1 = F by rw [e2], show (pubP F now m nw (E m) (Dg m)).2.2 = now by rw [e2]] at c1
    generalize (pubP F now m nw (E m) (Dg m)).1.2 = e at h0 c1
    conv => whnf
    refine mcallV (T := TM imM) (φ := []) (ρ := [190, 191]) (ln := true) (gf := false) c1 ?_
    conv => whnf
    refine known true (by simpa using h0) ?_
    conv => whnf
    refine known true rfl ?_
    conv => whnf
    refine ⟨_, hAw, ?_⟩
    (conv => whnf) <;> rfl
  obtain ⟨hE, hn, en, hD, hG2, k, v, hg, e1, hv, hrt⟩ := pub_ok hG hops rfl h0
  have hrow := hG2.rl m.nm
  rw [hg] at hrow
  simp only [Option.getD_some] at hrow
  rw [h0, e1, en] at c1
  generalize (pubP F now m nw (E m) (Dg m)).2.1 = G at hG2 hg c1
  have c3 := x_releases G nw m.nm (by rw [hg]; simp only [Option.getD_some]; omega)
  rw [hg] at c3
  simp only [Option.getD_some] at c3
  obtain ⟨K, hK⟩ : ∃ K, K = k ++ [v] := ⟨_, rfl⟩
  have hKl : K.length = k.length + 1 := by rw [hK]; simp
  have hKv : K[k.length]? = some v := by rw [hK]; simp
  rw [← hK] at hg hrow c3
  have hll : (K.map rlD).length = K.length := List.length_map _
  conv => whnf
  refine mcallV (T := TM imM) (φ := []) (ρ := [190, 191]) (ln := true) (gf := false) c1 ?_
  conv => whnf
  refine known false rfl ?_
  conv => whnf
  refine mcallV (T := TM imM) (φ := []) (ρ := [190, 191]) (ln := true) (gf := false) c3 ?_
  conv => whnf
  refine known false (by rw [hll]; simp; omega) ?_
  conv => whnf
  refine ⟨[], Nat × Fns × Int, fun ⟨i, _, _⟩ => [(9, .bx 190 0), (61, int i)], fun ⟨_, F, now⟩ => [(190, some (.box [.ow 191 0, int now])), (191, some (.asr 0 (mapC (vM F)) []))], fun ⟨i, F, now⟩ => i ≤ l2.length ∧ GoodR Dg F ∧ playR E Dg (G, nw) (l2.take i) = (F, now), fun ⟨i, _, _⟩ => l2.length - i, (0, G, nw), ⟨Nat.zero_le _, hG2, rfl⟩, ?_, ?_⟩
  · refine ⟨rfl, ?_, ?_⟩ <;> repeat' (first | exact trivial | exact rfl | refine and_rfl ?_ | refine and_two ?_ ?_)
  clear hG c0 hE hn en hD
  rintro ⟨i, F, now⟩ ⟨hi1, hG, hpl⟩
  conv => whnf
  rintro (_ | _) hi
  rotate_left
  · have hi : i < l2.length := by simp at hi; omega
    have gk := get_map ropD hi
    have hmk := hsm2 _ (List.getElem_mem hi)
    have hrg := hr2 _ (List.getElem_mem hi)
    have hst : playR E Dg (G, nw) (l2.take (i + 1)) = stepR E Dg (playR E Dg (G, nw) (l2.take i)) l2[i] := play_take hi _
    rw [hpl] at hst
    have hG' : GoodR Dg (stepR E Dg (F, now) l2[i]).1 := GoodR.step (s := (F, now)) hG (by have := smM_ops hmk; omega)
    conv => whnf
    refine ⟨by omega, _, gk, ?_⟩
    conv => whnf
    rintro (_ | _) h3
    · have h3 : l2[i].kind ≠ 0 := by simpa using h3
      conv => whnf
      refine ⟨by omega, _, gk, ?_⟩
      conv => whnf
      rintro (_ | _) h4
      · have h4 : l2[i].kind ≠ 1 := by simpa using h4
        have e : stepR E Dg (F, now) l2[i] = (F, now) := by unfold stepR; rw [if_neg h3, if_neg h4]
        conv => whnf
        refine ⟨(i + 1, F, now), ⟨hi, hG, by rw [hst, e]⟩, by dsimp only; omega, ?_⟩
        refine ⟨rfl, ?_, ?_⟩ <;> repeat' (first | exact trivial | exact rfl | refine and_rfl ?_ | refine and_val (wrap_succ (by omega)) ?_ | refine and_two ?_ ?_)
      · have h4 : l2[i].kind = 1 := by simpa using h4
        have e : stepR E Dg (F, now) l2[i] = ((retR F l2[i].nm l2[i].ver).2, now) := by unfold stepR; rw [if_neg h3, if_pos h4]
        rw [e] at hst hG'
        conv => whnf
        refine ⟨none, by kernel_rfl, ?_⟩
        conv => whnf
        refine ⟨by omega, _, gk, ?_⟩
        conv => whnf
        refine ⟨by omega, _, gk, ?_⟩
        conv => whnf
        refine mcallV (T := TM imM) (φ := []) (ρ := [190, 191]) (ln := true) (gf := false) (x_retire F now l2[i].nm l2[i].ver (by have := hG.rl l2[i].nm; omega)) ?_
        conv => whnf
        refine ⟨(i + 1, (retR F l2[i].nm l2[i].ver).2, now), ⟨hi, hG', hst⟩, by dsimp only; omega, ?_⟩
        refine ⟨rfl, ?_, ?_⟩ <;> repeat' (first | exact trivial | exact rfl | refine and_rfl ?_ | refine and_val (wrap_succ (by omega)) ?_ | refine and_two ?_ ?_)
    · have h3 : l2[i].kind = 0 := by simpa using h3
      have e : stepR E Dg (F, now) l2[i] = (pubP F now l2[i].m l2[i].now (E l2[i].m) (Dg l2[i].m)).2 := by unfold stepR; rw [if_pos h3]
      rw [e] at hst hG'
      conv => whnf
      refine ⟨none, by kernel_rfl, ?_⟩
      conv => whnf
      refine ⟨by omega, _, gk, ?_⟩
      conv => whnf
      refine ⟨by omega, _, gk, ?_⟩
      conv => whnf
      refine mcallV (T := TM imM) (φ := []) (ρ := [190, 191]) (ln := true) (gf := false) (hP F now l2[i].m l2[i].now hmk hrg hG) ?_
      conv => whnf
      refine ⟨by omega, _, gk, ?_⟩
      conv => whnf
      refine known false (by simp [h3]) ?_
      conv => whnf
      refine ⟨(i + 1, (pubP F now l2[i].m l2[i].now (E l2[i].m) (Dg l2[i].m)).2.1, (pubP F now l2[i].m l2[i].now (E l2[i].m) (Dg l2[i].m)).2.2), ⟨hi, hG', hst⟩, by dsimp only; omega, ?_⟩
      refine ⟨rfl, ?_, ?_⟩ <;> repeat' (first | exact trivial | exact rfl | refine and_rfl ?_ | refine and_val (wrap_succ (by omega)) ?_ | refine and_two ?_ ?_)
  simp at hi
  rw [List.take_of_length_le hi] at hpl
  obtain ⟨L, hgL, hLl, hL⟩ := kept_play (E := E) (Dg := Dg) l2 (G, nw) m.nm K hg
  rw [hpl] at hgL
  dsimp only at hgL
  have hrL := hG.rl m.nm
  rw [hgL] at hrL
  simp only [Option.getD_some] at hrL
  have c4 := x_releases F now m.nm (by rw [hgL]; simp only [Option.getD_some]; omega)
  rw [hgL] at c4
  simp only [Option.getD_some] at c4
  have hlL : (L.map rlD).length = L.length := List.length_map _
  conv => whnf
  refine mcallV (T := TM imM) (φ := []) (ρ := [190, 191]) (ln := true) (gf := false) c4 ?_
  conv => whnf
  refine known false (by rw [hlL]; simp; omega) ?_
  have hrows := (hG.rows _ _ hgL).2.2
  conv => whnf
  refine ⟨[], Nat, fun j => [(111, int j)], fun _ => [], fun j => j ≤ K.length, fun j => K.length - j, 0, Nat.zero_le _, ?_, ?_⟩
  · refine ⟨rfl, ?_, ?_⟩ <;> repeat' (first | exact trivial | exact rfl | refine and_rfl ?_ | refine and_two ?_ ?_)
  rintro j hj1
  conv => whnf
  rintro (_ | _) hj
  rotate_left
  · have hj : j < K.length := by simp at hj; omega
    obtain ⟨u, hu, _, un, ud, ua, ur⟩ := hL j K[j] (List.getElem?_eq_getElem hj)
    have gL : (L.map rlD)[((j : Nat) : Int).toNat]? = some (rlD u) := by rw [Int.toNat_natCast, List.getElem?_map, hu]; rfl
    have gK := get_map rlD hj
    have hn1 := (hrows j u hu).n
    have hwr : IntKind.i64.wrap ((j : Int) + 1) = (j : Int) + 1 := wrap_in (by omega)
    generalize K[j] = w at un ud ua ur gK
    conv => whnf
    refine ⟨none, by kernel_rfl, ?_⟩
    conv => whnf
    refine ⟨by omega, _, gL, ?_⟩
    conv => whnf
    refine known false (by rw [hn1, hwr]; simp) ?_
    conv => whnf
    refine ⟨by omega, _, gL, ?_⟩
    conv => whnf
    refine ⟨by omega, _, gK, ?_⟩
    conv => whnf
    refine known false (by rw [un]; simp) ?_
    conv => whnf
    refine ⟨by omega, _, gL, ?_⟩
    conv => whnf
    refine ⟨by omega, _, gK, ?_⟩
    conv => whnf
    refine known false (by rw [ud]; exact eqS _) ?_
    conv => whnf
    refine ⟨by omega, _, gL, ?_⟩
    conv => whnf
    refine ⟨by omega, _, gK, ?_⟩
    conv => whnf
    refine known false (by rw [ua]; simp) ?_
    conv => whnf
    refine ⟨by omega, _, gK, ?_⟩
    conv => whnf
    rintro (_ | _) h5
    · conv => whnf
      refine ⟨j + 1, hj, by dsimp only; omega, ?_⟩
      refine ⟨rfl, ?_, ?_⟩ <;> repeat' (first | exact trivial | exact rfl | refine and_rfl ?_ | refine and_val (wrap_succ (by omega)) ?_ | refine and_two ?_ ?_)
    · have h6 : u.rt = true := ur h5
      conv => whnf
      refine ⟨by omega, _, gL, ?_⟩
      conv => whnf
      refine known false (by rw [h6]; rfl) ?_
      conv => whnf
      refine ⟨j + 1, hj, by dsimp only; omega, ?_⟩
      refine ⟨rfl, ?_, ?_⟩ <;> repeat' (first | exact trivial | exact rfl | refine and_rfl ?_ | refine and_val (wrap_succ (by omega)) ?_ | refine and_two ?_ ?_)
  clear hj
  obtain ⟨u, hu, um, _, _, _, _⟩ := hL k.length v hKv
  have gL : (L.map rlD)[((k.length : Nat) : Int).toNat]? = some (rlD u) := by rw [Int.toNat_natCast, List.getElem?_map, hu]; rfl
  have e5 : getP F m.nm ((k.length + 1 : Nat) : Int) = (if u.rt = true then (noMf, 18) else (m, 0)) := by
    unfold getP
    rw [hgL, show (((k.length + 1 : Nat) : Int) - 1).toNat = k.length by omega]
    simp only [Option.getD_some, hu]
    rw [if_neg (by omega), um, hv]
  have c5 := x_get F now m.nm ((k.length + 1 : Nat) : Int) (by rw [hgL]; simp only [Option.getD_some]; omega) (fun w hw => by
    rw [hgL] at hw
    obtain ⟨i, hi⟩ := List.getElem?_of_mem hw
    exact (hrows i w hi).ops)
  rw [e5] at c5
  have hwr : IntKind.i64.wrap (((k.length + 1 : Nat) : Int) - 1) = ((k.length : Nat) : Int) := by rw [wrap_in (by omega)]; omega
  cases hur : u.rt with
  | true =>
    rw [hur, if_pos rfl] at c5
    conv => whnf
    refine mcallV (T := TM imM) (φ := []) (ρ := [190, 191]) (ln := true) (gf := false) c5 ?_
    conv => whnf
    rw [hwr]
    refine ⟨by omega, _, gL, ?_⟩
    conv => whnf
    refine known true hur ?_
    conv => whnf
    refine known true rfl ?_
    conv => whnf
    refine ⟨_, hAw, ?_⟩
    (conv => whnf) <;> rfl
  | false =>
    rw [hur, if_neg (by simp)] at c5
    conv => whnf
    refine mcallV (T := TM imM) (φ := []) (ρ := [190, 191]) (ln := true) (gf := false) c5 ?_
    conv => whnf
    rw [hwr]
    refine ⟨by omega, _, gL, ?_⟩
    conv => whnf
    refine known false hur ?_
    conv => whnf
    refine known true rfl ?_
    conv => whnf
    refine ⟨_, x_rsame m hops, ?_⟩
    conv => whnf
    refine known true rfl ?_
    conv => whnf
    refine ⟨_, hAw, ?_⟩
    (conv => whnf) <;> rfl
end

end Go.Proofs.YtjmabkpcahmnpaaGreatDoor
namespace Go.Proofs.YtjmabkpcahmnpaaGreatDoor
open Go.RowKit

theorem d_rimmutable (ds0 ds1 ds2 ds3 : List D) (h0 : DOk TT 6 28 ds0) (h1 : DOk TT 6 24 ds1) (h2 : DOk TT 6 3 ds2) (h3 : DOk TT 6 28 ds3) :
    DCalls Tryz.prog 4 [vOf TT 28 ds0, vOf TT 24 ds1, vOf TT 3 ds2, vOf TT 28 ds3] (boo true) := by
  obtain ⟨l, e0, hl, hk⟩ := read_rops h0
  obtain ⟨m, e, hr, hm⟩ := read_mf h1
  obtain ⟨a, rfl, _⟩ := h2
  obtain ⟨l2, e3, hl2, hk2⟩ := read_rops h3
  rw [e, e0, e3]
  exact x_limmutable pubs x_awakeR l m a l2 hl (fun o ho => (hk o ho).2) hm hl2 (fun o ho => (hk2 o ho).2) (fun o ho => (hk o ho).1) hr (fun o ho => (hk2 o ho).1)

end Go.Proofs.YtjmabkpcahmnpaaGreatDoor
