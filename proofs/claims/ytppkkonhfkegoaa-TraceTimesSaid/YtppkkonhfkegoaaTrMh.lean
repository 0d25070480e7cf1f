/- Texts joined by merge.py: XTrH XTrI XTrJ XTrK XTrL XTrM XTrN0 XTrN XTrO XTrP XTrQ XTrR XTrS -/
import Derived.Test.YtppkkonhfkegoaaTrF
import Derived.Test.YtppkkonhfkegoaaTrG
import Derived.Deep.QuietTactic
import Derived.WalkKit
import Derived.Shelf.SlSortCmp.NoneTotal
import Derived.Test.YtppkkonhfkegoaaSxR
/-
  Contracts of the package trace, part fifteen: the comparison of two spans' beginnings.
-/
namespace Go.Proofs.Ytppkkonhfkegoaa
open Go.RowKit

set_option maxHeartbeats 1000000 in
theorem self1 (bl b o n cap : Nat) (fr : Nat → Int) (x y : Nat) (hx : x < n) (hy : y < n) (W : World) (hbox : W.cell? ⟨bl, 0, none⟩ = some (.slice (some ⟨b, o, none⟩) n cap)) (hel : ∀ i, i < n → W.cell? ⟨b, o + i * 6 + 4, none⟩ = some (.int .i64 (fr i))) :
    Calls Try.prog 44 #[.int .i64 x, .int .i64 y, .pointer (some ⟨bl, 0, none⟩)] W fun e w' => e = .returned (.int .i64 (Lib.compareInt (fr x) (fr y))) ∧ ∃ q, w' = W.drewN q := by
  have hcon := fun W' => AnyG.cmp_Compare_int Try.cmpL (fr x) (fr y) W'
  change ∀ W', Calls Try.prog 45 _ _ _ at hcon
  generalize Lib.compareInt (fr x) (fr y) = r at hcon ⊢
  have h1 := hel x hx
  have h2 := hel y hy
  clear hel
  go_enter Try.func44, Try.ntmps44
  go_wp2_with fail
  go_quiet (first | (go_at_call 45; refine Calls.quiet_of_same (hcon _)))
  go_wp2
  go_ret
  exact ⟨rfl, _, rfl⟩

end Go.Proofs.Ytppkkonhfkegoaa
/-
  Contracts of the package trace, part sixteen: the sort of the children.
-/
namespace Go.Proofs.Ytppkkonhfkegoaa
open Go.RowKit

section
variable (l : List Sp)

def cfr (h : 0 < l.length) (x y : _root_.Fin l.length) : Int := Lib.compareInt (frN l x) (frN l y)
def idxF (h : 0 < l.length) (k : Nat) : _root_.Fin l.length := ⟨k % l.length, Nat.mod_lt _ h⟩
def arrF (h : 0 < l.length) (ks : List Nat) : Array (_root_.Fin l.length) := (ks.map (idxF l h)).toArray

/-- The children, sorted. -/
def sortK (ks : List Nat) : List Nat :=
  if h : 0 < l.length then
    (@Sort.pdq (_root_.Fin l.length) ⟨⟨0, h⟩⟩ (ltOf (cfr l h)) (arrF l h ks) 0 (arrF l h ks).size (Lib.bitLen (arrF l h ks).size) true true).toList.map (·.val)
  else ks

end

theorem ltOf_cfr {l : List Sp} (h : 0 < l.length) (x y : _root_.Fin l.length) : ltOf (cfr l h) x y = decide (frN l x < frN l y) := by
  unfold ltOf cfr Lib.compareInt
  by_cases h1 : frN l x < frN l y
  · simp [h1]
  · by_cases h2 : frN l y < frN l x <;> simp [h1, h2]

theorem swo_cfr {l : List Sp} (h : 0 < l.length) : Sort.SWO (ltOf (cfr l h)) where
  irrefl x := by rw [ltOf_cfr]; simp
  trans x y z h1 h2 := by rw [ltOf_cfr] at *; simp at *; omega
  ntrans x y z h1 h2 := by rw [ltOf_cfr] at *; simp at *; omega

theorem sortK_nil (l : List Sp) : sortK l [] = [] := by
  unfold sortK
  split
  · rename_i h
    letI : Inhabited (_root_.Fin l.length) := ⟨⟨0, h⟩⟩
    have hp := (Sort.pdq_sorts (ltOf (cfr l h)) (swo_cfr h) (arrF l h []) 0 (arrF l h []).size (Lib.bitLen (arrF l h []).size) true true (Nat.zero_le _) (Nat.le_refl _) (Or.inl rfl)).1
    have e : (arrF l h []).size = 0 := rfl
    have := hp.1
    rw [e] at this
    have h0 : (Sort.pdq (ltOf (cfr l h)) (arrF l h []) 0 (arrF l h []).size (Lib.bitLen (arrF l h []).size) true true) = #[] := Array.eq_empty_of_size_eq_zero this
    rw [h0]; rfl
  · rfl

theorem sortK_spec {l : List Sp} {ks : List Nat} (hk : ∀ k ∈ ks, k < l.length) : (sortK l ks).Perm ks ∧ (sortK l ks).Pairwise (fun a b => frN l a ≤ frN l b) := by
  unfold sortK
  split
  rotate_left
  · rename_i h
    cases ks with
    | nil => exact ⟨List.Perm.refl _, List.Pairwise.nil⟩
    | cons k ks => exact absurd (hk k (by simp)) (by omega)
  rename_i h
  letI : Inhabited (_root_.Fin l.length) := ⟨⟨0, h⟩⟩
  obtain ⟨hp, hs⟩ := Sort.pdq_sorts (ltOf (cfr l h)) (swo_cfr h) (arrF l h ks) 0 (arrF l h ks).size (Lib.bitLen (arrF l h ks).size) true true (Nat.zero_le _) (Nat.le_refl _) (Or.inl rfl)
  generalize Sort.pdq (ltOf (cfr l h)) (arrF l h ks) 0 (arrF l h ks).size (Lib.bitLen (arrF l h ks).size) true true = d' at hp hs
  obtain ⟨hp1, _, hp3⟩ := hp
  have hd : (arrF l h ks).toList = ks.map (idxF l h) := by simp [arrF]
  rw [← hp1] at hp3 hs
  have e1 : (d'.extract 0 d'.size) = d' := by simp
  have e2 : ((arrF l h ks).extract 0 d'.size) = arrF l h ks := by rw [hp1]; simp
  rw [e1, e2, hd] at hp3
  have hval : (ks.map (idxF l h)).map (·.val) = ks := by
    rw [List.map_map]
    conv => rhs; rw [← List.map_id ks]
    refine List.map_congr_left fun k hk' => ?_
    exact Nat.mod_eq_of_lt (hk k hk')
  refine ⟨?_, ?_⟩
  · have := hp3.map (·.val)
    rwa [hval] at this
  · rw [List.pairwise_map, List.pairwise_iff_getElem]
    intro i j hi hj hij
    have := hs i j (Nat.zero_le _) hij (by simpa using hj)
    rw [ltOf_cfr, getElem!_pos d' j (by simpa using hj), getElem!_pos d' i (by simpa using hi)] at this
    simpa using this

theorem cells_grown {w : World} {g n : Nat} {os : Array Obj} {α : Type} [Inhabited α] {enc : α → Value} {d : Array α} {k : Nat} (hk : k < w.heap.size) (hne : k ≠ g) : (sortWorld enc w g 0 n d os).heap[k]? = w.heap[k]? := by
  unfold sortWorld Sort.grow Sort.putRow Sort.mapBlock Sort.ahead
  simp only
  rw [Array.getElem?_append_left (by simpa using hk), Array.getElem?_modify, if_neg (Ne.symm hne)]

theorem cells_row {w : World} {g n : Nat} {os : Array Obj} {α : Type} [Inhabited α] {enc : α → Value} {d : Array α} {cu : Array Value} {E : TypeId} (h : w.heap[g]? = some (.cells cu E (0, 0))) : (sortWorld enc w g 0 n d os).heap[g]? = some (.cells (Sort.putCells enc 0 d cu) E (0, 0)) := by
  have hlt := (Array.getElem?_eq_some_iff.1 h).1
  unfold sortWorld Sort.grow Sort.putRow Sort.mapBlock Sort.ahead
  simp only
  rw [Array.getElem?_append_left (by simpa using hlt), Array.getElem?_modify, if_pos rfl, h]
  rfl

theorem put_get {α : Type} [Inhabited α] {enc : α → Value} {d : Array α} {cu : Array Value} {i : Nat} (hi : i < d.size) (hc : i < cu.size) : (Sort.putCells enc 0 d cu).toList[i]? = some (enc d[i]!) := by
  unfold Sort.putCells
  rw [Array.getElem?_toList, Array.getElem?_mapIdx]
  simp [hc, hi]

set_option maxHeartbeats 1000000 in
theorem x_sort (l : List Sp) (ks : List Nat) (hk : ∀ k ∈ ks, k < l.length) (hsz : ks.length < 4611686018427387904) :
    MCallsG true Try.prog 43 [.ow 0 0, .fn 44 0 [.bx 1 0]] [.row 0 3 1 false (ks.map natD), .box [.sl false 6 (l.map spD)]] .un [.row 0 3 1 false ((sortK l ks).map natD), .box [.sl false 6 (l.map spD)]] := by
  refine ⟨⟨_, Try.func43, by kernel_rfl, by kernel_rfl⟩, fun w vs ns So hm hvs => ?_⟩
  -- the arguments
  obtain ⟨a0, vs1, rfl, hr0, hr1⟩ := relL_uncons hvs
  obtain ⟨a1, vs2, rfl, hr2, hr3⟩ := relL_uncons hr1
  obtain rfl : vs2 = [] := by have := hr3.1; simpa using this.symm
  obtain ⟨v0, v1, rfl⟩ : ∃ v0 v1, ns = [v0, v1] := by
    have := hm.len
    match ns, this with
    | [a, b], _ => exact ⟨a, b, rfl⟩
  obtain ⟨v, us, h1, h2, h3, h4, h5, h6⟩ := hm.blk 0 _ rfl
  have h1 : some (0, v0) = some (0, v) := h1
  cases h1
  obtain ⟨bl, ty, ub, b1, b2, b3, b4⟩ := hm.blk 1 _ rfl
  have b1 : some (0, v1) = some (0, .pointer (some ⟨bl, 0, none⟩)) := b1
  cases b1
  have e0 : a0 = v0 := by
    cases hr0 with
    | ow _ _ _ hu hn =>
      obtain ⟨k', u, g1, g2, g3⟩ := hn
      have g1 : some (0, v0) = some (k', u) := g1
      cases g1
      exact g3 rfl
  subst e0
  have e1 : a1 = .func (.func 44) #[] #[.pointer (some ⟨bl, 0, none⟩)] := by
    cases hr2 with
    | fn _ _ _ us vs hn hl h =>
      have hu : us = #[] := by simpa using hn.symm
      subst hu
      have hv := h 0 _ rfl
      have hs : vs.size = 1 := by simpa using hl.symm
      obtain ⟨z, rfl⟩ : ∃ z, vs = #[z] := by
        match vs, hs with
        | ⟨[z]⟩, _ => exact ⟨z, rfl⟩
      have hv : RelV (NamesOf [a0, .pointer (some ⟨bl, 0, none⟩)]) (oldS So) w (.bx 1 0) z := by simpa using hv
      cases hv with
      | bx _ _ g hn =>
        have hn : some (0, Value.pointer (some ⟨bl, 0, none⟩)) = some (0, .pointer (some ⟨g, 0, none⟩)) := hn
        cases hn
        rfl
  subst e1
  obtain ⟨u, rfl⟩ : ∃ u, ub = #[u] := by
    have : ub.size = 1 := by simpa using b3.symm
    match ub, this with
    | ⟨[z]⟩, _ => exact ⟨z, rfl⟩
  have hu : RelV (NamesOf [a0, .pointer (some ⟨bl, 0, none⟩)]) (oldS So) w (.sl false 6 (l.map spD)) u := by simpa using b4 0 _ rfl
  have hblk : ∀ g, blks [a0, .pointer (some ⟨bl, 0, none⟩)] g ↔ atOf a0 = some g ∨ g = bl := by
    intro g
    unfold blks
    simp only [List.mem_cons, List.not_mem_nil, or_false]
    constructor
    · rintro ⟨v, rfl | rfl, h⟩
      · exact .inl h
      · simp [atOf] at h; exact .inr h.symm
    · rintro (h | rfl)
      · exact ⟨a0, .inl rfl, h⟩
      · exact ⟨_, .inr rfl, rfl⟩
  have hSo : ∀ g, So g → g < w.heap.size ∧ atOf a0 ≠ some g ∧ g ≠ bl := fun g hg => by
    have := hm.data false g ⟨rfl, hg⟩
    rw [hblk] at this
    exact ⟨this.1, fun h => this.2 (.inl h), fun h => this.2 (.inr h)⟩
  have hbl : bl < w.heap.size := hm.lt bl ((hblk bl).2 (.inr rfl))
  rcases h2.2 with ⟨rfl, hl0⟩ | ⟨g, cap, cu, rfl, _, hg, hle, hmax, hcs, htk⟩
  · -- no child: the row is nil
    have hk0 : ks = [] := by simpa using hl0
    subst hk0
    have hcon := AnyF.slices_SortFunc_none { Try.sortL with } none 0 (.func (.func 44) #[] #[.pointer (some ⟨bl, 0, none⟩)]) w
    change Calls Try.prog 43 _ _ _ at hcon
    refine hcon.mono ?_
    rintro e w' ⟨rfl, rfl⟩
    rw [sortK_nil]
    have hS : ∀ f g, oldS So f g → newS So w' w' [.slice none 0 0, .pointer (some ⟨bl, 0, none⟩)] f g := fun f g ⟨hf, hg⟩ => ⟨(hSo g hg).1, fun hb => by
      rcases (hblk g).1 hb with h | h
      · exact (hSo g hg).2.1 h
      · exact (hSo g hg).2.2 h, .inr ⟨hf, hg⟩⟩
    refine ⟨_, _, rfl, ⟨rfl, fun k b hb => ?_, hm.apart, fun f g hg => ⟨hg.1, hg.2.1⟩, hm.lt⟩, .un _, Low.refl _ _, Nat.le_refl _, fun k a h => h, fun g h => .inl h, fun _ k v h => h⟩
    exact (hm.blk k b hb).mono rfl (NLe.refl _) hS (fun _ _ _ => rfl) fun _ _ _ _ _ => rfl
  -- some children
  have hgl : g < w.heap.size := (Array.getElem?_eq_some_iff.1 hg).1
  have hgb : g ≠ bl := fun e => by
    have := hm.apart 0 1 _ _ g rfl rfl rfl (by rw [e]; rfl)
    cases this
  rw [List.length_map] at hle htk
  have hcell : ∀ i (hi : i < ks.length), cu[i]? = some (.int .i64 (ks[i] : Nat)) := fun i hi => by
    obtain ⟨u, hu, hr⟩ := h5 i 0 (.cv (.int .i64 (ks[i] : Nat))) (by simp [hi, natD])
    rw [Nat.mul_one, Nat.add_zero, ← htk, List.getElem?_take] at hu
    split at hu
    · rw [Array.getElem?_toList] at hu
      rw [hu]
      cases hr; rfl
    · cases hu
  rcases Nat.eq_zero_or_pos l.length with hl0 | hl0
  · -- no span, no child
    have hk0 : ks = [] := by
      cases ks with
      | nil => rfl
      | cons k ks => exact absurd (hk k (by simp)) (by omega)
    subst hk0
    have hcon := AnyF.slices_SortFunc_none { Try.sortL with } (some ⟨g, 0, none⟩) cap (.func (.func 44) #[] #[.pointer (some ⟨bl, 0, none⟩)]) w
    change Calls Try.prog 43 _ _ _ at hcon
    refine hcon.mono ?_
    rintro e w' ⟨rfl, rfl⟩
    rw [sortK_nil]
    have hS : ∀ f g', oldS So f g' → newS So w' w' [.slice (some ⟨g, 0, none⟩) 0 cap, .pointer (some ⟨bl, 0, none⟩)] f g' := fun f g' ⟨hf, hg⟩ => ⟨(hSo g' hg).1, fun hb => by
      rcases (hblk g').1 hb with h | h
      · exact (hSo g' hg).2.1 h
      · exact (hSo g' hg).2.2 h, .inr ⟨hf, hg⟩⟩
    refine ⟨_, _, rfl, ⟨rfl, fun k b hb => ?_, hm.apart, fun f g hg => ⟨hg.1, hg.2.1⟩, hm.lt⟩, .un _, Low.refl _ _, Nat.le_refl _, fun k a h => h, fun g h => .inl h, fun _ k v h => h⟩
    exact (hm.blk k b hb).mono rfl (NLe.refl _) hS (fun _ _ _ => rfl) fun _ _ _ _ _ => rfl
  letI : Inhabited (_root_.Fin l.length) := ⟨⟨0, hl0⟩⟩
  obtain ⟨d, hd⟩ : ∃ d, d = arrF l hl0 ks := ⟨_, rfl⟩
  have hds : d.size = ks.length := by rw [hd]; simp [arrF]
  have hdi : ∀ i (hi : i < ks.length), (d[i]!).val = ks[i] := fun i hi => by
    rw [getElem!_pos d i (by omega)]
    subst hd
    simp [arrF, idxF, Nat.mod_eq_of_lt (hk ks[i] (List.getElem_mem hi))]
  -- the slice that is captured
  obtain ⟨bb, o, capl, hul, hsl⟩ : ∃ bb o capl, u = .slice (some ⟨bb, o, none⟩) l.length capl ∧ So bb ∧ ∀ i (hi : i < l.length), w.cell? ⟨bb, o + i * 6 + 4, none⟩ = some (.int .i64 l[i].fr) := by
    cases hu with
    | sl _ _ _ _ hr =>
      generalize hxs : l.map spD = xs at hr
      cases hr with
      | nil => simp at hxs; subst hxs; simp at hl0
      | sl _ _ b o cap u hS hx hcap hc hd' =>
        subst hxs
        refine ⟨b, o, cap, by simp, hS.2, fun i hi => ?_⟩
        have q : ((l.map spD)[i]?.bind fun x => x[4]?) = some (.cv (.int .i64 l[i].fr)) := by simp [hi, spD]
        have g1 := hc i 4 _ q
        have g2 := hd' i 4 _ q
        generalize u i 4 = z at g1 g2
        cases g2
        exact g1
  obtain ⟨hSb, hfr⟩ := hsl
  subst hul
  have hbb := hSo bb hSb
  have hH : Sort.Holds (fun x : _root_.Fin l.length => Value.int .i64 (x.val : Nat)) w g 0 d := by
    intro j hj
    rw [hds] at hj
    constructor
    · unfold World.cell?
      rw [hg]
      simp only [Option.isSome_none, Bool.false_eq_true, if_false, Nat.zero_add]
      rw [hcell j hj, hdi j hj]
    · unfold World.frozen?
      rw [hg]
      simp
  have hbox : ∀ (m : Nat) (os : Array Obj) (dk : Array (_root_.Fin l.length)) (k : Nat), k < w.heap.size → k ≠ g → (sortWorld (fun x : _root_.Fin l.length => Value.int .i64 (x.val : Nat)) w g 0 m dk os).heap[k]? = w.heap[k]? := fun m os dk k h1 h2 => cells_grown h1 h2
  have hcmp : CmpLays1 Try.prog 44 #[.pointer (some ⟨bl, 0, none⟩)] (fun x : _root_.Fin l.length => Value.int .i64 (x.val : Nat)) (cfr l hl0) g 0 d.size w := by
    intro m os dk hs x y
    refine (self1 bl bb o l.length capl (frN l) x y x.2 y.2 _ ?_ ?_).mono ?_
    · rw [World.cell?_of_block (w := w) (hbox m os dk bl hbl (Ne.symm hgb))]
      unfold World.cell?
      rw [b2]; rfl
    · intro i hi
      rw [World.cell?_of_block (w := w) (hbox m os dk bb hbb.1 (fun e => hbb.2.1 (by rw [e]; rfl))), frN_eq hi]
      exact hfr i hi
    · rintro e w' ⟨rfl, q, rfl⟩
      exact ⟨rfl, q, #[], by rw [Sort.grow_empty]⟩
  have hcon := Any.slices_SortFunc_eq Try.sortL (fun x : _root_.Fin l.length => Value.int .i64 (x.val : Nat)) (fun _ => rfl) (cfr l hl0) (swo_cfr hl0) 44 #[.pointer (some ⟨bl, 0, none⟩)] g 0 cap d w
    (enters_fn Try.func44 (by kernel_rfl) (by kernel_rfl)) hcmp hH hgl (by omega)
  change Calls Try.prog 43 _ _ _ at hcon
  rw [hds] at hcon
  rw [List.length_map]
  refine hcon.mono ?_
  rintro e w' ⟨rfl, n, os, rfl⟩
  have hsk : sortK l ks = (Sort.pdq (ltOf (cfr l hl0)) d 0 ks.length (Lib.bitLen ks.length) true true).toList.map (·.val) := by
    unfold sortK
    rw [dif_pos hl0, ← hd, hds]
  have hsp := sortK_spec hk
  have hln : (sortK l ks).length = ks.length := hsp.1.length_eq
  rw [hsk] at hln hsp ⊢
  generalize Sort.pdq (ltOf (cfr l hl0)) d 0 ks.length (Lib.bitLen ks.length) true true = d' at hln hsp ⊢
  simp only [List.length_map, Array.length_toList] at hln
  have hold : ∀ k, k < w.heap.size → k ≠ g → (sortWorld (fun x : _root_.Fin l.length => Value.int .i64 (x.val : Nat)) w g 0 n d' os).heap[k]? = w.heap[k]? := hbox n os d'
  have hnew := cells_row (n := n) (os := os) (enc := fun x : _root_.Fin l.length => Value.int .i64 (x.val : Nat)) (d := d') hg
  have hws : w.heap.size ≤ (sortWorld (fun x : _root_.Fin l.length => Value.int .i64 (x.val : Nat)) w g 0 n d' os).heap.size := by
    unfold sortWorld Sort.grow Sort.putRow Sort.mapBlock Sort.ahead; simp
  obtain ⟨W, hW⟩ : ∃ W, W = sortWorld (fun x : _root_.Fin l.length => Value.int .i64 (x.val : Nat)) w g 0 n d' os := ⟨_, rfl⟩
  have hWo : W.os = w.os ∧ W.tape = w.tape ∧ W.output = w.output := by rw [hW]; exact ⟨rfl, rfl, rfl⟩
  rw [← hW] at hold hnew hws ⊢
  have hS : ∀ f k, oldS So f k → newS So w W [.slice (some ⟨g, 0, none⟩) ks.length cap, .pointer (some ⟨bl, 0, none⟩)] f k := fun f k ⟨hf, hg⟩ => ⟨Nat.lt_of_lt_of_le (hSo k hg).1 hws, fun hb => by
    have hb' : blks [.slice (some ⟨g, 0, none⟩) (ks.map natD).length cap, .pointer (some ⟨bl, 0, none⟩)] k := by rw [List.length_map]; exact hb
    rcases (hblk k).1 hb' with h | h
    · exact (hSo k hg).2.1 h
    · exact (hSo k hg).2.2 h, .inr ⟨hf, hg⟩⟩
  have hblk' : ∀ k, blks [.slice (some ⟨g, 0, none⟩) ks.length cap, .pointer (some ⟨bl, 0, none⟩)] k → k = g ∨ k = bl := fun k hb => by
    have hb' : blks [.slice (some ⟨g, 0, none⟩) (ks.map natD).length cap, .pointer (some ⟨bl, 0, none⟩)] k := by rw [List.length_map]; exact hb
    rcases (hblk k).1 hb' with h | h
    · simp [atOf] at h; exact .inl h.symm
    · exact .inr h
  rw [List.length_map] at hm
  refine ⟨_, [.slice (some ⟨g, 0, none⟩) ks.length cap, .pointer (some ⟨bl, 0, none⟩)], rfl, ⟨rfl, fun k b hb => ?_, hm.apart, fun f k hk => ⟨hk.1, hk.2.1⟩, fun k hk => ?_⟩, .un _, ⟨hWo.1, hWo.2.1, hWo.2.2, hws, fun k hk => ?_⟩, Nat.le_refl _, fun k a h => h, fun k h => .inl h, fun _ k v h => h⟩
  · match k, hb with
    | 0, hb =>
      cases hb
      refine ⟨_, d'.toList.map (fun x => Value.int .i64 (x.val : Nat)), rfl, ⟨by simp, .inr ⟨g, cap, _, by simp [hln], Nat.zero_le _, hnew, by simp [hln]; exact hle, hmax, by simp [Sort.putCells]; omega, ?_⟩⟩, by simp [natD], by decide, fun i j dd hdd => ?_, fun h => by cases h⟩
      · apply List.ext_getElem?
        intro i
        rw [List.getElem?_take]
        have hcu : ks.length ≤ cu.size := by omega
        split
        · rename_i hi
          simp only [List.length_map, Array.length_toList, hln, Nat.mul_one] at hi
          rw [put_get (by omega) (by omega), List.getElem?_map, Array.getElem?_toList, getElem!_pos d' i (by omega), Array.getElem?_eq_getElem (by omega)]
          rfl
        · rename_i hi
          simp only [List.length_map, Array.length_toList, hln, Nat.mul_one] at hi
          rw [List.getElem?_eq_none (by simp; omega)]
      · rw [List.map_map, List.getElem?_map] at hdd
        cases hi : d'.toList[i]? with
        | none => rw [hi] at hdd; cases hdd
        | some z =>
          rw [hi] at hdd
          cases j with
          | zero =>
            have hdd : some (Ytppkkonhfkegoaa.D.cv (.int .i64 (z.val : Nat))) = some dd := hdd
            cases hdd
            exact ⟨.int .i64 (z.val : Nat), by rw [Nat.mul_one, Nat.add_zero, List.getElem?_map, hi]; rfl, .cv _ rfl⟩
          | succ j => simp [natD] at hdd
    | 1, hb =>
      cases hb
      refine ⟨bl, ty, _, rfl, by rw [hold bl hbl (Ne.symm hgb)]; exact b2, rfl, fun i v hv => ?_⟩
      match i, hv with
      | 0, hv =>
        cases hv
        refine RelV.mono (N := NamesOf [.slice (some ⟨g, 0, none⟩) (ks.map natD).length cap, .pointer (some ⟨bl, 0, none⟩)]) (S := oldS So) (w := w) (by rw [List.length_map]; exact NLe.refl _) hS (fun f k hk => hold k (hSo k hk.2).1 (fun e => (hSo k hk.2).2.1 (by rw [e]; rfl))) hu
  · rcases hblk' k hk with rfl | rfl
    · omega
    · omega
  · exact hold k hk.1 fun e => hk.2 (by rw [e]; exact ⟨.slice (some ⟨g, 0, none⟩) ks.length cap, by simp, rfl⟩)

end Go.Proofs.Ytppkkonhfkegoaa
/-
  Plain laws of traces: what of a span its children do not cover.
-/
namespace Go.Proofs.Ytppkkonhfkegoaa
open Go.RowKit

/-- How many of the n numbers from a on have a property. -/
def cntN (p : Int → Bool) : Int → Nat → Int
  | _, 0 => 0
  | a, n + 1 => (if p a then 1 else 0) + cntN p (a + 1) n

theorem cntN_add (p : Int → Bool) : ∀ (m n : Nat) (a : Int), cntN p a (m + n) = cntN p a m + cntN p (a + m) n
  | 0, n, a => by simp [cntN]
  | m + 1, n, a => by
    rw [show m + 1 + n = (m + n) + 1 by omega]
    simp only [cntN]
    rw [cntN_add p m n (a + 1), show a + ((m + 1 : Nat) : Int) = a + 1 + (m : Int) by omega]
    omega

theorem cntN_all {p : Int → Bool} {b : Bool} : ∀ (n : Nat) (a : Int), (∀ t, a ≤ t → t < a + n → p t = b) → cntN p a n = if b then (n : Int) else 0
  | 0, a, _ => by simp [cntN]
  | n + 1, a, h => by
    simp only [cntN]
    rw [h a (by omega) (by omega), cntN_all n (a + 1) fun t h1 h2 => h t (by omega) (by omega)]
    cases b <;> simp
    omega

theorem cntN_bound (p : Int → Bool) : ∀ (n : Nat) (a : Int), 0 ≤ cntN p a n ∧ cntN p a n ≤ n
  | 0, a => by simp [cntN]
  | n + 1, a => by
    simp only [cntN]
    have := cntN_bound p n (a + 1)
    split <;> omega

/-- .. of those from a on that are less than b. -/
def cnt (p : Int → Bool) (a b : Int) : Int := cntN p a (b - a).toNat

theorem cnt_split {p : Int → Bool} {a b c : Int} (h1 : a ≤ b) (h2 : b ≤ c) : cnt p a c = cnt p a b + cnt p b c := by
  unfold cnt
  rw [show (c - a).toNat = (b - a).toNat + (c - b).toNat by omega, cntN_add, show a + ((b - a).toNat : Int) = b by omega]
theorem cnt_true {p : Int → Bool} {a b : Int} (h : a ≤ b) (hp : ∀ t, a ≤ t → t < b → p t = true) : cnt p a b = b - a := by
  unfold cnt
  rw [cntN_all (b := true) _ _ fun t h1 h2 => hp t h1 (by omega)]
  simp; omega
theorem cnt_false {p : Int → Bool} {a b : Int} (h : a ≤ b) (hp : ∀ t, a ≤ t → t < b → p t = false) : cnt p a b = 0 := by
  unfold cnt
  rw [cntN_all (b := false) _ _ fun t h1 h2 => hp t h1 (by omega)]
  rfl
theorem cnt_bound (p : Int → Bool) {a b : Int} (h : a ≤ b) : 0 ≤ cnt p a b ∧ cnt p a b ≤ b - a := by
  have := cntN_bound p (b - a).toNat a
  unfold cnt
  omega

/-- Is a time covered by none of some spans. -/
def unc (l : List Sp) (ks : List Nat) (t : Int) : Bool := ks.all fun k => !(decide (frN l k ≤ t) && decide (t < toN l k))

theorem unc_iff {l : List Sp} {ks : List Nat} {t : Int} : unc l ks t = true ↔ ∀ k ∈ ks, ¬ (frN l k ≤ t ∧ t < toN l k) := by
  unfold unc
  rw [List.all_eq_true]
  refine forall_congr' fun k => forall_congr' fun _ => ?_
  simp
  omega
theorem unc_false {l : List Sp} {ks : List Nat} {t : Int} {k : Nat} (hk : k ∈ ks) (h1 : frN l k ≤ t) (h2 : t < toN l k) : unc l ks t = false := by
  cases h : unc l ks t with
  | false => rfl
  | true => exact absurd ⟨h1, h2⟩ (unc_iff.1 h k hk)

/-- The children lie within the span. -/
def Within (l : List Sp) (fr to : Int) (ks : List Nat) : Prop := ∀ k ∈ ks, fr ≤ frN l k ∧ frN l k ≤ toN l k ∧ toN l k ≤ to

/-- What of a span its children do not cover. -/
def selfV (l : List Sp) (fr to : Int) (ks : List Nat) : Int := cnt (unc l ks) fr to

/-- The state of the sweep from the left: rs are still to come. -/
structure Sweep (l : List Sp) (fr to : Int) (ks rs : List Nat) (n at_ : Int) : Prop where
  lo : fr ≤ at_
  hi : at_ ≤ to
  sub : ∀ k ∈ rs, k ∈ ks
  past : ∀ k ∈ ks, k ∈ rs ∨ toN l k ≤ at_
  n_eq : n = cnt (unc l ks) fr at_

theorem Sweep.step {l : List Sp} {fr to : Int} {ks rs : List Nat} {n at_ : Int} {k : Nat} (hw : Within l fr to ks) (h : Sweep l fr to ks (k :: rs) n at_) (hs : (k :: rs).Pairwise (fun a b => frN l a ≤ frN l b)) :
    Sweep l fr to ks rs (n + max 0 (frN l k - at_)) (max at_ (toN l k)) := by
  obtain ⟨w1, w2, w3⟩ := hw k (h.sub k (by simp))
  have h1 := h.lo
  have h2 := h.hi
  refine ⟨by omega, by omega, fun j hj => h.sub j (by simp [hj]), fun j hj => ?_, ?_⟩
  · rcases h.past j hj with h3 | h3
    · rcases List.mem_cons.1 h3 with rfl | h3
      · exact .inr (by omega)
      · exact .inl h3
    · exact .inr (by omega)
  · rw [cnt_split (b := at_) h.lo (by omega), ← h.n_eq]
    rcases Int.lt_or_le at_ (frN l k) with hlt | hle
    · rw [cnt_split (p := unc l ks) (a := at_) (b := frN l k) (c := max at_ (toN l k)) (by omega) (by omega), cnt_true (b := frN l k) (by omega), cnt_false (p := unc l ks) (a := frN l k) (by omega)]
      · omega
      · exact fun t h3 h4 => unc_false (h.sub k (by simp)) h3 (by omega)
      · intro t h3 h4
        rw [unc_iff]
        rintro j hj ⟨h5, h6⟩
        rcases h.past j hj with h7 | h7
        · have : frN l k ≤ frN l j := by
            rcases List.mem_cons.1 h7 with rfl | h7
            · omega
            · exact (List.pairwise_cons.1 hs).1 j h7
          omega
        · omega
    · rw [cnt_false (p := unc l ks) (a := at_) (by omega)]
      · omega
      · exact fun t h3 h4 => unc_false (h.sub k (by simp)) (by omega) (by omega)

theorem Sweep.done {l : List Sp} {fr to : Int} {ks : List Nat} {n at_ : Int} (h : Sweep l fr to ks [] n at_) : n + to - at_ = selfV l fr to ks := by
  unfold selfV
  rw [cnt_split (b := at_) h.lo h.hi, ← h.n_eq, cnt_true h.hi]
  · omega
  · intro t h1 h2
    rw [unc_iff]
    rintro j hj ⟨h3, h4⟩
    rcases h.past j hj with h5 | h5
    · cases h5
    · omega

theorem Sweep.start (l : List Sp) {fr to : Int} (h : fr ≤ to) (ks : List Nat) {rs : List Nat} (hp : rs.Perm ks) : Sweep l fr to ks rs 0 fr :=
  ⟨by omega, h, fun k hk => hp.mem_iff.1 hk, fun k hk => .inl (hp.mem_iff.2 hk), by unfold cnt; simp [cntN]⟩

/-- The reference's loop. -/
structure Picks (l : List Sp) (fr to : Int) (ks : List Nat) (sum e : Int) : Prop where
  lo : fr ≤ e
  hi : e ≤ to
  eq : sum = cnt (unc l ks) fr e + (to - e)

theorem Picks.start (l : List Sp) {fr to : Int} (h : fr ≤ to) (ks : List Nat) : Picks l fr to ks (to - fr) fr := ⟨by omega, h, by unfold cnt; simp [cntN]⟩

theorem Picks.done {l : List Sp} {fr to : Int} {ks : List Nat} {sum e : Int} (h : Picks l fr to ks sum e) (hn : ∀ k ∈ ks, toN l k ≤ e) : sum = selfV l fr to ks := by
  unfold selfV
  rw [h.eq, cnt_split (b := e) h.lo h.hi, cnt_true (a := e) h.hi]
  intro t h1 h2
  rw [unc_iff]
  rintro j hj ⟨h3, h4⟩
  have := hn j hj
  omega

theorem Picks.step {l : List Sp} {fr to : Int} {ks : List Nat} {sum e : Int} (hw : Within l fr to ks) (h : Picks l fr to ks sum e) {b : Nat} (hb : b ∈ ks) (hbe : e < toN l b) (hmin : ∀ k ∈ ks, e < toN l k → frN l b ≤ frN l k) :
    Picks l fr to ks (sum - (toN l b - max e (frN l b))) (toN l b) := by
  obtain ⟨w1, w2, w3⟩ := hw b hb
  have h1 := h.lo
  have h2 := h.hi
  refine ⟨by omega, w3, ?_⟩
  rw [h.eq, cnt_split (p := unc l ks) (a := fr) (b := e) (c := toN l b) h1 (by omega), cnt_split (p := unc l ks) (a := e) (b := max e (frN l b)) (c := toN l b) (by omega) (by omega), cnt_true (a := e) (b := max e (frN l b)) (by omega), cnt_false (p := unc l ks) (a := max e (frN l b)) (by omega)]
  · omega
  · exact fun t h3 h4 => unc_false hb (by omega) h4
  · intro t h3 h4
    rw [unc_iff]
    rintro j hj ⟨h5, h6⟩
    have := hmin j hj (by omega)
    omega

theorem kid_within {l : List Sp} (h : Trc l) {i : Nat} (hi : i < l.length) : Within l l[i].fr l[i].to (kidsP l (idAt l i)) := by
  intro k hk
  obtain ⟨h1, h2⟩ := kid_lt hk
  rw [idAt_eq hi] at h2
  have e := sEq_eq h2
  obtain ⟨u1, u2⟩ := h.once i hi
  obtain ⟨_, _, b3, _⟩ := h.both h1
  have ht := h.times h1
  unfold pastB at b3
  rw [e, u2, u1] at b3
  simp only [(frAt_nat hi).1, (frAt_nat hi).2] at b3
  simp at b3
  rw [frN_eq h1, toN_eq h1]
  omega

def selfP (l : List Sp) (x : ByteArray) : Int × Int :=
  if (spanP l x).2 = 0 then (selfV l (frN l (spanP l x).1.toNat) (toN l (spanP l x).1.toNat) (kidsP l x), 0) else (0, (spanP l x).2)

end Go.Proofs.Ytppkkonhfkegoaa
/-
  Contracts of the packages trace and faasref51, part seventeen: Self in the reference.
-/
namespace Go.Proofs.Ytppkkonhfkegoaa
open Go.RowKit

/-- The inner loop: the first k children have been looked at. -/
def BestOk (l : List Sp) (ks : List Nat) (e : Int) (k : Nat) (bi : Int) : Prop :=
  (bi = -1 ∧ ∀ j ∈ ks.take k, toN l j ≤ e) ∨ ∃ b : Nat, bi = b ∧ b ∈ ks ∧ e < toN l b ∧ ∀ j ∈ ks.take k, e < toN l j → frN l b ≤ frN l j

theorem take_snoc {α : Type} {l : List α} {k : Nat} (h : k < l.length) : l.take (k + 1) = l.take k ++ [l[k]] := by
  rw [List.take_add_one, List.getElem?_eq_getElem h]; rfl

set_option maxRecDepth 100000 in
set_option maxHeartbeats 1000000 in
theorem x_rself (l : List Sp) (x : ByteArray) (hl : l.length ≤ 8796093022207) (hok : okAll l) : DCalls Try.prog 22 [sps l, str x] (two (selfP l x)) := by
  refine sx Try.func22 (by kernel_rfl) ?_
  conv => whnf
  refine ⟨_, x_place l x hl hok, ?_⟩
  conv => whnf
  rintro (_ | _) h0
  rotate_left
  · exact fin_two (p := (0, (spanP l x).2)) (by simp at h0; rw [selfP, if_neg h0])
  simp at h0
  obtain ⟨hT, i, hi, e1, e2, e3⟩ := spanP_ok h0
  have hx : x = idAt l i := by rw [idAt_eq hi]; exact (sEq_eq e3).symm
  have hw := kid_within hT hi
  rw [← hx] at hw
  have hc : selfP l x = (selfV l l[i].fr l[i].to (kidsP l x), 0) := by rw [selfP, if_pos h0, e1, Int.toNat_natCast, frN_eq hi, toN_eq hi]
  rw [hc, e1]
  clear hc e1
  have hb : l.length ≤ 256 := hT.len
  obtain ⟨t1, t2, t3⟩ := hT.times hi
  conv => whnf
  refine ⟨_, x_rkids l x hl, ?_⟩
  have hkl : (kidsP l x).length ≤ l.length := idxs_len _ _ _
  have hlt := fun k (hk : k ∈ kidsP l x) => (kid_lt hk).1
  conv => whnf
  refine ⟨none, by kernel_rfl, ?_⟩
  conv => whnf
  refine ⟨by omega, _, get_map spD hi, ?_⟩
  conv => whnf
  refine ⟨by omega, _, get_map spD hi, ?_⟩
  conv => whnf
  refine ⟨by omega, _, get_map spD hi, ?_⟩
  rw [wrap_in (by omega)]
  conv => whnf
  generalize l[i].fr = fr at hw t1 t2 t3 ⊢
  generalize l[i].to = to at hw t2 t3 ⊢
  generalize kidsP l x = ks at hw hkl hlt ⊢
  refine ⟨[], Int × Int, fun ⟨s, e⟩ => [(9, int s), (10, int e)], fun _ => [], fun ⟨s, e⟩ => Picks l fr to ks s e, fun ⟨s, e⟩ => (to - e).toNat, (to - fr, fr), Picks.start l t2 ks, ?_, ?_⟩
  · refine ⟨rfl, ?_, ?_⟩ <;> repeat' (first | exact trivial | exact rfl | refine and_rfl ?_ | refine and_two ?_ ?_)
  rintro ⟨s, e⟩ hp
  obtain ⟨p1, p2, p3⟩ := id hp
  have p4 := cnt_bound (unc l ks) p1
  conv => whnf
  refine ⟨[], Nat × Int, fun ⟨k, bi⟩ => [(12, int k), (11, int bi)], fun _ => [], fun ⟨k, bi⟩ => k ≤ ks.length ∧ BestOk l ks e k bi, fun x => ks.length - x.1, (0, -1), ⟨by omega, .inl ⟨rfl, by simp⟩⟩, ?_, ?_⟩
  · refine ⟨rfl, ?_, ?_⟩ <;> repeat' (first | exact trivial | exact rfl | refine and_rfl ?_ | refine and_two ?_ ?_)
  rintro ⟨k, bi⟩ ⟨hk, hbest⟩
  conv => whnf
  rintro (_ | _) h1
  · simp at h1
    have ek : k = ks.length := by omega
    subst ek
    unfold BestOk at hbest
    rw [List.take_length] at hbest
    rcases hbest with ⟨rfl, hn⟩ | ⟨b, rfl, hbk, hbe, hmin⟩
    · conv => whnf
      rintro (_ | _) h2
      · simp at h2
      · conv => whnf
        exact fin_two (p := (s, 0)) (by rw [hp.done hn])
    · have hbl := hlt b hbk
      have hst := hp.step hw hbk hbe hmin
      obtain ⟨w1, w2, w3⟩ := hw b hbk
      rw [toN_eq hbl, frN_eq hbl] at hst w2
      rw [toN_eq hbl] at hbe w3
      conv => whnf
      rintro (_ | _) h2
      · conv => whnf
        refine ⟨none, by kernel_rfl, ?_⟩
        conv => whnf
        refine ⟨by omega, _, get_map spD hbl, ?_⟩
        conv => whnf
        refine ⟨by omega, _, get_map spD hbl, ?_⟩
        conv => whnf
        refine ⟨by omega, _, get_map spD hbl, ?_⟩
        conv => whnf
        refine ⟨(_, l[b].to), hst, by dsimp only; omega, ?_⟩
        have hm : (if l[b].fr > e then l[b].fr else e) = max e l[b].fr := by split <;> omega
        have hv : IntKind.i64.wrap (s - IntKind.i64.wrap (l[b].to - (if l[b].fr > e then l[b].fr else e))) = s - (l[b].to - max e l[b].fr) := by
          rw [hm, wrap_in (n := l[b].to - max e l[b].fr) (by omega), wrap_in (by omega)]
        refine ⟨rfl, ?_, ?_⟩ <;> repeat' (first | exact trivial | exact rfl | refine and_rfl ?_ | refine and_val hv ?_ | refine and_two ?_ ?_)
      · simp at h2; omega
  · have h1 : k < ks.length := by simp at h1; omega
    have hkl1 := hlt _ (List.getElem_mem h1)
    have htk := take_snoc h1
    have htn := toN_eq hkl1
    have hfn := frN_eq hkl1
    have hmem := List.getElem_mem h1
    have mem_take : ∀ j, j ∈ ks.take (k + 1) → j ∈ ks.take k ∨ j = ks[k] := fun j hj => by
      rw [htk] at hj
      rcases List.mem_append.1 hj with h | h
      · exact .inl h
      · exact .inr (List.mem_singleton.1 h)
    conv => whnf
    refine ⟨by omega, _, get_map natD h1, ?_⟩
    conv => whnf
    refine ⟨by omega, _, get_map spD hkl1, ?_⟩
    conv => whnf
    refine ⟨none, by kernel_rfl, ?_⟩
    have keep : BestOk l ks e (k + 1) bi → True := fun _ => trivial
    conv => whnf
    rintro (_ | _) h2
    · -- it ends too early
      have h2 : l[ks[k]].to ≤ e := by simp at h2; omega
      have hnew : BestOk l ks e (k + 1) bi := by
        rcases hbest with ⟨rfl, hn⟩ | ⟨b, rfl, hbk, hbe, hmin⟩
        · refine .inl ⟨rfl, fun j hj => ?_⟩
          rcases mem_take j hj with h | rfl
          · exact hn j h
          · omega
        · refine .inr ⟨b, rfl, hbk, hbe, fun j hj h => ?_⟩
          rcases mem_take j hj with h' | rfl
          · exact hmin j h' h
          · omega
      conv => whnf
      refine ⟨(k + 1, bi), ⟨h1, hnew⟩, by dsimp only; omega, ?_⟩
      refine ⟨rfl, ?_, ?_⟩ <;> repeat' (first | exact trivial | exact rfl | refine and_rfl ?_ | refine and_val (wrap_succ (by omega)) ?_ | refine and_two ?_ ?_)
    · have h2 : e < l[ks[k]].to := by simp at h2; omega
      conv => whnf
      rintro (_ | _) h3
      · -- there is a best one
        have h3 : 0 ≤ bi := by simp at h3; omega
        rcases hbest with ⟨rfl, hn⟩ | ⟨b, rfl, hbk, hbe, hmin⟩
        · omega
        have hbl := hlt b hbk
        have hbf := frN_eq hbl
        conv => whnf
        refine ⟨by omega, _, get_map spD hbl, ?_⟩
        conv => whnf
        rintro (_ | _) h4
        · have h4 : l[b].fr ≤ l[ks[k]].fr := by simp at h4; omega
          have hnew : BestOk l ks e (k + 1) b := .inr ⟨b, rfl, hbk, hbe, fun j hj h => by
            rcases mem_take j hj with h' | rfl
            · exact hmin j h' h
            · omega⟩
          conv => whnf
          refine ⟨(k + 1, b), ⟨h1, hnew⟩, by dsimp only; omega, ?_⟩
          refine ⟨rfl, ?_, ?_⟩ <;> repeat' (first | exact trivial | exact rfl | refine and_rfl ?_ | refine and_val (wrap_succ (by omega)) ?_ | refine and_two ?_ ?_)
        · have h4 : l[ks[k]].fr < l[b].fr := by simp at h4; omega
          have hnew : BestOk l ks e (k + 1) ks[k] := .inr ⟨ks[k], rfl, hmem, by omega, fun j hj h => by
            rcases mem_take j hj with h' | rfl
            · have := hmin j h' h; omega
            · omega⟩
          conv => whnf
          refine ⟨by omega, _, get_map natD h1, ?_⟩
          conv => whnf
          refine ⟨(k + 1, ks[k]), ⟨h1, hnew⟩, by dsimp only; omega, ?_⟩
          refine ⟨rfl, ?_, ?_⟩ <;> repeat' (first | exact trivial | exact rfl | refine and_rfl ?_ | refine and_val (wrap_succ (by omega)) ?_ | refine and_two ?_ ?_)
      · -- the first one
        have h3 : bi < 0 := by simp at h3; omega
        rcases hbest with ⟨rfl, hn⟩ | ⟨b, rfl, hbk, hbe, hmin⟩
        rotate_left
        · omega
        have hnew : BestOk l ks e (k + 1) ks[k] := .inr ⟨ks[k], rfl, hmem, by omega, fun j hj h => by
          rcases mem_take j hj with h' | rfl
          · have := hn j h'; omega
          · omega⟩
        conv => whnf
        refine ⟨by omega, _, get_map natD h1, ?_⟩
        conv => whnf
        refine ⟨(k + 1, ks[k]), ⟨h1, hnew⟩, by dsimp only; omega, ?_⟩
        refine ⟨rfl, ?_, ?_⟩ <;> repeat' (first | exact trivial | exact rfl | refine and_rfl ?_ | refine and_val (wrap_succ (by omega)) ?_ | refine and_two ?_ ?_)

end Go.Proofs.Ytppkkonhfkegoaa
/-
  Contracts of the package trace, part eighteen: Self.
-/
namespace Go.Proofs.Ytppkkonhfkegoaa
open Go.RowKit

set_option maxRecDepth 100000 in
theorem x_kidsM (l : List Sp) (x : ByteArray) (hl : l.length ≤ 8796093022207) : MCalls Try.prog 36 [.sl false 6 (l.map spD), str x] [] (.ow 0 0) [.row 0 3 1 true ((kidsP l x).map natD)] := by
  refine msxr Try.func36 (by kernel_rfl) (by kernel_rfl) ?_
  have hlen := idxs_len (kidB x) l 0
  conv => whnf
  refine ⟨[(5, 22, 3, 1)], Nat × List Nat, fun ⟨k, acc⟩ => [(10, int k), (5, .ow 22 0)], fun ⟨k, acc⟩ => [(22, some (.row 0 3 1 true (acc.map natD)))], fun ⟨k, acc⟩ => k ≤ l.length ∧ acc ++ idxs (kidB x) (l.drop k) k = idxs (kidB x) l 0, fun x => l.length - x.1, (0, []), ⟨by omega, rfl⟩, ?_, ?_⟩
  · refine ⟨rfl, ?_, ?_⟩ <;> repeat' (first | exact trivial | exact rfl | refine and_rfl ?_ | refine and_two ?_ ?_)
  rintro ⟨k, acc⟩ ⟨hk, hf⟩
  conv => whnf
  rintro (_ | _) h1
  · simp at h1
    have e : k = l.length := by omega
    subst e
    simp [idxs] at hf
    rw [kidsP, ← hf]
    conv => whnf
    exact ⟨rfl, rfl, rfl⟩
  simp at h1
  have ha := app_len hf
  rw [drop_cons h1] at hf
  simp only [idxs] at hf
  conv => whnf
  refine ⟨by omega, _, get_map spD h1, ?_⟩
  conv => whnf
  rintro (_ | _) h2
  · have h2 : kidB x l[k] = false := h2
    rw [h2] at hf
    conv => whnf
    refine ⟨(k + 1, acc), ⟨h1, hf⟩, by dsimp only; omega, ?_⟩
    refine ⟨rfl, ?_, ?_⟩ <;> repeat' (first | exact trivial | exact rfl | refine and_rfl ?_ | refine and_val (wrap_succ (by omega)) ?_ | refine and_two ?_ ?_ | (simp [natD]; done))
  · have h2 : kidB x l[k] = true := h2
    rw [h2, if_pos rfl] at hf
    conv => whnf
    refine ⟨by simp; omega, ?_⟩
    conv => whnf
    refine ⟨(k + 1, acc ++ [k]), ⟨h1, by simpa using hf⟩, by dsimp only; omega, ?_⟩
    refine ⟨rfl, ?_, ?_⟩ <;> repeat' (first | exact trivial | exact rfl | refine and_rfl ?_ | refine and_val (wrap_succ (by omega)) ?_ | refine and_two ?_ ?_ | (simp [natD]; done))

set_option maxRecDepth 100000 in
set_option maxHeartbeats 1000000 in
theorem x_self (l : List Sp) (x : ByteArray) (hl : l.length ≤ 8796093022207) (hok : okAll l) : DCalls Try.prog 21 [sps l, str x] (two (selfP l x)) := by
  refine sxm [(36, false), (43, false)] Try.func21 (by kernel_rfl) ?_
  conv => whnf
  refine ⟨_, x_span l x hl hok, ?_⟩
  conv => whnf
  rintro (_ | _) h0
  rotate_left
  · exact fin_two (p := (0, (spanP l x).2)) (by simp at h0; rw [selfP, if_neg h0])
  simp at h0
  obtain ⟨hT, i, hi, e1, e2, e3⟩ := spanP_ok h0
  have hx : x = idAt l i := by rw [idAt_eq hi]; exact (sEq_eq e3).symm
  have hw := kid_within hT hi
  rw [← hx] at hw
  have hc : selfP l x = (selfV l l[i].fr l[i].to (kidsP l x), 0) := by rw [selfP, if_pos h0, e1, Int.toNat_natCast, frN_eq hi, toN_eq hi]
  rw [hc, e1]
  clear hc e1
  have hb : l.length ≤ 256 := hT.len
  obtain ⟨t1, t2, t3⟩ := hT.times hi
  have hkl : (kidsP l x).length ≤ l.length := idxs_len _ _ _
  have hlt := fun k (hk : k ∈ kidsP l x) => (kid_lt hk).1
  have hsp := sortK_spec hlt
  have hsl := hsp.1.length_eq
  conv => whnf
  refine mcall (T := TM [(36, false), (43, false)]) (φ := [8]) (gf := false) (x_kidsM l x hl) ?_
  conv => whnf
  refine mcall (T := TM [(36, false), (43, false)]) (φ := []) (gf := false) (x_sort l (kidsP l x) hlt (by omega)) ?_ (ln := true)
  generalize sortK l (kidsP l x) = rs at hsp hsl
  conv => whnf
  refine ⟨none, by kernel_rfl, ?_⟩
  conv => whnf
  refine ⟨by omega, _, get_map spD hi, ?_⟩
  conv => whnf
  refine ⟨[], Nat × Int × Int, fun ⟨k, n, at_⟩ => [(35, int k), (9, int n), (10, int at_)], fun _ => [], fun ⟨k, n, at_⟩ => k ≤ rs.length ∧ Sweep l l[i].fr l[i].to (kidsP l x) (rs.drop k) n at_, fun x => rs.length - x.1, (0, 0, l[i].fr), ⟨by omega, Sweep.start l t2 _ hsp.1⟩, ?_, ?_⟩
  · refine ⟨rfl, ?_, ?_⟩ <;> repeat' (first | exact trivial | exact rfl | refine and_rfl ?_ | refine and_two ?_ ?_)
  rintro ⟨k, n, at_⟩ ⟨hk, hs⟩
  have hs0 := hs
  obtain ⟨s1, s2, s3, s4, s5⟩ := hs0
  have s6 := cnt_bound (unc l (kidsP l x)) s1
  conv => whnf
  rintro (_ | _) h1
  · simp at h1
    have ek : k = rs.length := by omega
    rw [ek, List.drop_length] at hs
    have hd := hs.done
    conv => whnf
    refine ⟨by omega, _, get_map spD hi, ?_⟩
    conv => whnf
    exact fin_two (p := (IntKind.i64.wrap (IntKind.i64.wrap (n + l[i].to) - at_), 0)) (by rw [← hd, wrap_in (n := n + l[i].to) (by omega), wrap_in (by omega)])
  · simp at h1
    have hd := drop_cons h1
    rw [hd] at hs
    have hp : (rs[k] :: rs.drop (k + 1)).Pairwise (fun a b => frN l a ≤ frN l b) := by rw [← hd]; exact hsp.2.drop
    have hst := hs.step hw hp
    have hkm := hs.sub rs[k] List.mem_cons_self
    have hkl1 := hlt _ hkm
    obtain ⟨w1, w2, w3⟩ := hw _ hkm
    rw [frN_eq hkl1, toN_eq hkl1] at hst
    rw [frN_eq hkl1] at w1 w2
    rw [toN_eq hkl1] at w2 w3
    conv => whnf
    refine ⟨by omega, by simpa using h1, ?_⟩
    conv => whnf
    refine ⟨_, get_map natD h1, ?_⟩
    conv => whnf
    refine ⟨by omega, _, get_map spD hkl1, ?_⟩
    conv => whnf
    refine ⟨by omega, _, get_map spD hkl1, ?_⟩
    have hv1 : IntKind.i64.wrap (n + (if IntKind.i64.wrap (l[rs[k]].fr - at_) > 0 then IntKind.i64.wrap (l[rs[k]].fr - at_) else 0)) = n + max 0 (l[rs[k]].fr - at_) := by
      rw [wrap_in (n := l[rs[k]].fr - at_) (by omega), wrap_in (by split <;> omega)]
      split <;> omega
    have hv2 : (if l[rs[k]].to > at_ then l[rs[k]].to else at_) = max at_ l[rs[k]].to := by split <;> omega
    conv => whnf
    refine ⟨(k + 1, n + max 0 (l[rs[k]].fr - at_), max at_ l[rs[k]].to), ⟨h1, hst⟩, by dsimp only; omega, ?_⟩
    refine ⟨rfl, ?_, ?_⟩ <;> repeat' (first | exact trivial | exact rfl | refine and_rfl ?_ | refine and_val (wrap_succ (by omega)) ?_ | refine and_val hv1 ?_ | refine and_val hv2 ?_ | refine and_two ?_ ?_)

end Go.Proofs.Ytppkkonhfkegoaa
/-
  Contracts of the packages trace, faasref51, faasref05 and of the laws, part nineteen: sampling; lists of strings; where a span stands, and what lies below it.
-/
namespace Go.Proofs.Ytppkkonhfkegoaa
open Go.RowKit

theorem x_bucket (s : ByteArray) (h : s.size ≤ maxLen) : DCalls Try.prog 47 [str s, int 1000] (.tu [int (bucketI s), int 0]) :=
  dcalls_val Try.func47 (by kernel_rfl) (by kernel_rfl) rfl rfl fun w => (bucket_any s w h).mono fun _ _ ⟨h1, h2⟩ => ⟨h1, h2 ▸ Below.refl _ _⟩
theorem x_rbucket (s : ByteArray) (h : s.size ≤ maxLen) : DCalls Try.prog 49 [str s, int 1000] (.tu [int (bucketI s), int 0]) :=
  dcalls_val Try.func49 (by kernel_rfl) (by kernel_rfl) rfl rfl fun w => (rbucket_any s w h).mono fun _ _ ⟨h1, h2⟩ => ⟨h1, h2 ▸ Below.refl _ _⟩

def sampP (x : ByteArray) (p : Int) : Bool × Int := if idB x = false then (false, 4) else if p < 0 ∨ p > 1000 then (false, 2) else (decide (bucketI x < p), 0)
abbrev booE (p : Bool × Int) : V := .tu [boo p.1, int p.2]
theorem fin_booE {p q : Bool × Int} (h : p = q) : booE p = booE q := by rw [h]

theorem x_sampled (x : ByteArray) (p : Int) (h : x.size ≤ maxLen) : DCalls Try.prog 23 [str x, int p] (booE (sampP x p)) := by
  refine sx Try.func23 (by kernel_rfl) ?_
  conv => whnf
  refine ⟨_, x_id x h, ?_⟩
  conv => whnf
  rintro (_ | _) h1
  rotate_left
  · exact fin_booE (p := (false, 4)) (by simp at h1; unfold sampP; rw [if_pos h1])
  simp at h1
  conv => whnf
  rintro (_ | _) h2
  rotate_left
  · exact fin_booE (p := (false, 2)) (by simp at h2; unfold sampP; rw [if_neg (by simp [h1]), if_pos (.inl h2)])
  conv => whnf
  rintro (_ | _) h3
  rotate_left
  · exact fin_booE (p := (false, 2)) (by simp at h3; unfold sampP; rw [if_neg (by simp [h1]), if_pos (.inr (by omega))])
  simp at h2 h3
  conv => whnf
  refine ⟨_, x_bucket x h, ?_⟩
  conv => whnf
  refine known true rfl ?_
  conv => whnf
  exact fin_booE (p := (decide (bucketI x < p), 0)) (by unfold sampP; rw [if_neg (by simp [h1]), if_neg (by omega)])

theorem x_rsampled (x : ByteArray) (p : Int) (h : x.size ≤ maxLen) : DCalls Try.prog 24 [str x, int p] (booE (sampP x p)) := by
  refine sx Try.func24 (by kernel_rfl) ?_
  conv => whnf
  refine ⟨_, x_rid x h, ?_⟩
  conv => whnf
  rintro (_ | _) h1
  rotate_left
  · exact fin_booE (p := (false, 4)) (by simp at h1; unfold sampP; rw [if_pos h1])
  simp at h1
  conv => whnf
  rintro (_ | _) h2
  rotate_left
  · exact fin_booE (p := (false, 2)) (by simp at h2; unfold sampP; rw [if_neg (by simp [h1]), if_pos (.inl h2)])
  conv => whnf
  rintro (_ | _) h3
  rotate_left
  · exact fin_booE (p := (false, 2)) (by simp at h3; unfold sampP; rw [if_neg (by simp [h1]), if_pos (.inr (by omega))])
  simp at h2 h3
  conv => whnf
  refine ⟨_, x_rbucket x h, ?_⟩
  conv => whnf
  exact fin_booE (p := (decide (bucketI x < p), 0)) (by unfold sampP; rw [if_neg (by simp [h1]), if_neg (by omega)])

theorem sEq_dec (a b : ByteArray) : sEq a b = decide (a = b) := by
  cases h : sEq a b with
  | true => rw [sEq_eq h]; simp
  | false => symm; simp; rintro rfl; rw [sEq_refl] at h; cases h

set_option maxRecDepth 100000 in
theorem x_same (a b : List ByteArray) (ha : a.length ≤ 8796093022207) : DCalls Try.prog 18 [strs a, strs b] (boo (decide (a = b))) := by
  refine sx Try.func18 (by kernel_rfl) ?_
  conv => whnf
  rintro (_ | _) h0
  rotate_left
  · exact fin_boo (by simp at h0; simp; intro e; subst e; exact h0 rfl)
  simp at h0
  conv => whnf
  refine ⟨[], Nat, fun k => [(5, int k)], fun _ => [], fun k => k ≤ a.length ∧ ∀ i, (h : i < k) → a[i]? = b[i]?, fun k => a.length - k, 0, ⟨by omega, fun i h => by omega⟩, ?_, ?_⟩
  · refine ⟨rfl, ?_, ?_⟩ <;> repeat' (first | exact trivial | exact rfl | refine and_rfl ?_ | refine and_two ?_ ?_)
  rintro k ⟨hk, hf⟩
  conv => whnf
  rintro (_ | _) h1
  · simp at h1
    have e : k = a.length := by omega
    subst e
    have : a = b := by
      refine List.ext_getElem? fun i => ?_
      rcases Nat.lt_or_ge i a.length with h | h
      · exact hf i h
      · rw [List.getElem?_eq_none h, List.getElem?_eq_none (by omega)]
    exact fin_boo (by simp [this])
  simp at h1
  conv => whnf
  refine ⟨none, by kernel_rfl, ?_⟩
  conv => whnf
  refine ⟨by omega, _, get_map strD h1, ?_⟩
  conv => whnf
  refine ⟨by omega, _, get_map strD (show k < b.length by omega), ?_⟩
  conv => whnf
  rintro (_ | _) h2
  · have h2 : sEq a[k] (b[k]'(by omega)) = true := by simpa [sEq] using h2
    conv => whnf
    refine ⟨k + 1, ⟨h1, fun i hi => ?_⟩, by dsimp only; omega, ?_⟩
    · by_cases e : i = k
      · subst e
        rw [List.getElem?_eq_getElem h1, List.getElem?_eq_getElem (by omega), sEq_eq h2]
      · exact hf i (by omega)
    refine ⟨rfl, ?_, ?_⟩ <;> repeat' (first | exact trivial | exact rfl | refine and_rfl ?_ | refine and_val (wrap_succ (by omega)) ?_ | refine and_two ?_ ?_)
  · have h2 : sEq a[k] (b[k]'(by omega)) = false := by simpa [sEq] using h2
    exact fin_boo (by simp; intro e; subst e; rw [sEq_refl] at h2; cases h2)

set_option maxRecDepth 100000 in
theorem x_has (a : List ByteArray) (x : ByteArray) (ha : a.length ≤ 8796093022207) : DCalls Try.prog 26 [strs a, str x] (boo (a.any fun y => sEq y x)) := by
  refine sx Try.func26 (by kernel_rfl) ?_
  conv => whnf
  refine ⟨[], Nat, fun k => [(5, int k)], fun _ => [], fun k => k ≤ a.length ∧ (a.any fun y => sEq y x) = ((a.drop k).any fun y => sEq y x), fun k => a.length - k, 0, ⟨by omega, rfl⟩, ?_, ?_⟩
  · refine ⟨rfl, ?_, ?_⟩ <;> repeat' (first | exact trivial | exact rfl | refine and_rfl ?_ | refine and_two ?_ ?_)
  rintro k ⟨hk, hf⟩
  conv => whnf
  rintro (_ | _) h1
  · simp at h1
    have e : k = a.length := by omega
    rw [e, List.drop_length] at hf
    exact fin_boo hf.symm
  simp at h1
  rw [drop_cons h1, List.any_cons] at hf
  conv => whnf
  refine ⟨by omega, _, get_map strD h1, ?_⟩
  conv => whnf
  rintro (_ | _) h2
  · have h2 : sEq a[k] x = false := h2
    rw [h2, Bool.false_or] at hf
    conv => whnf
    refine ⟨k + 1, ⟨h1, hf⟩, by dsimp only; omega, ?_⟩
    refine ⟨rfl, ?_, ?_⟩ <;> repeat' (first | exact trivial | exact rfl | refine and_rfl ?_ | refine and_val (wrap_succ (by omega)) ?_ | refine and_two ?_ ?_)
  · have h2 : sEq a[k] x = true := h2
    rw [h2, Bool.true_or] at hf
    exact fin_boo hf.symm

set_option maxRecDepth 100000 in
theorem x_lspan (l : List Sp) (x : ByteArray) (hl : l.length ≤ 8796093022207) : DCalls Try.prog 25 [sps l, str x] (int (findI l x)) := by
  refine sx Try.func25 (by kernel_rfl) ?_
  conv => whnf
  refine ⟨[], Nat, fun k => [(5, int k)], fun _ => [], fun k => k ≤ l.length ∧ findFrom x (l.drop k) k = findI l x, fun k => l.length - k, 0, ⟨by simp, rfl⟩, ?_, ?_⟩
  · refine ⟨rfl, ?_, ?_⟩ <;> repeat' (first | exact trivial | exact rfl | refine and_rfl ?_ | refine and_two ?_ ?_)
  rintro k ⟨hk, hf⟩
  conv => whnf
  rintro (_ | _) h1
  · simp at h1
    have e : k = l.length := by omega
    subst e
    simp [findFrom] at hf
    exact fin_int hf
  simp at h1
  rw [drop_cons h1] at hf
  simp only [findFrom] at hf
  conv => whnf
  refine ⟨by omega, _, get_map spD h1, ?_⟩
  conv => whnf
  rintro (_ | _) h2
  · have h2 : sEq l[k].id x = false := h2
    rw [h2, if_neg (by simp)] at hf
    conv => whnf
    refine ⟨k + 1, ⟨h1, hf⟩, by dsimp only; omega, ?_⟩
    refine ⟨rfl, ?_, ?_⟩ <;> repeat' (first | exact trivial | exact rfl | refine and_rfl ?_ | refine and_val (wrap_succ (by omega)) ?_ | refine and_two ?_ ?_)
  · have h2 : sEq l[k].id x = true := h2
    rw [h2, if_pos rfl] at hf
    exact fin_int hf

/-- Does a span lie within another one. -/
def upB (l : List Sp) (x : ByteArray) : Nat → Nat → Bool
  | 0, _ => false
  | n + 1, a => sEq (idAt l a) x || (match stepP l a with
    | none => false
    | some j => upB l x n j)

set_option maxRecDepth 100000 in
theorem x_lbelow (l : List Sp) (i : Nat) (x : ByteArray) (hi : i < l.length) (hl : l.length ≤ 8796093022207) (hL : linkedAll l) : DCalls Try.prog 27 [sps l, int i, str x] (boo (upB l x (l.length + 1) i)) := by
  refine sx Try.func27 (by kernel_rfl) ?_
  conv => whnf
  refine ⟨[], Nat × Nat, fun ⟨n, a⟩ => [(7, int n), (1, int a)], fun _ => [], fun ⟨n, a⟩ => n ≤ l.length + 1 ∧ a < l.length ∧ upB l x (l.length + 1 - n) a = upB l x (l.length + 1) i, fun x => l.length + 1 - x.1, (0, i), ⟨by omega, hi, rfl⟩, ?_, ?_⟩
  · refine ⟨rfl, ?_, ?_⟩ <;> repeat' (first | exact trivial | exact rfl | refine and_rfl ?_ | refine and_two ?_ ?_)
  rintro ⟨n, a⟩ ⟨hn, ha, hb⟩
  conv => whnf
  rintro (_ | _) h1
  · simp at h1
    have e : l.length + 1 - n = 0 := by omega
    rw [e] at hb
    exact fin_boo hb
  simp at h1
  have e : l.length + 1 - n = (l.length - n) + 1 := by omega
  rw [e] at hb
  simp only [upB, idAt_eq ha] at hb
  conv => whnf
  refine ⟨by omega, _, get_map spD ha, ?_⟩
  conv => whnf
  rintro (_ | _) h2
  rotate_left
  · have h2 : sEq l[a].id x = true := h2
    rw [h2, Bool.true_or] at hb
    exact fin_boo hb
  have h2 : sEq l[a].id x = false := h2
  rw [h2, Bool.false_or] at hb
  conv => whnf
  refine ⟨by omega, _, get_map spD ha, ?_⟩
  conv => whnf
  rintro (_ | _) h3
  rotate_left
  · have h3 : sEq l[a].pa emp = true := h3
    rw [stepP_none ha h3] at hb
    exact fin_boo hb
  have h3 : sEq l[a].pa emp = false := h3
  obtain ⟨h4, h5⟩ := stepP_some ha h3 hL
  obtain ⟨h6, h7⟩ := findI_lt h4
  rw [h5] at hb
  simp only at hb
  conv => whnf
  refine ⟨by omega, _, get_map spD ha, ?_⟩
  conv => whnf
  refine ⟨_, x_lspan l l[a].pa hl, ?_⟩
  rw [h7]
  generalize (findI l l[a].pa).toNat = j at hb h6
  conv => whnf
  refine ⟨(n + 1, j), ⟨by omega, h6, by rw [show l.length + 1 - (n + 1) = l.length - n by omega]; exact hb⟩, by dsimp only; omega, ?_⟩
  refine ⟨rfl, ?_, ?_⟩ <;> repeat' (first | exact trivial | exact rfl | refine and_rfl ?_ | refine and_val (wrap_succ (by omega)) ?_ | refine and_two ?_ ?_)

end Go.Proofs.Ytppkkonhfkegoaa
/-
  Contracts of the laws of the package trace, part twenty: the example of the chapter: what is computed.
-/
namespace Go.Proofs.Ytppkkonhfkegoaa
open Go.RowKit

def aA : ByteArray := ⟨#[97]⟩
def aB : ByteArray := ⟨#[98]⟩
def aC : ByteArray := ⟨#[99]⟩
def aD : ByteArray := ⟨#[100]⟩
def run_ : ByteArray := ⟨#[114, 117, 110]⟩
def awl (f : Int) : List Sp := [⟨aA, emp, emp, run_, 0, 10⟩, ⟨aB, aA, emp, run_, 2, 5⟩, ⟨aC, aA, emp, run_, 4, 8⟩, ⟨aD, emp, aB, run_, f, 20⟩]
def awl3 : List Sp := [⟨aA, emp, emp, run_, 0, 10⟩, ⟨aB, aA, emp, run_, 2, 5⟩, ⟨aC, aA, emp, run_, 4, 8⟩]
theorem aw_sz : aA.size ≤ maxLen ∧ aB.size ≤ maxLen ∧ aC.size ≤ maxLen ∧ aD.size ≤ maxLen ∧ run_.size ≤ maxLen ∧ emp.size ≤ maxLen := by decide
theorem aw_ok (f : Int) : okAll (awl f) := by
  intro s hs
  simp only [awl, List.mem_cons, List.not_mem_nil, or_false] at hs
  obtain ⟨z1, z2, z3, z4, z5, z6⟩ := aw_sz
  rcases hs with rfl | rfl | rfl | rfl
  · exact ⟨z1, z6, z6, z5⟩
  · exact ⟨z2, z1, z6, z5⟩
  · exact ⟨z3, z1, z6, z5⟩
  · exact ⟨z4, z6, z2, z5⟩
theorem aw_ok3 : okAll awl3 := by
  intro s hs
  simp only [awl3, List.mem_cons, List.not_mem_nil, or_false] at hs
  obtain ⟨z1, z2, z3, z4, z5, z6⟩ := aw_sz
  rcases hs with rfl | rfl | rfl
  · exact ⟨z1, z6, z6, z5⟩
  · exact ⟨z2, z1, z6, z5⟩
  · exact ⟨z3, z1, z6, z5⟩
theorem aw_check : checkP (awl 9) = (0, 0) := by kernel_rfl
theorem aw_self : selfP (awl 9) aA = (4, 0) := by kernel_rfl
theorem aw_crit : critP (awl 9) aA = ([aA, aC], 0) := by kernel_rfl
theorem aw_caus : causesP (awl 9) aD = ([aD, aB, aA], 0) := by kernel_rfl
theorem aw_roots : rootsP (awl 9) = [0] := by kernel_rfl
theorem aw_kids : childrenP (awl 9) aA = [1, 2] := by kernel_rfl
theorem aw_check2 : checkP (awl 2) = (3, 11) := by kernel_rfl
theorem aw_self3 : selfP awl3 aD = (0, 5) := by kernel_rfl
theorem aw_s1 : sampP aA 1000 = (true, 0) := by kernel_rfl
theorem aw_s0 : sampP aA 0 = (false, 0) := by kernel_rfl
theorem aw_roots2 : rootsP (awl 2) = [] := by kernel_rfl

end Go.Proofs.Ytppkkonhfkegoaa
/-
  Contracts of the laws of the package trace, part twenty-one: the example of the chapter.
-/
namespace Go.Proofs.Ytppkkonhfkegoaa
open Go.RowKit

set_option maxRecDepth 100000 in
set_option maxHeartbeats 1000000 in
theorem x_awake : DCalls Try.prog 15 [] (boo true) := by
  have c1 := x_check (awl 9) (by decide) (aw_ok 9)
  rw [aw_check] at c1
  have c2 := x_self (awl 9) aA (by decide) (aw_ok 9)
  rw [aw_self] at c2
  have c3 := x_critical (awl 9) aA (by decide) (aw_ok 9)
  rw [aw_crit] at c3
  have c4 := x_causes (awl 9) aD (by decide) (aw_ok 9)
  rw [aw_caus] at c4
  have c5 := x_same [aA, aC] [aA, aC] (by decide)
  have c6 := x_same [aD, aB, aA] [aD, aB, aA] (by decide)
  have c7 := x_roots (awl 9) (by decide) (aw_ok 9)
  rw [aw_roots] at c7
  have c8 := x_ints [0] [0] (by decide)
  have c9 := x_children (awl 9) aA (by decide) (aw_ok 9)
  rw [aw_kids] at c9
  have c10 := x_ints [1, 2] [1, 2] (by decide)
  have c11 := x_check (awl 2) (by decide) (aw_ok 2)
  rw [aw_check2] at c11
  have c12 := x_self awl3 aD (by decide) aw_ok3
  rw [aw_self3] at c12
  have c13 := x_sampled aA 1000 (by decide)
  rw [aw_s1] at c13
  have c14 := x_sampled aA 0 (by decide)
  rw [aw_s0] at c14
  have c15 := x_roots (awl 2) (by decide) (aw_ok 2)
  rw [aw_roots2] at c15
  refine sx Try.func15 (by kernel_rfl) ?_
  conv => whnf
  refine ⟨_, c1, ?_⟩
  conv => whnf
  refine ⟨_, c2, ?_⟩
  conv => whnf
  refine ⟨_, c3, ?_⟩
  conv => whnf
  refine ⟨_, c4, ?_⟩
  repeat ((conv => whnf); first | refine known false rfl ?_ | refine known true rfl ?_ | refine ⟨_, c5, ?_⟩ | refine ⟨_, c6, ?_⟩ | refine ⟨_, c7, ?_⟩ | refine ⟨_, c8, ?_⟩ | refine ⟨_, c9, ?_⟩ | refine ⟨_, c10, ?_⟩)
  conv => whnf
  refine ⟨by decide, by decide, ?_⟩
  conv => whnf
  refine ⟨_, rfl, by decide, ?_⟩
  conv => whnf
  refine ⟨_, c11, ?_⟩
  conv => whnf
  refine ⟨by decide, by decide, by decide, ?_⟩
  conv => whnf
  refine ⟨_, c12, ?_⟩
  conv => whnf
  refine ⟨_, c13, ?_⟩
  conv => whnf
  refine ⟨_, c14, ?_⟩
  repeat ((conv => whnf); first | refine known false rfl ?_ | refine known true rfl ?_ | refine ⟨_, c15, ?_⟩)
  rfl

end Go.Proofs.Ytppkkonhfkegoaa
/-
  The laws TraceChecks, TraceWays and TraceSampled as contracts.
-/
namespace Go.Proofs.Ytppkkonhfkegoaa
open Go.RowKit

theorem roots_len (l : List Sp) : (rootsP l).length ≤ l.length := by
  unfold rootsP; split
  · exact idxs_len _ _ _
  · simp
theorem children_len (l : List Sp) (x : ByteArray) : (childrenP l x).length ≤ l.length := by
  unfold childrenP; split
  · exact idxs_len _ _ _
  · simp

theorem visits_len (nx : Nat → Option Nat) : ∀ (n a : Nat), (visits nx n a).length ≤ n
  | 0, a => by simp [visits]
  | n + 1, a => by
    simp only [visits, List.length_cons]
    split
    · simp
    · rename_i j hj
      have := visits_len nx n j
      omega
theorem causes_len (l : List Sp) (x : ByteArray) : (causesP l x).1.length ≤ l.length := by
  unfold causesP; split
  · simp only [List.length_map]; exact visits_len _ _ _
  · simp
theorem downs_len (l : List Sp) : ∀ (n a : Nat), (downs l n a).length ≤ n
  | 0, a => by simp [downs]
  | n + 1, a => by
    simp only [downs, List.length_cons]
    split
    · simp
    · have := downs_len l n (pick l ‹_› (‹_› :: ‹_›))
      omega
theorem crit_len (l : List Sp) (x : ByteArray) : (critP l x).1.length ≤ l.length := by
  unfold critP; split
  · simp only [List.length_map]; exact downs_len _ _ _
  · simp

set_option maxRecDepth 100000 in
theorem x_checks (l : List Sp) (x : ByteArray) (hl : l.length ≤ 8796093022207) (hok : okAll l) : DCalls Try.prog 3 [sps l, str x] (boo true) := by
  have c5 := x_ints (rootsP l) (rootsP l) (by have := roots_len l; omega)
  have c8 := x_ints (childrenP l x) (childrenP l x) (by have := children_len l x; omega)
  refine sx Try.func3 (by kernel_rfl) ?_
  conv => whnf
  refine ⟨_, x_check l hl hok, ?_⟩
  conv => whnf
  refine ⟨_, x_rcheck l hl hok, ?_⟩
  conv => whnf
  refine known true (by simp) ?_
  conv => whnf
  refine known true (by simp) ?_
  conv => whnf
  refine ⟨_, x_roots l hl hok, ?_⟩
  conv => whnf
  refine ⟨_, x_rroots l hl hok, ?_⟩
  conv => whnf
  refine ⟨_, c5, ?_⟩
  conv => whnf
  refine known true (by simp) ?_
  conv => whnf
  refine ⟨_, x_children l x hl hok, ?_⟩
  conv => whnf
  refine ⟨_, x_rchildren l x hl hok, ?_⟩
  conv => whnf
  refine ⟨_, c8, ?_⟩
  conv => whnf
  refine known true (by simp) ?_
  conv => whnf
  refine ⟨_, x_awake, ?_⟩
  rfl

set_option maxRecDepth 100000 in
theorem x_ways (l : List Sp) (x : ByteArray) (hl : l.length ≤ 8796093022207) (hok : okAll l) : DCalls Try.prog 4 [sps l, str x] (boo true) := by
  have c5 := x_same (causesP l x).1 (causesP l x).1 (by have := causes_len l x; omega)
  have c8 := x_same (critP l x).1 (critP l x).1 (by have := crit_len l x; omega)
  refine sx Try.func4 (by kernel_rfl) ?_
  conv => whnf
  refine ⟨_, x_causes l x hl hok, ?_⟩
  conv => whnf
  refine ⟨_, x_rcauses l x hl hok, ?_⟩
  conv => whnf
  refine known false (by simp) ?_
  conv => whnf
  refine ⟨_, c5, ?_⟩
  repeat ((conv => whnf); first | refine known false (by simp) ?_ | refine ⟨_, x_critical l x hl hok, ?_⟩ | refine ⟨_, x_rcritical l x hl hok, ?_⟩ | refine ⟨_, c8, ?_⟩)
  conv => whnf
  refine ⟨_, x_self l x hl hok, ?_⟩
  conv => whnf
  refine ⟨_, x_rself l x hl hok, ?_⟩
  conv => whnf
  refine known true (by simp) ?_
  conv => whnf
  refine known true (by simp) ?_
  conv => whnf
  refine ⟨_, x_awake, ?_⟩
  rfl

set_option maxRecDepth 100000 in
theorem x_samples (x : ByteArray) (p q : Int) (hx : x.size ≤ maxLen) : DCalls Try.prog 5 [str x, int p, int q] (boo true) := by
  refine sx Try.func5 (by kernel_rfl) ?_
  conv => whnf
  refine ⟨_, x_sampled x p hx, ?_⟩
  conv => whnf
  refine ⟨_, x_rsampled x p hx, ?_⟩
  conv => whnf
  refine known false (by simp) ?_
  conv => whnf
  refine known false (by simp) ?_
  conv => whnf
  refine ⟨_, x_sampled x q hx, ?_⟩
  conv => whnf
  rintro (_ | _) h1
  rotate_left
  · skip
    repeat ((conv => whnf); first | refine known true rfl ?_ | refine ⟨_, x_awake, ?_⟩)
    rfl
  conv => whnf
  rintro (_ | _) h2
  rotate_left
  · skip
    repeat ((conv => whnf); first | refine known true rfl ?_ | refine ⟨_, x_awake, ?_⟩)
    rfl
  conv => whnf
  rintro (_ | _) h3
  rotate_left
  · skip
    repeat ((conv => whnf); first | refine known true rfl ?_ | refine ⟨_, x_awake, ?_⟩)
    rfl
  conv => whnf
  rintro (_ | _) h4
  rotate_left
  · skip
    repeat ((conv => whnf); first | refine known true rfl ?_ | refine ⟨_, x_awake, ?_⟩)
    rfl
  have h5 : (sampP x q).1 = true := by
    simp at h1 h2 h3 h4
    unfold sampP at h2 h3 h4 ⊢
    split at h2
    · cases h2
    rename_i g1
    split at h2
    · cases h2
    rename_i g2
    rw [if_neg g1, if_neg g2] at h4
    rw [if_neg g1] at h3 ⊢
    split at h3
    · cases h3
    rename_i g3
    rw [if_neg g3]
    simp at h4 ⊢
    omega
  conv => whnf
  refine known true h5 ?_
  conv => whnf
  refine ⟨_, x_awake, ?_⟩
  rfl

end Go.Proofs.Ytppkkonhfkegoaa
/-
  The laws TraceChecks, TraceWays and TraceSampled for any data of their parameters' types.
-/
namespace Go.Proofs.Ytppkkonhfkegoaa
open Go.RowKit

theorem map_of {α : Type} {f : α → List D} {p : α → Prop} : ∀ {xs : List (List D)}, (∀ x ∈ xs, ∃ a, x = f a ∧ p a) → ∃ l : List α, xs = l.map f ∧ ∀ a ∈ l, p a
  | [], _ => ⟨[], rfl, by simp⟩
  | x :: xs, h => by
    obtain ⟨a, rfl, ha⟩ := h x (by simp)
    obtain ⟨l, rfl, hl⟩ := map_of (xs := xs) fun y hy => h y (by simp [hy])
    exact ⟨a :: l, rfl, by simpa using ⟨ha, hl⟩⟩

theorem reach_le {n : Nat} (h : n ≤ reachBytes) : n ≤ maxLen := Nat.le_trans h (by decide)

/-- What is read of spans. -/
theorem read_sps {n : Nat} {ds : List D} (h : DOk TT (n + 3) 22 ds) : ∃ l : List Sp, ds = [.sl 6 (l.map spD)] ∧ l.length ≤ 8796093022207 ∧ okAll l := by
  obtain ⟨xs, rfl, h1, _, h2⟩ := h
  obtain ⟨l, rfl, hok⟩ := map_of (f := spD) (p := fun s => s.ok) fun x hx => by
    obtain ⟨_, _, rfl, ⟨a, rfl, g1⟩, _, _, rfl, ⟨b, rfl, g2⟩, _, _, rfl, ⟨c, rfl, g3⟩, _, _, rfl, ⟨d, rfl, g4⟩, _, _, rfl, ⟨f, rfl, _⟩, _, _, rfl, ⟨t, rfl, _⟩, rfl⟩ := h2 x hx
    exact ⟨⟨a, b, c, d, f, t⟩, rfl, reach_le g1, reach_le g2, reach_le g3, reach_le g4⟩
  refine ⟨l, rfl, ?_, hok⟩
  have : l.length * 80 ≤ 140737488351232 := by rw [List.length_map] at h1; exact h1
  omega

theorem d_checks (ds0 ds1 : List D) (h0 : DOk TT 6 22 ds0) (h1 : DOk TT 6 9 ds1) : DCalls Try.prog 3 [vOf TT 22 ds0, vOf TT 9 ds1] (boo true) := by
  obtain ⟨l, rfl, hl, hok⟩ := read_sps h0
  obtain ⟨x, rfl, hx⟩ := h1
  exact x_checks l x hl hok

theorem d_ways (ds0 ds1 : List D) (h0 : DOk TT 6 22 ds0) (h1 : DOk TT 6 9 ds1) : DCalls Try.prog 4 [vOf TT 22 ds0, vOf TT 9 ds1] (boo true) := by
  obtain ⟨l, rfl, hl, hok⟩ := read_sps h0
  obtain ⟨x, rfl, hx⟩ := h1
  exact x_ways l x hl hok

theorem d_samples (ds0 ds1 ds2 : List D) (h0 : DOk TT 6 9 ds0) (h1 : DOk TT 6 3 ds1) (h2 : DOk TT 6 3 ds2) : DCalls Try.prog 5 [vOf TT 9 ds0, vOf TT 3 ds1, vOf TT 3 ds2] (boo true) := by
  obtain ⟨x, rfl, hx⟩ := h0
  obtain ⟨p, rfl, _⟩ := h1
  obtain ⟨q, rfl, _⟩ := h2
  exact x_samples x p q (reach_le hx)

end Go.Proofs.Ytppkkonhfkegoaa
/-
  The law TraceCausesAcyclic as a contract.
-/
namespace Go.Proofs.Ytppkkonhfkegoaa
open Go.RowKit

theorem visits_get {nx : Nat → Option Nat} : ∀ (n a k : Nat), k < (visits nx n a).length → (visits nx n a)[k]? = itr nx k a ∧ ∃ y, itr nx k a = some y
  | 0, a, k, h => by simp [visits] at h
  | n + 1, a, 0, h => by simp [visits, itr]
  | n + 1, a, k + 1, h => by
    simp only [visits, List.length_cons] at h
    simp only [visits, itr, List.getElem?_cons_succ]
    cases hs : nx a with
    | none => rw [hs] at h; simp at h
    | some j =>
      rw [hs] at h
      exact visits_get n j k (by simpa using h)

theorem visits_end {nx : Nat → Option Nat} : ∀ (n a : Nat), itr nx n a = none → itr nx (visits nx n a).length a = none
  | 0, a, h => by simp [itr] at h
  | n + 1, a, h => by
    simp only [visits, List.length_cons, itr] at h ⊢
    cases hs : nx a with
    | none => rfl
    | some j =>
      rw [hs] at h
      exact visits_end n j h

theorem visits_pos {nx : Nat → Option Nat} {n a : Nat} (h : 0 < n) : 0 < (visits nx n a).length := by
  cases n with
  | zero => omega
  | succ n => simp [visits]

/-- What a place on the way is. -/
theorem way_at {l : List Sp} {i k : Nat} (hi : i < l.length) (hk : k < (wayI l i).length) : ∃ y, ∃ hy : y < l.length, itr (stepI l leadS) k i = some y ∧ (wayI l i)[k]? = some y ∧ ((wayI l i).map (idAt l))[k]? = some l[y].id := by
  obtain ⟨h1, y, h2⟩ := visits_get (nx := stepI l leadS) l.length i k hk
  have hy := itr_lt _ _ _ hi h2
  refine ⟨y, hy, h2, by rw [wayI, h1, h2], ?_⟩
  rw [List.getElem?_map, wayI, h1, h2]
  simp [idAt, hy]

theorem itr_succ {f : Nat → Option Nat} (k a : Nat) : itr f (k + 1) a = (itr f k a).bind f := by
  rw [itr_add]
  congr 1
  funext b
  simp [itr]

theorem way_fresh {l : List Sp} (h : Trc l) {i k y : Nat} (hi : i < l.length) (hk : k < (wayI l i).length) (hy : y < l.length) (hw : itr (stepI l leadS) k i = some y) :
    ((((wayI l i).map (idAt l)).take k).any fun z => sEq z l[y].id) = false := by
  rw [List.any_eq_false]
  intro z hz he
  obtain ⟨j, hj, rfl⟩ := List.getElem_of_mem hz
  rw [List.length_take] at hj
  have hjk : j < k := by omega
  obtain ⟨u, hu, h1, _, h2⟩ := way_at hi (show j < (wayI l i).length by omega)
  rw [List.getElem_take] at he
  have e : ((wayI l i).map (idAt l))[j]'(by simp; omega) = l[u].id := by
    rw [List.getElem?_eq_getElem (by simp; omega)] at h2
    exact Option.some.inj h2
  rw [e] at he
  have e2 := sEq_eq he
  obtain ⟨o1, _⟩ := h.once u hu
  obtain ⟨o2, _⟩ := h.once y hy
  rw [e2, o2] at o1
  have e3 : y = u := by omega
  subst e3
  rw [show k = j + (k - j) by omega, itr_add, h1] at hw
  exact lead_acyclic h (show 0 < k - j by omega) hy hw

theorem way_last {l : List Sp} (h : Trc l) {i k y : Nat} (hi : i < l.length) (hk : k + 1 = (wayI l i).length) (hy : y < l.length) (hw : itr (stepI l leadS) k i = some y) : sEq (leadS l[y]) emp = true := by
  cases he : sEq (leadS l[y]) emp with
  | true => rfl
  | false =>
    obtain ⟨j, _, _, hs⟩ := lead_some h hy he
    have := visits_end l.length i (lead_ends h hi)
    rw [← wayI, ← hk, itr_succ, hw] at this
    rw [Option.bind_some, hs] at this
    cases this

theorem way_next {l : List Sp} (h : Trc l) {i k y : Nat} (hi : i < l.length) (hk : k + 1 < (wayI l i).length) (hy : y < l.length) (hw : itr (stepI l leadS) k i = some y) :
    ∃ j, ∃ hj : j < l.length, ((wayI l i).map (idAt l))[k + 1]? = some (leadS l[y]) ∧ findI l (leadS l[y]) = (j : Int) ∧ l[j].fr ≤ l[y].fr := by
  obtain ⟨j, hj, h1, _, h2⟩ := way_at hi hk
  rw [itr_succ, hw, Option.bind_some] at h1
  obtain ⟨_, _, h3, h4, _⟩ := stepI_found h1
  obtain ⟨_, _, h5, _⟩ := lead_step h h1
  exact ⟨j, hj, by rw [h2, sEq_eq h4], h3, h5⟩

theorem spanP_at {l : List Sp} {x : ByteArray} (hT : Trc l) (h : 0 ≤ findI l x) : ∃ i, ∃ hi : i < l.length, findI l x = (i : Nat) ∧ spanP l x = (((i : Nat) : Int), 0) ∧ l[i].id = x := by
  have hc := tr_iff.2 hT
  rcases findI_spec l x with ⟨h3, _⟩ | ⟨k, hk, h3, h4, _⟩
  · omega
  · exact ⟨k, hk, h3, by unfold spanP; rw [if_neg (by omega), if_neg (by omega), h3], sEq_eq h4⟩

set_option maxRecDepth 100000 in
set_option maxHeartbeats 2000000 in
theorem x_acyclic (l : List Sp) (x : ByteArray) (hl : l.length ≤ 8796093022207) (hok : okAll l) : DCalls Try.prog 6 [sps l, str x] (boo true) := by
  refine sx Try.func6 (by kernel_rfl) ?_
  conv => whnf
  refine ⟨_, x_check l hl hok, ?_⟩
  conv => whnf
  refine ⟨_, x_causes l x hl hok, ?_⟩
  conv => whnf
  rintro (_ | _) h0
  rotate_left
  · have h1 : (checkP l).2 ≠ 0 := by simpa using h0
    have h2 : causesP l x = ([], (checkP l).2) := by unfold causesP spanP; rw [if_pos h1]; dsimp only; rw [if_neg h1]
    rw [h2]
    repeat ((conv => whnf); first | refine known true (by simp) ?_ | refine ⟨_, x_awake, ?_⟩)
    rfl
  have h1 : (checkP l).2 = 0 := by simpa using h0
  have hT := tr_of h1
  conv => whnf
  refine ⟨_, x_lspan l x hl, ?_⟩
  conv => whnf
  rintro (_ | _) h2
  rotate_left
  · have h2 : findI l x < 0 := by simpa using h2
    have h4 : spanP l x = (0, 5) := by
      unfold spanP
      rw [if_neg (by omega), if_pos h2]
    have h3 : causesP l x = ([], 5) := by
      unfold causesP
      rw [h4]
      rfl
    rw [h3]
    repeat ((conv => whnf); first | refine known true (by simp) ?_ | refine ⟨_, x_awake, ?_⟩)
    rfl
  have h2 : 0 ≤ findI l x := by simpa using h2
  obtain ⟨i, hi, f1, f2, f3⟩ := spanP_at hT h2
  have hc : causesP l x = ((wayI l i).map (idAt l), 0) := by unfold causesP; rw [f2]; rfl
  have hlen : (wayI l i).length ≤ l.length := visits_len _ _ _
  have hpos : 0 < (wayI l i).length := visits_pos (by omega)
  rw [hc]
  clear hc h0 h2
  dsimp only
  obtain ⟨y0, hy0, g0, g1, g2⟩ := way_at hi hpos
  have e0 : l[y0].id = x := by
    simp [itr] at g0
    subst g0
    exact f3
  have hcl : ((wayI l i).map (idAt l)).length = (wayI l i).length := List.length_map ..
  generalize hcs : (wayI l i).map (idAt l) = cs at hcl g2
  have hp0 : 0 < cs.length := by omega
  have e1 : cs[0] = x := by
    rw [List.getElem?_eq_getElem hp0] at g2
    rw [← e0]
    exact Option.some.inj g2
  have e2 : 0 < (cs.map strD).length := by simpa using hp0
  have e3 : (cs.map strD).length = cs.length := List.length_map ..
  conv => whnf
  refine known false rfl ?_
  conv => whnf
  refine known false (by simp; intro e; rw [e] at hp0; simp at hp0) ?_
  conv => whnf
  refine ⟨by omega, _, get_map strD hp0, ?_⟩
  rw [e1]
  conv => whnf
  refine known false (by simp) ?_
  conv => whnf
  refine known false (by simp; omega) ?_
  conv => whnf
  refine ⟨[], Nat, fun k => [(9, int k)], fun _ => [], fun k => k < cs.length, fun k => cs.length - k, 0, hp0, ?_, ?_⟩
  · refine ⟨rfl, ?_, ?_⟩ <;> repeat' (first | exact trivial | exact rfl | refine and_rfl ?_ | refine and_two ?_ ?_)
  rintro k hk
  conv => whnf
  refine known true (by simp; omega) ?_
  obtain ⟨y, hy, w1, _, w2⟩ := way_at hi (show k < (wayI l i).length by omega)
  have w4 := way_fresh hT hi (show k < (wayI l i).length by omega) hy w1
  rw [hcs, List.getElem?_eq_getElem hk] at w2
  rw [hcs] at w4
  have w3 : cs[k] = l[y].id := Option.some.inj w2
  conv => whnf
  refine ⟨by omega, _, get_map strD hk, ?_⟩
  rw [w3]
  conv => whnf
  refine ⟨_, x_lspan l l[y].id hl, ?_⟩
  rw [(hT.once y hy).1]
  conv => whnf
  refine ⟨none, by kernel_rfl, ?_⟩
  conv => whnf
  refine known false (by simp) ?_
  conv => whnf
  refine ⟨by omega, by omega, by simp; omega, ?_⟩
  conv => whnf
  refine ⟨by omega, _, get_map strD hk, ?_⟩
  rw [w3]
  have c26 := x_has (cs.take k) l[y].id (by rw [List.length_take]; omega)
  rw [w4] at c26
  have e5 : (V.sl true 1 (List.drop (Int.toNat 0) (List.take (k : Int).toNat (cs.map strD)))) = strs (cs.take k) := by simp [List.map_take]
  rw [e5]
  conv => whnf
  refine ⟨_, c26, ?_⟩
  conv => whnf
  refine known false rfl ?_
  conv => whnf
  refine ⟨by omega, _, get_map spD hy, ?_⟩
  have hlead : leadS l[y] = if sEq l[y].ca emp then l[y].pa else l[y].ca := rfl
  have hA := fun e : k + 1 = (wayI l i).length => way_last hT hi e hy w1
  have hB := fun e : k + 1 < (wayI l i).length => way_next hT hi e hy w1
  rw [hcs] at hB
  conv => whnf
  rintro (_ | _) h5
  · have h5 : sEq l[y].ca emp = false := h5
    rw [h5, if_neg (by simp)] at hlead
    rw [hlead] at hA hB
    conv => whnf
    rintro (_ | _) h6
    · simp at h6
      rw [wrap_in (by omega)] at h6
      obtain ⟨j, hj, b1, b2, b3⟩ := hB (by omega)
      have hk1 : k + 1 < cs.length := by omega
      rw [List.getElem?_eq_getElem hk1] at b1
      have b4 : cs[k + 1] = l[y].ca := Option.some.inj b1
      conv => whnf
      refine ⟨none, by kernel_rfl, ?_⟩
      conv => whnf
      refine ⟨by rw [wrap_succ (by omega)]; omega, _, (by rw [wrap_succ (by omega)]; exact get_map strD hk1), ?_⟩
      rw [b4]
      conv => whnf
      refine known false (by simp) ?_
      conv => whnf
      refine ⟨_, x_lspan l l[y].ca hl, ?_⟩
      rw [b2]
      conv => whnf
      refine ⟨by omega, _, get_map spD hj, ?_⟩
      conv => whnf
      refine ⟨by omega, _, get_map spD hy, ?_⟩
      conv => whnf
      refine known false (by simp; omega) ?_
      conv => whnf
      refine ⟨k + 1, hk1, by dsimp only; omega, ?_⟩
      refine ⟨rfl, ?_, ?_⟩ <;> repeat' (first | exact trivial | exact rfl | refine and_rfl ?_ | refine and_val (wrap_succ (by omega)) ?_ | refine and_two ?_ ?_)
    · simp at h6
      rw [wrap_in (by omega)] at h6
      have hA := hA (by omega)
      conv => whnf
      refine known true hA ?_
      conv => whnf
      refine ⟨_, x_awake, ?_⟩
      rfl
  · have h5 : sEq l[y].ca emp = true := h5
    rw [h5, if_pos rfl] at hlead
    rw [hlead] at hA hB
    conv => whnf
    refine ⟨by omega, _, get_map spD hy, ?_⟩
    conv => whnf
    rintro (_ | _) h6
    · simp at h6
      rw [wrap_in (by omega)] at h6
      obtain ⟨j, hj, b1, b2, b3⟩ := hB (by omega)
      have hk1 : k + 1 < cs.length := by omega
      rw [List.getElem?_eq_getElem hk1] at b1
      have b4 : cs[k + 1] = l[y].pa := Option.some.inj b1
      conv => whnf
      refine ⟨none, by kernel_rfl, ?_⟩
      conv => whnf
      refine ⟨by rw [wrap_succ (by omega)]; omega, _, (by rw [wrap_succ (by omega)]; exact get_map strD hk1), ?_⟩
      rw [b4]
      conv => whnf
      refine known false (by simp) ?_
      conv => whnf
      refine ⟨_, x_lspan l l[y].pa hl, ?_⟩
      rw [b2]
      conv => whnf
      refine ⟨by omega, _, get_map spD hj, ?_⟩
      conv => whnf
      refine ⟨by omega, _, get_map spD hy, ?_⟩
      conv => whnf
      refine known false (by simp; omega) ?_
      conv => whnf
      refine ⟨k + 1, hk1, by dsimp only; omega, ?_⟩
      refine ⟨rfl, ?_, ?_⟩ <;> repeat' (first | exact trivial | exact rfl | refine and_rfl ?_ | refine and_val (wrap_succ (by omega)) ?_ | refine and_two ?_ ?_)
    · simp at h6
      rw [wrap_in (by omega)] at h6
      have hA := hA (by omega)
      conv => whnf
      refine known true hA ?_
      conv => whnf
      refine ⟨_, x_awake, ?_⟩
      rfl

theorem d_acyclic (ds0 ds1 : List D) (h0 : DOk TT 6 22 ds0) (h1 : DOk TT 6 9 ds1) : DCalls Try.prog 6 [vOf TT 22 ds0, vOf TT 9 ds1] (boo true) := by
  obtain ⟨l, rfl, hl, hok⟩ := read_sps h0
  obtain ⟨x, rfl, hx⟩ := h1
  exact x_acyclic l x hl hok

end Go.Proofs.Ytppkkonhfkegoaa
/-
  Plain laws of traces: what lies below a span covers it; the child that ends last.
-/
namespace Go.Proofs.Ytppkkonhfkegoaa
open Go.RowKit

theorem cntN_le {p q : Int → Bool} : ∀ (n : Nat) (a : Int), (∀ t, a ≤ t → t < a + n → p t = true → q t = true) → cntN p a n ≤ cntN q a n
  | 0, a, _ => by simp [cntN]
  | n + 1, a, h => by
    simp only [cntN]
    have h1 := cntN_le n (a + 1) fun t h1 h2 => h t (by omega) (by omega)
    have h2 := h a (by omega) (by omega)
    cases hp : p a with
    | false => simp; split <;> omega
    | true => rw [h2 hp]; simp; omega

theorem cntN_or (p q : Int → Bool) : ∀ (n : Nat) (a : Int), cntN (fun t => p t || q t) a n ≤ cntN p a n + cntN q a n
  | 0, a => by simp [cntN]
  | n + 1, a => by
    simp only [cntN]
    have := cntN_or p q n (a + 1)
    by_cases h1 : p a = true <;> by_cases h2 : q a = true <;> simp [h1, h2] <;> omega

theorem cnt_le {p q : Int → Bool} {a b : Int} (h : ∀ t, a ≤ t → t < b → p t = true → q t = true) : cnt p a b ≤ cnt q a b :=
  cntN_le _ _ fun t h1 h2 => h t h1 (by omega)

/-- What lies within an inner span counts there. -/
theorem cnt_inner {p q : Int → Bool} {a b c d : Int} (h1 : a ≤ c) (h2 : c ≤ d) (h3 : d ≤ b) (h : ∀ t, p t = true → c ≤ t ∧ t < d ∧ q t = true) : cnt p a b ≤ cnt q c d := by
  rw [cnt_split (b := c) h1 (by omega), cnt_split (b := d) h2 h3, cnt_false (p := p) (a := a) h1, cnt_false (p := p) (a := d) h3]
  · have := cnt_le (p := p) (q := q) (a := c) (b := d) fun t _ _ ht => (h t ht).2.2
    omega
  · intro t g1 g2
    cases hp : p t with
    | false => rfl
    | true => have := h t hp; omega
  · intro t g1 g2
    cases hp : p t with
    | false => rfl
    | true => have := h t hp; omega

/-- What of a span its children do not cover, by its place. -/
def selfN (l : List Sp) (i : Nat) : Int := selfV l (frN l i) (toN l i) (kidsP l (idAt l i))

/-- The sum of it over the first k places that lie below x. -/
def sumS (l : List Sp) (x : ByteArray) : Nat → Int
  | 0 => 0
  | k + 1 => sumS l x k + if upB l x (l.length + 1) k then selfN l k else 0

/-- Is a time within a span below x, and within none of its children, for one of the first k places. -/
def hitB (l : List Sp) (x : ByteArray) : Nat → Int → Bool
  | 0, _ => false
  | k + 1, t => hitB l x k t || (upB l x (l.length + 1) k && (decide (frN l k ≤ t) && (decide (t < toN l k) && unc l (kidsP l (idAt l k)) t)))

theorem hitB_of {l : List Sp} {x : ByteArray} {t : Int} : ∀ (n k : Nat), k < n → upB l x (l.length + 1) k = true → frN l k ≤ t → t < toN l k → unc l (kidsP l (idAt l k)) t = true → hitB l x n t = true
  | 0, k, h, _, _, _, _ => by omega
  | n + 1, k, h, h1, h2, h3, h4 => by
    simp only [hitB]
    by_cases e : k = n
    · subst e
      simp [h1, h2, h3, h4]
    · rw [hitB_of n k (by omega) h1 h2 h3 h4]; rfl

theorem Trc.place {l : List Sp} (h : Trc l) {i j : Nat} (hi : i < l.length) (hj : j < l.length) (e : l[i].id = l[j].id) : i = j := by
  have h1 := (h.once i hi).1
  rw [e, (h.once j hj).1] at h1
  omega

theorem up_inside {l : List Sp} (h : Trc l) {s : Nat} (hs : s < l.length) : ∀ (n i : Nat), i < l.length → upB l l[s].id n i = true → frN l s ≤ frN l i ∧ toN l i ≤ toN l s
  | 0, i, _, hu => by simp [upB] at hu
  | n + 1, i, hi, hu => by
    simp only [upB, Bool.or_eq_true] at hu
    rcases hu with hu | hu
    · rw [idAt_eq hi] at hu
      have := h.place hi hs (sEq_eq hu)
      subst this
      exact ⟨by omega, by omega⟩
    · cases hp : stepP l i with
      | none => rw [hp] at hu; cases hu
      | some j =>
        rw [hp] at hu
        have hj := stepP_lt hp
        have ih := up_inside h hs n j hj hu
        obtain ⟨ha, _, h1, h2, h3⟩ := stepI_found (st := Sp.pa) (show stepI l Sp.pa i = some j by rw [stepI_pa]; exact hp)
        obtain ⟨_, _, b3, _⟩ := h.both hi
        unfold pastB at b3
        rw [h3, h1] at b3
        simp only [(frAt_nat hj).1, (frAt_nat hj).2] at b3
        simp at b3
        rw [frN_eq hi, toN_eq hi]
        rw [frN_eq hj, toN_eq hj] at ih
        omega

theorem up_of {l : List Sp} {s : Nat} (hs : s < l.length) : ∀ (k n i : Nat), itr (stepP l) k i = some s → k < n → upB l l[s].id n i = true
  | 0, n + 1, i, h, _ => by
    simp [itr] at h
    subst h
    simp [upB, idAt_eq hs, sEq_refl]
  | k + 1, n + 1, i, h, hn => by
    simp only [itr] at h
    cases hp : stepP l i with
    | none => rw [hp] at h; cases h
    | some j =>
      rw [hp] at h
      simp only [upB, hp, up_of hs k n j h (by omega), Bool.or_true]
  | k, 0, i, h, hn => by omega

/-- Each time within a span is within one that is below it, and within none of that one's children. -/
theorem hit_at {l : List Sp} (h : Trc l) {s : Nat} (hs : s < l.length) {t : Int} : ∀ (m k a : Nat), m = l.length - k → Down l s k a → frN l a ≤ t → t < toN l a → hitB l l[s].id l.length t = true
  | 0, k, a, hm, hd, _, _ => by have := hd.fuel; omega
  | m + 1, k, a, hm, hd, h1, h2 => by
    cases hu : unc l (kidsP l (idAt l a)) t with
    | true => exact hitB_of l.length a hd.lt (up_of hs k _ a hd.up (by have := hd.fuel; omega)) h1 h2 hu
    | false =>
      have : ∃ c ∈ kidsP l (idAt l a), frN l c ≤ t ∧ t < toN l c := by
        unfold unc at hu
        rw [List.all_eq_false] at hu
        obtain ⟨c, hc, hcc⟩ := hu
        simp at hcc
        exact ⟨c, hc, by omega⟩
      obtain ⟨c, hc, g1, g2⟩ := this
      exact hit_at h hs m (k + 1) c (by omega) (hd.next h hc) g1 g2

theorem self_bound {l : List Sp} (h : Trc l) {i : Nat} (hi : i < l.length) : 0 ≤ selfN l i ∧ selfN l i ≤ l[i].to - l[i].fr := by
  have := h.times hi
  unfold selfN selfV
  rw [frN_eq hi, toN_eq hi]
  exact cnt_bound _ (by omega)

theorem self_whole {l : List Sp} (h : Trc l) {i : Nat} (hi : i < l.length) (hk : kidsP l l[i].id = []) : selfN l i = l[i].to - l[i].fr := by
  have := h.times hi
  unfold selfN selfV
  rw [frN_eq hi, toN_eq hi, idAt_eq hi, hk]
  exact cnt_true (by omega) fun t _ _ => rfl

theorem sum_hit {l : List Sp} (h : Trc l) {s : Nat} (hs : s < l.length) : ∀ k, k ≤ l.length → cnt (hitB l l[s].id k) l[s].fr l[s].to ≤ sumS l l[s].id k
  | 0, _ => by
    have := h.times hs
    have e : cnt (hitB l l[s].id 0) l[s].fr l[s].to = 0 := cnt_false (by omega) fun t _ _ => rfl
    rw [e]
    simp [sumS]
  | k + 1, hk => by
    have ih := sum_hit h hs k (by omega)
    have hkl : k < l.length := by omega
    have h1 := cntN_or (hitB l l[s].id k) (fun t => upB l l[s].id (l.length + 1) k && (decide (frN l k ≤ t) && (decide (t < toN l k) && unc l (kidsP l (idAt l k)) t))) (l[s].to - l[s].fr).toNat l[s].fr
    have h2 : cnt (fun t => upB l l[s].id (l.length + 1) k && (decide (frN l k ≤ t) && (decide (t < toN l k) && unc l (kidsP l (idAt l k)) t))) l[s].fr l[s].to ≤ if upB l l[s].id (l.length + 1) k then selfN l k else 0 := by
      have ts := h.times hs
      cases hu : upB l l[s].id (l.length + 1) k with
      | false =>
        rw [cnt_false (by omega) fun t _ _ => by simp]
        simp
      | true =>
        have tk := h.times hkl
        obtain ⟨i1, i2⟩ := up_inside h hs _ k hkl hu
        rw [frN_eq hs, frN_eq hkl] at i1
        rw [toN_eq hs, toN_eq hkl] at i2
        simp only [if_true]
        unfold selfN selfV
        refine cnt_inner (by rw [frN_eq hkl]; exact i1) (by rw [frN_eq hkl, toN_eq hkl]; omega) (by rw [toN_eq hkl]; exact i2) fun t ht => ?_
        simp at ht
        exact ⟨ht.1, ht.2.1, ht.2.2⟩
    simp only [sumS]
    unfold cnt at ih h2 ⊢
    exact Int.le_trans h1 (Int.add_le_add ih h2)

/-- A span is no longer than the sum over all that lies below it. -/
theorem sum_long {l : List Sp} (h : Trc l) {s : Nat} (hs : s < l.length) : l[s].to - l[s].fr ≤ sumS l l[s].id l.length := by
  have h1 := sum_hit h hs l.length (by omega)
  have ts := h.times hs
  rw [cnt_true (by omega) fun t h2 h3 => hit_at h hs l.length 0 s (by omega) ⟨hs, rfl, by omega⟩ (by rw [frN_eq hs]; exact h2) (by rw [toN_eq hs]; exact h3)] at h1
  exact h1

theorem sum_bound {l : List Sp} (h : Trc l) (x : ByteArray) : ∀ k, k ≤ l.length → 0 ≤ sumS l x k ∧ sumS l x k ≤ k * 1073741824
  | 0, _ => by simp [sumS]
  | k + 1, hk => by
    have ih := sum_bound h x k (by omega)
    have h1 := self_bound h (show k < l.length by omega)
    have h2 := h.times (show k < l.length by omega)
    simp only [sumS]
    push_cast
    split <;> omega

theorem idxs_sorted (p : Sp → Bool) : ∀ (l : List Sp) (i : Nat), (idxs p l i).Pairwise (· < ·)
  | [], i => by simp [idxs]
  | s :: l, i => by
    simp only [idxs]
    split
    · exact List.pairwise_cons.2 ⟨fun x hx => by have := (idxs_lt p l (i + 1) x hx).1; omega, idxs_sorted p l (i + 1)⟩
    · exact idxs_sorted p l (i + 1)

/-- The pick ends last; of those that end with it it is the first. -/
theorem pick_best (l : List Sp) : ∀ (ks : List Nat) (b : Nat), (b :: ks).Pairwise (· < ·) → ∀ k ∈ b :: ks, toN l k ≤ toN l (pick l b ks) ∧ (toN l k = toN l (pick l b ks) → pick l b ks ≤ k)
  | [], b, _, k, hk => by
    simp at hk
    subst hk
    exact ⟨Int.le_refl _, fun _ => Nat.le_refl _⟩
  | c :: ks, b, hp, k, hk => by
    have hp2 := List.pairwise_cons.1 hp
    unfold pick
    simp only [List.foldl_cons]
    split
    · rename_i hc
      have ih := pick_best l ks c hp2.2
      unfold pick at ih
      rcases List.mem_cons.1 hk with rfl | hk
      · have := ih c (by simp)
        exact ⟨by omega, fun e => by omega⟩
      · exact ih k hk
    · rename_i hc
      have hp3 : (b :: ks).Pairwise (· < ·) := List.pairwise_cons.2 ⟨fun x hx => hp2.1 x (by simp [hx]), (List.pairwise_cons.1 hp2.2).2⟩
      have ih := pick_best l ks b hp3
      unfold pick at ih
      rcases List.mem_cons.1 hk with rfl | hk
      · exact ih k (by simp)
      · rcases List.mem_cons.1 hk with rfl | hk
        · have h1 := ih b (by simp)
          have h2 := hp2.1 k (by simp)
          exact ⟨by omega, fun e => by have := h1.2 (by omega); omega⟩
        · exact ih k (by simp [hk])

theorem pick_self {l : List Sp} (c : Nat) (ks : List Nat) : pick l c (c :: ks) = pick l c ks := by
  unfold pick
  simp

/-- What a place on the way down is. -/
theorem downs_at {l : List Sp} (h : Trc l) {i : Nat} : ∀ (n k a : Nat), n = l.length - k → Down l i k a → ∀ j, j < (downs l n a).length → ∃ y, (downs l n a)[j]? = some y ∧ y < l.length ∧
    match kidsP l (idAt l y) with
    | [] => j + 1 = (downs l n a).length
    | c :: ks => j + 1 < (downs l n a).length ∧ (downs l n a)[j + 1]? = some (pick l c ks)
  | 0, k, a, hn, hd, j, hj => by have := hd.fuel; omega
  | n + 1, k, a, hn, hd, j, hj => by
    rw [downs_step] at hj ⊢
    cases hk : kidsP l (idAt l a) with
    | nil =>
      rw [hk] at hj
      simp at hj
      subst hj
      exact ⟨a, by simp, hd.lt, by rw [hk]; simp⟩
    | cons c ks =>
      rw [hk] at hj
      simp only at hj ⊢
      have hc : pick l c (c :: ks) ∈ kidsP l (idAt l a) := by rw [hk]; exact pick_in
      have hd2 := hd.next h hc
      have hf := hd2.fuel
      obtain ⟨m, rfl⟩ : ∃ m, n = m + 1 := ⟨n - 1, by omega⟩
      cases j with
      | zero =>
        refine ⟨a, by simp, hd.lt, ?_⟩
        rw [hk]
        simp only
        refine ⟨?_, ?_⟩
        · rw [downs_step]; simp
        · rw [downs_step, pick_self]; simp
      | succ j =>
        obtain ⟨y, h1, h2, h3⟩ := downs_at h (m + 1) (k + 1) (pick l c (c :: ks)) (by omega) hd2 j (by simpa using hj)
        refine ⟨y, by rw [List.getElem?_cons_succ]; exact h1, h2, ?_⟩
        cases hy : kidsP l (idAt l y) with
        | nil =>
          rw [hy] at h3
          simp only [List.length_cons] at h3 ⊢
          omega
        | cons d ds =>
          rw [hy] at h3
          simp only [List.length_cons, List.getElem?_cons_succ] at h3 ⊢
          exact ⟨by omega, h3.2⟩

end Go.Proofs.Ytppkkonhfkegoaa
/-
  The law TraceTimes as a contract.
-/
namespace Go.Proofs.Ytppkkonhfkegoaa
open Go.RowKit

theorem fin_val {a b : Int} (h : a = b) : (int a : V) = int b := by rw [h]

theorem self_at {l : List Sp} (hT : Trc l) {i : Nat} (hi : i < l.length) : selfP l l[i].id = (selfN l i, 0) ∧ childrenP l l[i].id = kidsP l l[i].id := by
  obtain ⟨j, hj, h1, h2, h3⟩ := spanP_at hT (x := l[i].id) (by rw [(hT.once i hi).1]; omega)
  have : j = i := hT.place hj hi h3
  subst this
  unfold selfP childrenP selfN
  rw [h2, idAt_eq hi]
  exact ⟨rfl, rfl⟩

set_option maxRecDepth 100000 in
set_option maxHeartbeats 4000000 in
theorem x_times (l : List Sp) (x : ByteArray) (hl : l.length ≤ 8796093022207) (hok : okAll l) : DCalls Try.prog 7 [sps l, str x] (boo true) := by
  refine sx Try.func7 (by kernel_rfl) ?_
  conv => whnf
  refine ⟨_, x_check l hl hok, ?_⟩
  conv => whnf
  rintro (_ | _) h0
  rotate_left
  · repeat ((conv => whnf); first | refine known true rfl ?_ | refine ⟨_, x_awake, ?_⟩)
    rfl
  have h1 : (checkP l).2 = 0 := by simpa using h0
  have hT := tr_of h1
  clear h0
  conv => whnf
  refine ⟨_, x_lspan l x hl, ?_⟩
  conv => whnf
  rintro (_ | _) h2
  rotate_left
  · repeat ((conv => whnf); first | refine known true rfl ?_ | refine ⟨_, x_awake, ?_⟩)
    rfl
  have h2 : 0 ≤ findI l x := by simpa using h2
  conv => whnf
  rintro (_ | _) h3
  rotate_left
  · repeat ((conv => whnf); first | refine known true rfl ?_ | refine ⟨_, x_awake, ?_⟩)
    rfl
  have h3 : l.length ≤ 60 := by simp at h3; omega
  obtain ⟨s, hs, f1, f2, f3⟩ := spanP_at hT h2
  subst f3
  have ts := hT.times hs
  conv => whnf
  refine ⟨none, by kernel_rfl, ?_⟩
  conv => whnf
  refine ⟨_, x_lspan l l[s].id hl, ?_⟩
  rw [f1]
  conv => whnf
  refine ⟨by omega, _, get_map spD hs, ?_⟩
  conv => whnf
  refine ⟨_, x_lspan l l[s].id hl, ?_⟩
  rw [f1]
  conv => whnf
  refine ⟨by omega, _, get_map spD hs, ?_⟩
  have hlong := sum_long hT hs
  conv => whnf
  refine ⟨[], Nat, fun k => [(9, int k), (8, int (sumS l l[s].id k))], fun _ => [], fun k => k ≤ l.length, fun k => l.length - k, 0, by omega, ?_, ?_⟩
  · refine ⟨rfl, ?_, ?_⟩ <;> repeat' (first | exact trivial | exact rfl | refine and_rfl ?_ | refine and_two ?_ ?_)
  rintro k hk
  conv => whnf
  rintro (_ | _) h4
  rotate_left
  · have h4 : k < l.length := by simpa using h4
    obtain ⟨c1, c2⟩ := self_at hT h4
    have tk := hT.times h4
    have bk := self_bound hT h4
    have wk : IntKind.i64.wrap (l[k].to - l[k].fr) = l[k].to - l[k].fr := wrap_in (by omega)
    have sk := sum_bound hT l[s].id k hk
    conv => whnf
    refine ⟨by omega, _, get_map spD h4, ?_⟩
    conv => whnf
    refine ⟨_, x_self l l[k].id hl hok, ?_⟩
    rw [c1]
    conv => whnf
    refine ⟨none, by kernel_rfl, ?_⟩
    conv => whnf
    refine known false rfl ?_
    conv => whnf
    refine known false (by simp; omega) ?_
    conv => whnf
    refine ⟨by omega, _, get_map spD h4, ?_⟩
    conv => whnf
    refine ⟨by omega, _, get_map spD h4, ?_⟩
    conv => whnf
    refine known false (by simp; omega) ?_
    conv => whnf
    refine ⟨by omega, _, get_map spD h4, ?_⟩
    conv => whnf
    refine ⟨_, x_children l l[k].id hl hok, ?_⟩
    rw [c2]
    conv => whnf
    rintro (_ | _) h5
    · skip
      conv => whnf
      refine ⟨_, x_lbelow l k l[s].id h4 hl hT.linked, ?_⟩
      conv => whnf
      rintro (_ | _) h7
      · have h8 : sumS l l[s].id k = sumS l l[s].id (k + 1) := by simp [sumS, h7]
        conv => whnf
        refine ⟨k + 1, h4, by dsimp only; omega, ?_⟩
        refine ⟨rfl, ?_, ?_⟩ <;> repeat' (first | exact trivial | exact rfl | refine and_rfl ?_ | refine and_val (wrap_succ (by omega)) ?_ | refine and_val h8 ?_ | refine and_two ?_ ?_)
      · have h8 : IntKind.i64.wrap (sumS l l[s].id k + selfN l k) = sumS l l[s].id (k + 1) := by
          rw [wrap_in (by omega)]
          simp [sumS, h7]
        conv => whnf
        refine ⟨k + 1, h4, by dsimp only; omega, ?_⟩
        refine ⟨rfl, ?_, ?_⟩ <;> repeat' (first | exact trivial | exact rfl | refine and_rfl ?_ | refine and_val (wrap_succ (by omega)) ?_ | refine and_val h8 ?_ | refine and_two ?_ ?_)
    · have h5 : kidsP l l[k].id = [] := by simpa using h5
      have h6 := self_whole hT h4 h5
      conv => whnf
      refine ⟨by omega, _, get_map spD h4, ?_⟩
      conv => whnf
      refine ⟨by omega, _, get_map spD h4, ?_⟩
      conv => whnf
      refine known false (by simp; omega) ?_
      conv => whnf
      refine ⟨_, x_lbelow l k l[s].id h4 hl hT.linked, ?_⟩
      conv => whnf
      rintro (_ | _) h7
      · have h8 : sumS l l[s].id k = sumS l l[s].id (k + 1) := by simp [sumS, h7]
        conv => whnf
        refine ⟨k + 1, h4, by dsimp only; omega, ?_⟩
        refine ⟨rfl, ?_, ?_⟩ <;> repeat' (first | exact trivial | exact rfl | refine and_rfl ?_ | refine and_val (wrap_succ (by omega)) ?_ | refine and_val h8 ?_ | refine and_two ?_ ?_)
      · have h8 : IntKind.i64.wrap (sumS l l[s].id k + selfN l k) = sumS l l[s].id (k + 1) := by
          rw [wrap_in (by omega)]
          simp [sumS, h7]
        conv => whnf
        refine ⟨k + 1, h4, by dsimp only; omega, ?_⟩
        refine ⟨rfl, ?_, ?_⟩ <;> repeat' (first | exact trivial | exact rfl | refine and_rfl ?_ | refine and_val (wrap_succ (by omega)) ?_ | refine and_val h8 ?_ | refine and_two ?_ ?_)
  have h4 : k = l.length := by simp at h4; omega
  subst h4
  have hcr : critP l l[s].id = ((downs l l.length s).map (idAt l), 0) := by unfold critP; rw [f2]; rfl
  have hda := fun j hj => downs_at hT l.length 0 s (by omega) ⟨hs, rfl, by omega⟩ j hj
  generalize hds : downs l l.length s = ds at hda hcr
  have hdl : ds.length ≤ l.length := by rw [← hds]; exact downs_len _ _ _
  have hd0 : ds[0]? = some s := by
    rw [← hds, show l.length = (l.length - 1) + 1 by omega, downs_step]
    simp
  have hdp : 0 < ds.length := by
    rcases Nat.eq_zero_or_pos ds.length with h | h
    · rw [List.getElem?_eq_none (by omega)] at hd0; cases hd0
    · exact h
  have hcg : ∀ j (hj : j < ds.length), ∃ hc : j < (ds.map (idAt l)).length, (ds.map (idAt l))[j] = idAt l ds[j] := fun j hj => ⟨by simpa using hj, by simp⟩
  have sk := sum_bound hT l[s].id l.length (by omega)
  have wk : IntKind.i64.wrap (l[s].to - l[s].fr) = l[s].to - l[s].fr := wrap_in (by omega)
  conv => whnf
  refine ⟨_, x_critical l l[s].id hl hok, ?_⟩
  rw [hcr]
  conv => whnf
  refine known false (by simp; omega) ?_
  conv => whnf
  refine known false rfl ?_
  conv => whnf
  refine known false (by simp; intro e; rw [e] at hdp; simp at hdp) ?_
  obtain ⟨hc0, hc1⟩ := hcg 0 hdp
  conv => whnf
  refine ⟨by omega, _, get_map strD hc0, ?_⟩
  have e0 : (ds.map (idAt l))[0] = l[s].id := by
    rw [hc1, ← idAt_eq hs]
    congr 1
    rw [List.getElem?_eq_getElem hdp] at hd0
    exact Option.some.inj hd0
  rw [e0]
  conv => whnf
  refine known false (by simp) ?_
  conv => whnf
  refine ⟨[], Nat, fun k => [(14, int k)], fun _ => [], fun k => k < ds.length, fun k => ds.length - k, 0, hdp, ?_, ?_⟩
  · refine ⟨rfl, ?_, ?_⟩ <;> repeat' (first | exact trivial | exact rfl | refine and_rfl ?_ | refine and_two ?_ ?_)
  rintro k hk
  conv => whnf
  refine known true (by simp; omega) ?_
  obtain ⟨y, y1, y2, y3⟩ := hda k hk
  obtain ⟨hck, hck1⟩ := hcg k hk
  have y4 : ds[k] = y := by
    rw [List.getElem?_eq_getElem hk] at y1
    exact Option.some.inj y1
  rw [y4, idAt_eq y2] at hck1
  obtain ⟨_, c2⟩ := self_at hT y2
  conv => whnf
  refine ⟨by omega, _, get_map strD hck, ?_⟩
  rw [hck1]
  conv => whnf
  refine ⟨_, x_children l l[y].id hl hok, ?_⟩
  rw [c2]
  have hw := fun c (hc : c ∈ kidsP l l[y].id) => kid_lt hc
  have hs2 := idxs_sorted (kidB l[y].id) l 0
  change (kidsP l l[y].id).Pairwise (· < ·) at hs2
  rw [idAt_eq y2] at y3
  have hkl : (kidsP l l[y].id).length ≤ l.length := idxs_len _ _ _
  generalize hkk : kidsP l l[y].id = kk at hw hs2 y3 hkl
  conv => whnf
  rintro (_ | _) h5
  rotate_left
  · simp at h5
    rw [wrap_in (by omega)] at h5
    cases kk with
    | nil =>
      repeat ((conv => whnf); first | refine known true rfl ?_ | refine ⟨_, x_awake, ?_⟩)
      rfl
    | cons c ks => simp only at y3; omega
  simp at h5
  rw [wrap_in (by omega)] at h5
  obtain ⟨c, ks, rfl⟩ : ∃ c ks, kk = c :: ks := by
    cases kk with
    | nil => simp only at y3; omega
    | cons c ks => exact ⟨c, ks, rfl⟩
  simp only at y3
  obtain ⟨y5, y6⟩ := y3
  have hbest := pick_best l ks c hs2
  obtain ⟨hp1, hp2⟩ := hw (pick l c ks) (by rw [← pick_self]; exact pick_in)
  generalize pick l c ks = p at y6 hbest hp1 hp2
  obtain ⟨hcn, hcn1⟩ := hcg (k + 1) y5
  have y7 : ds[k + 1] = p := by
    rw [List.getElem?_eq_getElem y5] at y6
    exact Option.some.inj y6
  rw [y7, idAt_eq hp1] at hcn1
  have hp3 := sEq_eq hp2
  conv => whnf
  refine ⟨by rw [wrap_succ (by omega)]; omega, _, (by rw [wrap_succ (by omega)]; exact get_map strD hcn), ?_⟩
  rw [hcn1]
  conv => whnf
  refine ⟨_, x_lspan l l[p].id hl, ?_⟩
  rw [(hT.once p hp1).1]
  conv => whnf
  refine ⟨none, by kernel_rfl, ?_⟩
  conv => whnf
  refine known false (by simp) ?_
  conv => whnf
  refine ⟨by omega, _, get_map spD hp1, ?_⟩
  conv => whnf
  refine ⟨by omega, _, get_map strD hck, ?_⟩
  rw [hck1]
  conv => whnf
  refine known false (by simp [hp3]) ?_
  generalize hkx : c :: ks = kk at hbest hw hkl
  conv => whnf
  refine ⟨[], Nat, fun m => [(17, int m)], fun _ => [], fun m => m ≤ kk.length, fun m => kk.length - m, 0, by omega, ?_, ?_⟩
  · refine ⟨rfl, ?_, ?_⟩ <;> repeat' (first | exact trivial | exact rfl | refine and_rfl ?_ | refine and_two ?_ ?_)
  rintro m hm
  conv => whnf
  rintro (_ | _) h6
  · conv => whnf
    refine ⟨k + 1, y5, by dsimp only; omega, ?_⟩
    refine ⟨rfl, ?_, ?_⟩ <;> repeat' (first | exact trivial | exact rfl | refine and_rfl ?_ | refine and_val (wrap_succ (by omega)) ?_ | refine and_two ?_ ?_)
  have h6 : m < kk.length := by simpa using h6
  obtain ⟨hq1, _⟩ := hw kk[m] (List.getElem_mem h6)
  have hb := hbest kk[m] (List.getElem_mem h6)
  rw [toN_eq hq1, toN_eq hp1] at hb
  conv => whnf
  refine ⟨none, by kernel_rfl, ?_⟩
  conv => whnf
  refine ⟨by omega, _, get_map natD h6, ?_⟩
  conv => whnf
  refine ⟨by omega, _, get_map spD hq1, ?_⟩
  conv => whnf
  refine ⟨by omega, _, get_map spD hp1, ?_⟩
  conv => whnf
  refine known false (by simp; omega) ?_
  conv => whnf
  refine ⟨by omega, _, get_map natD h6, ?_⟩
  conv => whnf
  refine ⟨by omega, _, get_map spD hq1, ?_⟩
  conv => whnf
  refine ⟨by omega, _, get_map spD hp1, ?_⟩
  conv => whnf
  rintro (_ | _) h7
  · skip
    conv => whnf
    refine ⟨m + 1, h6, by dsimp only; omega, ?_⟩
    refine ⟨rfl, ?_, ?_⟩ <;> repeat' (first | exact trivial | exact rfl | refine and_rfl ?_ | refine and_val (wrap_succ (by omega)) ?_ | refine and_two ?_ ?_)
  · have h7 : l[kk[m]].to = l[p].to := by simpa using h7
    conv => whnf
    refine ⟨by omega, _, get_map natD h6, ?_⟩
    conv => whnf
    refine known false (by simp; exact hb.2 h7) ?_
    conv => whnf
    refine ⟨m + 1, h6, by dsimp only; omega, ?_⟩
    refine ⟨rfl, ?_, ?_⟩ <;> repeat' (first | exact trivial | exact rfl | refine and_rfl ?_ | refine and_val (wrap_succ (by omega)) ?_ | refine and_two ?_ ?_)

theorem d_times (ds0 ds1 : List D) (h0 : DOk TT 6 22 ds0) (h1 : DOk TT 6 9 ds1) : DCalls Try.prog 7 [vOf TT 22 ds0, vOf TT 9 ds1] (boo true) := by
  obtain ⟨l, rfl, hl, hok⟩ := read_sps h0
  obtain ⟨x, rfl, hx⟩ := h1
  exact x_times l x hl hok

end Go.Proofs.Ytppkkonhfkegoaa
