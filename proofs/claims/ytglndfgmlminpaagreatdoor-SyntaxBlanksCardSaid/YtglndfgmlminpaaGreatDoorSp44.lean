/- Texts joined by pack.py: XSyXJ XSyXK XSyXL XSyXM XSyYA XSyYB XSyPJ XLx24b XSyYC -/
import Derived.Test.YtglndfgmlminpaaGreatDoorSp34
import Derived.Test.YtglndfgmlminpaaGreatDoorSp30
import Derived.Test.YtglndfgmlminpaaGreatDoorSp31
import Derived.Test.YtglndfgmlminpaaGreatDoorSp32
import Derived.Test.YtglndfgmlminpaaGreatDoorSp33
import Derived.Test.YtglndfgmlminpaaGreatDoorSp43
import Derived.Test.YtglndfgmlminpaaGreatDoorSp27
import Derived.Test.YtglndfgmlminpaaGreatDoorSp29
import Derived.Test.YtglndfgmlminpaaGreatDoorSp20
set_option maxHeartbeats 16000000
set_option maxRecDepth 100000
namespace Go.Proofs.YtglndfgmlminpaaGreatDoor
theorem sizes_ge : ∀ ts : List Tr, ts.length ≤ Tr.sizes ts
 | [] => by simp
 | X :: ts => by have := X.size_pos; have := sizes_ge ts; simp only [Tr.sizes, List.length_cons]; omega
theorem lev_pos {T : Tr} (hw : T.wf = true) : 1 ≤ T.level := by
 obtain ⟨⟨kind, text, val, keys⟩, ts⟩ := T
 obtain ⟨hf, _, _⟩ := wf_parts hw
 unfold Tr.level
 split
 ·rename_i hk
  have hk : kind = 9 := hk
  subst hk
  have : 0 < binL text := by simp [fieldsB] at hf; exact hf.2
  exact this
 split
 ·split <;> omega
 split <;> omega
theorem q_one {T : Tr} (hw : T.wf = true) (p : List Pc) : txP (qP T.level 1 p) = txP p := by
 rw [tx_q, if_neg (by have := lev_pos hw; omega)]
theorem binL_le (s : Bs) : -1000 ≤ binL s ∧ binL s ≤ 1000 := by
 unfold binL
 repeat' (first | (split <;> first | omega | skip) | omega)
section
variable {l : List Nd}
def PB (l : List Nd) (m : Nat) : Prop := ∀ (T : Tr), T.size ≤ m → ∀ (a i d : Nat), Seg l T a i → exprK T.kind = true → BareOk l i (txP (T.pc d))
theorem pb_expr {T : Tr} {a i d : Nat} (req : Int) (hs : Seg l T a i) (hB : BareOk l i (txP (T.pc d))) : ExprOk l i req (txP (qP T.level req (T.pc d))) := by
 obtain ⟨b, ts⟩ := T
 have hn := seg_node hs
 have hi := lt_of_get hn
 have h := x_pexpr req hi hB
 have e : levN l[i] = (Tr.node b ts).level := by
  have : l[i] = ⟨b.kind, b.text, b.val, b.keys, Tr.roots a ts⟩ := by rw [List.getElem?_eq_getElem hi] at hn; exact Option.some.inj hn
  rw [this]; rfl
 rw [e, ← tx_q] at h
 exact h
theorem pb_kid {m : Nat} (hI : PB l m) {b : Lab} {ts : List Tr} {a i : Nat} (d : Nat) (hs : Seg l (.node b ts) a i) (hm : (Tr.node b ts).size ≤ m + 1) {j : Nat} {X : Tr} (hX : ts[j]? = some X) (hk : exprK X.kind = true) :
  ∃ q : Nat, (Tr.roots a ts)[j]? = some (q : Int) ∧ ∀ req, ExprOk l q req (txP (qP X.level req (X.pc d))) := by
 obtain ⟨c, q, h1, h2⟩ := seg_kid hs j X hX
 exact ⟨q, h1, fun req => pb_expr req h2 (hI X (kid_size (List.mem_of_getElem? hX) hm) c q d h2 hk)⟩
theorem pb_kid1 {m : Nat} (hI : PB l m) {b : Lab} {ts : List Tr} {a i : Nat} (d : Nat) (hs : Seg l (.node b ts) a i) (hm : (Tr.node b ts).size ≤ m + 1) {j : Nat} {X : Tr} (hX : ts[j]? = some X) (hk : exprK X.kind = true) :
  ∃ q : Nat, (Tr.roots a ts)[j]? = some (q : Int) ∧ ExprOk l q 1 (txP (X.pc d)) := by
 obtain ⟨q, h1, h2⟩ := pb_kid hI d hs hm hX hk
 obtain ⟨_, _, hws⟩ := wf_parts hs.wf
 have := h2 1
 rw [q_one (kid_wf (List.mem_of_getElem? hX) hws)] at this
 exact ⟨q, h1, this⟩
theorem roots_len (a : Nat) (ts : List Tr) : (Tr.roots a ts).length = ts.length := Tr.roots_length ..
theorem pcl_get {d : Nat} {ts : List Tr} {j : Nat} (h : j < ((Tr.pcl d ts).map txP).length) : ∃ X, ts[j]? = some X ∧ ((Tr.pcl d ts).map txP)[j] = txP (X.pc d) := by
 have hl : j < ts.length := by simpa [Tr.pcl_eq] using h
 refine ⟨ts[j], List.getElem?_eq_getElem hl, ?_⟩
 simp [Tr.pcl_eq]
theorem pb_all (hl : l.length ≤ 100000) : ∀ m, PB l m
 | 0 => fun T h => by have := T.size_pos; omega
 | m + 1 => fun T hm a i d hs hk => by
  have hI := pb_all hl m
  obtain ⟨⟨kind, text, val, keys⟩, ts⟩ := T
  obtain ⟨hf, hc, hws⟩ := wf_parts hs.wf
  have hn := seg_node hs
  have hsz : ts.length ≤ 1000000 := by
   have h1 := hs.len_le.1
   have h2 := hs.len
   have := sizes_ge ts
   simp only [Tr.size] at h2
   omega
  simp only at hf hc hws hn
  have hk : exprK kind = true := hk
  have hkid : ∀ {j : Nat} {X : Tr}, ts[j]? = some X → kind ≠ 15 → kind ≠ 16 → kind ≠ 19 → exprK X.kind = true := fun hX h15 h16 h19 => by
   have := (wfs_mem hws _ _ hX).2
   unfold fitsB at this
   rw [if_neg h19, if_neg (by intro e; rcases e.1 with e | e <;> omega)] at this
   exact this
  have hP : kind ≠ 15 → kind ≠ 16 → kind ≠ 19 → ∀ (j : Nat) (h : j < ((Tr.pcl d ts).map txP).length), ∃ q : Nat, (Tr.roots a ts)[j]? = some (q : Int) ∧ ExprOk l q 1 ((Tr.pcl d ts).map txP)[j] := fun h15 h16 h19 j h => by
   obtain ⟨X, hX, e⟩ := pcl_get h
   rw [e]
   exact pb_kid1 hI d hs hm hX (hkid hX h15 h16 h19)
  have hlen : (Tr.roots a ts).length = ((Tr.pcl d ts).map txP).length := by rw [roots_len]; simp [Tr.pcl_eq]
  have hlen2 : ((Tr.pcl d ts).map txP).length ≤ 1000000 := by rw [← hlen, roots_len]; exact hsz
  have hcases : kind = 1 ∨ kind = 2 ∨ kind = 3 ∨ kind = 4 ∨ kind = 5 ∨ kind = 6 ∨ kind = 7 ∨ kind = 8 ∨ kind = 9 ∨ kind = 10 ∨ kind = 11 ∨ kind = 12 := by
   unfold exprK at hk; simp at hk; omega
  rcases hcases with rfl | rfl | rfl | rfl | rfl | rfl | rfl | rfl | rfl | rfl | rfl | rfl
  ·rw [tx_null]; exact x_bare_null hn
  ·have hv : val = 0 ∨ val = 1 := by simp [fieldsB] at hf; exact hf.2.2
   rcases hv with rfl | rfl
   ·rw [tx_bool0]; exact x_bare_bool0 hn
   ·rw [tx_bool1]; exact x_bare_bool1 hn
  ·have hv : 0 ≤ val ∧ val ≤ 1000000000000 := by simp [fieldsB] at hf; exact ⟨hf.2.1.2, hf.2.2⟩
   rw [tx_int]; exact x_bare_int hn (by omega)
  ·have := lab_text hf
   rw [tx_str]; exact x_bare_str hn (by simp only at this; omega)
  ·have hv : nameB text = true := by simp [fieldsB] at hf; exact hf.2
   rw [tx_var hv]; exact x_bare_var hn
  ·rw [tx_list]; exact x_bare_list hn hlen hlen2 (hP (by decide) (by decide) (by decide))
  ·have hv : keys.length = ts.length := by simp [fieldsB] at hf; exact hf.2.1.2
   have hkl : keys.length = (Tr.pcl d ts).length := by rw [hv]; simp [Tr.pcl_eq]
   have hks := lab_keys hf
   rw [tx_map]
   refine x_bare_map hn (by rw [List.length_map, keysP_len _ _ hkl, hlen, List.length_map]) (by rw [List.length_map, keysP_len _ _ hkl]; rw [List.length_map] at hlen2; exact hlen2) fun j h => ?_
   have hj : j < keys.length := by rw [List.length_map, keysP_len _ _ hkl, ← hkl] at h; exact h
   have hj2 : j < ts.length := by omega
   have hX : ts[j]? = some ts[j] := List.getElem?_eq_getElem hj2
   obtain ⟨q, h1, h2⟩ := pb_kid1 hI d hs hm hX (hkid hX (by decide) (by decide) (by decide))
   have hp : (Tr.pcl d ts)[j]? = some (ts[j].pc d) := by rw [Tr.pcl_eq, List.getElem?_map, hX]; rfl
   have hg := keysP_get keys (Tr.pcl d ts) j keys[j] _ (List.getElem?_eq_getElem hj) hp
   rw [List.getElem?_eq_getElem h] at hg
   exact ⟨q, keys[j], _, h1, List.getElem?_eq_getElem hj, by have := hks keys[j] (List.getElem_mem hj); omega, h2, Option.some.inj hg⟩
  ·have h1 : ts.length = 1 := by simpa [countB] using hc
   obtain ⟨A, rfl⟩ := len1 h1
   have hA : [A][0]? = some A := rfl
   obtain ⟨q, h1, h2⟩ := pb_kid hI d hs hm hA (hkid hA (by decide) (by decide) (by decide))
   have hr : Tr.roots a [A] = [(q : Int)] := by
    have : (Tr.roots a [A]).length = 1 := roots_len a [A]
    match h9 : Tr.roots a [A], this with
    | [x], _ => rw [h9] at h1; simp at h1; rw [h1]
   rw [hr] at hn
   have hv : text = sMi ∨ text = wNot := by simp [fieldsB] at hf; exact hf.2
   rcases hv with rfl | rfl
   ·rw [tx_neg (by decide)]; exact x_bare_neg hn (h2 7)
   ·rw [tx_not]; exact x_bare_not hn (h2 3)
  ·have h1 : ts.length = 2 := by simpa [countB] using hc
   obtain ⟨A, B, rfl⟩ := len2 h1
   have hA : [A, B][0]? = some A := rfl
   have hB : [A, B][1]? = some B := rfl
   obtain ⟨q1, h1, h2⟩ := pb_kid hI d hs hm hA (hkid hA (by decide) (by decide) (by decide))
   obtain ⟨q2, h3, h4⟩ := pb_kid hI d hs hm hB (hkid hB (by decide) (by decide) (by decide))
   have hr : Tr.roots a [A, B] = [(q1 : Int), (q2 : Int)] := by
    have : (Tr.roots a [A, B]).length = 2 := roots_len a [A, B]
    match h9 : Tr.roots a [A, B], this with
    | [x, y], _ => rw [h9] at h1 h3; simp at h1 h3; rw [h1, h3]
   rw [hr] at hn
   have hv : 0 < binL text := by simp [fieldsB] at hf; exact hf.2
   rw [tx_bin hv]
   exact x_bare_bin hn (by have := x0_bin hv; omega) (h2 _) (h4 _) (binL_le text)
  ·have h1 : ts.length = 2 := by simpa [countB] using hc
   obtain ⟨A, B, rfl⟩ := len2 h1
   have hA : [A, B][0]? = some A := rfl
   have hB : [A, B][1]? = some B := rfl
   obtain ⟨q1, h1, h2⟩ := pb_kid hI d hs hm hA (hkid hA (by decide) (by decide) (by decide))
   obtain ⟨q2, h3, h4⟩ := pb_kid1 hI d hs hm hB (hkid hB (by decide) (by decide) (by decide))
   have hr : Tr.roots a [A, B] = [(q1 : Int), (q2 : Int)] := by
    have : (Tr.roots a [A, B]).length = 2 := roots_len a [A, B]
    match h9 : Tr.roots a [A, B], this with
    | [x, y], _ => rw [h9] at h1 h3; simp at h1 h3; rw [h1, h3]
   rw [hr] at hn
   rw [tx_index]
   exact x_bare_index hn (h2 _) h4
  ·have hv : nameB text = true := by simp [fieldsB] at hf; exact hf.2
   rw [tx_call hv]; exact x_bare_call hn hlen hlen2 (hP (by decide) (by decide) (by decide))
  ·have hv : wholeB text = true := by simp [fieldsB] at hf; exact hf.2
   rw [tx_host hv]; exact x_bare_host hn (by have := x0_whole hv; omega) hlen hlen2 (hP (by decide) (by decide) (by decide))
theorem roots1 {a q : Nat} {A : Tr} (h1 : (Tr.roots a [A])[0]? = some (q : Int)) : Tr.roots a [A] = [(q : Int)] := by
 have : (Tr.roots a [A]).length = 1 := roots_len a [A]
 match h9 : Tr.roots a [A], this with
 | [x], _ => rw [h9] at h1; simp at h1; rw [h1]
theorem roots2 {a q1 q2 : Nat} {A B : Tr} (h1 : (Tr.roots a [A, B])[0]? = some (q1 : Int)) (h3 : (Tr.roots a [A, B])[1]? = some (q2 : Int)) : Tr.roots a [A, B] = [(q1 : Int), (q2 : Int)] := by
 have : (Tr.roots a [A, B]).length = 2 := roots_len a [A, B]
 match h9 : Tr.roots a [A, B], this with
 | [x, y], _ => rw [h9] at h1 h3; simp at h1 h3; rw [h1, h3]
theorem roots3 {a q1 q2 q3 : Nat} {A B C : Tr} (h1 : (Tr.roots a [A, B, C])[0]? = some (q1 : Int)) (h3 : (Tr.roots a [A, B, C])[1]? = some (q2 : Int)) (h5 : (Tr.roots a [A, B, C])[2]? = some (q3 : Int)) : Tr.roots a [A, B, C] = [(q1 : Int), (q2 : Int), (q3 : Int)] := by
 have : (Tr.roots a [A, B, C]).length = 3 := roots_len a [A, B, C]
 match h9 : Tr.roots a [A, B, C], this with
 | [x, y, z], _ => rw [h9] at h1 h3 h5; simp at h1 h3 h5; rw [h1, h3, h5]
def PS (l : List Nd) (m : Nat) : Prop := ∀ (T : Tr), T.size ≤ m → ∀ (a i d : Nat), Seg l T a i → d + T.size ≤ 800000 → (stmtK T.kind = true → StmtOk l i d (txP (T.pc d))) ∧ (T.kind = 19 → BlockOk l i d (txP (T.pc d)))
theorem ps_all (hl : l.length ≤ 100000) : ∀ m, PS l m
 | 0 => fun T h => by have := T.size_pos; omega
 | m + 1 => fun T hm a i d hs hd => by
  have hI := ps_all hl m
  obtain ⟨⟨kind, text, val, keys⟩, ts⟩ := T
  obtain ⟨hf, hc, hws⟩ := wf_parts hs.wf
  have hn := seg_node hs
  have hsz := sizes_ge ts
  simp only at hf hc hws hn
  simp only [Tr.size] at hd
  have hE : ∀ {j : Nat} {X : Tr}, ts[j]? = some X → exprK X.kind = true → ∃ q : Nat, (Tr.roots a ts)[j]? = some (q : Int) ∧ ExprOk l q 1 (txP (X.pc d)) := fun hX hk => pb_kid1 (pb_all hl _) d hs hm hX hk
  have hB : ∀ {j : Nat} {X : Tr}, ts[j]? = some X → X.kind = 19 → ∃ q : Nat, (Tr.roots a ts)[j]? = some (q : Int) ∧ BlockOk l q d (txP (X.pc d)) := fun {j X} hX hk => by
   obtain ⟨c, q, h1, h2⟩ := seg_kid hs j X hX
   have hXs := Tr.mem_size (List.mem_of_getElem? hX)
   exact ⟨q, h1, (hI X (kid_size (List.mem_of_getElem? hX) hm) c q d h2 (by omega)).2 hk⟩
  have hfit : ∀ {j : Nat} {X : Tr}, ts[j]? = some X → fitsB kind j X.kind = true := fun {j X} hX => by
   have := (wfs_mem hws _ _ hX).2
   rwa [Nat.zero_add] at this
  refine ⟨fun hk => ?_, fun hk => ?_⟩
  ·have hk : stmtK kind = true := hk
   have hcases : kind = 13 ∨ kind = 14 ∨ kind = 15 ∨ kind = 16 ∨ kind = 17 ∨ kind = 18 := by
    unfold stmtK at hk; simp at hk; omega
   rcases hcases with rfl | rfl | rfl | rfl | rfl | rfl
   ·obtain ⟨A, rfl⟩ := len1 (by simpa [countB] using hc)
    have hv : nameB text = true := by simp [fieldsB] at hf; exact hf.2
    obtain ⟨q, h1, h2⟩ := hE (j := 0) (X := A) rfl (by simpa [fitsB] using hfit (j := 0) (X := A) rfl)
    rw [roots1 h1] at hn
    rw [tx_let hv]
    exact x_stmt_let hn (by have := x0_name hv; omega) h2
   ·obtain ⟨A, rfl⟩ := len1 (by simpa [countB] using hc)
    have hv : nameB text = true := by simp [fieldsB] at hf; exact hf.2
    obtain ⟨q, h1, h2⟩ := hE (j := 0) (X := A) rfl (by simpa [fitsB] using hfit (j := 0) (X := A) rfl)
    rw [roots1 h1] at hn
    rw [tx_set hv]
    exact x_stmt_set hn (by have := x0_name hv; omega) h2
   ·have h23 : ts.length = 2 ∨ ts.length = 3 := by simpa [countB] using hc
    rcases len23 h23 with ⟨A, B, rfl⟩ | ⟨A, B, C, rfl⟩
    ·obtain ⟨q1, h1, h2⟩ := hE (j := 0) (X := A) rfl (by simpa [fitsB] using hfit (j := 0) (X := A) rfl)
     obtain ⟨q2, h3, h4⟩ := hB (j := 1) (X := B) rfl (by simpa [fitsB] using hfit (j := 1) (X := B) rfl)
     rw [roots2 h1 h3] at hn
     rw [tx_if]
     exact x_stmt_if hn h2 h4
    ·obtain ⟨q1, h1, h2⟩ := hE (j := 0) (X := A) rfl (by simpa [fitsB] using hfit (j := 0) (X := A) rfl)
     obtain ⟨q2, h3, h4⟩ := hB (j := 1) (X := B) rfl (by simpa [fitsB] using hfit (j := 1) (X := B) rfl)
     obtain ⟨q3, h5, h6⟩ := hB (j := 2) (X := C) rfl (by simpa [fitsB] using hfit (j := 2) (X := C) rfl)
     rw [roots3 h1 h3 h5] at hn
     rw [tx_else]
     exact x_stmt_else hn h2 h4 h6
   ·obtain ⟨A, B, rfl⟩ := len2 (by simpa [countB] using hc)
    obtain ⟨q1, h1, h2⟩ := hE (j := 0) (X := A) rfl (by simpa [fitsB] using hfit (j := 0) (X := A) rfl)
    obtain ⟨q2, h3, h4⟩ := hB (j := 1) (X := B) rfl (by simpa [fitsB] using hfit (j := 1) (X := B) rfl)
    rw [roots2 h1 h3] at hn
    rw [tx_while]
    exact x_stmt_while hn h2 h4
   ·obtain ⟨A, rfl⟩ := len1 (by simpa [countB] using hc)
    obtain ⟨q, h1, h2⟩ := hE (j := 0) (X := A) rfl (by simpa [fitsB] using hfit (j := 0) (X := A) rfl)
    rw [roots1 h1] at hn
    rw [tx_ret]
    exact x_stmt_ret hn h2
   ·obtain ⟨A, rfl⟩ := len1 (by simpa [countB] using hc)
    obtain ⟨q, h1, h2⟩ := hE (j := 0) (X := A) rfl (by simpa [fitsB] using hfit (j := 0) (X := A) rfl)
    rw [roots1 h1] at hn
    rw [tx_do]
    exact x_stmt_do hn h2
  ·have hk : kind = 19 := hk
   subst hk
   rw [tx_block]
   refine x_pblock hn (by rw [roots_len]; simp [Tr.pcl_eq]) (by simp only [List.length_map, Tr.pcl_eq]; omega) (by omega) fun j h => ?_
   obtain ⟨X, hX, e⟩ := pcl_get h
   obtain ⟨c, q, h1, h2⟩ := seg_kid hs j X hX
   have hXs := Tr.mem_size (List.mem_of_getElem? hX)
   rw [e]
   exact ⟨q, h1, (hI X (kid_size (List.mem_of_getElem? hX) hm) c q (d + 1) h2 (by omega)).1 (by simpa [fitsB] using hfit hX)⟩
theorem p_block {T : Tr} {a i : Nat} (hl : l.length ≤ 100000) (hs : Seg l T a i) (hk : T.kind = 19) : BlockOk l i 0 (txP (T.pc 0)) :=
 (ps_all hl _ T (Nat.le_refl _) a i 0 hs (by have := hs.len_le.1; have := hs.len; omega)).2 hk
end
end Go.Proofs.YtglndfgmlminpaaGreatDoor
namespace Go.Proofs.YtglndfgmlminpaaGreatDoor
open Go.RowKit Go.Shelf
section
variable {P : Program} {ρ : Ren}
theorem string_nil (L : Lays.n169 P ρ) (X : Builder.Extra P ρ) (b : Nat) (w : World) (c1 : w.cell? ⟨b, 1, none⟩ = some (.slice none 0 0)) :
  Calls P (ρ.f 169) #[.pointer (some ⟨b, 0, none⟩)] w fun e w' => e = .returned (.string ⟨#[]⟩) ∧ w' = w.drew := by
 have hUS := Any.unsafeString_none L X
 replace c1 : w.drew.cell? ⟨b, 1, none⟩ = some (.slice none 0 0) := c1
 have hSD : (Builtin.unsafeSliceData_ #[(ρ.t 37)] (ρ.t 127) #[.slice none 0 0]).run P w.drew = .ok (.pointer none) w.drew := rfl
 have mixed := L.mixed
 have t72 := L.t72; have a72 := L.a72; have z72 := L.z72; have v72 := L.v72; have u72 := run_underlying L.t72
 have t70 := L.t70; have a70 := L.a70; have z70 := L.z70; have v70 := L.v70; have u70 := run_underlying L.t70
 have t37 := L.t37; have a37 := L.a37; have z37 := L.z37; have v37 := L.v37; have u37 := run_underlying L.t37
 have t127 := L.t127; have a127 := L.a127; have z127 := L.z127; have v127 := L.v127; have u127 := run_underlying L.t127
 have t3 := L.t3; have a3 := L.a3; have z3 := L.z3; have v3 := L.v3; have u3 := run_underlying L.t3
 have t9 := L.t9; have a9 := L.a9; have z9 := L.z9; have v9 := L.v9; have u9 := run_underlying L.t9
 have t5 := X.t5; have a5 := X.a5; have z5 := X.z5; have v5 := X.v5; have u5 := run_underlying X.t5
 go_enter L.f169, Body.n169_ntmps ρ
 go_wp2
 go_region_o
 all_goals (go_wp2; go_ret; exact ⟨rfl, rfl⟩)
variable {o : Oper} {E : Operand → V} {m : List (Option Bk)} {x : Operand}
theorem ot_string0 (L : Lays.n169 P ρ) (X : Builder.Extra P ρ) {n : Nat} {bt : Option Nat} {cs : List V} {c : Call} (ho : o.op = .call c) (hc : c.callee = .value (.func (ρ.f 169))) (hargs : c.args.toList = [x]) (hx : E x = .bx n 0)
  (hm : m[n]? = some (some (.box cs bt))) (h1 : cs[1]? = some (.cv (.slice none 0 0))) : OpTr P o E m (.cv (.string ⟨#[]⟩)) m := by
 intro B w0 N S tt a w hs hr
 have e1 : c.args = #[x] := by apply Array.ext'; simpa using hargs
 have h := hr x (by rw [ho]; simp [Op.operands, Call.operands, e1])
 rw [hx] at h
 generalize hv : a.eval x = u at h
 cases h
 rename_i b hn
 obtain ⟨g0, ty0, us0, q1, q2, q3, q4⟩ := hs.blk n _ hm
 rw [hn] at q1; cases q1
 have hr1 := q4 1 _ h1
 have hlt1 := lt_of_get h1
 generalize hz : us0.getD 1 undef = z at hr1
 cases hr1
 have c1 : w.cell? ⟨b, 1, none⟩ = some (.slice none 0 0) := by
  rw [cell_of_row w b 1 us0 _ _ q2, ← hz, Array.getD_eq_getD_getElem?, Array.getElem?_eq_getElem (by omega)]
  rfl
 have hcall := string_nil L X b w c1
 have hs1 : Sat B w0 N S tt m a w.drew := ⟨hs.low.drew, hs.nodef, hs.tmps.mono (w := w) (w' := w.drew) (NLe.refl _) (fun _ _ h => h) (fun _ _ _ => rfl), fun k b hk => (hs.blk k b hk).mono (w := w) (w' := w.drew) rfl (NLe.refl _) (fun _ _ h => h) (fun _ _ _ => rfl) (fun _ _ _ _ _ => rfl), hs.non, hs.apart, hs.data, hs.fresh, hs.own, hs.base, hs.old, hs.lent, hs.more.mono (w := w) (w' := w.drew) (Nat.le_refl _) (fun _ _ h => h.mono (w := w) (w' := w.drew) (NLe.refl _) (fun _ _ h => h) fun _ _ _ => rfl) hs.base fun _ _ h => .inl h, hs.stay⟩
 refine opOk_enter (f := ρ.f 169) (args := #[.pointer (some ⟨b, 0, none⟩)]) ?_ (hcall.mono ?_)
 ·have e169 : ∀ args w, (callFunc (ρ.f 169) args).run P w = .ok (.enter (ρ.f 169) args) w := enters_of L.f169 (by kernel_rfl) rfl
  have hcal : a.eval (.func (ρ.f 169)) = .func (.func (ρ.f 169)) #[] #[] := rfl
  unfold execOp
  simp only [ho]
  simp [resolve, hc, e1, hv, hcal, Deferred.ofValue, invoke, e169]
 ·rintro e w2 ⟨rfl, rfl⟩
  exact ⟨_, rfl, N, S, hs1, .cv _⟩
end
theorem fcs_get : ∀ (Fs : List FnT) (b j : Nat) (F : FnT), Fs[j]? = some F → ∃ r, (Tr.roots b (Fs.map (·.body)))[j]? = some r ∧ (fcs b Fs)[j]? = some ⟨F.name, F.params, r⟩
 | [], b, j, F, h => by simp at h
 | G :: Fs, b, j, F, h => by
  cases j with
  | zero => simp at h; subst h; exact ⟨_, rfl, rfl⟩
  | succ j =>
   obtain ⟨r, h1, h2⟩ := fcs_get Fs (b + G.body.size) j F (by simpa using h)
   exact ⟨r, by simpa [Tr.roots] using h1, by simpa [fcs] using h2⟩
theorem fcs_length : ∀ (Fs : List FnT) (b : Nat), (fcs b Fs).length = Fs.length
 | [], b => rfl
 | G :: Fs, b => by simp [fcs, fcs_length Fs]
theorem prog_seg {Fs : List FnT} (h : ∀ F ∈ Fs, FnTOk F) {j : Nat} {F : FnT} (hj : Fs[j]? = some F) : ∃ b q : Nat, (progOf Fs).funcs[j]? = some ⟨F.name, F.params, (q : Int)⟩ ∧ Seg (progOf Fs).nodes F.body b q := by
 obtain ⟨r, h1, h2⟩ := fcs_get Fs 0 j F hj
 obtain ⟨b, q, h3, h4⟩ := segs_kid (l := (progOf Fs).nodes) (ts := Fs.map (·.body)) (a := 0) (fun X hX => by
  obtain ⟨G, hG, rfl⟩ := List.mem_map.1 hX
  exact (h G hG).wf) (List.prefix_refl _) j F.body (by rw [List.getElem?_map, hj]; rfl)
 rw [h1] at h3
 obtain rfl := Option.some.inj h3
 exact ⟨b, q, h2, h4⟩
theorem comB_len (B : Nat) : ∀ ps : List Bs, (∀ x ∈ ps, x.length ≤ B) → (comB ps).length ≤ ps.length * (B + 2)
 | [], _ => by simp [comB]
 | [a], h => by have := h a (by simp); simp [comB]; omega
 | a :: b :: ps, h => by
  have h1 := h a (by simp)
  have := comB_len B (b :: ps) fun x hx => h x (by simp at hx ⊢; exact .inr hx)
  simp only [comB, List.length_append, List.length_cons, Nat.add_mul] at this ⊢
  omega
theorem check_le {p : Pg} (h : checkP p = 0) : p.nodes.length ≤ 600 ∧ p.funcs.length ≤ 16 ∧ ∀ f ∈ p.funcs, f.params.length ≤ 8 := by
 unfold checkP at h
 split at h
 ·cases h
 rename_i h1
 split at h
 ·cases h
 split at h
 ·cases h
 rename_i h3
 refine ⟨by omega, by omega, fun f hf => ?_⟩
 rcases Nat.lt_or_ge 8 f.params.length with h4 | h4
 ·exact absurd (.inl (List.any_eq_true.2 ⟨f, hf, by simpa using h4⟩)) h3
 ·exact h4
theorem tokens_long {s : Bs} (h : 4000 < s.length) : (tokens s).2.2 ≠ 0 := by
 unfold tokens
 rw [if_pos h]
 decide
theorem body_len {l : List Nd} {T : Tr} {b q : Nat} (hl : l.length ≤ 600) (hs : Seg l T b q) : (txP (T.pc 0)).length ≤ 10000000 := by
 have h1 := pc_len _ T 0 (Nat.le_refl _) hs.wf
 have h2 := hs.len_le.1
 have h3 := hs.len
 have h4 := Tr.ht_size _ T (Nat.le_refl _)
 have h5 : T.size * (1000 + 2 * (0 + T.ht)) ≤ 600 * (1000 + 2 * (0 + 600)) := Nat.mul_le_mul (by omega) (by omega)
 have h6 : tl (T.pc 0) = (txP (T.pc 0)).length := rfl
 omega
end Go.Proofs.YtglndfgmlminpaaGreatDoor
namespace Go.Proofs.YtglndfgmlminpaaGreatDoor
open Go.RowKit Go.Shelf
def ppM : List (Nat × Bool) := prM ++ [(3000000 + 70, true)]
theorem pdx {f : FuncId} {fn : Func} (hf : Tryz.prog.funcs[f]? = some fn) (hn : (fn.name == "runtime.NumGoroutine") = false) {args : List V} {res : V} (h : Body Tryz.prog (TM ppM) fn args res) : DCalls Tryz.prog f args res :=
 dcalls_of (tokM ppM) mixed hf hn h
theorem l169 : Lays.n169 Tryz.prog Tryz.lays156_ren := { Tryz.lays156 with }
abbrev prV (x : Bs × Int) : V := .tu [bstr x.1, int x.2]
theorem x_printN (p : Pg) (hp : PgOk p) (h : checkP p ≠ 0) : DCalls Tryz.prog 15 [p.V] (prV ([], checkP p)) := by
 refine pdx Tryz.func15 (by kernel_rfl) ?_
 conv => whnf
 refine ⟨_, x_check p hp, ?_⟩
 conv => whnf
 refine known true (by simpa using h) ?_
 (conv => whnf) <;> rfl
theorem x_print0 (hp : PgOk ⟨[], []⟩) : DCalls Tryz.prog 15 [Pg.V ⟨[], []⟩] (prV ([], 0)) := by
 have hc : checkP ⟨[], []⟩ = 0 := by decide
 refine pdx Tryz.func15 (by kernel_rfl) ?_
 conv => whnf
 refine ⟨_, x_check ⟨[], []⟩ hp, ?_⟩
 conv => whnf
 refine known false (by rw [hc]; rfl) ?_
 conv => whnf
 refine ⟨[], Unit, fun _ => [(23, int 0)], fun _ => [], fun _ => True, fun _ => 0, (), trivial, ?_, ?_⟩
 ·refine ⟨rfl, ?_, ?_⟩ <;> repeat' (first | exact trivial | exact rfl | refine and_rfl ?_ | refine and_two ?_ ?_)
 rintro _ _
 conv => whnf
 refine known false rfl ?_
 conv => whnf
 refine ⟨_, _, ot_string0 l169 Tryz.Builder_Extra_156 rfl rfl rfl rfl rfl rfl, ?_⟩
 conv => whnf
 refine ⟨_, x_tokens [] (by decide), ?_⟩
 conv => whnf
 refine known false (by rfl) ?_
 conv => whnf
 refine ⟨_, _, ot_string0 l169 Tryz.Builder_Extra_156 rfl rfl rfl rfl rfl rfl, ?_⟩
 (conv => whnf) <;> rfl
end Go.Proofs.YtglndfgmlminpaaGreatDoor
namespace Go.Proofs.YtglndfgmlminpaaGreatDoor
open Go.RowKit Go.Shelf
abbrev W (Fs : List FnT) (k : Nat) : Bs := txP (progPc (Fs.take k))
theorem x_printS (Fs : List FnT) (hF : ∀ F ∈ Fs, FnTOk F) (hc : checkP (progOf Fs) = 0) (hp : PgOk (progOf Fs)) (h0 : Fs ≠ []) : DCalls Tryz.prog 15 [(progOf Fs).V] (prV (printT Fs)) := by
 have hseg : ∀ (j : Nat) (F : FnT), Fs[j]? = some F → ∃ b q : Nat, (progOf Fs).funcs[j]? = some ⟨F.name, F.params, (q : Int)⟩ ∧ Seg (progOf Fs).nodes F.body b q := fun j F hj => prog_seg hF hj
 obtain ⟨hl6, hl16, hps⟩ := check_le hc
 have hlf : (progOf Fs).funcs.length = Fs.length := fcs_length Fs 0
 have hlong : ∀ j, 4000 < (W Fs j).length → printT Fs = ([], 3) := fun j h => by
  have h1 := tx_prog_le Fs j
  have h2 := tokens_long (s := txP (progPc Fs)) (by have h' : 4000 < (txP (progPc (Fs.take j))).length := h; omega)
  unfold printT
  rw [if_pos h2]
 have hfin : ∀ s, s = txP (progPc Fs) → (tokens s).2.2 ≠ 0 → printT Fs = ([], 3) := fun s e h => by
  subst e; unfold printT; rw [if_pos h]
 have hfin0 : ∀ s, s = txP (progPc Fs) → (tokens s).2.2 = 0 → printT Fs = (s, 0) := fun s e h => by
  subst e; unfold printT; rw [if_neg (by simp [h])]
 have hx := x_check (progOf Fs) hp
 rw [hc] at hx
 generalize progOf Fs = p at *
 have hll : (p.funcs.map fcD).length = Fs.length := by rw [List.length_map]; exact hlf
 have hlen16 : Fs.length ≤ 16 := by omega
 refine pdx Tryz.func15 (by kernel_rfl) ?_
 conv => whnf
 refine ⟨_, hx, ?_⟩
 conv => whnf
 refine known false rfl ?_
 conv => whnf
 rw [hll]
 refine ⟨[(1000000 + 1000 * 19 + 1, 60, 5, 1)], Nat, fun k => [(23, int k)], fun k => [(19, some (.box [(match k with | 0 => nilP | _ + 1 => .bx 19 0), .ow 60 0, .sl false 5 (p.nodes.map ndD)] (some 70))), (60, some (wRow (W Fs k)))], fun k => k ≤ Fs.length ∧ (W Fs k).length ≤ 4000, fun k => Fs.length - k, 0, ⟨Nat.zero_le _, by simp [W, progPc, txP]⟩, ?_, ?_⟩
 ·refine ⟨rfl, ?_, ?_⟩ <;> repeat' (first | exact trivial | exact rfl | refine and_rfl ?_ | refine and_two ?_ ?_)
 rintro (_ | k) ⟨hk, hWl⟩
 ·conv => whnf
  rintro (_ | _) h1
  ·exact absurd (by simpa using h1) h0
  have h1 : 0 < Fs.length := by simp at h1; omega
  have hw : IntKind.i64.wrap (((0 : Nat) : Int) + 1) = ((0 + 1 : Nat) : Int) := wrap_succ (by omega)
  obtain ⟨b, q, hf, hsg⟩ := hseg 0 Fs[0] (List.getElem?_eq_getElem h1)
  have hok := hF Fs[0] (List.getElem_mem h1)
  have hpl := hps _ (List.mem_of_getElem? hf)
  have e0 : W Fs (0 + 1) = W Fs (0) ++ txP Fs[0].pc := tx_prog_take h1
  rw [tx_func hok] at e0
  have hnm := x0_name hok.name
  have hpn := comB_len 24 Fs[0].params fun x hx => x0_name (hok.params x hx)
  have hbl := body_len hl6 hsg
  have hBk := p_block (by omega) hsg hok.kind
  have hg : (p.funcs.map fcD)[((0 : Nat) : Int).toNat]? = some [.cv (.string (mk Fs[0].name)), .sl 1 (Fs[0].params.map strD), .cv (.int .i64 (q : Int))] := by
   rw [Int.toNat_natCast, List.getElem?_map, hf]; rfl
  dsimp only at hpl
  generalize hW1 : W Fs (0 + 1) = W1 at e0
  generalize Fs[0].name = nm at *
  generalize Fs[0].params = ps at *
  generalize txP (Tr.pc 0 Fs[0].body) = B at *
  generalize W Fs (0) = A at *
  have hcl : (comB ps).length ≤ 8 * 26 := Nat.le_trans hpn (Nat.mul_le_mul_right _ hpl)
  conv => whnf
  refine ⟨Int.natCast_nonneg _, _, hg, ?_⟩
  conv => whnf
  refine ⟨none, by kernel_rfl, ?_⟩
  conv => whnf
  refine ⟨by rw [mk_size, size_d]; show 5 + _ ≤ _; omega, ?_⟩
  conv => whnf
  rw [catL]
  refine ⟨by rw [mk_size, size_d, List.length_append]; show 5 + _ + 1 ≤ _; omega, ?_⟩
  conv => whnf
  rw [catR]
  refine ⟨_, x_sjoin2 ps (by omega) (by omega), ?_⟩
  conv => whnf
  refine ⟨by rw [mk_size, mk_size, List.length_append, List.length_append]; show 5 + _ + 1 + _ ≤ _; omega, ?_⟩
  conv => whnf
  rw [mk_app]
  refine ⟨by rw [mk_size, size_d, List.length_append, List.length_append, List.length_append]; show 5 + _ + 1 + _ + 2 ≤ _; omega, ?_⟩
  conv => whnf
  rw [catR]
  refine mcall (T := TM ppM) (φ := []) (gf := false) (x_wsF (l := p.nodes) (bs := A) ([102, 117, 110, 99, 32] ++ nm ++ [40] ++ comB ps ++ [41, 32]) (by simp only [List.length_append, List.length_cons, List.length_nil]; omega)) ?_
  conv => whnf
  refine mcall (T := TM ppM) (φ := []) (gf := false) (hBk (A ++ ([102, 117, 110, 99, 32] ++ nm ++ [40] ++ comB ps ++ [41, 32])) (by simp only [List.length_append, List.length_cons, List.length_nil]; omega)) ?_
  conv => whnf
  refine mcall (T := TM ppM) (φ := []) (gf := false) (x_wbU (l := p.nodes) (bs := A ++ ([102, 117, 110, 99, 32] ++ nm ++ [40] ++ comB ps ++ [41, 32]) ++ B) 10 (by simp only [List.length_append, List.length_cons, List.length_nil]; omega)) ?_
  have e1 : A ++ ([102, 117, 110, 99, 32] ++ nm ++ [40] ++ comB ps ++ [41, 32]) ++ B ++ [10] = W1 := by rw [e0]; simp
  have hlw : W1.length ≤ 100000000 := by
   rw [← e1]; simp only [List.length_append, List.length_cons, List.length_nil]; omega
  rw [e1]
  conv => whnf
  refine mcall (T := TM ppM) (φ := []) (gf := false) (x_wlen (l := p.nodes) (bs := W1) (by omega)) ?_
  conv => whnf
  rintro (_ | _) h5
  ·have h5 : W1.length ≤ 4000 := by simp at h5; omega
   conv => whnf
   refine ⟨0 + 1, ⟨h1, by rw [hW1]; exact h5⟩, by (try dsimp only); omega, ?_⟩
   refine ⟨rfl, ?_, ?_⟩ <;> repeat' (first | exact trivial | exact rfl | (rw [hW1]; done) | (rw [hW1]; exact rfl) | refine and_rfl ?_ | refine and_val hw ?_ | refine and_two ?_ ?_)
  ·have h5 : 4000 < W1.length := by simp at h5; omega
   rw [hlong (0 + 1) (by rw [hW1]; exact h5)]
   (conv => whnf) <;> rfl
 ·conv => whnf
  rintro (_ | _) h1
  ·have h1 : Fs.length ≤ k + 1 := by simp at h1; omega
   have e : W Fs (k + 1) = txP (progPc Fs) := by
    show txP (progPc (Fs.take (k + 1))) = _
    rw [List.take_of_length_le h1]
   have hne : W Fs (k + 1) ≠ [] := by
    have h2 : k < Fs.length := by omega
    have e2 : W Fs (k + 1) = W Fs k ++ txP Fs[k].pc := tx_prog_take h2
    rw [tx_func (hF _ (List.getElem_mem h2))] at e2
    rw [e2]; simp
   generalize W Fs (k + 1) = s at *
   conv => whnf
   refine ⟨_, _, ot_string1 (l := s) l169 Tryz.Builder_Extra_156 rfl rfl rfl rfl rfl rfl hne rfl, ?_⟩
   conv => whnf
   refine ⟨_, x_tokens s (by omega), ?_⟩
   conv => whnf
   rintro (_ | _) h6
   ·have h6 : (tokens s).2.2 = 0 := by simpa using h6
    conv => whnf
    refine ⟨_, _, ot_string2 (l := s) l169 Tryz.Builder_Extra_156 rfl rfl rfl rfl rfl rfl hne rfl, ?_⟩
    rw [hfin0 s e h6]
    (conv => whnf) <;> rfl
   ·have h6 : (tokens s).2.2 ≠ 0 := by simpa using h6
    rw [hfin s e h6]
    (conv => whnf) <;> rfl
  have h1 : (k + 1) < Fs.length := by simp at h1; omega
  have hw : IntKind.i64.wrap ((((k + 1) : Nat) : Int) + 1) = (((k + 1) + 1 : Nat) : Int) := wrap_succ (by omega)
  obtain ⟨b, q, hf, hsg⟩ := hseg (k + 1) Fs[(k + 1)] (List.getElem?_eq_getElem h1)
  have hok := hF Fs[(k + 1)] (List.getElem_mem h1)
  have hpl := hps _ (List.mem_of_getElem? hf)
  have e0 : W Fs ((k + 1) + 1) = W Fs ((k + 1)) ++ txP Fs[(k + 1)].pc := tx_prog_take h1
  rw [tx_func hok] at e0
  have hnm := x0_name hok.name
  have hpn := comB_len 24 Fs[(k + 1)].params fun x hx => x0_name (hok.params x hx)
  have hbl := body_len hl6 hsg
  have hBk := p_block (by omega) hsg hok.kind
  have hg : (p.funcs.map fcD)[(((k + 1) : Nat) : Int).toNat]? = some [.cv (.string (mk Fs[(k + 1)].name)), .sl 1 (Fs[(k + 1)].params.map strD), .cv (.int .i64 (q : Int))] := by
   rw [Int.toNat_natCast, List.getElem?_map, hf]; rfl
  dsimp only at hpl
  generalize hW1 : W Fs ((k + 1) + 1) = W1 at e0
  generalize Fs[(k + 1)].name = nm at *
  generalize Fs[(k + 1)].params = ps at *
  generalize txP (Tr.pc 0 Fs[(k + 1)].body) = B at *
  generalize W Fs ((k + 1)) = A at *
  have hcl : (comB ps).length ≤ 8 * 26 := Nat.le_trans hpn (Nat.mul_le_mul_right _ hpl)
  conv => whnf
  refine ⟨Int.natCast_nonneg _, _, hg, ?_⟩
  conv => whnf
  refine ⟨none, by kernel_rfl, ?_⟩
  conv => whnf
  refine ⟨by rw [mk_size, size_d]; show 5 + _ ≤ _; omega, ?_⟩
  conv => whnf
  rw [catL]
  refine ⟨by rw [mk_size, size_d, List.length_append]; show 5 + _ + 1 ≤ _; omega, ?_⟩
  conv => whnf
  rw [catR]
  refine ⟨_, x_sjoin2 ps (by omega) (by omega), ?_⟩
  conv => whnf
  refine ⟨by rw [mk_size, mk_size, List.length_append, List.length_append]; show 5 + _ + 1 + _ ≤ _; omega, ?_⟩
  conv => whnf
  rw [mk_app]
  refine ⟨by rw [mk_size, size_d, List.length_append, List.length_append, List.length_append]; show 5 + _ + 1 + _ + 2 ≤ _; omega, ?_⟩
  conv => whnf
  rw [catR]
  refine mcall (T := TM ppM) (φ := []) (gf := false) (x_wsU (l := p.nodes) (bs := A) ([102, 117, 110, 99, 32] ++ nm ++ [40] ++ comB ps ++ [41, 32]) (by simp only [List.length_append, List.length_cons, List.length_nil]; omega)) ?_
  conv => whnf
  refine mcall (T := TM ppM) (φ := []) (gf := false) (hBk (A ++ ([102, 117, 110, 99, 32] ++ nm ++ [40] ++ comB ps ++ [41, 32])) (by simp only [List.length_append, List.length_cons, List.length_nil]; omega)) ?_
  conv => whnf
  refine mcall (T := TM ppM) (φ := []) (gf := false) (x_wbU (l := p.nodes) (bs := A ++ ([102, 117, 110, 99, 32] ++ nm ++ [40] ++ comB ps ++ [41, 32]) ++ B) 10 (by simp only [List.length_append, List.length_cons, List.length_nil]; omega)) ?_
  have e1 : A ++ ([102, 117, 110, 99, 32] ++ nm ++ [40] ++ comB ps ++ [41, 32]) ++ B ++ [10] = W1 := by rw [e0]; simp
  have hlw : W1.length ≤ 100000000 := by
   rw [← e1]; simp only [List.length_append, List.length_cons, List.length_nil]; omega
  rw [e1]
  conv => whnf
  refine mcall (T := TM ppM) (φ := []) (gf := false) (x_wlen (l := p.nodes) (bs := W1) (by omega)) ?_
  conv => whnf
  rintro (_ | _) h5
  ·have h5 : W1.length ≤ 4000 := by simp at h5; omega
   conv => whnf
   refine ⟨(k + 1) + 1, ⟨h1, by rw [hW1]; exact h5⟩, by (try dsimp only); omega, ?_⟩
   refine ⟨rfl, ?_, ?_⟩ <;> repeat' (first | exact trivial | exact rfl | (rw [hW1]; done) | (rw [hW1]; exact rfl) | refine and_rfl ?_ | refine and_val hw ?_ | refine and_two ?_ ?_)
  ·have h5 : 4000 < W1.length := by simp at h5; omega
   rw [hlong ((k + 1) + 1) (by rw [hW1]; exact h5)]
   (conv => whnf) <;> rfl
theorem x_printOk (Fs : List FnT) (hF : ∀ F ∈ Fs, FnTOk F) (hc : checkP (progOf Fs) = 0) (hp : PgOk (progOf Fs)) : DCalls Tryz.prog 15 [(progOf Fs).V] (prV (printT Fs)) := by
 by_cases h0 : Fs = []
 ·subst h0
  exact x_print0 hp
 ·exact x_printS Fs hF hc hp h0
end Go.Proofs.YtglndfgmlminpaaGreatDoor
namespace Go.Proofs.YtglndfgmlminpaaGreatDoor
open Go.RowKit
theorem ne_lit (b : ByteArray) : (!(b.toList == b.toList)) = false := by simp
theorem x_equal (p : Pg) (hp : PgOk p) : DCalls Tryz.prog 22 [p.V, p.V] (boo true) := by
 obtain ⟨ns, fs⟩ := p
 obtain ⟨⟨hn1, hn2⟩, hf1, hf2⟩ := hp
 dsimp only at hn1 hn2 hf1 hf2
 have hln : (ns.map ndD).length = ns.length := List.length_map _
 have hlf : (fs.map fcD).length = fs.length := List.length_map _
 refine sx Tryz.func22 (by kernel_rfl) ?_
 conv => whnf
 refine known false (bne_self_eq_false _) ?_
 conv => whnf
 refine known false (bne_self_eq_false _) ?_
 conv => whnf
 refine ⟨[], Nat, fun k => [(5, int k)], fun _ => [], fun k => k ≤ ns.length, fun k => ns.length - k, 0, Nat.zero_le _, ?_, ?_⟩
 ·refine ⟨rfl, ?_, ?_⟩ <;> repeat' (first | exact trivial | exact rfl | refine and_rfl ?_ | refine and_two ?_ ?_)
 rintro k hk
 conv => whnf
 rintro (_ | _) h1
 rotate_left
 ·have h1 : k < ns.length := by simp at h1; omega
  have hwk : IntKind.i64.wrap (((k : Nat) : Int) + 1) = ((k + 1 : Nat) : Int) := wrap_succ (by omega)
  have hg : (ns.map ndD)[((k : Nat) : Int).toNat]? = some (ndD ns[k]) := get_map ndD h1
  have hno := hn2 ns[k] (List.getElem_mem h1)
  generalize ns[k] = n at hg hno
  obtain ⟨kd, s, v, ks, js⟩ := n
  obtain ⟨_, hk1, _, hk3⟩ := hno
  dsimp only at hk1 hk3
  have hlk : (ks.map strD).length = ks.length := List.length_map _
  have hlj : (js.map intD).length = js.length := List.length_map _
  replace hg : (ns.map ndD)[((k : Nat) : Int).toNat]? = some [.cv (.int .i64 kd), .cv (.string (mk s)), .cv (.int .i64 v), .sl 1 (ks.map strD), .sl 1 (js.map intD)] := hg
  conv => whnf
  refine ⟨Int.natCast_nonneg k, _, hg, ?_⟩
  conv => whnf
  refine ⟨Int.natCast_nonneg k, _, hg, ?_⟩
  conv => whnf
  refine known false (bne_self_eq_false _) ?_
  conv => whnf
  refine known false (ne_lit _) ?_
  conv => whnf
  refine known false (bne_self_eq_false _) ?_
  conv => whnf
  refine known false (bne_self_eq_false _) ?_
  conv => whnf
  refine known false (bne_self_eq_false _) ?_
  conv => whnf
  refine ⟨[], Nat, fun j => [(8, int j)], fun _ => [], fun j => j ≤ ks.length, fun j => ks.length - j, 0, Nat.zero_le _, ?_, ?_⟩
  ·refine ⟨rfl, ?_, ?_⟩ <;> repeat' (first | exact trivial | exact rfl | refine and_rfl ?_ | refine and_two ?_ ?_)
  rintro j hj
  conv => whnf
  rintro (_ | _) h2
  rotate_left
  ·have h2 : j < ks.length := by simp at h2; omega
   have hwj : IntKind.i64.wrap (((j : Nat) : Int) + 1) = ((j + 1 : Nat) : Int) := wrap_succ (by omega)
   have hg2 : (ks.map strD)[((j : Nat) : Int).toNat]? = some (strD ks[j]) := get_map strD h2
   conv => whnf
   refine ⟨none, by kernel_rfl, ?_⟩
   conv => whnf
   refine ⟨Int.natCast_nonneg j, _, hg2, ?_⟩
   conv => whnf
   refine ⟨Int.natCast_nonneg j, _, hg2, ?_⟩
   conv => whnf
   refine known false (ne_lit _) ?_
   conv => whnf
   refine ⟨j + 1, h2, by (try dsimp only); omega, ?_⟩
   refine ⟨rfl, ?_, ?_⟩ <;> repeat' (first | exact trivial | exact rfl | refine and_rfl ?_ | refine and_val hwj ?_ | refine and_two ?_ ?_)
  conv => whnf
  refine ⟨[], Nat, fun j => [(9, int j)], fun _ => [], fun j => j ≤ js.length, fun j => js.length - j, 0, Nat.zero_le _, ?_, ?_⟩
  ·refine ⟨rfl, ?_, ?_⟩ <;> repeat' (first | exact trivial | exact rfl | refine and_rfl ?_ | refine and_two ?_ ?_)
  rintro j' hj'
  conv => whnf
  rintro (_ | _) h3
  rotate_left
  ·have h3 : j' < js.length := by simp at h3; omega
   have hwj : IntKind.i64.wrap (((j' : Nat) : Int) + 1) = ((j' + 1 : Nat) : Int) := wrap_succ (by omega)
   have hg2 : (js.map intD)[((j' : Nat) : Int).toNat]? = some (intD js[j']) := get_map intD h3
   conv => whnf
   refine ⟨none, by kernel_rfl, ?_⟩
   conv => whnf
   refine ⟨Int.natCast_nonneg j', _, hg2, ?_⟩
   conv => whnf
   refine ⟨Int.natCast_nonneg j', _, hg2, ?_⟩
   conv => whnf
   refine known false (bne_self_eq_false _) ?_
   conv => whnf
   refine ⟨j' + 1, h3, by (try dsimp only); omega, ?_⟩
   refine ⟨rfl, ?_, ?_⟩ <;> repeat' (first | exact trivial | exact rfl | refine and_rfl ?_ | refine and_val hwj ?_ | refine and_two ?_ ?_)
  conv => whnf
  refine ⟨k + 1, h1, by (try dsimp only); omega, ?_⟩
  refine ⟨rfl, ?_, ?_⟩ <;> repeat' (first | exact trivial | exact rfl | refine and_rfl ?_ | refine and_val hwk ?_ | refine and_two ?_ ?_)
 conv => whnf
 refine ⟨[], Nat, fun k => [(10, int k)], fun _ => [], fun k => k ≤ fs.length, fun k => fs.length - k, 0, Nat.zero_le _, ?_, ?_⟩
 ·refine ⟨rfl, ?_, ?_⟩ <;> repeat' (first | exact trivial | exact rfl | refine and_rfl ?_ | refine and_two ?_ ?_)
 rintro m hm
 conv => whnf
 rintro (_ | _) h4
 ·(conv => whnf) <;> rfl
 have h4 : m < fs.length := by simp at h4; omega
 have hwm : IntKind.i64.wrap (((m : Nat) : Int) + 1) = ((m + 1 : Nat) : Int) := wrap_succ (by omega)
 have hg : (fs.map fcD)[((m : Nat) : Int).toNat]? = some (fcD fs[m]) := get_map fcD h4
 have hfo := hf2 fs[m] (List.getElem_mem h4)
 generalize fs[m] = f at hg hfo
 obtain ⟨nm, ps, bd⟩ := f
 obtain ⟨_, hp1, _⟩ := hfo
 dsimp only at hp1
 have hlp : (ps.map strD).length = ps.length := List.length_map _
 replace hg : (fs.map fcD)[((m : Nat) : Int).toNat]? = some [.cv (.string (mk nm)), .sl 1 (ps.map strD), .cv (.int .i64 bd)] := hg
 conv => whnf
 refine ⟨none, by kernel_rfl, ?_⟩
 conv => whnf
 refine ⟨Int.natCast_nonneg m, _, hg, ?_⟩
 conv => whnf
 refine ⟨Int.natCast_nonneg m, _, hg, ?_⟩
 conv => whnf
 refine known false (ne_lit _) ?_
 conv => whnf
 refine ⟨Int.natCast_nonneg m, _, hg, ?_⟩
 conv => whnf
 refine ⟨Int.natCast_nonneg m, _, hg, ?_⟩
 conv => whnf
 refine known false (bne_self_eq_false _) ?_
 conv => whnf
 refine ⟨Int.natCast_nonneg m, _, hg, ?_⟩
 conv => whnf
 refine ⟨Int.natCast_nonneg m, _, hg, ?_⟩
 conv => whnf
 refine known false (bne_self_eq_false _) ?_
 conv => whnf
 refine ⟨[], Nat, fun j => [(11, int j)], fun _ => [], fun j => j ≤ ps.length, fun j => ps.length - j, 0, Nat.zero_le _, ?_, ?_⟩
 ·refine ⟨rfl, ?_, ?_⟩ <;> repeat' (first | exact trivial | exact rfl | refine and_rfl ?_ | refine and_two ?_ ?_)
 rintro j hj
 conv => whnf
 refine ⟨Int.natCast_nonneg m, _, hg, ?_⟩
 conv => whnf
 rintro (_ | _) h5
 rotate_left
 ·have h5 : j < ps.length := by simp at h5; omega
  have hwj : IntKind.i64.wrap (((j : Nat) : Int) + 1) = ((j + 1 : Nat) : Int) := wrap_succ (by omega)
  have hg2 : (ps.map strD)[((j : Nat) : Int).toNat]? = some (strD ps[j]) := get_map strD h5
  conv => whnf
  refine ⟨none, by kernel_rfl, ?_⟩
  conv => whnf
  refine ⟨Int.natCast_nonneg m, _, hg, ?_⟩
  conv => whnf
  refine ⟨Int.natCast_nonneg j, _, hg2, ?_⟩
  conv => whnf
  refine ⟨Int.natCast_nonneg m, _, hg, ?_⟩
  conv => whnf
  refine ⟨Int.natCast_nonneg j, _, hg2, ?_⟩
  conv => whnf
  refine known false (ne_lit _) ?_
  conv => whnf
  refine ⟨j + 1, h5, by (try dsimp only); omega, ?_⟩
  refine ⟨rfl, ?_, ?_⟩ <;> repeat' (first | exact trivial | exact rfl | refine and_rfl ?_ | refine and_val hwj ?_ | refine and_two ?_ ?_)
 conv => whnf
 refine ⟨m + 1, h4, by (try dsimp only); omega, ?_⟩
 refine ⟨rfl, ?_, ?_⟩ <;> repeat' (first | exact trivial | exact rfl | refine and_rfl ?_ | refine and_val hwm ?_ | refine and_two ?_ ?_)
end Go.Proofs.YtglndfgmlminpaaGreatDoor
namespace Go.Proofs.YtglndfgmlminpaaGreatDoor
open Go.RowKit
def fdM : List (Nat × Bool) := [(49, false), (48, false)]
def findN (x : Bs) : List Fc → Nat → Int
 | [], _ => -1
 | s :: l, i => if s.name == x then i else findN x l (i + 1)
theorem findN_cons (x : Bs) (s : Fc) (l : List Fc) (i : Nat) : findN x (s :: l) i = if s.name == x then (i : Int) else findN x l (i + 1) := rfl
theorem x_fnd1 (f : Fc) (x : Bs) : MCalls Tryz.prog 49 [.ag [bstr f.name, .sl false 1 (f.params.map strD), int f.body], .bx 0 0] [.box [bstr x]] (boo (sEq (mk f.name) (mk x))) [.box [bstr x]] := by
 refine msx Tryz.func49 (by kernel_rfl) (by kernel_rfl) ?_
 exact ⟨rfl, rfl, rfl⟩
theorem x_indexFc (l : List Fc) (x : Bs) (hl : l.length ≤ 8796093022207) :
  MCalls Tryz.prog 48 [.sl false 3 (l.map fcD), .fn 49 0 [.bx 0 0]] [.box [bstr x]] (int (findN x l 0)) [.box [bstr x]] := by
 refine msxm fdM Tryz.func48 (by kernel_rfl) (by kernel_rfl) ?_
 conv => whnf
 refine ⟨[], Nat, fun k => [(8, int k)], fun _ => [], fun k => k ≤ l.length ∧ findN x (l.drop k) k = findN x l 0, fun k => l.length - k, 0, ⟨by simp, rfl⟩, ?_, ?_⟩
 ·refine ⟨rfl, ?_, ?_⟩ <;> repeat' (first | exact trivial | exact rfl | refine and_rfl ?_ | refine and_two ?_ ?_)
 rintro k ⟨hk, hf⟩
 conv => whnf
 rintro (_ | _) h1
 ·have h1 : l.length ≤ k := by simp at h1; omega
  rw [List.drop_eq_nil_of_le h1] at hf
  exact ⟨rfl, rfl, by rw [← hf]; rfl⟩
 have h1 : k < l.length := by simp at h1; omega
 rw [List.drop_eq_getElem_cons h1, findN_cons] at hf
 conv => whnf
 refine ⟨by omega, _, get_map fcD h1, ?_⟩
 conv => whnf
 refine mcall (T := TM fdM) (φ := []) (x_fnd1 l[k] x) ?_
 conv => whnf
 rintro (_ | _) h2
 ·rw [sEq_mk] at h2
  rw [h2, if_neg (by simp)] at hf
  conv => whnf
  refine ⟨k + 1, ⟨h1, hf⟩, by dsimp only; omega, ?_⟩
  refine ⟨rfl, ?_, ?_⟩ <;> repeat' (first | exact trivial | exact rfl | refine and_rfl ?_ | refine and_val (wrap_succ (by omega)) ?_ | refine and_two ?_ ?_)
 ·rw [sEq_mk] at h2
  rw [h2, if_pos rfl] at hf
  exact ⟨rfl, rfl, by rw [← hf]; rfl⟩
theorem x_sfind (p : Pg) (x : Bs) (hl : p.funcs.length ≤ 8796093022207) : DCalls Tryz.prog 20 [p.V, bstr x] (int (findN x p.funcs 0)) := by
 refine sxm fdM Tryz.func20 (by kernel_rfl) ?_
 conv => whnf
 refine mcall (T := TM fdM) (φ := []) (x_indexFc p.funcs x hl) ?_
 rfl
end Go.Proofs.YtglndfgmlminpaaGreatDoor
namespace Go.Proofs.YtglndfgmlminpaaGreatDoor
def exS1 : Bs := [102, 117, 110, 99, 32, 109, 97, 105, 110, 40, 101, 41, 32, 123, 32, 114, 101, 116, 117, 114, 110, 32, 101, 43, 49, 42, 50, 59, 32, 125]
def exS2 : Bs := [102, 117, 110, 99, 32, 109, 97, 105, 110, 40, 101, 41, 32, 123, 32, 114, 101, 116, 117, 114, 110, 32, 49, 32, 60, 32, 50, 32, 60, 32, 51, 59, 32, 125]
def exS3 : Bs := [102, 117, 110, 99, 32, 109, 97, 105, 110, 40, 101, 41, 32, 123, 32, 114, 101, 116, 117, 114, 110, 32, 40, 101, 43, 49, 41, 42, 50, 59, 32, 125]
def exS4 : Bs := [102, 117, 110, 99, 32, 109, 97, 105, 110, 40, 101, 41, 32, 123, 32, 114, 101, 116, 117, 114, 110, 32, 123, 34, 98, 34, 58, 32, 49, 44, 32, 34, 97, 34, 58, 32, 50, 125, 59, 32, 125]
def exT1 : Bs := [102, 117, 110, 99, 32, 109, 97, 105, 110, 40, 101, 41, 32, 123, 10, 9, 114, 101, 116, 117, 114, 110, 32, 101, 32, 43, 32, 49, 32, 42, 32, 50, 59, 10, 125, 10]
def exT3 : Bs := [102, 117, 110, 99, 32, 109, 97, 105, 110, 40, 101, 41, 32, 123, 10, 9, 114, 101, 116, 117, 114, 110, 32, 40, 101, 32, 43, 32, 49, 41, 32, 42, 32, 50, 59, 10, 125, 10]
def exE : Tr := .node ⟨5, [101], 0, []⟩ []
def exI (n : Int) : Tr := .node ⟨3, [], n, []⟩ []
def exB (op : Bs) (x y : Tr) : Tr := .node ⟨9, op, 0, []⟩ [x, y]
def exF (x : Tr) : FnT := ⟨[109, 97, 105, 110], [[101]], .node ⟨19, [], 0, []⟩ [.node ⟨17, [], 0, []⟩ [x]]⟩
def exF1 : FnT := exF (exB [43] exE (exB [42] (exI 1) (exI 2)))
def exF3 : FnT := exF (exB [42] (exB [43] exE (exI 1)) (exI 2))
theorem ex_parse1 : parseP exS1 = (progOf [exF1], 0, 0) := by kernel_rfl
theorem ex_parse2 : parseP exS2 = (⟨[], []⟩, 28, 1) := by kernel_rfl
theorem ex_parse3 : parseP exS3 = (progOf [exF3], 0, 0) := by kernel_rfl
theorem ex_parse4 : parseP exS4 = (⟨[], []⟩, 31, 1) := by kernel_rfl
theorem ex_ok1 : FnTOk exF1 := ⟨by kernel_rfl, fun s hs => by obtain rfl := List.mem_singleton.1 hs; kernel_rfl, rfl, by kernel_rfl⟩
theorem ex_ok3 : FnTOk exF3 := ⟨by kernel_rfl, fun s hs => by obtain rfl := List.mem_singleton.1 hs; kernel_rfl, rfl, by kernel_rfl⟩
theorem ex_check1 : checkP (progOf [exF1]) = 0 := by kernel_rfl
theorem ex_check3 : checkP (progOf [exF3]) = 0 := by kernel_rfl
theorem ex_deep1 : deepF (progOf [exF1]) = 5 := by kernel_rfl
theorem itoa_d (n : Nat) (h : n < 10) : Lib.itoa (n : Int) = [UInt8.ofNat (48 + n)] := by
 rw [Lib.itoa_nonneg, decDigits_lt h]
theorem ex_i1 : textT ⟨3, [], 1, 0⟩ = ([49], 0) := by
 unfold textT
 rw [if_pos ⟨rfl, rfl, by decide, by decide⟩, show (1 : Int) = ((1 : Nat) : Int) from rfl, itoa_d 1 (by omega)]; rfl
theorem ex_i2 : textT ⟨3, [], 2, 0⟩ = ([50], 0) := by
 unfold textT
 rw [if_pos ⟨rfl, rfl, by decide, by decide⟩, show (2 : Int) = ((2 : Nat) : Int) from rfl, itoa_d 2 (by omega)]; rfl
theorem txP_t (k : Tok) (l : List Pc) : txP (.t k :: l) = (textT k).1 ++ txP l := rfl
theorem txP_b (s : Bs) (l : List Pc) : txP (.b s :: l) = s ++ txP l := rfl
theorem ex_pc1 : progPc [exF1] = [.t (wd wFunc), sp1, .t (tk 1 [109, 97, 105, 110]), .t (sy sLP), .t (tk 1 [101]), .t (sy sRP), sp1, .t (sy sLC), nl 1, .t (wd wReturn), sp1, .t (tk 1 [101]), sp1, .t (sy [43]), sp1, .t ⟨3, [], 1, 0⟩, sp1, .t (sy [42]), sp1, .t ⟨3, [], 2, 0⟩, .t (sy sSc), nl 0, .t (sy sRC), nl 0] := by kernel_rfl
theorem ex_pc3 : progPc [exF3] = [.t (wd wFunc), sp1, .t (tk 1 [109, 97, 105, 110]), .t (sy sLP), .t (tk 1 [101]), .t (sy sRP), sp1, .t (sy sLC), nl 1, .t (wd wReturn), sp1, .t (sy sLP), .t (tk 1 [101]), sp1, .t (sy [43]), sp1, .t ⟨3, [], 1, 0⟩, .t (sy sRP), sp1, .t (sy [42]), sp1, .t ⟨3, [], 2, 0⟩, .t (sy sSc), nl 0, .t (sy sRC), nl 0] := by kernel_rfl
theorem ex_text1 : txP (progPc [exF1]) = exT1 := by
 rw [ex_pc1]
 simp only [txP_t, txP_b, ex_i1, ex_i2]
 kernel_rfl
theorem ex_text3 : txP (progPc [exF3]) = exT3 := by
 rw [ex_pc3]
 simp only [txP_t, txP_b, ex_i1, ex_i2]
 kernel_rfl
theorem ex_print1 : printT [exF1] = (exT1, 0) := by
 unfold printT
 rw [ex_text1, if_neg (by rw [show (tokens exT1).2.2 = 0 by kernel_rfl]; simp)]
theorem ex_print3 : printT [exF3] = (exT3, 0) := by
 unfold printT
 rw [ex_text3, if_neg (by rw [show (tokens exT3).2.2 = 0 by kernel_rfl]; simp)]
end Go.Proofs.YtglndfgmlminpaaGreatDoor
namespace Go.Proofs.YtglndfgmlminpaaGreatDoor
open Go.RowKit
def tokOk (l : List Tok) : Prop := ∀ t ∈ l, t.text.length ≤ 1000000 ∧ -9223372036854775808 ≤ t.val ∧ t.val ≤ 9223372036854775807
theorem x_join (l : List Tok) (hok : tokOk l) (hl : l.length ≤ 8796093022207) : DCalls Tryz.prog 24 [toks l] (teV (joinT l)) := by
 refine sx Tryz.func24 (by kernel_rfl) ?_
 conv => whnf
 rintro (_ | _) h0
 rotate_left
 ·simp at h0
  rw [show joinT l = ([], 3) by unfold joinT; rw [if_pos (by omega)]]
  (conv => whnf) <;> rfl
 have h0 : l.length ≤ 1000 := by simp at h0; omega
 have hj : joinT l = if (texts l).2 ≠ 0 then ([], (texts l).2) else if (joinSp (texts l).1).length > 4000 then ([], 3) else (joinSp (texts l).1, 0) := by unfold joinT; rw [if_neg (by omega)]
 rw [hj]
 have hlong : (joinSp (texts l).1).length ≤ 1000 * 2000014 := by
  refine Nat.le_trans (joinSp_len _ 2000013 fun x hx => ?_) (Nat.mul_le_mul_right _ (Nat.le_trans (texts_len l) h0))
  obtain ⟨t, h1, rfl⟩ := texts_mem l x hx
  have := textT_len t
  have := (hok t h1).1
  omega
 have htl := texts_len l
 have hE : (texts l).2 ≠ 0 → (texts l).1 = [] := texts_err l
 generalize hR : texts l = R at *
 conv => whnf
 refine ⟨[(4, 30, 9, 1)], Nat × List Bs, fun ⟨k, acc⟩ => [(15, int k), (4, .ow 30 0), (6, .un)], fun ⟨k, acc⟩ => [(30, some (.row 0 9 1 true (acc.map strD))), (6, none)], fun ⟨k, acc⟩ => k ≤ l.length ∧ acc.length ≤ k ∧ R = (if (texts (l.drop k)).2 = 0 then (acc ++ (texts (l.drop k)).1, 0) else ([], (texts (l.drop k)).2)), fun x => l.length - x.1, (0, []), ⟨Nat.zero_le _, by simp, by
   rw [List.drop_zero, hR]
   by_cases h : R.2 = 0
   ·rw [if_pos h, List.nil_append, ← h]
   ·rw [if_neg h, ← hE h]⟩, ?_, ?_⟩
 ·refine ⟨rfl, ?_, ?_⟩ <;> repeat' (first | exact trivial | exact rfl | refine and_rfl ?_ | refine and_two ?_ ?_)
 rintro ⟨k, acc⟩ ⟨hk1, hk2, hk⟩
 conv => whnf
 rintro (_ | _) h2
 ·have h2 : l.length ≤ k := by simp at h2; omega
  rw [List.drop_eq_nil_of_le h2, show texts [] = ([], 0) from rfl, if_pos rfl, List.append_nil] at hk
  subst hk
  dsimp only at hlong htl ⊢
  rw [if_neg (by simp)]
  conv => whnf
  refine ⟨_, x_sjoin acc (by omega) (by omega), ?_⟩
  conv => whnf
  rintro (_ | _) h3
  ·rw [if_neg (by simp [mk_size] at h3; omega)]
   (conv => whnf) <;> rfl
  ·rw [if_pos (by simp [mk_size] at h3; omega)]
   (conv => whnf) <;> rfl
 have h2 : k < l.length := by simp at h2; omega
 rw [List.drop_eq_getElem_cons h2, texts_cons] at hk
 obtain ⟨o1, o2, o3⟩ := hok l[k] (List.getElem_mem h2)
 conv => whnf
 refine ⟨by omega, _, get_map tokD h2, ?_⟩
 conv => whnf
 refine ⟨_, x_textOf l[k] o1 ⟨o2, o3⟩, ?_⟩
 conv => whnf
 rintro (_ | _) h4
 rotate_left
 ·have h4 : (textT l[k]).2 ≠ 0 := by simpa using h4
  rw [if_neg h4, if_neg h4] at hk
  subst hk
  rw [if_pos h4]
  (conv => whnf) <;> rfl
 have h4 : (textT l[k]).2 = 0 := by simpa using h4
 rw [if_pos h4] at hk
 conv => whnf
 refine ⟨by simp; omega, ?_⟩
 conv => whnf
 refine ⟨(k + 1, acc ++ [(textT l[k]).1]), ⟨h2, by simp; omega, by
  rw [hk]
  by_cases h : (texts (l.drop (k + 1))).2 = 0
  ·rw [if_pos h, if_pos h, if_pos rfl]; simp
  ·rw [if_neg h, if_neg h, if_neg h]⟩, by dsimp only; omega, ?_⟩
 refine ⟨rfl, ?_, ?_⟩ <;> repeat' (first | exact trivial | exact rfl | refine and_rfl ?_ | refine and_val (wrap_succ (by omega)) ?_ | refine and_two ?_ ?_ | (simp [strD]; done))
end Go.Proofs.YtglndfgmlminpaaGreatDoor
namespace Go.Proofs.YtglndfgmlminpaaGreatDoor
open Go.RowKit
theorem pnlit {a : Bs} {d : Array UInt8} {b : Bool} (h : (a == d.toList) = b) : (!((mk a).toList == (⟨d⟩ : ByteArray).toList)) = !b := by rw [litE, h]
theorem pg_nil : PgOk ⟨[], []⟩ := ⟨⟨by simp, by simp⟩, by simp, by simp⟩
theorem parse_PgOk (s : Bs) : PgOk (parseP s).1 := by
 unfold parseP
 split
 ·exact pg_nil
 split
 ·exact pg_nil
 ·rename_i p hp
  split
  ·exact pg_nil
  ·exact prog_ok hp
def exP1 : Pg := ⟨[⟨5, [101], 0, [], []⟩, ⟨3, [], 1, [], []⟩, ⟨3, [], 2, [], []⟩, ⟨9, [42], 0, [], [1, 2]⟩, ⟨9, [43], 0, [], [0, 3]⟩, ⟨17, [], 0, [], [4]⟩, ⟨19, [], 0, [], [5]⟩], [⟨[109, 97, 105, 110], [[101]], 6⟩]⟩
def exP3 : Pg := ⟨[⟨5, [101], 0, [], []⟩, ⟨3, [], 1, [], []⟩, ⟨9, [43], 0, [], [0, 1]⟩, ⟨3, [], 2, [], []⟩, ⟨9, [42], 0, [], [2, 3]⟩, ⟨17, [], 0, [], [4]⟩, ⟨19, [], 0, [], [5]⟩], [⟨[109, 97, 105, 110], [[101]], 6⟩]⟩
theorem ex_p1 : progOf [exF1] = exP1 := by kernel_rfl
theorem ex_p3 : progOf [exF3] = exP3 := by kernel_rfl
theorem ex_same13 : sameP exP1 exP3 = false := by kernel_rfl
theorem ex_same11 : sameP exP1 exP1 = true := by kernel_rfl
theorem ex_ok : PgOk exP1 := by
 have := parse_PgOk exS1
 rw [ex_parse1, ex_p1] at this
 exact this
theorem ex_ok3' : PgOk exP3 := by
 have := parse_PgOk exS3
 rw [ex_parse3, ex_p3] at this
 exact this
theorem ex_big : PgBig exP1 := ⟨by decide, by decide, by decide, by decide, by decide⟩
abbrev AwakeS : Prop := DCalls Tryz.prog 12 [] (boo true)
theorem x_awakeS : AwakeS := by
 have h1 := x_sparseP exS1 (by decide)
 rw [ex_parse1, ex_p1] at h1
 have h2 := x_sparseP exS2 (by decide)
 rw [ex_parse2] at h2
 have h3 := x_sparseP exS3 (by decide)
 rw [ex_parse3, ex_p3] at h3
 have h4 := x_sparseP exS4 (by decide)
 rw [ex_parse4] at h4
 have p1 := x_printOk [exF1] (fun F hF => by obtain rfl := List.mem_singleton.1 hF; exact ex_ok1) ex_check1 (by rw [ex_p1]; exact ex_ok)
 rw [ex_print1, ex_p1] at p1
 have p3 := x_printOk [exF3] (fun F hF => by obtain rfl := List.mem_singleton.1 hF; exact ex_ok3) ex_check3 (by rw [ex_p3]; exact ex_ok3')
 rw [ex_print3, ex_p3] at p3
 have hc0 : checkP exP1 = 0 := by rw [← ex_p1]; exact ex_check1
 have hck := x_check exP1 ex_ok
 rw [hc0] at hck
 have hdp := x_sdepth exP1 ex_ok
 rw [if_pos hc0, ← ex_p1, ex_deep1, ex_p1] at hdp
 have f1 := x_sfind exP1 [109, 97, 105, 110] (by decide)
 rw [show findN [109, 97, 105, 110] exP1.funcs 0 = 0 by kernel_rfl] at f1
 have f2 := x_sfind exP1 [120] (by decide)
 rw [show findN [120] exP1.funcs 0 = -1 by kernel_rfl] at f2
 have s1 := x_samePg exP1 exP3 ex_big
 rw [ex_same13] at s1
 have s2 := x_samePg exP1 exP1 ex_big
 rw [ex_same11] at s2
 refine sx Tryz.func12 (by kernel_rfl) ?_
 repeat ((conv => whnf); first | refine known false (pnlit (b := true) rfl) ?_ | refine known true (lit0 (b := true) rfl) ?_ | refine known false rfl ?_ | refine known true rfl ?_ | refine ⟨_, h1, ?_⟩ | refine ⟨_, h2, ?_⟩ | refine ⟨_, h3, ?_⟩ | refine ⟨_, h4, ?_⟩ | refine ⟨_, p1, ?_⟩ | refine ⟨_, p3, ?_⟩ | refine ⟨_, hck, ?_⟩ | refine ⟨_, hdp, ?_⟩ | refine ⟨_, f1, ?_⟩ | refine ⟨_, f2, ?_⟩ | refine ⟨_, s1, ?_⟩ | refine ⟨_, s2, ?_⟩ | refine ⟨by decide, _, rfl, ?_⟩ | refine ⟨none, by kernel_rfl, ?_⟩)
 exact fin_boo (lit0 (a := exT3) (b := true) rfl)
end Go.Proofs.YtglndfgmlminpaaGreatDoor
