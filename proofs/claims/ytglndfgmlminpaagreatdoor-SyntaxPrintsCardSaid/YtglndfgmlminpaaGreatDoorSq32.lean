/- Texts joined by pack.py: XSyXJ XSyWA XSyPI -/
import Derived.Test.YtglndfgmlminpaaGreatDoorSq28
import Derived.Test.YtglndfgmlminpaaGreatDoorSq29
import Derived.Test.YtglndfgmlminpaaGreatDoorSq30
import Derived.Test.YtglndfgmlminpaaGreatDoorSq31
import Derived.LoopN
set_option maxHeartbeats 2000000
set_option maxRecDepth 100000
namespace Go.Proofs.YtglndfgmlminpaaGreatDoor
section
theorem h4_ : ∀ ts : List Tr, ts.length ≤ Tr.sizes ts
 | [] => by simp
 | X :: ts => by have := X.size_pos; have := h4_ ts; simp only [Tr.sizes, b_]; omega
theorem lev_pos {T : Tr} (hw : T.wf = true) : 1 ≤ T.level := by
 obtain ⟨⟨kind, text, val, keys⟩, ts⟩ := T
 obtain ⟨hf, _, _⟩ := b4_ hw
 unfold Tr.level
 split
 ·rename_i hk
  have hk : kind = 9 := hk
  subst hk
  have : 0 < b1_ text := by simp [X_] at hf; exact hf.2
  exact this
 split
 ·split <;> omega
 split <;> omega
theorem q_one {T : Tr} (hw : T.wf = true) (p : List Pc) : txP (qP T.level 1 p) = txP p := by
 rw [tx_q, if_neg (by have := lev_pos hw; omega)]
theorem binL_le (s : Bs) : -1000 ≤ b1_ s ∧ b1_ s ≤ 1000 := by
 unfold b1_
 repeat' (first | (split <;> first | omega | skip) | omega)
section
variable {l : List Nd}
def PB (l : List Nd) (m : Nat) : Prop := ∀ (T : Tr), T.size ≤ m → ∀ (a i d : Nat), Seg l T a i → an_ T.kind = true → d2_ l i (txP (T.pc d))
theorem pb_expr {T : Tr} {a i d : Nat} (req : Int) (hs : Seg l T a i) (hB : d2_ l i (txP (T.pc d))) : bz_ l i req (txP (qP T.level req (T.pc d))) := by
 obtain ⟨b, ts⟩ := T
 have hn := gu_ hs
 have hi := U_ hn
 have h := x_pexpr req hi hB
 have e : o7_ l[i] = (Tr.node b ts).level := by
  have : l[i] = ⟨b.kind, b.text, b.val, b.keys, Tr.roots a ts⟩ := by rw [h_ hi] at hn; exact Option.some.inj hn
  rw [this]; rfl
 rw [e, ← tx_q] at h
 exact h
theorem pb_kid {m : Nat} (hI : PB l m) {b : Lab} {ts : List Tr} {a i : Nat} (d : Nat) (hs : Seg l (.node b ts) a i) (hm : (Tr.node b ts).size ≤ m + 1) {j : Nat} {X : Tr} (hX : ts[j]? = some X) (hk : an_ X.kind = true) :
  ∃ q : Nat, (Tr.roots a ts)[j]? = some (q : Int) ∧ ∀ req, bz_ l q req (txP (qP X.level req (X.pc d))) := by
 obtain ⟨c, q, h1, h2⟩ := i0_ hs j X hX
 exact ⟨q, h1, fun req => pb_expr req h2 (hI X (e0_ (m_ hX) hm) c q d h2 hk)⟩
theorem ow_ {m : Nat} (hI : PB l m) {b : Lab} {ts : List Tr} {a i : Nat} (d : Nat) (hs : Seg l (.node b ts) a i) (hm : (Tr.node b ts).size ≤ m + 1) {j : Nat} {X : Tr} (hX : ts[j]? = some X) (hk : an_ X.kind = true) :
  ∃ q : Nat, (Tr.roots a ts)[j]? = some (q : Int) ∧ bz_ l q 1 (txP (X.pc d)) := by
 obtain ⟨q, h1, h2⟩ := pb_kid hI d hs hm hX hk
 obtain ⟨_, _, hws⟩ := b4_ hs.wf
 have := h2 1
 rw [q_one (ic_ (m_ hX) hws)] at this
 exact ⟨q, h1, this⟩
theorem bs_ (a : Nat) (ts : List Tr) : (Tr.roots a ts).length = ts.length := Tr.roots_length ..
theorem ov_ {d : Nat} {ts : List Tr} {j : Nat} (h : j < ((Tr.pcl d ts).map txP).length) : ∃ X, ts[j]? = some X ∧ ((Tr.pcl d ts).map txP)[j] = txP (X.pc d) := by
 have hl : j < ts.length := by simpa [Tr.pcl_eq] using h
 refine ⟨ts[j], h_ hl, ?_⟩
 simp [Tr.pcl_eq]
theorem pb_all (hl : l.length ≤ 100000) : ∀ m, PB l m
 | 0 => fun T h => by have := T.size_pos; omega
 | m + 1 => fun T hm a i d hs hk => by
  have hI := pb_all hl m
  obtain ⟨⟨kind, text, val, keys⟩, ts⟩ := T
  obtain ⟨hf, hc, hws⟩ := b4_ hs.wf
  have hn := gu_ hs
  have hsz : ts.length ≤ 1000000 := by
   have h1 := hs.len_le.1
   have h2 := hs.len
   have := h4_ ts
   simp only [Tr.size] at h2
   omega
  simp only at hf hc hws hn
  have hk : an_ kind = true := hk
  have hkid : ∀ {j : Nat} {X : Tr}, ts[j]? = some X → kind ≠ 15 → kind ≠ 16 → kind ≠ 19 → an_ X.kind = true := fun hX h15 h16 h19 => by
   have := (iu_ hws _ _ hX).2
   unfold ap_ at this
   rw [if_neg h19, if_neg (by intro e; rcases e.1 with e | e <;> omega)] at this
   exact this
  have hP : kind ≠ 15 → kind ≠ 16 → kind ≠ 19 → ∀ (j : Nat) (h : j < ((Tr.pcl d ts).map txP).length), ∃ q : Nat, (Tr.roots a ts)[j]? = some (q : Int) ∧ bz_ l q 1 ((Tr.pcl d ts).map txP)[j] := fun h15 h16 h19 j h => by
   obtain ⟨X, hX, e⟩ := ov_ h
   rw [e]
   exact ow_ hI d hs hm hX (hkid hX h15 h16 h19)
  have hlen : (Tr.roots a ts).length = ((Tr.pcl d ts).map txP).length := by rw [bs_]; simp [Tr.pcl_eq]
  have hlen2 : ((Tr.pcl d ts).map txP).length ≤ 1000000 := by rw [← hlen, bs_]; exact hsz
  have hcases : kind = 1 ∨ kind = 2 ∨ kind = 3 ∨ kind = 4 ∨ kind = 5 ∨ kind = 6 ∨ kind = 7 ∨ kind = 8 ∨ kind = 9 ∨ kind = 10 ∨ kind = 11 ∨ kind = 12 := by
   unfold an_ at hk; simp at hk; omega
  rcases hcases with rfl | rfl | rfl | rfl | rfl | rfl | rfl | rfl | rfl | rfl | rfl | rfl
  ·rw [tx_null]; exact x_bare_null hn
  ·have hv : val = 0 ∨ val = 1 := by simp [X_] at hf; exact hf.2.2
   rcases hv with rfl | rfl
   ·rw [tx_bool0]; exact qa_ hn
   ·rw [tx_bool1]; exact p9_ hn
  ·have hv : 0 ≤ val ∧ val ≤ 1000000000000 := by simp [X_] at hf; exact ⟨hf.2.1.2, hf.2.2⟩
   rw [tx_int]; exact x_bare_int hn oM
  ·have := o8_ hf
   rw [tx_str]; exact x_bare_str hn (by simp only at this; omega)
  ·have hv : a7_ text = true := by simp [X_] at hf; exact hf.2
   rw [tx_var hv]; exact x_bare_var hn
  ·rw [tx_list]; exact x_bare_list hn hlen hlen2 (hP dC dC dC)
  ·have hv : keys.length = ts.length := by simp [X_] at hf; exact hf.2.1.2
   have hkl : keys.length = (Tr.pcl d ts).length := by rw [hv]; simp [Tr.pcl_eq]
   have hks := o9_ hf
   rw [tx_map]
   refine x_bare_map hn (by rw [d_, es_ _ _ hkl, hlen, d_]) (by rw [d_, es_ _ _ hkl]; rw [d_] at hlen2; exact hlen2) fun j h => ?_
   have hj : j < keys.length := by rw [d_, es_ _ _ hkl, ← hkl] at h; exact h
   have hj2 : j < ts.length := by omega
   have hX : ts[j]? = some ts[j] := h_ hj2
   obtain ⟨q, h1, h2⟩ := ow_ hI d hs hm hX (hkid hX dC dC dC)
   have hp : (Tr.pcl d ts)[j]? = some (ts[j].pc d) := by rw [Tr.pcl_eq, e_, hX]; rfl
   have hg := lp_ keys (Tr.pcl d ts) j keys[j] _ (h_ hj) hp
   rw [h_ h] at hg
   exact ⟨q, keys[j], _, h1, h_ hj, by have := hks keys[j] (q_ hj); omega, h2, Option.some.inj hg⟩
  ·have h1 : ts.length = 1 := by simpa [Y_] using hc
   obtain ⟨A, rfl⟩ := len1 h1
   have hA : [A][0]? = some A := rfl
   obtain ⟨q, h1, h2⟩ := pb_kid hI d hs hm hA (hkid hA dC dC dC)
   have hr : Tr.roots a [A] = [(q : Int)] := by
    have : (Tr.roots a [A]).length = 1 := bs_ a [A]
    match h9 : Tr.roots a [A], this with
    | [x], _ => rw [h9] at h1; simp at h1; rw [h1]
   rw [hr] at hn
   have hv : text = sMi ∨ text = e9_ := by simp [X_] at hf; exact hf.2
   rcases hv with rfl | rfl
   ·rw [tx_neg dC]; exact x_bare_neg hn (h2 7)
   ·rw [tx_not]; exact x_bare_not hn (h2 3)
  ·have h1 : ts.length = 2 := by simpa [Y_] using hc
   obtain ⟨A, B, rfl⟩ := len2 h1
   have hA : [A, B][0]? = some A := rfl
   have hB : [A, B][1]? = some B := rfl
   obtain ⟨q1, h1, h2⟩ := pb_kid hI d hs hm hA (hkid hA dC dC dC)
   obtain ⟨q2, h3, h4⟩ := pb_kid hI d hs hm hB (hkid hB dC dC dC)
   have hr : Tr.roots a [A, B] = [(q1 : Int), (q2 : Int)] := by
    have : (Tr.roots a [A, B]).length = 2 := bs_ a [A, B]
    match h9 : Tr.roots a [A, B], this with
    | [x, y], _ => rw [h9] at h1 h3; simp at h1 h3; rw [h1, h3]
   rw [hr] at hn
   have hv : 0 < b1_ text := by simp [X_] at hf; exact hf.2
   rw [tx_bin hv]
   exact x_bare_bin hn (by have := x0_bin hv; omega) (h2 _) (h4 _) (binL_le text)
  ·have h1 : ts.length = 2 := by simpa [Y_] using hc
   obtain ⟨A, B, rfl⟩ := len2 h1
   have hA : [A, B][0]? = some A := rfl
   have hB : [A, B][1]? = some B := rfl
   obtain ⟨q1, h1, h2⟩ := pb_kid hI d hs hm hA (hkid hA dC dC dC)
   obtain ⟨q2, h3, h4⟩ := ow_ hI d hs hm hB (hkid hB dC dC dC)
   have hr : Tr.roots a [A, B] = [(q1 : Int), (q2 : Int)] := by
    have : (Tr.roots a [A, B]).length = 2 := bs_ a [A, B]
    match h9 : Tr.roots a [A, B], this with
    | [x, y], _ => rw [h9] at h1 h3; simp at h1 h3; rw [h1, h3]
   rw [hr] at hn
   rw [tx_index]
   exact p8_ hn (h2 _) h4
  ·have hv : a7_ text = true := by simp [X_] at hf; exact hf.2
   rw [tx_call hv]; exact x_bare_call hn hlen hlen2 (hP dC dC dC)
  ·have hv : ba_ text = true := by simp [X_] at hf; exact hf.2
   rw [tx_host hv]; exact x_bare_host hn (by have := ka_ hv; omega) hlen hlen2 (hP dC dC dC)
theorem jw_ {a q : Nat} {A : Tr} (h1 : (Tr.roots a [A])[0]? = some (q : Int)) : Tr.roots a [A] = [(q : Int)] := by
 have : (Tr.roots a [A]).length = 1 := bs_ a [A]
 match h9 : Tr.roots a [A], this with
 | [x], _ => rw [h9] at h1; simp at h1; rw [h1]
theorem roots2 {a q1 q2 : Nat} {A B : Tr} (h1 : (Tr.roots a [A, B])[0]? = some (q1 : Int)) (h3 : (Tr.roots a [A, B])[1]? = some (q2 : Int)) : Tr.roots a [A, B] = [(q1 : Int), (q2 : Int)] := by
 have : (Tr.roots a [A, B]).length = 2 := bs_ a [A, B]
 match h9 : Tr.roots a [A, B], this with
 | [x, y], _ => rw [h9] at h1 h3; simp at h1 h3; rw [h1, h3]
theorem roots3 {a q1 q2 q3 : Nat} {A B C : Tr} (h1 : (Tr.roots a [A, B, C])[0]? = some (q1 : Int)) (h3 : (Tr.roots a [A, B, C])[1]? = some (q2 : Int)) (h5 : (Tr.roots a [A, B, C])[2]? = some (q3 : Int)) : Tr.roots a [A, B, C] = [(q1 : Int), (q2 : Int), (q3 : Int)] := by
 have : (Tr.roots a [A, B, C]).length = 3 := bs_ a [A, B, C]
 match h9 : Tr.roots a [A, B, C], this with
 | [x, y, z], _ => rw [h9] at h1 h3 h5; simp at h1 h3 h5; rw [h1, h3, h5]
def PS (l : List Nd) (m : Nat) : Prop := ∀ (T : Tr), T.size ≤ m → ∀ (a i d : Nat), Seg l T a i → d + T.size ≤ 800000 → (hg_ T.kind = true → ir_ l i d (txP (T.pc d))) ∧ (T.kind = 19 → gr_ l i d (txP (T.pc d)))
theorem ps_all (hl : l.length ≤ 100000) : ∀ m, PS l m
 | 0 => fun T h => by have := T.size_pos; omega
 | m + 1 => fun T hm a i d hs hd => by
  have hI := ps_all hl m
  obtain ⟨⟨kind, text, val, keys⟩, ts⟩ := T
  obtain ⟨hf, hc, hws⟩ := b4_ hs.wf
  have hn := gu_ hs
  have hsz := h4_ ts
  simp only at hf hc hws hn
  simp only [Tr.size] at hd
  have hE : ∀ {j : Nat} {X : Tr}, ts[j]? = some X → an_ X.kind = true → ∃ q : Nat, (Tr.roots a ts)[j]? = some (q : Int) ∧ bz_ l q 1 (txP (X.pc d)) := fun hX hk => ow_ (pb_all hl _) d hs hm hX hk
  have hB : ∀ {j : Nat} {X : Tr}, ts[j]? = some X → X.kind = 19 → ∃ q : Nat, (Tr.roots a ts)[j]? = some (q : Int) ∧ gr_ l q d (txP (X.pc d)) := fun {j X} hX hk => by
   obtain ⟨c, q, h1, h2⟩ := i0_ hs j X hX
   have hXs := Tr.mem_size (m_ hX)
   exact ⟨q, h1, (hI X (e0_ (m_ hX) hm) c q d h2 oM).2 hk⟩
  have hfit : ∀ {j : Nat} {X : Tr}, ts[j]? = some X → ap_ kind j X.kind = true := fun {j X} hX => by
   have := (iu_ hws _ _ hX).2
   rwa [Nat.zero_add] at this
  refine ⟨fun hk => ?_, fun hk => ?_⟩
  ·have hk : hg_ kind = true := hk
   have hcases : kind = 13 ∨ kind = 14 ∨ kind = 15 ∨ kind = 16 ∨ kind = 17 ∨ kind = 18 := by
    unfold hg_ at hk; simp at hk; omega
   rcases hcases with rfl | rfl | rfl | rfl | rfl | rfl
   ·obtain ⟨A, rfl⟩ := len1 (by simpa [Y_] using hc)
    have hv : a7_ text = true := by simp [X_] at hf; exact hf.2
    obtain ⟨q, h1, h2⟩ := hE (j := 0) (X := A) rfl (by simpa [ap_] using hfit (j := 0) (X := A) rfl)
    rw [jw_ h1] at hn
    rw [tx_let hv]
    exact x_stmt_let hn (by have := d3_ hv; omega) h2
   ·obtain ⟨A, rfl⟩ := len1 (by simpa [Y_] using hc)
    have hv : a7_ text = true := by simp [X_] at hf; exact hf.2
    obtain ⟨q, h1, h2⟩ := hE (j := 0) (X := A) rfl (by simpa [ap_] using hfit (j := 0) (X := A) rfl)
    rw [jw_ h1] at hn
    rw [tx_set hv]
    exact x_stmt_set hn (by have := d3_ hv; omega) h2
   ·have h23 : ts.length = 2 ∨ ts.length = 3 := by simpa [Y_] using hc
    rcases len23 h23 with ⟨A, B, rfl⟩ | ⟨A, B, C, rfl⟩
    ·obtain ⟨q1, h1, h2⟩ := hE (j := 0) (X := A) rfl (by simpa [ap_] using hfit (j := 0) (X := A) rfl)
     obtain ⟨q2, h3, h4⟩ := hB (j := 1) (X := B) rfl (by simpa [ap_] using hfit (j := 1) (X := B) rfl)
     rw [roots2 h1 h3] at hn
     rw [tx_if]
     exact x_stmt_if hn h2 h4
    ·obtain ⟨q1, h1, h2⟩ := hE (j := 0) (X := A) rfl (by simpa [ap_] using hfit (j := 0) (X := A) rfl)
     obtain ⟨q2, h3, h4⟩ := hB (j := 1) (X := B) rfl (by simpa [ap_] using hfit (j := 1) (X := B) rfl)
     obtain ⟨q3, h5, h6⟩ := hB (j := 2) (X := C) rfl (by simpa [ap_] using hfit (j := 2) (X := C) rfl)
     rw [roots3 h1 h3 h5] at hn
     rw [tx_else]
     exact x_stmt_else hn h2 h4 h6
   ·obtain ⟨A, B, rfl⟩ := len2 (by simpa [Y_] using hc)
    obtain ⟨q1, h1, h2⟩ := hE (j := 0) (X := A) rfl (by simpa [ap_] using hfit (j := 0) (X := A) rfl)
    obtain ⟨q2, h3, h4⟩ := hB (j := 1) (X := B) rfl (by simpa [ap_] using hfit (j := 1) (X := B) rfl)
    rw [roots2 h1 h3] at hn
    rw [tx_while]
    exact pw_ hn h2 h4
   ·obtain ⟨A, rfl⟩ := len1 (by simpa [Y_] using hc)
    obtain ⟨q, h1, h2⟩ := hE (j := 0) (X := A) rfl (by simpa [ap_] using hfit (j := 0) (X := A) rfl)
    rw [jw_ h1] at hn
    rw [tx_ret]
    exact x_stmt_ret hn h2
   ·obtain ⟨A, rfl⟩ := len1 (by simpa [Y_] using hc)
    obtain ⟨q, h1, h2⟩ := hE (j := 0) (X := A) rfl (by simpa [ap_] using hfit (j := 0) (X := A) rfl)
    rw [jw_ h1] at hn
    rw [tx_do]
    exact x_stmt_do hn h2
  ·have hk : kind = 19 := hk
   subst hk
   rw [tx_block]
   refine x_pblock hn (by rw [bs_]; simp [Tr.pcl_eq]) (by simp only [d_, Tr.pcl_eq]; omega) oM fun j h => ?_
   obtain ⟨X, hX, e⟩ := ov_ h
   obtain ⟨c, q, h1, h2⟩ := i0_ hs j X hX
   have hXs := Tr.mem_size (m_ hX)
   rw [e]
   exact ⟨q, h1, (hI X (e0_ (m_ hX) hm) c q (d + 1) h2 oM).1 (by simpa [ap_] using hfit hX)⟩
theorem p_block {T : Tr} {a i : Nat} (hl : l.length ≤ 100000) (hs : Seg l T a i) (hk : T.kind = 19) : gr_ l i 0 (txP (T.pc 0)) :=
 (ps_all hl _ T (f_ _) a i 0 hs (by have := hs.len_le.1; have := hs.len; omega)).2 hk
end
end
section
open Go.RowKit
theorem nz_ (A : Option Addr) (cap : Nat) (w : World) : Calls Tryz.prog 254 #[.slice A 0 cap] w fun e w' => e = .returned (.slice A 0 cap) ∧ w' = w := by
 go_enter Tryz.func254, Tryz.ntmps254
 go_wp2
 refine wp_loop_rounds 1 ?_
 rw [rounds_succ]
 go_wp2
 go_ret
 exact ⟨rfl, rfl⟩
theorem x_closed : DCalls Tryz.prog 254 [.sl true 5 []] (.sl true 5 []) := by
 refine ⟨⟨_, Tryz.func254, kR, kR⟩, fun w vs hi hvs => ?_⟩
 obtain ⟨v0, rfl⟩ : ∃ v0, vs = [v0] := by
  have := hvs.1
  match vs, this with
  | [a], _ => exact ⟨a, rfl⟩
 have r0 := hvs.2 0 _ rfl
 simp only [v_, List.getElem?_cons_zero, Option.getD_some] at r0
 cases r0
 rename_i hr
 cases hr with
 | nil _ A cap =>
  refine (nz_ A cap w).mono ?_
  rintro e w' ⟨rfl, rfl⟩
  exact ⟨_, rfl, .sl _ _ _ _ (.nil _ _ _), Below.refl _ _⟩
 | sl _ _ b o' cap u hS hx hcap hc hd =>
  refine (nz_ (some ⟨b, o', none⟩) cap w).mono ?_
  rintro e w' ⟨rfl, rfl⟩
  exact ⟨_, rfl, .sl _ _ _ _ (.nil _ _ _), Below.refl _ _⟩
theorem x_vtext (l : Bs) (hl : l.length ≤ 281474976710656) : DCalls Tryz.prog 257 [bc_ l] (boo (okB l)) := by
 refine sx Tryz.func257 kR ?_
 conv => whnf
 refine ⟨[], Nat, fun k => [(6, int k)], fun _ => [], fun k => k ≤ l.length ∧ okB (l.drop k) = okB l, fun k => l.length - k, 0, ⟨l_ _, rfl⟩, ?_, ?_⟩
 ·exact eN
 rintro k ⟨hk1, hk⟩
 conv => whnf
 rintro (_ | _) h2
 ·have h2 : l.length ≤ k := by simp [P_] at h2; omega
  rw [k_ h2] at hk
  rw [← hk]
  (conv => whnf) <;> rfl
 have h2 : k < l.length := by simp [P_] at h2; omega
 have hw : IntKind.i64.wrap (((k : Nat) : Int) + 1) = ((k + 1 : Nat) : Int) := R_ oM
 rw [ao_ h2] at hk
 conv => whnf
 refine ⟨oM, _, bn_ h2, ?_⟩
 conv => whnf
 rintro (_ | _) h3
 rotate_left
 ·rw [show okB l = false by rw [← hk]; unfold okB; rw [List.all_cons, ff_]; simp at *; omega]
  (conv => whnf) <;> rfl
 conv => whnf
 refine ⟨oM, _, bn_ h2, ?_⟩
 conv => whnf
 rintro (_ | _) h4
 rotate_left
 ·rw [show okB l = false by rw [← hk]; unfold okB; rw [List.all_cons, ff_]; simp at *; omega]
  (conv => whnf) <;> rfl
 have hr : (!(decide (l[k] < 32) || decide (l[k] > 126))) = true := by rw [ff_]; simp at *; omega
 have hk : okB (l.drop (k + 1)) = okB l := by rw [← hk]; unfold okB; rw [List.all_cons, hr]; rfl
 conv => whnf
 refine ⟨k + 1, ⟨h2, hk⟩, by dsimp only; omega, ?_⟩
 exact eA
def qlen (l : Bs) : Int := IntKind.i64.wrap (IntKind.i64.wrap (IntKind.i64.wrap ((l.length : Nat) + 2 : Int) + (l.count 34 : Nat)) + (l.count 92 : Nat))
theorem x_vquoted (l : Bs) : DCalls Tryz.prog 252 [bc_ l] (int (qlen l)) := by
 refine sx Tryz.func252 kR ?_
 conv => whnf
 refine ⟨_, oh_ (mk l) 34, ?_⟩
 conv => whnf
 refine ⟨_, oh_ (mk l) 92, ?_⟩
 conv => whnf
 rw [P_]
 rfl
theorem qlen_eq (l : Bs) (hl : l.length ≤ 281474976710656) : qlen l = ((l.length + 2 + l.count 34 + l.count 92 : Nat) : Int) := by
 have hc := List.count_le_length (a := 34) (l := l)
 have hd := List.count_le_length (a := 92) (l := l)
 unfold qlen
 rw [A_ ((l.length : Nat) + 2 : Int) oM, A_ (_ + ((l.count 34 : Nat) : Int)) oM, A_ _ oM]
 omega
def strC (l : Bs) : List D := [.cv (.int .i64 4), .cv (.int .i64 0), .cv (.string (mk l)), .cv (.int .i64 0)]
abbrev strCV (l : Bs) : V := .ag [int 4, int 0, bc_ l, int 0]
theorem x_vplain (l : Bs) (hl : l.length ≤ 281474976710656) : DCalls Tryz.prog 251 [strCV l] (boo (okB l)) := by
 refine sx Tryz.func251 kR ?_
 iterate 3 ((conv => whnf); refine kF ?_)
 iterate 3 ((conv => whnf); refine kT ?_)
 conv => whnf
 refine ⟨_, x_vtext l hl, ?_⟩
 (conv => whnf) <;> rfl
theorem x_vsize (l : Bs) : DCalls Tryz.prog 253 [strCV l] (int (qlen l)) := by
 refine sx Tryz.func253 kR ?_
 iterate 3 ((conv => whnf); refine kF ?_)
 conv => whnf
 refine kT ?_
 conv => whnf
 refine ⟨_, x_vquoted l, ?_⟩
 (conv => whnf) <;> rfl
abbrev lookV (l : Bs) : V := if okB l = true then .tu [int 1, .ag [int 1, int (qlen l), boo false, boo (decide (l.length > 200))], boo true] else .tu [int 0, .ag [int 0, int 0, boo false, boo false], boo false]
theorem x_vlook (f : Bool) (l : Bs) (hl : l.length ≤ 281474976710656) : DCalls Tryz.prog 239 [.sl f 4 [strC l]] (lookV l) := by
 refine sx Tryz.func239 kR ?_
 conv => whnf
 refine ⟨[], Unit, fun _ => [(13, int 0), (6, .cv (.slice none 0 0))], fun _ => [(3, some (.box [int 0, int 0, boo false, boo false])), (5, some (.box [int 0, int 0, boo false, boo false]))], fun _ => True, fun _ => 0, (), trivial, ?_, ?_⟩
 ·exact eN
 rintro _ _
 conv => whnf
 refine kT ?_
 conv => whnf
 refine ⟨oM, _, rfl, ?_⟩
 conv => whnf
 refine ⟨_, x_vplain l hl, ?_⟩
 conv => whnf
 rintro (_ | _) h1
 rotate_left
 ·have h1 : okB l = false := by simpa using h1
  unfold lookV
  rw [h1, if_neg sI]
  conv => whnf
  refine ⟨none, kR, ?_⟩
  (conv => whnf) <;> rfl
 have h1 : okB l = true := by simpa using h1
 unfold lookV
 rw [if_pos h1]
 repeat ((conv => whnf); first | refine kT ?_ | refine kF ?_ | refine ⟨_, x_vsize l, ?_⟩ | refine ⟨none, kR, ?_⟩)
 conv => whnf
 refine ⟨_, x_closed, ?_⟩
 conv => whnf
 refine kT ?_
 conv => whnf
 refine ⟨none, kR, ?_⟩
 conv => whnf
 have hq := qlen_eq l hl
 have hc := List.count_le_length (a := 34) (l := l)
 have hd := List.count_le_length (a := 92) (l := l)
 rw [show IntKind.i64.wrap (0 + qlen l) = qlen l by rw [Int.zero_add, A_ _ oM], P_]
 have e : decide (((l.length : Nat) : Int) > 200) = decide (l.length > 200) := by rw [z_]; simp; omega
 rw [e]
 rfl
def strE (l : Bs) : Int := if okB l then if l.length ≤ 200 then 0 else 3 else 1
theorem strE0 (l : Bs) : (strE l = 0) ↔ cl_ l = true := by
 rw [fo_]; unfold strE
 cases okB l <;> simp
theorem x_vcheck (l : Bs) (hl : l.length ≤ 281474976710656) : DCalls Tryz.prog 220 [.sl true 4 [strC l]] (int (strE l)) := by
 have hL := x_vlook true l hl
 have hq := qlen_eq l hl
 have hc := List.count_le_length (a := 34) (l := l)
 have hd := List.count_le_length (a := 92) (l := l)
 unfold lookV at hL
 refine sx Tryz.func220 kR ?_
 cases h : okB l with
 | false =>
  rw [h, if_neg sI] at hL
  conv => whnf
  refine ⟨_, hL, ?_⟩
  conv => whnf
  refine kT ?_
  conv => whnf
  rw [show strE l = 1 by unfold strE; rw [h]; rfl]
 | true =>
  rw [h, if_pos rfl] at hL
  conv => whnf
  refine ⟨_, hL, ?_⟩
  conv => whnf
  refine kF ?_
  conv => whnf
  refine kF ?_
  conv => whnf
  refine kF ?_
  by_cases h2 : l.length ≤ 200
  ·rw [show strE l = 0 by unfold strE; rw [h, if_pos rfl, if_pos h2]]
   conv => whnf
   refine Q_ false sO ?_
   conv => whnf
   refine kF ?_
   conv => whnf
   refine kF ?_
   conv => whnf
   refine Q_ false sO ?_
   (conv => whnf) <;> rfl
  ·rw [show strE l = 3 by unfold strE; rw [h, if_pos rfl, if_neg h2]]
   conv => whnf
   refine Q_ true sO ?_
   (conv => whnf) <;> rfl
abbrev strEV (l : Bs) : V := if strE l = 0 then .tu [.un, int 0] else .tu [.sl true 4 [], int (strE l)]
theorem x_vchecked (l : Bs) (hl : l.length ≤ 281474976710656) : DCalls Tryz.prog 203 [.sl true 4 [strC l]] (strEV l) := by
 refine sx Tryz.func203 kR ?_
 conv => whnf
 refine ⟨_, x_vcheck l hl, ?_⟩
 conv => whnf
 rintro (_ | _) h
 ·have h : strE l = 0 := by simpa using h
  unfold strEV
  rw [if_pos h]
  conv => whnf
 ·have h : strE l ≠ 0 := by simpa using h
  unfold strEV
  rw [if_neg h]
  (conv => whnf) <;> rfl
theorem x_vstr (l : Bs) (hl : l.length ≤ 281474976710656) : DCalls Tryz.prog 177 [bc_ l] (strEV l) := by
 have hL := x_vchecked l hl
 refine sx Tryz.func177 kR ?_
 unfold strEV at *
 by_cases h : strE l = 0
 ·rw [if_pos h] at *
  conv => whnf
  refine ⟨_, hL, ?_⟩
  (conv => whnf) <;> rfl
 ·rw [if_neg h] at *
  conv => whnf
  refine ⟨_, hL, ?_⟩
  (conv => whnf) <;> rfl
theorem x_stext (l : Bs) (hl : l.length ≤ 281474976710656) : DCalls Tryz.prog 148 [bc_ l] (boo (cl_ l)) := by
 have hL := x_vstr l hl
 refine sx Tryz.func148 kR ?_
 unfold strEV at hL
 by_cases h : strE l = 0
 ·rw [if_pos h] at hL
  conv => whnf
  refine ⟨_, hL, ?_⟩
  rw [(strE0 l).mp h]
  (conv => whnf) <;> rfl
 ·rw [if_neg h] at hL
  conv => whnf
  refine ⟨_, hL, ?_⟩
  conv => whnf
  rw [show (strE l == 0) = cl_ l by rw [z_, ← strE0]; simp]
end
section
def bp_ (p : b2_) : Prop := ∀ {r ns i r1 ns1}, p r ns = .ok (i, r1, ns1) → ns1.length + r1.length ≤ ns.length + r.length
theorem bh_ {n : Nd} {r r1 : List Tok} {ns ns1 : List Nd} {i : Int} (h : dx_ n r ns = .ok (i, r1, ns1)) : r1.length = r.length ∧ ns1.length = ns.length + 1 := by
 obtain ⟨rfl, rfl, _⟩ := dm_ h; simp
section
variable {e : Int} {E : b2_} (hE : bp_ E) (hC : be_ E)
include hE hC
theorem nj_ {fin : Bs} : ∀ (f : Nat) {l : List Int} {r : List Tok} {ns : List Nd} {l1 : List Int} {r1 : List Tok} {ns1 : List Nd}, je_ e fin E f l r ns = .ok (l1, r1, ns1) → ns1.length + r1.length ≤ ns.length + r.length ∧ l1.length + r1.length ≤ l.length + r.length
 | 0, l, r, ns, l1, r1, ns1, h => by cases h
 | f + 1, l, r, ns, l1, r1, ns1, h => by
  simp only [je_] at h
  split at h
  ·cases h
  ·rename_i i r2 ns2 h2
   have h3 := hE h2
   have h4 := (hC h2).lt
   split at h
   ·cases h; simp; omega
   ·split at h
    ·rename_i hc
     have := nj_ f h
     have := (Eats.of_tk hc).lt
     simp at *
     omega
    ·cases h
theorem gx_ {fin : Bs} {r r1 : List Tok} {ns ns1 : List Nd} {l : List Int} (h : er_ e fin E r ns = .ok (l, r1, ns1)) : ns1.length + r1.length ≤ ns.length + r.length ∧ l.length + r1.length ≤ r.length := by
 unfold er_ at h
 split at h
 ·cases h; simp
 ·have := nj_ hE hC _ h
  simp at this
  omega
theorem keyF_grow : ∀ (f : Nat) {ks : List Bs} {l : List Int} {r : List Tok} {ns : List Nd} {i : Int} {r1 : List Tok} {ns1 : List Nd}, keyF e E f ks l r ns = .ok (i, r1, ns1) → ns1.length + r1.length ≤ ns.length + r.length
 | 0, ks, l, r, ns, i, r1, ns1, h => by cases h
 | f + 1, ks, l, r, ns, i, r1, ns1, h => by
  have _h := @hC
  simp only [keyF] at h
  split at h
  rotate_left
  ·cases h
  rename_i hk
  split at h
  ·cases h
  rename_i r2 h2
  split at h
  ·cases h
  rename_i j r3 ns3 h3
  have g1 := (Eats.of_tail hk.2.1).lt
  have g2 := (ad_ h2).lt
  have g3 := hE h3
  split at h
  ·have := bh_ h
   simp at *
   omega
  ·split at h
   ·have := keyF_grow f h
    simp at *
    omega
   ·cases h
theorem keyP_grow {r r1 : List Tok} {ns ns1 : List Nd} {i : Int} (h : keyP e E r ns = .ok (i, r1, ns1)) : ns1.length + r1.length ≤ ns.length + r.length := by
 unfold keyP at h
 split at h
 ·rename_i hk
  have := bh_ h
  have := (Eats.of_tk hk).lt
  omega
 ·exact keyF_grow hE hC _ h
theorem m9_ : bp_ (hi_ e E) := by
 intro r ns i r1 ns1 h
 unfold hi_ at h
 cases r with
 | nil => cases h
 | cons t r =>
  rw [b_]
  dsimp only at h
  split at h
  ·have := bh_ h; omega
  split at h
  ·have := bh_ h; omega
  split at h
  ·have := bh_ h; omega
  split at h
  ·have := bh_ h; omega
  split at h
  ·have := bh_ h; omega
  split at h
  ·split at h
   ·rename_i hk
    split at h
    ·cases h
    ·rename_i h2
     have := bh_ h
     have := (gx_ hE hC h2).1
     have := (Eats.of_tk hk).lt
     omega
   ·have := bh_ h; omega
  split at h
  ·split at h
   ·cases h
   ·rename_i h2
    split at h
    ·cases h
    ·rename_i h3
     have := bh_ h
     have := (gx_ hE hC h3).1
     have := (ad_ h2).lt
     omega
  split at h
  ·split at h
   ·cases h
   ·rename_i h2
    have := bh_ h
    have := (gx_ hE hC h2).1
    omega
  split at h
  ·have := keyP_grow hE hC h; omega
  split at h
  ·split at h
   ·cases h
   ·rename_i h2
    split at h
    ·cases h
    ·rename_i h3
     cases h
     have := hE h2
     have := (ad_ h3).lt
     omega
  ·cases h
theorem na_ : ∀ (f : Nat) {i : Int} {r : List Tok} {ns : List Nd} {j : Int} {r1 : List Tok} {ns1 : List Nd}, h6_ e E f i r ns = .ok (j, r1, ns1) → ns1.length + r1.length ≤ ns.length + r.length
 | 0, i, r, ns, j, r1, ns1, h => by cases h; exact f_ _
 | f + 1, i, r, ns, j, r1, ns1, h => by
  have _h := @hC
  simp only [h6_] at h
  split at h
  ·rename_i hk
   split at h
   ·cases h
   rename_i h2
   split at h
   ·cases h
   rename_i h3
   have g1 := (Eats.of_tk hk).lt
   have g2 := hE h2
   have g3 := (ad_ h3).lt
   have g4 := na_ f h
   simp at *
   omega
  ·cases h; exact f_ _
theorem i4_ : bp_ (gd_ e E) := by
 intro r ns i r1 ns1 h
 unfold gd_ at h
 split at h
 ·cases h
 ·rename_i h2
  have := m9_ hE hC h2
  have := na_ hE hC _ h
  omega
theorem hb_ : bp_ (do_ e E) := by
 intro r
 induction r with
 | nil => intro ns i r1 ns1 h; exact i4_ hE hC h
 | cons t r ih =>
  intro ns i r1 ns1 h
  simp only [do_] at h
  split at h
  ·split at h
   ·cases h
   ·rename_i h2
    have := bh_ h
    have := ih h2
    rw [b_]
    omega
  ·exact i4_ hE hC h
omit hE hC in
theorem l3_ {k : Int} {ops : List Bs} {O : b2_} (hO : bp_ O) : ∀ (f : Nat) {i : Int} {r : List Tok} {ns : List Nd} {j : Int} {r1 : List Tok} {ns1 : List Nd}, cq_ k ops O f i r ns = .ok (j, r1, ns1) → ns1.length + r1.length ≤ ns.length + r.length
 | 0, i, r, ns, j, r1, ns1, h => by cases h; exact f_ _
 | f + 1, i, r, ns, j, r1, ns1, h => by
  simp only [cq_] at h
  split at h
  ·rename_i hk
   split at h
   ·cases h
   rename_i h2
   have g1 := (Eats.of_tail hk.2.2).lt
   have g2 := hO h2
   have g3 := l3_ hO f h
   simp at *
   omega
  ·cases h; exact f_ _
omit hE hC in
theorem f2_ {k : Int} {ops : List Bs} {O : b2_} (hO : bp_ O) : bp_ (by_ k ops O) := by
 intro r ns i r1 ns1 h
 unfold by_ at h
 split at h
 ·cases h
 ·rename_i h2
  have := hO h2
  have := l3_ hO _ h
  omega
theorem m4_ : bp_ (mj_ e E) := f2_ (hb_ hE hC)
theorem h3_ : bp_ (sumP e E) := f2_ (m4_ hE hC)
theorem cmpP_grow : bp_ (cmpP e E) := by
 intro r ns i r1 ns1 h
 unfold cmpP at h
 split at h
 ·cases h
 ·rename_i h2
  have g1 := h3_ hE hC h2
  split at h
  ·rename_i hk
   split at h
   ·cases h
   ·rename_i h4
    have := bh_ h
    have := h3_ hE hC h4
    have := (Eats.of_tail hk.2.2).lt
    omega
  ·cases h; exact g1
theorem lg_ : bp_ (pv_ e E) := by
 intro r
 induction r with
 | nil => intro ns i r1 ns1 h; exact cmpP_grow hE hC h
 | cons t r ih =>
  intro ns i r1 ns1 h
  simp only [pv_] at h
  split at h
  ·split at h
   ·cases h
   ·rename_i h2
    have := bh_ h
    have := ih h2
    rw [b_]
    omega
  ·exact cmpP_grow hE hC h
theorem andP_grow : bp_ (andP e E) := f2_ (lg_ hE hC)
theorem orP_grow : bp_ (orP e E) := f2_ (andP_grow hE hC)
end
theorem ej_ {e : Int} : ∀ f, bp_ (dn_ e f)
 | 0 => fun h => by cases h
 | f + 1 => orP_grow (ej_ f) (ca_ f)
theorem fs_ {e : Int} {f : Nat} {kind : Int} {text : Bs} : bp_ (dy_ e f kind text) := by
 intro r ns i r1 ns1 h
 unfold dy_ at h
 split at h
 ·cases h
 ·rename_i h2
  split at h
  ·cases h
  ·rename_i h3
   have := bh_ h
   have := ej_ f h2
   have := (ad_ h3).lt
   omega
theorem m6_ {e : Int} {f : Nat} {Bl : b2_} (hB : bp_ Bl) : bp_ (mn_ e f Bl) := by
 intro r ns i r1 ns1 h
 unfold mn_ at h
 split at h
 ·rename_i hk
  split at h
  ·cases h
  rename_i h2
  split at h
  ·cases h
  rename_i h3
  have := (Eats.of_tk hk).lt
  have := (b9_ h2).lt
  have := (ad_ h3).lt
  have := fs_ h
  omega
 split at h
 ·rename_i hk
  split at h
  ·cases h
  rename_i h2
  split at h
  ·cases h
  rename_i h3
  have g1 := (Eats.of_tk hk).lt
  have g2 := ej_ f h2
  have g3 := hB h3
  split at h
  ·rename_i hk2
   split at h
   ·cases h
   rename_i h5
   have := bh_ h
   have := (Eats.of_tk hk2).lt
   have := hB h5
   omega
  ·have := bh_ h
   omega
 split at h
 ·rename_i hk
  split at h
  ·cases h
  rename_i h2
  split at h
  ·cases h
  rename_i h3
  have := (Eats.of_tk hk).lt
  have := ej_ f h2
  have := hB h3
  have := bh_ h
  omega
 split at h
 ·rename_i hk
  have := (Eats.of_tk hk).lt
  have := fs_ h
  omega
 split at h
 ·have := fs_ h
  simp at this
  omega
 ·exact fs_ h
theorem k8_ {e : Int} {S : b2_} (hS : bp_ S) : ∀ (g : Nat) {l : List Int} {r : List Tok} {ns : List Nd} {i : Int} {r1 : List Tok} {ns1 : List Nd}, f9_ e S g l r ns = .ok (i, r1, ns1) → ns1.length + r1.length ≤ ns.length + r.length
 | 0, l, r, ns, i, r1, ns1, h => by cases h
 | g + 1, l, r, ns, i, r1, ns1, h => by
  simp only [f9_] at h
  split at h
  ·rename_i hk
   have := bh_ h
   have := (Eats.of_tk hk).lt
   omega
  ·split at h
   ·cases h
   ·rename_i h2
    have := hS h2
    have := k8_ hS g h
    omega
theorem f4_ {e : Int} : ∀ f, bp_ (d9_ e f)
 | 0 => fun h => by cases h
 | f + 1 => fun h => by
  simp only [d9_] at h
  split at h
  ·cases h
  ·rename_i h2
   have := (ad_ h2).lt
   have := k8_ (m6_ (f4_ f)) _ h
   omega
theorem parF_grow {e : Int} : ∀ (f : Nat) {l : List Bs} {r : List Tok} {l1 : List Bs} {r1 : List Tok}, parF e f l r = .ok (l1, r1) → l1.length + r1.length ≤ l.length + r.length
 | 0, l, r, l1, r1, h => by cases h
 | f + 1, l, r, l1, r1, h => by
  simp only [parF] at h
  split at h
  ·cases h
  ·rename_i h2
   have g1 := (b9_ h2).lt
   split at h
   ·rename_i hk
    have := (Eats.of_tk hk).lt
    cases h
    simp at *
    omega
   ·split at h
    ·rename_i hk
     have := (Eats.of_tk hk).lt
     have := parF_grow f h
     simp at *
     omega
    ·cases h
theorem funcP_grow {e : Int} {f : Nat} {r : List Tok} {ns : List Nd} {x : Fc} {r1 : List Tok} {ns1 : List Nd} (h : mt_ e f r ns = .ok (x, r1, ns1)) : ns1.length + r1.length ≤ ns.length + r.length := by
 unfold mt_ at h
 split at h
 ·cases h
 rename_i h1
 split at h
 ·cases h
 rename_i h2
 split at h
 ·cases h
 rename_i h3
 split at h
 ·cases h
 rename_i h4
 split at h
 ·cases h
 rename_i h5
 cases h
 have := (ad_ h1).lt
 have := (b9_ h2).lt
 have := (ad_ h3).lt
 have := (gi_ h4).lt
 have := f4_ f h5
 omega
end
end Go.Proofs.YtglndfgmlminpaaGreatDoor
