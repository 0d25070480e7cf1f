/- Texts joined by pack.py: XSyXE -/
import Derived.Test.YtglndfgmlminpaaGreatDoorSq27
set_option maxHeartbeats 8000000
set_option maxRecDepth 100000
namespace Go.Proofs.YtglndfgmlminpaaGreatDoor
open Go.RowKit
section
variable {l : List Nd}
theorem x_bare_list {i : Nat} {s : Bs} {v : Int} {ks : List Bs} {js : List Int} {ps : List Bs} (hi : l[i]? = some ⟨6, s, v, ks, js⟩) (hl : js.length = ps.length) (hn : ps.length ≤ 1000000) (hP : ∀ (j : Nat) (h : j < ps.length), ∃ q : Nat, js[j]? = some (q : Int) ∧ bz_ l q 1 ps[j]) : d2_ l i (91 :: (bf_ ps ++ [93])) := by
 intro bs hb
 simp only [a_, b_, c_] at hb
 have hll : (js.map ae_).length = ps.length := by rw [d_]; exact hl
 have hg : (l.map ndD)[((i : Nat) : Int).toNat]? = some [.cv (.int .i64 6), .cv (.string (mk s)), .cv (.int .i64 v), .sl 1 (ks.map bl_), .sl 1 (List.map ae_ js)] := by
  rw [i_, e_, hi]; rfl
 refine pcx Tryz.func161 kR kR ?_
 conv => whnf
 refine ⟨g_ i, _, hg, ?_⟩
 repeat ((conv => whnf); first | refine kT ?_ | refine kF ?_)
 refine T_ (T := TM prM) (φ := []) (gf := false) (e4_ (l := l) (bs := bs) 91 oL) ?_
 conv => whnf
 rw [hll]
 refine T_ (T := TM prM) (φ := []) (gf := false) (x_all (l := l) (.inr (.inl rfl)) ⟨6, s, v, ks, js⟩ ps hn (fun j h => by obtain ⟨q, h1, h2⟩ := hP j h; exact x_bare1 h1 h2) (bs ++ [91]) oL) ?_
 conv => whnf
 refine T_ (T := TM prM) (φ := []) (gf := false) (e4_ (l := l) (bs := bs ++ [91] ++ bf_ ps) 93 oL) ?_
 conv => whnf
 exact ⟨rfl, by rw [show bs ++ 91 :: (bf_ ps ++ [93]) = bs ++ [91] ++ bf_ ps ++ [93] by simp]; rfl, rfl⟩
theorem x_bare_map {i : Nat} {s : Bs} {v : Int} {ks : List Bs} {js : List Int} {ps : List Bs} (hi : l[i]? = some ⟨7, s, v, ks, js⟩) (hl : js.length = ps.length) (hn : ps.length ≤ 1000000) (hP : ∀ (j : Nat) (h : j < ps.length), ∃ (q : Nat) (s p : Bs), js[j]? = some (q : Int) ∧ ks[j]? = some s ∧ s.length ≤ 1000000 ∧ bz_ l q 1 p ∧ ps[j] = (aa_ (tk 4 s)).1 ++ 58 :: 32 :: p) : d2_ l i (123 :: (bf_ ps ++ [125])) := by
 intro bs hb
 simp only [a_, b_, c_] at hb
 have hll : (js.map ae_).length = ps.length := by rw [d_]; exact hl
 have hg : (l.map ndD)[((i : Nat) : Int).toNat]? = some [.cv (.int .i64 7), .cv (.string (mk s)), .cv (.int .i64 v), .sl 1 (ks.map bl_), .sl 1 (List.map ae_ js)] := by
  rw [i_, e_, hi]; rfl
 refine pcx Tryz.func161 kR kR ?_
 conv => whnf
 refine ⟨g_ i, _, hg, ?_⟩
 repeat ((conv => whnf); first | refine kT ?_ | refine kF ?_)
 refine T_ (T := TM prM) (φ := []) (gf := false) (e4_ (l := l) (bs := bs) 123 oL) ?_
 conv => whnf
 rw [hll]
 refine T_ (T := TM prM) (φ := []) (gf := false) (x_all (l := l) (.inr (.inr rfl)) ⟨7, s, v, ks, js⟩ ps hn (fun j h => by obtain ⟨q, s', p, h1, h2, h3, h4, h5⟩ := hP j h; rw [h5]; exact x_bare2 h2 h3 h1 h4) (bs ++ [123]) oL) ?_
 conv => whnf
 refine T_ (T := TM prM) (φ := []) (gf := false) (e4_ (l := l) (bs := bs ++ [123] ++ bf_ ps) 125 oL) ?_
 conv => whnf
 exact ⟨rfl, by rw [show bs ++ 123 :: (bf_ ps ++ [125]) = bs ++ [123] ++ bf_ ps ++ [125] by simp]; rfl, rfl⟩
theorem x_bare_not {i q : Nat} {v : Int} {ks : List Bs} {p : Bs} (hi : l[i]? = some ⟨8, e9_, v, ks, [(q : Int)]⟩) (hE : bz_ l q 3 p) : d2_ l i (110 :: 111 :: 116 :: 32 :: p) := by
 intro bs hb
 simp only [b_] at hb
 have hg : (l.map ndD)[((i : Nat) : Int).toNat]? = some [.cv (.int .i64 8), .cv (.string (mk e9_)), .cv (.int .i64 v), .sl 1 (ks.map bl_), .sl 1 (List.map ae_ [(q : Int)])] := by
  rw [i_, e_, hi]; rfl
 refine pcx Tryz.func161 kR kR ?_
 conv => whnf
 refine ⟨g_ i, _, hg, ?_⟩
 repeat ((conv => whnf); first | refine kT ?_ | refine kF ?_)
 refine Q_ true (plit rfl) ?_
 conv => whnf
 refine T_ (T := TM prM) (φ := []) (gf := false) (el_ (l := l) (bs := bs) [110, 111, 116, 32] (by (try simp only [b_, c_]); omega)) ?_
 conv => whnf
 refine ⟨none, kR, ?_⟩
 conv => whnf
 refine ⟨dC, _, rfl, ?_⟩
 conv => whnf
 refine T_ (T := TM prM) (φ := []) (gf := false) (hE (bs ++ [110, 111, 116, 32]) oL) ?_
 conv => whnf
 exact ⟨rfl, by rw [show bs ++ 110 :: 111 :: 116 :: 32 :: p = bs ++ [110, 111, 116, 32] ++ p by simp]; rfl, rfl⟩
theorem x_bare_neg {i q : Nat} {v : Int} {ks : List Bs} {p : Bs} (hi : l[i]? = some ⟨8, sMi, v, ks, [(q : Int)]⟩) (hE : bz_ l q 7 p) : d2_ l i (45 :: p) := by
 intro bs hb
 simp only [b_] at hb
 have hg : (l.map ndD)[((i : Nat) : Int).toNat]? = some [.cv (.int .i64 8), .cv (.string (mk sMi)), .cv (.int .i64 v), .sl 1 (ks.map bl_), .sl 1 (List.map ae_ [(q : Int)])] := by
  rw [i_, e_, hi]; rfl
 refine pcx Tryz.func161 kR kR ?_
 conv => whnf
 refine ⟨g_ i, _, hg, ?_⟩
 repeat ((conv => whnf); first | refine kT ?_ | refine kF ?_)
 refine Q_ false (plit rfl) ?_
 conv => whnf
 refine T_ (T := TM prM) (φ := []) (gf := false) (e4_ (l := l) (bs := bs) 45 oL) ?_
 conv => whnf
 refine ⟨none, kR, ?_⟩
 conv => whnf
 refine ⟨dC, _, rfl, ?_⟩
 conv => whnf
 refine T_ (T := TM prM) (φ := []) (gf := false) (hE (bs ++ [45]) oL) ?_
 conv => whnf
 exact ⟨rfl, by rw [show bs ++ 45 :: p = bs ++ [45] ++ p by simp]; rfl, rfl⟩
end
end Go.Proofs.YtglndfgmlminpaaGreatDoor
