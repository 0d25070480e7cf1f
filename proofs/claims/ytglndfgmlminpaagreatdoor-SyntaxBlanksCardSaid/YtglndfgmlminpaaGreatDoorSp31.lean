/- Texts joined by pack.py: XSyXE -/
import Derived.Test.YtglndfgmlminpaaGreatDoorSp30
set_option maxHeartbeats 8000000
set_option maxRecDepth 100000
namespace Go.Proofs.YtglndfgmlminpaaGreatDoor
open Go.RowKit
section
variable {l : List Nd}
theorem x_bare_list {i : Nat} {s : Bs} {v : Int} {ks : List Bs} {js : List Int} {ps : List Bs} (hi : l[i]? = some ⟨6, s, v, ks, js⟩) (hl : js.length = ps.length) (hn : ps.length ≤ 1000000) (hP : ∀ (j : Nat) (h : j < ps.length), ∃ q : Nat, js[j]? = some (q : Int) ∧ ExprOk l q 1 ps[j]) : BareOk l i (91 :: (comB ps ++ [93])) := by
 intro bs hb
 simp only [List.length_append, List.length_cons, List.length_nil] at hb
 have hll : (js.map intD).length = ps.length := by rw [List.length_map]; exact hl
 have hg : (l.map ndD)[((i : Nat) : Int).toNat]? = some [.cv (.int .i64 6), .cv (.string (mk s)), .cv (.int .i64 v), .sl 1 (ks.map strD), .sl 1 (List.map intD js)] := by
  rw [Int.toNat_natCast, List.getElem?_map, hi]; rfl
 refine pcx Tryz.func161 (by kernel_rfl) (by kernel_rfl) ?_
 conv => whnf
 refine ⟨Int.natCast_nonneg i, _, hg, ?_⟩
 repeat ((conv => whnf); first | refine known true rfl ?_ | refine known false rfl ?_)
 refine mcall (T := TM prM) (φ := []) (gf := false) (x_wbU (l := l) (bs := bs) 91 (by (try simp only [List.length_append, List.length_cons, List.length_nil]); omega)) ?_
 conv => whnf
 rw [hll]
 refine mcall (T := TM prM) (φ := []) (gf := false) (x_all (l := l) (.inr (.inl rfl)) ⟨6, s, v, ks, js⟩ ps hn (fun j h => by obtain ⟨q, h1, h2⟩ := hP j h; exact x_bare1 h1 h2) (bs ++ [91]) (by (try simp only [List.length_append, List.length_cons, List.length_nil]); omega)) ?_
 conv => whnf
 refine mcall (T := TM prM) (φ := []) (gf := false) (x_wbU (l := l) (bs := bs ++ [91] ++ comB ps) 93 (by (try simp only [List.length_append, List.length_cons, List.length_nil]); omega)) ?_
 conv => whnf
 exact ⟨rfl, by rw [show bs ++ 91 :: (comB ps ++ [93]) = bs ++ [91] ++ comB ps ++ [93] by simp]; rfl, rfl⟩
theorem x_bare_map {i : Nat} {s : Bs} {v : Int} {ks : List Bs} {js : List Int} {ps : List Bs} (hi : l[i]? = some ⟨7, s, v, ks, js⟩) (hl : js.length = ps.length) (hn : ps.length ≤ 1000000) (hP : ∀ (j : Nat) (h : j < ps.length), ∃ (q : Nat) (s p : Bs), js[j]? = some (q : Int) ∧ ks[j]? = some s ∧ s.length ≤ 1000000 ∧ ExprOk l q 1 p ∧ ps[j] = (textT (tk 4 s)).1 ++ 58 :: 32 :: p) : BareOk l i (123 :: (comB ps ++ [125])) := by
 intro bs hb
 simp only [List.length_append, List.length_cons, List.length_nil] at hb
 have hll : (js.map intD).length = ps.length := by rw [List.length_map]; exact hl
 have hg : (l.map ndD)[((i : Nat) : Int).toNat]? = some [.cv (.int .i64 7), .cv (.string (mk s)), .cv (.int .i64 v), .sl 1 (ks.map strD), .sl 1 (List.map intD js)] := by
  rw [Int.toNat_natCast, List.getElem?_map, hi]; rfl
 refine pcx Tryz.func161 (by kernel_rfl) (by kernel_rfl) ?_
 conv => whnf
 refine ⟨Int.natCast_nonneg i, _, hg, ?_⟩
 repeat ((conv => whnf); first | refine known true rfl ?_ | refine known false rfl ?_)
 refine mcall (T := TM prM) (φ := []) (gf := false) (x_wbU (l := l) (bs := bs) 123 (by (try simp only [List.length_append, List.length_cons, List.length_nil]); omega)) ?_
 conv => whnf
 rw [hll]
 refine mcall (T := TM prM) (φ := []) (gf := false) (x_all (l := l) (.inr (.inr rfl)) ⟨7, s, v, ks, js⟩ ps hn (fun j h => by obtain ⟨q, s', p, h1, h2, h3, h4, h5⟩ := hP j h; rw [h5]; exact x_bare2 h2 h3 h1 h4) (bs ++ [123]) (by (try simp only [List.length_append, List.length_cons, List.length_nil]); omega)) ?_
 conv => whnf
 refine mcall (T := TM prM) (φ := []) (gf := false) (x_wbU (l := l) (bs := bs ++ [123] ++ comB ps) 125 (by (try simp only [List.length_append, List.length_cons, List.length_nil]); omega)) ?_
 conv => whnf
 exact ⟨rfl, by rw [show bs ++ 123 :: (comB ps ++ [125]) = bs ++ [123] ++ comB ps ++ [125] by simp]; rfl, rfl⟩
theorem x_bare_not {i q : Nat} {v : Int} {ks : List Bs} {p : Bs} (hi : l[i]? = some ⟨8, wNot, v, ks, [(q : Int)]⟩) (hE : ExprOk l q 3 p) : BareOk l i (110 :: 111 :: 116 :: 32 :: p) := by
 intro bs hb
 simp only [List.length_cons] at hb
 have hg : (l.map ndD)[((i : Nat) : Int).toNat]? = some [.cv (.int .i64 8), .cv (.string (mk wNot)), .cv (.int .i64 v), .sl 1 (ks.map strD), .sl 1 (List.map intD [(q : Int)])] := by
  rw [Int.toNat_natCast, List.getElem?_map, hi]; rfl
 refine pcx Tryz.func161 (by kernel_rfl) (by kernel_rfl) ?_
 conv => whnf
 refine ⟨Int.natCast_nonneg i, _, hg, ?_⟩
 repeat ((conv => whnf); first | refine known true rfl ?_ | refine known false rfl ?_)
 refine known true (plit rfl) ?_
 conv => whnf
 refine mcall (T := TM prM) (φ := []) (gf := false) (x_wsU (l := l) (bs := bs) [110, 111, 116, 32] (by (try simp only [List.length_cons, List.length_nil]); omega)) ?_
 conv => whnf
 refine ⟨none, by kernel_rfl, ?_⟩
 conv => whnf
 refine ⟨by decide, _, rfl, ?_⟩
 conv => whnf
 refine mcall (T := TM prM) (φ := []) (gf := false) (hE (bs ++ [110, 111, 116, 32]) (by (try simp only [List.length_append, List.length_cons, List.length_nil]); omega)) ?_
 conv => whnf
 exact ⟨rfl, by rw [show bs ++ 110 :: 111 :: 116 :: 32 :: p = bs ++ [110, 111, 116, 32] ++ p by simp]; rfl, rfl⟩
theorem x_bare_neg {i q : Nat} {v : Int} {ks : List Bs} {p : Bs} (hi : l[i]? = some ⟨8, sMi, v, ks, [(q : Int)]⟩) (hE : ExprOk l q 7 p) : BareOk l i (45 :: p) := by
 intro bs hb
 simp only [List.length_cons] at hb
 have hg : (l.map ndD)[((i : Nat) : Int).toNat]? = some [.cv (.int .i64 8), .cv (.string (mk sMi)), .cv (.int .i64 v), .sl 1 (ks.map strD), .sl 1 (List.map intD [(q : Int)])] := by
  rw [Int.toNat_natCast, List.getElem?_map, hi]; rfl
 refine pcx Tryz.func161 (by kernel_rfl) (by kernel_rfl) ?_
 conv => whnf
 refine ⟨Int.natCast_nonneg i, _, hg, ?_⟩
 repeat ((conv => whnf); first | refine known true rfl ?_ | refine known false rfl ?_)
 refine known false (plit rfl) ?_
 conv => whnf
 refine mcall (T := TM prM) (φ := []) (gf := false) (x_wbU (l := l) (bs := bs) 45 (by (try simp only [List.length_append, List.length_cons, List.length_nil]); omega)) ?_
 conv => whnf
 refine ⟨none, by kernel_rfl, ?_⟩
 conv => whnf
 refine ⟨by decide, _, rfl, ?_⟩
 conv => whnf
 refine mcall (T := TM prM) (φ := []) (gf := false) (hE (bs ++ [45]) (by (try simp only [List.length_append, List.length_cons, List.length_nil]); omega)) ?_
 conv => whnf
 exact ⟨rfl, by rw [show bs ++ 45 :: p = bs ++ [45] ++ p by simp]; rfl, rfl⟩
end
end Go.Proofs.YtglndfgmlminpaaGreatDoor
