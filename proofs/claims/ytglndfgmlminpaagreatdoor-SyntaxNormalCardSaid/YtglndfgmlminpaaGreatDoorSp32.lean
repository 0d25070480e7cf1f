/- Texts joined by pack.py: XSyXF -/
import Derived.Test.YtglndfgmlminpaaGreatDoorSp30
set_option maxHeartbeats 8000000
set_option maxRecDepth 100000
namespace Go.Proofs.YtglndfgmlminpaaGreatDoor
open Go.RowKit
section
variable {l : List Nd}
theorem x_bare_bin {i q1 q2 : Nat} {s : Bs} {v : Int} {ks : List Bs} {p1 p2 : Bs} (hi : l[i]? = some ⟨9, s, v, ks, [(q1 : Int), (q2 : Int)]⟩) (hs : s.length ≤ 1000) (h1 : ExprOk l q1 (if binL s = 4 then 5 else binL s) p1) (h2 : ExprOk l q2 (binL s + 1) p2) (hbl : -1000 ≤ binL s ∧ binL s ≤ 1000) : BareOk l i (p1 ++ 32 :: (s ++ 32 :: p2)) := by
 intro bs hb
 have hg : (l.map ndD)[((i : Nat) : Int).toNat]? = some [.cv (.int .i64 9), .cv (.string (mk s)), .cv (.int .i64 v), .sl 1 (ks.map strD), .sl 1 (List.map intD [(q1 : Int), (q2 : Int)])] := by
  rw [Int.toNat_natCast, List.getElem?_map, hi]; rfl
 refine pcx Tryz.func161 (by kernel_rfl) (by kernel_rfl) ?_
 conv => whnf
 refine ⟨Int.natCast_nonneg i, _, hg, ?_⟩
 repeat ((conv => whnf); first | refine known true rfl ?_ | refine known false rfl ?_)
 refine mcall (T := TM prM) (φ := []) (gf := false) (x_oper (l := l) (k := 9) (v := v) (ks := ks) hs h1 h2 hbl bs hb) ?_
 conv => whnf
 exact ⟨rfl, rfl, rfl⟩
theorem x_bare_index {i q1 q2 : Nat} {s : Bs} {v : Int} {ks : List Bs} {p1 p2 : Bs} (hi : l[i]? = some ⟨10, s, v, ks, [(q1 : Int), (q2 : Int)]⟩) (h1 : ExprOk l q1 8 p1) (h2 : ExprOk l q2 1 p2) : BareOk l i (p1 ++ 91 :: (p2 ++ [93])) := by
 intro bs hb
 simp only [List.length_append, List.length_cons, List.length_nil] at hb
 have hg : (l.map ndD)[((i : Nat) : Int).toNat]? = some [.cv (.int .i64 10), .cv (.string (mk s)), .cv (.int .i64 v), .sl 1 (ks.map strD), .sl 1 (List.map intD [(q1 : Int), (q2 : Int)])] := by
  rw [Int.toNat_natCast, List.getElem?_map, hi]; rfl
 refine pcx Tryz.func161 (by kernel_rfl) (by kernel_rfl) ?_
 conv => whnf
 refine ⟨Int.natCast_nonneg i, _, hg, ?_⟩
 repeat ((conv => whnf); first | refine known true rfl ?_ | refine known false rfl ?_)
 refine ⟨none, by kernel_rfl, ?_⟩
 conv => whnf
 refine ⟨by decide, _, rfl, ?_⟩
 conv => whnf
 refine mcall (T := TM prM) (φ := []) (gf := false) (h1 bs (by omega)) ?_
 conv => whnf
 refine mcall (T := TM prM) (φ := []) (gf := false) (x_wbU (l := l) (bs := bs ++ p1) 91 (by (try simp only [List.length_append]); omega)) ?_
 conv => whnf
 refine ⟨none, by kernel_rfl, ?_⟩
 conv => whnf
 refine ⟨by decide, _, rfl, ?_⟩
 conv => whnf
 refine mcall (T := TM prM) (φ := []) (gf := false) (h2 (bs ++ p1 ++ [91]) (by (try simp only [List.length_append, List.length_cons, List.length_nil]); omega)) ?_
 conv => whnf
 refine mcall (T := TM prM) (φ := []) (gf := false) (x_wbU (l := l) (bs := bs ++ p1 ++ [91] ++ p2) 93 (by (try simp only [List.length_append, List.length_cons, List.length_nil]); omega)) ?_
 conv => whnf
 exact ⟨rfl, by rw [show bs ++ (p1 ++ 91 :: (p2 ++ [93])) = bs ++ p1 ++ [91] ++ p2 ++ [93] by simp]; rfl, rfl⟩
theorem x_bare_call {i : Nat} {s : Bs} {v : Int} {ks : List Bs} {js : List Int} {ps : List Bs} (hi : l[i]? = some ⟨11, s, v, ks, js⟩) (hl : js.length = ps.length) (hn : ps.length ≤ 1000000) (hP : ∀ (j : Nat) (h : j < ps.length), ∃ q : Nat, js[j]? = some (q : Int) ∧ ExprOk l q 1 ps[j]) : BareOk l i (s ++ 40 :: (comB ps ++ [41])) := by
 intro bs hb
 simp only [List.length_append, List.length_cons, List.length_nil] at hb
 have hg : (l.map ndD)[((i : Nat) : Int).toNat]? = some [.cv (.int .i64 11), .cv (.string (mk s)), .cv (.int .i64 v), .sl 1 (ks.map strD), .sl 1 (List.map intD js)] := by
  rw [Int.toNat_natCast, List.getElem?_map, hi]; rfl
 refine pcx Tryz.func161 (by kernel_rfl) (by kernel_rfl) ?_
 conv => whnf
 refine ⟨Int.natCast_nonneg i, _, hg, ?_⟩
 repeat ((conv => whnf); first | refine known true rfl ?_ | refine known false rfl ?_)
 refine ⟨none, by kernel_rfl, ?_⟩
 conv => whnf
 refine mcall (T := TM prM) (φ := []) (gf := false) (x_wsU (l := l) (bs := bs) s (by (try simp only [List.length_append, List.length_cons, List.length_nil]); omega)) ?_
 conv => whnf
 refine mcall (T := TM prM) (φ := []) (gf := false) (x_pcall (l := l) (n := ⟨11, s, v, ks, js⟩) hl hn hP (bs ++ s) (by (try simp only [List.length_append, List.length_cons, List.length_nil]); omega)) ?_
 conv => whnf
 exact ⟨rfl, by rw [show bs ++ (s ++ 40 :: (comB ps ++ [41])) = bs ++ s ++ 40 :: (comB ps ++ [41]) by simp]; rfl, rfl⟩
theorem x_bare_host {i : Nat} {s : Bs} {v : Int} {ks : List Bs} {js : List Int} {ps : List Bs} (hi : l[i]? = some ⟨12, s, v, ks, js⟩) (hs : s.length ≤ 1000) (hl : js.length = ps.length) (hn : ps.length ≤ 1000000) (hP : ∀ (j : Nat) (h : j < ps.length), ∃ q : Nat, js[j]? = some (q : Int) ∧ ExprOk l q 1 ps[j]) : BareOk l i (64 :: (s ++ 40 :: (comB ps ++ [41]))) := by
 intro bs hb
 simp only [List.length_append, List.length_cons, List.length_nil] at hb
 have hg : (l.map ndD)[((i : Nat) : Int).toNat]? = some [.cv (.int .i64 12), .cv (.string (mk s)), .cv (.int .i64 v), .sl 1 (ks.map strD), .sl 1 (List.map intD js)] := by
  rw [Int.toNat_natCast, List.getElem?_map, hi]; rfl
 refine pcx Tryz.func161 (by kernel_rfl) (by kernel_rfl) ?_
 conv => whnf
 refine ⟨Int.natCast_nonneg i, _, hg, ?_⟩
 repeat ((conv => whnf); first | refine known true rfl ?_ | refine known false rfl ?_)
 refine ⟨none, by kernel_rfl, ?_⟩
 conv => whnf
 refine ⟨by rw [mk_size, size_d]; show 1 + _ ≤ _; omega, ?_⟩
 conv => whnf
 rw [catL]
 refine mcall (T := TM prM) (φ := []) (gf := false) (x_wsU (l := l) (bs := bs) ([64] ++ s) (by (try simp only [List.length_append, List.length_cons, List.length_nil]); omega)) ?_
 conv => whnf
 refine mcall (T := TM prM) (φ := []) (gf := false) (x_pcall (l := l) (n := ⟨12, s, v, ks, js⟩) hl hn hP (bs ++ ([64] ++ s)) (by (try simp only [List.length_append, List.length_cons, List.length_nil]); omega)) ?_
 conv => whnf
 exact ⟨rfl, by rw [show bs ++ 64 :: (s ++ 40 :: (comB ps ++ [41])) = bs ++ ([64] ++ s) ++ 40 :: (comB ps ++ [41]) by simp]; rfl, rfl⟩
end
end Go.Proofs.YtglndfgmlminpaaGreatDoor
